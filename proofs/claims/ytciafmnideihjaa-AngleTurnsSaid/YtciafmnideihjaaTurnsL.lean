/- filigreelaw21.AngleTurns: the walk. -/
import Derived.Test.YtciafmnideihjaaBack
import Derived.Test.YtciafmnideihjaaMakes
namespace Go.Proofs.Ytciafmnideihjaa
open Go.RowKit Go.Sort

theorem own_kind {w : World} {B : Nat} {T : TypeId} {size : Nat} {v : Value} {n : Nat} {xs : List Value} (h : w.ownsRow B T size v n xs) {g : Nat} (hg : v.ownBlock = some g) : ∃ cur, w.heap[g]? = some (.cells cur T (0, 0)) ∧ B ≤ g := by
  rcases h.2 with ⟨rfl, -⟩ | ⟨g', cap, cur, rfl, hb, hh, -⟩
  · cases hg
  · injection hg with hg
    subst hg
    exact ⟨cur, hh, hb⟩
theorem own_apart {w : World} {B B' : Nat} {T T' : TypeId} {size size' : Nat} {v v' : Value} {n n' : Nat} {xs xs' : List Value} (h : w.ownsRow B T size v n xs) (h' : w.ownsRow B' T' size' v' n' xs') (hT : T ≠ T') : ∀ g, v.ownBlock = some g → v'.ownBlock ≠ some g := by
  intro g hg hg'
  obtain ⟨c, e, -⟩ := own_kind h hg
  obtain ⟨c', e', -⟩ := own_kind h' hg'
  rw [e] at e'
  injection e' with e'
  injection e' with _ e'
  exact hT e'

theorem keep_other {a b : Option Nat} (h : a ≠ none → b ≠ a) : b = none ∨ b ≠ a := by
  cases a with
  | none => cases b <;> simp
  | some g => exact .inr (h (by simp))

theorem turnsV_yes {neg : Bool} {num den : ByteArray} {d n : Int} (ha : okA neg num den = true) (hr : roundB d = true) (hn : 0 ≤ n) :
    turnsV neg num den d n = .tuple #[.agg #[.bool false, .string (natS (turnX (be (sl num)) (be (sl den)) d.toNat n.toNat / Nat.gcd (turnX (be (sl num)) (be (sl den)) d.toNat n.toNat) (be (sl den)))), .string (natS (be (sl den) / Nat.gcd (turnX (be (sl num)) (be (sl den)) d.toNat n.toNat) (be (sl den))))], .int .i64 0] := by
  unfold turnsV
  rw [if_pos ha, hr]
  simp [hn, ratV]
theorem turnsV_neg {neg : Bool} {num den : ByteArray} {d n : Int} (ha : okA neg num den = true) (hn : n < 0) :
    turnsV neg num den d n = .tuple #[.agg #[.bool false, .string ⟨#[]⟩, .string ⟨#[]⟩], .int .i64 2] := by
  unfold turnsV
  have : ¬ 0 ≤ n := by omega
  rw [if_pos ha]
  simp [this, rat0]
theorem turnsV_round {neg : Bool} {num den : ByteArray} {d n : Int} (ha : okA neg num den = true) (hr : roundB d = false) :
    turnsV neg num den d n = .tuple #[.agg #[.bool false, .string ⟨#[]⟩, .string ⟨#[]⟩], .int .i64 2] := by
  unfold turnsV
  rw [if_pos ha, hr]
  simp [rat0]
theorem turnsV_none {neg : Bool} {num den : ByteArray} {d n : Int} (ha : okA neg num den = false) :
    turnsV neg num den d n = .tuple #[.agg #[.bool false, .string ⟨#[]⟩, .string ⟨#[]⟩], .int .i64 210] := by
  unfold turnsV
  rw [ha]
  simp [rat0]

theorem backR_small {x y d : Nat} (hx : x < y) (hy : y ≤ 2147483647) (hd : d ≤ 64) : (∀ p, p ∈ backR x y d → p.1 < 18446744073709551616 ∧ p.2 < 18446744073709551616) ∧ (backR x y d).length ≤ 1000 := by
  unfold backR
  split
  · rename_i hok
    constructor
    · intro p hp
      obtain ⟨k, hk, rfl⟩ := List.mem_map.1 hp
      have hk := List.mem_range.1 hk
      have h1 : (bkN x y d k).1 ≤ x + k * y := Nat.div_le_self _ _
      have h2 : (bkN x y d k).2 ≤ y * d := Nat.div_le_self _ _
      have h3 : k * y ≤ 64 * 2147483647 := Nat.mul_le_mul (by omega) hy
      have h4 : y * d ≤ 2147483647 * 64 := Nat.mul_le_mul hy hd
      omega
    · rw [backL_len]; omega
  · simp

set_option maxRecDepth 100000 in
set_option maxHeartbeats 4000000 in
theorem angleTurns_any (ng : Bool) (nu de : ByteArray) (d n : Int) (w : World) (z1 : nu.size ≤ 9223372036854775807) (z2 : de.size ≤ 9223372036854775807) (hn : n < 9223372036854775808) :
    Calls Try.prog 6 #[.agg #[.bool ng, .string nu, .string de], .int .i64 d, .int .i64 n] w (RetVal (.bool true) w) := by
  obtain ⟨p1, q1, hs1, hq1⟩ := smallV_form ng nu de
  have ka := Blk.new w 24 #[.bool ng, .string nu, .string de]
  have hBW : Below w.heap.size w (w.alloc (.cells #[.bool ng, .string nu, .string de] 24)) := (Below.refl _ w).alloc (Nat.le_refl _) _
  replace ka := Lib.hid ka
  replace hBW := Lib.hid hBW
  replace hs1 := Lib.hid hs1
  replace hq1 := Lib.hid hq1
  replace hn := Lib.hid hn
  have hcase : (∃ c : Int, c ≠ 0 ∧ ((okA ng nu de = false ∧ c = 210) ∨ (okA ng nu de = true ∧ roundB d = false ∧ c = 2))) ∨ (okA ng nu de = true ∧ roundB d = true) := by
    cases h1 : okA ng nu de
    · exact Or.inl ⟨210, by decide, Or.inl ⟨rfl, rfl⟩⟩
    · cases h2 : roundB d
      · exact Or.inl ⟨2, by decide, Or.inr ⟨rfl, rfl, rfl⟩⟩
      · exact Or.inr ⟨rfl, rfl⟩
  rcases hcase with ⟨c, hc0, hcc⟩ | ⟨ok, hr⟩
  · obtain ⟨t1, t2, ht⟩ : ∃ t1 t2 : ByteArray, t1 = ⟨#[]⟩ ∧ t2 = ⟨#[]⟩ := ⟨_, _, rfl, rfl⟩
    obtain ⟨et1, et2⟩ := ht
    have ht : turnsV ng nu de d 1 = .tuple #[.agg #[.bool false, .string t1, .string t2], .int .i64 c] := by
      rw [et1, et2]
      rcases hcc with ⟨h1, h2⟩ | ⟨h1, h2, h3⟩
      · rw [h2]; exact turnsV_none h1
      · rw [h3]; exact turnsV_round h1 h2
    obtain ⟨u1, u2, hu⟩ : ∃ u1 u2 : ByteArray, u1 = ⟨#[]⟩ ∧ u2 = ⟨#[]⟩ := ⟨_, _, rfl, rfl⟩
    obtain ⟨eu1, eu2⟩ := hu
    have hu : turnsV ng nu de d n = .tuple #[.agg #[.bool false, .string u1, .string u2], .int .i64 c] := by
      rw [eu1, eu2]
      rcases hcc with ⟨h1, h2⟩ | ⟨h1, h2, h3⟩
      · rw [h2]; exact turnsV_none h1
      · rw [h3]; exact turnsV_round h1 h2
    have hsame1 : SameA t1 t2 c p1 q1 := Or.inr ⟨hc0, et1, et2⟩
    have hsame2 : SameA u1 u2 c p1 q1 := Or.inr ⟨hc0, eu1, eu2⟩
    have hback : ∀ W : World, Calls Try.prog 26 #[.agg #[.bool ng, .string nu, .string de], .int .i64 d] W (RetRow 24 3 c 0 [] W) := fun W => by
      have h := aback_any ng nu de d W z1 z2
      have e1 : abackE ng nu de d = c := by
        rcases hcc with ⟨h1, h2⟩ | ⟨h1, h2, h3⟩
        · rw [h2]; simp [abackE, h1]
        · rw [h3]; simp [abackE, h1, h2]
      have e2 : abackR ng nu de d = [] := by
        rcases hcc with ⟨h1, h2⟩ | ⟨h1, h2, h3⟩
        · simp [abackR, h1]
        · simp [abackR, h1, h2]
      rw [e1, e2] at h
      exact h
    replace hback := Lib.hid hback
    replace ht := Lib.hid ht
    replace hu := Lib.hid hu
    replace hsame1 := Lib.hid hsame1
    replace hsame2 := Lib.hid hsame2
    replace hcc := Lib.hid hcc
    have hcb : (c != 0) = true := by simpa using hc0
    have hcI : ¬ c = 0 := hc0
    clear et1 et2 eu1 eu2 hc0
    go_enter Try.func6, Try.ntmps6
    go_wp2_with fail
    refine (turn1_any ng nu de d _ z1 z2).mono ?_
    rintro en v1 ⟨rfl, hb⟩
    rw [ht.out]
    replace ka := (Blk.below ka.out hb).alloc (.cells #[.bool false, .string t1, .string t2] 24)
    have kt := Blk.new v1 24 #[.bool false, .string t1, .string t2]
    replace hBW := hBW.out.trans (hb.mono hBW.out.size)
    replace hBW := hBW.alloc hBW.size (.cells #[.bool false, .string t1, .string t2] 24)
    clear hb 
    go_upto_region 2 with fail
    generalize hxx : v1.alloc (.cells #[.bool false, .string t1, .string t2] 24) = v2 at ka kt hBW ⊢
    generalize hgg : v1.heap.size = g1 at *
    clear hxx hgg
    replace ka := Lib.hid ka
    replace kt := Lib.hid kt
    replace hBW := Lib.hid hBW
    have c0 : v2.cell? ⟨w.heap.size, 0, none⟩ = some (.bool ng) := ka.out.cell 0
    have c1 : v2.cell? ⟨w.heap.size, 1, none⟩ = some (.string nu) := ka.out.cell 1
    have c2 : v2.cell? ⟨w.heap.size, 2, none⟩ = some (.string de) := ka.out.cell 2
    go_wp2_with fail
    refine (turns_any ng nu de d n _ z1 z2 hn.out).mono ?_
    rintro en v3 ⟨rfl, hb⟩
    rw [hu.out]
    replace ka := (Blk.below ka.out hb).alloc (.cells #[.bool false, .string u1, .string u2] 24)
    replace kt := (Blk.below kt.out hb).alloc (.cells #[.bool false, .string u1, .string u2] 24)
    have ku := Blk.new v3 24 #[.bool false, .string u1, .string u2]
    replace hBW := hBW.out.trans (hb.mono hBW.out.size)
    replace hBW := hBW.alloc hBW.size (.cells #[.bool false, .string u1, .string u2] 24)
    clear hb c0 c1 c2
    go_upto_region 3 with fail
    generalize hxx : v3.alloc (.cells #[.bool false, .string u1, .string u2] 24) = v4 at ka kt ku hBW ⊢
    generalize hgg : v3.heap.size = g2 at *
    clear hxx hgg
    replace ka := Lib.hid ka
    replace kt := Lib.hid kt
    replace ku := Lib.hid ku
    replace hBW := Lib.hid hBW
    have c0 : v4.cell? ⟨w.heap.size, 0, none⟩ = some (.bool ng) := ka.out.cell 0
    have c1 : v4.cell? ⟨w.heap.size, 1, none⟩ = some (.string nu) := ka.out.cell 1
    have c2 : v4.cell? ⟨w.heap.size, 2, none⟩ = some (.string de) := ka.out.cell 2
    go_wp2_with fail
    refine (hback.out _).mono ?_
    rintro en v5 ⟨lv, rfl, hl, hb⟩
    have hszl := hBW.out.size
    replace hl := Lib.hid (own_le hl hszl)
    replace ka := Lib.hid (Blk.below ka.out hb)
    replace kt := Lib.hid (Blk.below kt.out hb)
    replace ku := Lib.hid (Blk.below ku.out hb)
    replace hBW := Lib.hid (hBW.out.trans (hb.mono hBW.out.size))
    clear hb hszl c0 c1 c2
    have c0 : v5.cell? ⟨w.heap.size, 0, none⟩ = some (.bool ng) := ka.out.cell 0
    have c1 : v5.cell? ⟨w.heap.size, 1, none⟩ = some (.string nu) := ka.out.cell 1
    have c2 : v5.cell? ⟨w.heap.size, 2, none⟩ = some (.string de) := ka.out.cell 2
    go_wp2_with fail
    refine (hback.out _).mono ?_
    rintro en v6 ⟨mv, rfl, hm, hb⟩
    have hlm : Hid (lv.ownBlock ≠ none → mv.ownBlock ≠ lv.ownBlock) := Lib.hid (fun h0 h => by
      cases hlb : lv.ownBlock with
      | none => exact h0 hlb
      | some g =>
        have h1 := (hl.out.lt g hlb).2
        obtain ⟨-, -, h2⟩ := own_kind hm (h.trans hlb)
        omega)
    have hszl := hBW.out.size
    replace hm := Lib.hid (own_le hm hszl)
    replace ka := Lib.hid (Blk.below ka.out hb)
    replace kt := Lib.hid (Blk.below kt.out hb)
    replace ku := Lib.hid (Blk.below ku.out hb)
    replace hl := Lib.hid (own_below hl.out hb)
    replace hBW := Lib.hid (hBW.out.trans (hb.mono hBW.out.size))
    clear hb hszl c0 c1 c2
    have c0 : v6.cell? ⟨w.heap.size, 0, none⟩ = some (.bool ng) := ka.out.cell 0
    have c1 : v6.cell? ⟨w.heap.size, 1, none⟩ = some (.string nu) := ka.out.cell 1
    have c2 : v6.cell? ⟨w.heap.size, 2, none⟩ = some (.string de) := ka.out.cell 2
    go_wp2_with fail
    refine (rof_any ng nu de _ z1 z2).mono ?_
    rintro en v7 ⟨rfl, hb⟩
    rw [hs1.out]
    replace kt := (Blk.below kt.out hb).alloc (.cells #[.int .u64 (p1 : Int), .int .u64 (q1 : Int)] 34)
    replace ku := (Blk.below ku.out hb).alloc (.cells #[.int .u64 (p1 : Int), .int .u64 (q1 : Int)] 34)
    replace hl := (own_below hl.out hb).alloc (.cells #[.int .u64 (p1 : Int), .int .u64 (q1 : Int)] 34)
    replace hm := (own_below hm.out hb).alloc (.cells #[.int .u64 (p1 : Int), .int .u64 (q1 : Int)] 34)
    have kx := Blk.new v7 34 #[.int .u64 (p1 : Int), .int .u64 (q1 : Int)]
    replace hBW := hBW.out.trans (hb.mono hBW.out.size)
    replace hBW := hBW.alloc hBW.size (.cells #[.int .u64 (p1 : Int), .int .u64 (q1 : Int)] 34)
    clear hb c0 c1 c2 ka
    go_upto_region 6 with fail
    generalize hxx : v7.alloc (.cells #[.int .u64 (p1 : Int), .int .u64 (q1 : Int)] 34) = v8 at kt ku hl hm kx hBW ⊢
    generalize hgg : v7.heap.size = g3 at *
    clear hxx hgg
    replace kt := Lib.hid kt
    replace ku := Lib.hid ku
    replace hl := Lib.hid hl
    replace hm := Lib.hid hm
    replace kx := Lib.hid kx
    replace hBW := Lib.hid hBW
    clear hback hm hlm
    replace hcc := hcc.out
    replace hl := hl.out
    rcases hcc with ⟨h1, rfl⟩ | ⟨h1, h2, rfl⟩ <;> rcases own_forms hl with ⟨rfl, -⟩ | ⟨gl, capl, rfl⟩
    · clear hl
      have a0 : v8.cell? ⟨g1, 0, none⟩ = some (.bool false) := kt.out.cell 0
      have a1 : v8.cell? ⟨g1, 1, none⟩ = some (.string t1) := kt.out.cell 1
      have a2 : v8.cell? ⟨g1, 2, none⟩ = some (.string t2) := kt.out.cell 2
      have b0 : v8.cell? ⟨g3, 0, none⟩ = some (.int .u64 (p1 : Int)) := kx.out.cell 0
      have b1 : v8.cell? ⟨g3, 1, none⟩ = some (.int .u64 (q1 : Int)) := kx.out.cell 1
      go_wp2_with fail
      refine (is_same hsame1.out _).mono ?_
      rintro en x1 ⟨rfl, hb⟩
      replace ku := Lib.hid (Blk.below ku.out hb)
      replace kx := Lib.hid (Blk.below kx.out hb)
      replace hBW := Lib.hid (hBW.out.trans (hb.mono hBW.out.size))
      clear hb a0 a1 a2 b0 b1 kt
      have a0 : x1.cell? ⟨g2, 0, none⟩ = some (.bool false) := ku.out.cell 0
      have a1 : x1.cell? ⟨g2, 1, none⟩ = some (.string u1) := ku.out.cell 1
      have a2 : x1.cell? ⟨g2, 2, none⟩ = some (.string u2) := ku.out.cell 2
      have b0 : x1.cell? ⟨g3, 0, none⟩ = some (.int .u64 (p1 : Int)) := kx.out.cell 0
      have b1 : x1.cell? ⟨g3, 1, none⟩ = some (.int .u64 (q1 : Int)) := kx.out.cell 1
      go_wp2_with fail
      refine (is_same hsame2.out _).mono ?_
      rintro en x2 ⟨rfl, hb⟩
      replace hBW := Lib.hid (hBW.out.trans (hb.mono hBW.out.size))
      clear hb a0 a1 a2 b0 b1 ku kx
      go_wp2_with fail
      refine (awake_any _).mono ?_
      rintro en x3 ⟨rfl, hb⟩
      replace hBW := Lib.hid (hBW.out.trans (hb.mono hBW.out.size))
      clear hb
      go_wp2_with fail
      go_ret
      exact ⟨rfl, hBW.out⟩
    · clear hl
      have a0 : v8.cell? ⟨g1, 0, none⟩ = some (.bool false) := kt.out.cell 0
      have a1 : v8.cell? ⟨g1, 1, none⟩ = some (.string t1) := kt.out.cell 1
      have a2 : v8.cell? ⟨g1, 2, none⟩ = some (.string t2) := kt.out.cell 2
      have b0 : v8.cell? ⟨g3, 0, none⟩ = some (.int .u64 (p1 : Int)) := kx.out.cell 0
      have b1 : v8.cell? ⟨g3, 1, none⟩ = some (.int .u64 (q1 : Int)) := kx.out.cell 1
      go_wp2_with fail
      refine (is_same hsame1.out _).mono ?_
      rintro en x1 ⟨rfl, hb⟩
      replace ku := Lib.hid (Blk.below ku.out hb)
      replace kx := Lib.hid (Blk.below kx.out hb)
      replace hBW := Lib.hid (hBW.out.trans (hb.mono hBW.out.size))
      clear hb a0 a1 a2 b0 b1 kt
      have a0 : x1.cell? ⟨g2, 0, none⟩ = some (.bool false) := ku.out.cell 0
      have a1 : x1.cell? ⟨g2, 1, none⟩ = some (.string u1) := ku.out.cell 1
      have a2 : x1.cell? ⟨g2, 2, none⟩ = some (.string u2) := ku.out.cell 2
      have b0 : x1.cell? ⟨g3, 0, none⟩ = some (.int .u64 (p1 : Int)) := kx.out.cell 0
      have b1 : x1.cell? ⟨g3, 1, none⟩ = some (.int .u64 (q1 : Int)) := kx.out.cell 1
      go_wp2_with fail
      refine (is_same hsame2.out _).mono ?_
      rintro en x2 ⟨rfl, hb⟩
      replace hBW := Lib.hid (hBW.out.trans (hb.mono hBW.out.size))
      clear hb a0 a1 a2 b0 b1 ku kx
      go_wp2_with fail
      refine (awake_any _).mono ?_
      rintro en x3 ⟨rfl, hb⟩
      replace hBW := Lib.hid (hBW.out.trans (hb.mono hBW.out.size))
      clear hb
      go_wp2_with fail
      go_ret
      exact ⟨rfl, hBW.out⟩
    · clear hl
      replace h2 := Lib.hid h2
      go_wp2_with fail
      refine (rround_any d _).mono ?_
      rintro en v9 ⟨rfl, rfl⟩
      rw [h2.out]
      have a0 : v8.cell? ⟨g1, 0, none⟩ = some (.bool false) := kt.out.cell 0
      have a1 : v8.cell? ⟨g1, 1, none⟩ = some (.string t1) := kt.out.cell 1
      have a2 : v8.cell? ⟨g1, 2, none⟩ = some (.string t2) := kt.out.cell 2
      have b0 : v8.cell? ⟨g3, 0, none⟩ = some (.int .u64 (p1 : Int)) := kx.out.cell 0
      have b1 : v8.cell? ⟨g3, 1, none⟩ = some (.int .u64 (q1 : Int)) := kx.out.cell 1
      go_wp2_with fail
      refine (is_same hsame1.out _).mono ?_
      rintro en x1 ⟨rfl, hb⟩
      replace ku := Lib.hid (Blk.below ku.out hb)
      replace kx := Lib.hid (Blk.below kx.out hb)
      replace hBW := Lib.hid (hBW.out.trans (hb.mono hBW.out.size))
      clear hb a0 a1 a2 b0 b1 kt
      have a0 : x1.cell? ⟨g2, 0, none⟩ = some (.bool false) := ku.out.cell 0
      have a1 : x1.cell? ⟨g2, 1, none⟩ = some (.string u1) := ku.out.cell 1
      have a2 : x1.cell? ⟨g2, 2, none⟩ = some (.string u2) := ku.out.cell 2
      have b0 : x1.cell? ⟨g3, 0, none⟩ = some (.int .u64 (p1 : Int)) := kx.out.cell 0
      have b1 : x1.cell? ⟨g3, 1, none⟩ = some (.int .u64 (q1 : Int)) := kx.out.cell 1
      go_wp2_with fail
      refine (is_same hsame2.out _).mono ?_
      rintro en x2 ⟨rfl, hb⟩
      replace hBW := Lib.hid (hBW.out.trans (hb.mono hBW.out.size))
      clear hb a0 a1 a2 b0 b1 ku kx
      go_wp2_with fail
      refine (awake_any _).mono ?_
      rintro en x3 ⟨rfl, hb⟩
      replace hBW := Lib.hid (hBW.out.trans (hb.mono hBW.out.size))
      clear hb
      go_wp2_with fail
      go_ret
      exact ⟨rfl, hBW.out⟩
    · clear hl
      replace h2 := Lib.hid h2
      go_wp2_with fail
      refine (rround_any d _).mono ?_
      rintro en v9 ⟨rfl, rfl⟩
      rw [h2.out]
      have a0 : v8.cell? ⟨g1, 0, none⟩ = some (.bool false) := kt.out.cell 0
      have a1 : v8.cell? ⟨g1, 1, none⟩ = some (.string t1) := kt.out.cell 1
      have a2 : v8.cell? ⟨g1, 2, none⟩ = some (.string t2) := kt.out.cell 2
      have b0 : v8.cell? ⟨g3, 0, none⟩ = some (.int .u64 (p1 : Int)) := kx.out.cell 0
      have b1 : v8.cell? ⟨g3, 1, none⟩ = some (.int .u64 (q1 : Int)) := kx.out.cell 1
      go_wp2_with fail
      refine (is_same hsame1.out _).mono ?_
      rintro en x1 ⟨rfl, hb⟩
      replace ku := Lib.hid (Blk.below ku.out hb)
      replace kx := Lib.hid (Blk.below kx.out hb)
      replace hBW := Lib.hid (hBW.out.trans (hb.mono hBW.out.size))
      clear hb a0 a1 a2 b0 b1 kt
      have a0 : x1.cell? ⟨g2, 0, none⟩ = some (.bool false) := ku.out.cell 0
      have a1 : x1.cell? ⟨g2, 1, none⟩ = some (.string u1) := ku.out.cell 1
      have a2 : x1.cell? ⟨g2, 2, none⟩ = some (.string u2) := ku.out.cell 2
      have b0 : x1.cell? ⟨g3, 0, none⟩ = some (.int .u64 (p1 : Int)) := kx.out.cell 0
      have b1 : x1.cell? ⟨g3, 1, none⟩ = some (.int .u64 (q1 : Int)) := kx.out.cell 1
      go_wp2_with fail
      refine (is_same hsame2.out _).mono ?_
      rintro en x2 ⟨rfl, hb⟩
      replace hBW := Lib.hid (hBW.out.trans (hb.mono hBW.out.size))
      clear hb a0 a1 a2 b0 b1 ku kx
      go_wp2_with fail
      refine (awake_any _).mono ?_
      rintro en x3 ⟨rfl, hb⟩
      replace hBW := Lib.hid (hBW.out.trans (hb.mono hBW.out.size))
      clear hb
      go_wp2_with fail
      go_ret
      exact ⟨rfl, hBW.out⟩
  obtain ⟨ex, ey, k1, l1⟩ := hq1.out ok
  have hd := roundB_iff.1 hr
  obtain ⟨dn, rfl⟩ := Int.eq_ofNat_of_zero_le (show 0 ≤ d by omega)
  have hdn : dn ≤ 64 := by omega
  have l0 : 0 < q1 := by omega
  have b1 : p1 ≤ 2147483647 := by omega
  obtain ⟨X1, hX1⟩ : ∃ X, X = p1 * dn % q1 := ⟨_, rfl⟩
  obtain ⟨N1, hN1⟩ : ∃ N, N = X1 / Nat.gcd X1 q1 := ⟨_, rfl⟩
  obtain ⟨D1, hD1⟩ : ∃ D, D = q1 / Nat.gcd X1 q1 := ⟨_, rfl⟩
  obtain ⟨t1, et1⟩ : ∃ t, t = natS N1 := ⟨_, rfl⟩
  obtain ⟨t2, et2⟩ : ∃ t, t = natS D1 := ⟨_, rfl⟩
  have hX1s : X1 < q1 := by rw [hX1]; exact Nat.mod_lt _ l0
  have hN1s : N1 ≤ X1 := by rw [hN1]; exact Nat.div_le_self _ _
  have hD1s : D1 ≤ q1 := by rw [hD1]; exact Nat.div_le_self _ _
  have hsame1 : SameA t1 t2 0 N1 D1 := Or.inl ⟨rfl, et1, et2, by omega, by omega⟩
  have ht : turnsV ng nu de (dn : Int) 1 = .tuple #[.agg #[.bool false, .string t1, .string t2], .int .i64 0] := by
    have e : turnX p1 q1 dn 1 = X1 := by
      unfold turnX
      rw [hX1, Nat.pow_one, Nat.mul_mod, Nat.mod_mod, ← Nat.mul_mod]
    rw [turnsV_yes ok hr (by decide), et1, et2, hN1, hD1, ← ex, ← ey]
    simp only [Int.toNat_natCast, show (1 : Int).toNat = 1 from rfl, e]
  obtain ⟨E, hE⟩ : ∃ E, E = backE p1 q1 dn := ⟨_, rfl⟩
  obtain ⟨RR, hRR⟩ : ∃ E, E = backR p1 q1 dn := ⟨_, rfl⟩
  obtain ⟨hsm, hln⟩ := backR_small (d := dn) k1 l1 hdn
  rw [← hRR] at hsm hln
  have hback : ∀ W : World, Calls Try.prog 26 #[.agg #[.bool ng, .string nu, .string de], .int .i64 (dn : Int)] W (RetRow 24 3 E RR.length (ratC RR) W) := fun W => by
    have h := aback_any ng nu de (dn : Int) W z1 z2
    have e1 : abackE ng nu de (dn : Int) = E := by rw [hE, ex, ey]; simp [abackE, ok, hr]
    have e2 : abackR ng nu de (dn : Int) = RR := by rw [hRR, ex, ey]; simp [abackR, ok, hr]
    rw [e1, e2] at h
    exact h
  have hrb : ∀ W : World, Calls Try.prog 30 #[.agg #[.int .u64 (p1 : Int), .int .u64 (q1 : Int)], .int .i64 (dn : Int)] W (RetRow 34 2 E RR.length (angC RR) W) := fun W => by
    rw [hE, hRR]; exact rback_any p1 q1 dn W k1 l1 hdn
  have hrt : ∀ W : World, Calls Try.prog 28 #[.agg #[.int .u64 (p1 : Int), .int .u64 (q1 : Int)], .int .i64 (dn : Int)] W (RetPart N1 D1 W) := fun W =>
    rturn_any p1 q1 dn X1 N1 D1 W b1 l0 l1 hdn (Lib.hid hX1) (Lib.hid hN1) (Lib.hid hD1)
  have hu2 : (∃ u1 u2 : ByteArray, turnsV ng nu de (dn : Int) n = .tuple #[.agg #[.bool false, .string u1, .string u2], .int .i64 2] ∧ n < 0 ∧ u1 = ⟨#[]⟩ ∧ u2 = ⟨#[]⟩) ∨
      ∃ (u1 u2 : ByteArray) (N2 D2 : Nat), turnsV ng nu de (dn : Int) n = .tuple #[.agg #[.bool false, .string u1, .string u2], .int .i64 0] ∧ 0 ≤ n ∧ SameA u1 u2 0 N2 D2 ∧
        ∀ W : World, Calls Try.prog 29 #[.agg #[.int .u64 (p1 : Int), .int .u64 (q1 : Int)], .int .i64 (dn : Int), .int .i64 n] W (RetPart N2 D2 W) := by
    by_cases h0 : n < 0
    · exact Or.inl ⟨_, _, turnsV_neg ok h0, h0, rfl, rfl⟩
    · obtain ⟨m, rfl⟩ := Int.eq_ofNat_of_zero_le (show 0 ≤ n by omega)
      refine Or.inr ⟨_, _, turnX p1 q1 dn m / Nat.gcd (turnX p1 q1 dn m) q1, q1 / Nat.gcd (turnX p1 q1 dn m) q1, turnsV_yes ok hr (by omega), by omega, ?_, fun W => ?_⟩
      · rw [← ex, ← ey]
        have e1 : turnX p1 q1 dn m < q1 := Nat.mod_lt _ l0
        have e2 : turnX p1 q1 dn m / Nat.gcd (turnX p1 q1 dn m) q1 ≤ turnX p1 q1 dn m := Nat.div_le_self _ _
        have e3 : q1 / Nat.gcd (turnX p1 q1 dn m) q1 ≤ q1 := Nat.div_le_self _ _
        exact Or.inl ⟨rfl, rfl, rfl, by omega, by omega⟩
      · exact rturns_any p1 q1 dn m (dn ^ m % q1) (turnX p1 q1 dn m) _ _ W b1 l0 l1 hdn (by have := hn.out; omega) (Lib.hid rfl) (Lib.hid rfl) (Lib.hid rfl) (Lib.hid rfl)
  replace ht := Lib.hid ht
  replace hsame1 := Lib.hid hsame1
  replace hback := Lib.hid hback
  replace hrb := Lib.hid hrb
  replace hrt := Lib.hid hrt
  replace hsm := Lib.hid hsm
  replace hr := Lib.hid hr
  clear hX1 hN1 hD1 et1 et2 hX1s hN1s hD1s hE hRR ex ey k1 l1 l0 b1 hd hdn hq1
  rcases hu2 with ⟨u1, u2, hu, hneg, eu1, eu2⟩ | ⟨u1, u2, N2, D2, hu, hpos, hsame2, hrts⟩
  · have hsame2 : Hid (SameA u1 u2 2 p1 q1) := Lib.hid (Or.inr ⟨by decide, eu1, eu2⟩)
    replace hu := Lib.hid hu
    clear eu1 eu2
    go_enter Try.func6, Try.ntmps6
    go_wp2_with fail
    refine (turn1_any ng nu de (dn : Int) _ z1 z2).mono ?_
    rintro en v1 ⟨rfl, hb⟩
    rw [ht.out]
    replace ka := (Blk.below ka.out hb).alloc (.cells #[.bool false, .string t1, .string t2] 24)
    have kt := Blk.new v1 24 #[.bool false, .string t1, .string t2]
    replace hBW := hBW.out.trans (hb.mono hBW.out.size)
    replace hBW := hBW.alloc hBW.size (.cells #[.bool false, .string t1, .string t2] 24)
    clear hb 
    go_upto_region 2 with fail
    generalize hxx : v1.alloc (.cells #[.bool false, .string t1, .string t2] 24) = v2 at ka kt hBW ⊢
    generalize hgg : v1.heap.size = g1 at *
    clear hxx hgg
    replace ka := Lib.hid ka
    replace kt := Lib.hid kt
    replace hBW := Lib.hid hBW
    have c0 : v2.cell? ⟨w.heap.size, 0, none⟩ = some (.bool ng) := ka.out.cell 0
    have c1 : v2.cell? ⟨w.heap.size, 1, none⟩ = some (.string nu) := ka.out.cell 1
    have c2 : v2.cell? ⟨w.heap.size, 2, none⟩ = some (.string de) := ka.out.cell 2
    go_wp2_with fail
    refine (turns_any ng nu de (dn : Int) n _ z1 z2 hn.out).mono ?_
    rintro en v3 ⟨rfl, hb⟩
    rw [hu.out]
    replace ka := (Blk.below ka.out hb).alloc (.cells #[.bool false, .string u1, .string u2] 24)
    replace kt := (Blk.below kt.out hb).alloc (.cells #[.bool false, .string u1, .string u2] 24)
    have ku := Blk.new v3 24 #[.bool false, .string u1, .string u2]
    replace hBW := hBW.out.trans (hb.mono hBW.out.size)
    replace hBW := hBW.alloc hBW.size (.cells #[.bool false, .string u1, .string u2] 24)
    clear hb c0 c1 c2
    go_upto_region 3 with fail
    generalize hxx : v3.alloc (.cells #[.bool false, .string u1, .string u2] 24) = v4 at ka kt ku hBW ⊢
    generalize hgg : v3.heap.size = g2 at *
    clear hxx hgg
    replace ka := Lib.hid ka
    replace kt := Lib.hid kt
    replace ku := Lib.hid ku
    replace hBW := Lib.hid hBW
    have c0 : v4.cell? ⟨w.heap.size, 0, none⟩ = some (.bool ng) := ka.out.cell 0
    have c1 : v4.cell? ⟨w.heap.size, 1, none⟩ = some (.string nu) := ka.out.cell 1
    have c2 : v4.cell? ⟨w.heap.size, 2, none⟩ = some (.string de) := ka.out.cell 2
    go_wp2_with fail
    refine (hback.out _).mono ?_
    rintro en v5 ⟨lv, rfl, hl, hb⟩
    have hszl := hBW.out.size
    replace hl := Lib.hid (own_le hl hszl)
    replace ka := Lib.hid (Blk.below ka.out hb)
    replace kt := Lib.hid (Blk.below kt.out hb)
    replace ku := Lib.hid (Blk.below ku.out hb)
    replace hBW := Lib.hid (hBW.out.trans (hb.mono hBW.out.size))
    clear hb hszl c0 c1 c2
    have c0 : v5.cell? ⟨w.heap.size, 0, none⟩ = some (.bool ng) := ka.out.cell 0
    have c1 : v5.cell? ⟨w.heap.size, 1, none⟩ = some (.string nu) := ka.out.cell 1
    have c2 : v5.cell? ⟨w.heap.size, 2, none⟩ = some (.string de) := ka.out.cell 2
    go_wp2_with fail
    refine (hback.out _).mono ?_
    rintro en v6 ⟨mv, rfl, hm, hb⟩
    have hlm : Hid (lv.ownBlock ≠ none → mv.ownBlock ≠ lv.ownBlock) := Lib.hid (fun h0 h => by
      cases hlb : lv.ownBlock with
      | none => exact h0 hlb
      | some g =>
        have h1 := (hl.out.lt g hlb).2
        obtain ⟨-, -, h2⟩ := own_kind hm (h.trans hlb)
        omega)
    have hszl := hBW.out.size
    replace hm := Lib.hid (own_le hm hszl)
    replace ka := Lib.hid (Blk.below ka.out hb)
    replace kt := Lib.hid (Blk.below kt.out hb)
    replace ku := Lib.hid (Blk.below ku.out hb)
    replace hl := Lib.hid (own_below hl.out hb)
    replace hBW := Lib.hid (hBW.out.trans (hb.mono hBW.out.size))
    clear hb hszl c0 c1 c2
    have c0 : v6.cell? ⟨w.heap.size, 0, none⟩ = some (.bool ng) := ka.out.cell 0
    have c1 : v6.cell? ⟨w.heap.size, 1, none⟩ = some (.string nu) := ka.out.cell 1
    have c2 : v6.cell? ⟨w.heap.size, 2, none⟩ = some (.string de) := ka.out.cell 2
    go_wp2_with fail
    refine (rof_any ng nu de _ z1 z2).mono ?_
    rintro en v7 ⟨rfl, hb⟩
    rw [hs1.out]
    replace kt := (Blk.below kt.out hb).alloc (.cells #[.int .u64 (p1 : Int), .int .u64 (q1 : Int)] 34)
    replace ku := (Blk.below ku.out hb).alloc (.cells #[.int .u64 (p1 : Int), .int .u64 (q1 : Int)] 34)
    replace hl := (own_below hl.out hb).alloc (.cells #[.int .u64 (p1 : Int), .int .u64 (q1 : Int)] 34)
    replace hm := (own_below hm.out hb).alloc (.cells #[.int .u64 (p1 : Int), .int .u64 (q1 : Int)] 34)
    have kx := Blk.new v7 34 #[.int .u64 (p1 : Int), .int .u64 (q1 : Int)]
    replace hBW := hBW.out.trans (hb.mono hBW.out.size)
    replace hBW := hBW.alloc hBW.size (.cells #[.int .u64 (p1 : Int), .int .u64 (q1 : Int)] 34)
    clear hb c0 c1 c2 ka
    go_upto_region 6 with fail
    generalize hxx : v7.alloc (.cells #[.int .u64 (p1 : Int), .int .u64 (q1 : Int)] 34) = v8 at kt ku hl hm kx hBW ⊢
    generalize hgg : v7.heap.size = g3 at *
    clear hxx hgg
    replace kt := Lib.hid kt
    replace ku := Lib.hid ku
    replace hl := Lib.hid hl
    replace hm := Lib.hid hm
    replace kx := Lib.hid kx
    replace hBW := Lib.hid hBW
    go_wp2_with fail
    refine (rround_any (dn : Int) _).mono ?_
    rintro en v9 ⟨rfl, rfl⟩
    rw [hr.out]
    go_upto_region 13 with fail
    have a0 : ∀ d os, (grow (redrawn v8 d) os).cell? ⟨g1, 0, none⟩ = some (.bool false) := cell_regrown (Blk.cell kt.out 0)
    have a1 : ∀ d os, (grow (redrawn v8 d) os).cell? ⟨g1, 1, none⟩ = some (.string t1) := cell_regrown (Blk.cell kt.out 1)
    have a2 : ∀ d os, (grow (redrawn v8 d) os).cell? ⟨g1, 2, none⟩ = some (.string t2) := cell_regrown (Blk.cell kt.out 2)
    have b0 : ∀ d os, (grow (redrawn v8 d) os).cell? ⟨g3, 0, none⟩ = some (.int .u64 (p1 : Int)) := cell_regrown (Blk.cell kx.out 0)
    have b1 : ∀ d os, (grow (redrawn v8 d) os).cell? ⟨g3, 1, none⟩ = some (.int .u64 (q1 : Int)) := cell_regrown (Blk.cell kx.out 1)
    have cc1 : ∀ d os, Calls Try.prog 28 #[.agg #[.int .u64 (p1 : Int), .int .u64 (q1 : Int)], .int .i64 (dn : Int)] (grow (redrawn v8 d) os) fun e w'' => e = .returned (.agg #[.int .u64 (N1 : Int), .int .u64 (D1 : Int)]) ∧ ∃ p : Regrown, w'' = grow (redrawn v8 p.d) p.os :=
      fun d os => Calls.regrown_of (hrt.out _)
    have cc2 : ∀ d os, Calls Try.prog 27 #[.agg #[.bool false, .string t1, .string t2], .int .i64 0, .agg #[.int .u64 (N1 : Int), .int .u64 (D1 : Int)], .int .i64 0] (grow (redrawn v8 d) os) fun e w'' => e = .returned (.bool true) ∧ ∃ p : Regrown, w'' = grow (redrawn v8 p.d) p.os :=
      fun d os => Calls.regrown_of (is_same hsame1.out _)
    refine wp_region_quiet_below (by kernel_rfl) (by kernel_rfl) ?_
    iterate 4 (quiet_step (fail))
    quiet_step (exact cc1 _ _)
    quiet_step (exact cc2 _ _)
    iterate 1 (quiet_step (fail))
    refine wpQuiet_nil ?_
    intro y1 hw'
    have hb : Below v8.heap.size v8 y1 := by
      obtain ⟨p, rfl⟩ := hw'
      exact below_regrown v8 p.d p.os
    clear hw'
    replace ku := Lib.hid (Blk.below ku.out hb)
    replace kx := Lib.hid (Blk.below kx.out hb)
    replace hl := Lib.hid (own_below hl.out hb)
    replace hm := Lib.hid (own_below hm.out hb)
    replace hBW := Lib.hid (hBW.out.trans (hb.mono hBW.out.size))
    clear hb a0 a1 a2 b0 b1 cc1 cc2 kt
    have a0 : y1.cell? ⟨g2, 0, none⟩ = some (.bool false) := ku.out.cell 0
    have a1 : y1.cell? ⟨g2, 1, none⟩ = some (.string u1) := ku.out.cell 1
    have a2 : y1.cell? ⟨g2, 2, none⟩ = some (.string u2) := ku.out.cell 2
    have b0 : y1.cell? ⟨g3, 0, none⟩ = some (.int .u64 (p1 : Int)) := kx.out.cell 0
    have b1 : y1.cell? ⟨g3, 1, none⟩ = some (.int .u64 (q1 : Int)) := kx.out.cell 1
    go_wp2_with fail
    refine (is_same hsame2.out _).mono ?_
    rintro en y2 ⟨rfl, hb⟩
    replace kx := Lib.hid (Blk.below kx.out hb)
    replace hl := Lib.hid (own_below hl.out hb)
    replace hm := Lib.hid (own_below hm.out hb)
    replace hBW := Lib.hid (hBW.out.trans (hb.mono hBW.out.size))
    clear hb a0 a1 a2 b0 b1 ku
    have b0 : y2.cell? ⟨g3, 0, none⟩ = some (.int .u64 (p1 : Int)) := kx.out.cell 0
    have b1 : y2.cell? ⟨g3, 1, none⟩ = some (.int .u64 (q1 : Int)) := kx.out.cell 1
    go_wp2_with fail
    refine (hrb.out _).mono ?_
    rintro en y3 ⟨bv, rfl, hbk, hb⟩
    replace hl := Lib.hid (own_below hl.out hb)
    replace hm := Lib.hid (own_below hm.out hb)
    replace hBW := Lib.hid (hBW.out.trans (hb.mono hBW.out.size))
    replace hbk := Lib.hid hbk
    clear hb b0 b1 kx
    go_wp2_with fail
    refine (same_any RR hsm.out hln lv bv _ _ _ hl.out hbk.out (own_apart hl.out hbk.out (by decide))).mono ?_
    rintro en y4 ⟨rfl, hg⟩
    have hm4 := Lib.hid (hm.out.kept hg (keep_other hlm.out))
    have hb4 := Lib.hid (hbk.out.kept hg (keep_other (fun _ e => by
      cases hlb : lv.ownBlock with
      | none => contradiction
      | some g => exact own_apart hl.out hbk.out (by decide) g hlb (e.trans hlb))))
    replace hBW := Lib.hid (hBW.out.grown hg hBW.out.size (fun k hk => (hl.out.lt k hk).1))
    clear hg hl hm hbk
    go_wp2_with fail
    refine (same_any RR hsm.out hln mv bv _ _ _ hm4.out hb4.out (own_apart hm4.out hb4.out (by decide))).mono ?_
    rintro en y5 ⟨rfl, hg⟩
    replace hBW := Lib.hid (hBW.out.grown hg hBW.out.size (fun k hk => (hm4.out.lt k hk).1))
    clear hg hm4 hb4
    go_wp2_with fail
    refine (awake_any _).mono ?_
    rintro en y6 ⟨rfl, hb⟩
    replace hBW := Lib.hid (hBW.out.trans (hb.mono hBW.out.size))
    clear hb
    go_wp2_with fail
    go_ret
    exact ⟨rfl, hBW.out⟩
  · replace hsame2 := Lib.hid hsame2
    replace hu := Lib.hid hu
    replace hrts := Lib.hid hrts
    have hnneg : ¬ n < 0 := by omega
    go_enter Try.func6, Try.ntmps6
    go_wp2_with fail
    refine (turn1_any ng nu de (dn : Int) _ z1 z2).mono ?_
    rintro en v1 ⟨rfl, hb⟩
    rw [ht.out]
    replace ka := (Blk.below ka.out hb).alloc (.cells #[.bool false, .string t1, .string t2] 24)
    have kt := Blk.new v1 24 #[.bool false, .string t1, .string t2]
    replace hBW := hBW.out.trans (hb.mono hBW.out.size)
    replace hBW := hBW.alloc hBW.size (.cells #[.bool false, .string t1, .string t2] 24)
    clear hb 
    go_upto_region 2 with fail
    generalize hxx : v1.alloc (.cells #[.bool false, .string t1, .string t2] 24) = v2 at ka kt hBW ⊢
    generalize hgg : v1.heap.size = g1 at *
    clear hxx hgg
    replace ka := Lib.hid ka
    replace kt := Lib.hid kt
    replace hBW := Lib.hid hBW
    have c0 : v2.cell? ⟨w.heap.size, 0, none⟩ = some (.bool ng) := ka.out.cell 0
    have c1 : v2.cell? ⟨w.heap.size, 1, none⟩ = some (.string nu) := ka.out.cell 1
    have c2 : v2.cell? ⟨w.heap.size, 2, none⟩ = some (.string de) := ka.out.cell 2
    go_wp2_with fail
    refine (turns_any ng nu de (dn : Int) n _ z1 z2 hn.out).mono ?_
    rintro en v3 ⟨rfl, hb⟩
    rw [hu.out]
    replace ka := (Blk.below ka.out hb).alloc (.cells #[.bool false, .string u1, .string u2] 24)
    replace kt := (Blk.below kt.out hb).alloc (.cells #[.bool false, .string u1, .string u2] 24)
    have ku := Blk.new v3 24 #[.bool false, .string u1, .string u2]
    replace hBW := hBW.out.trans (hb.mono hBW.out.size)
    replace hBW := hBW.alloc hBW.size (.cells #[.bool false, .string u1, .string u2] 24)
    clear hb c0 c1 c2
    go_upto_region 3 with fail
    generalize hxx : v3.alloc (.cells #[.bool false, .string u1, .string u2] 24) = v4 at ka kt ku hBW ⊢
    generalize hgg : v3.heap.size = g2 at *
    clear hxx hgg
    replace ka := Lib.hid ka
    replace kt := Lib.hid kt
    replace ku := Lib.hid ku
    replace hBW := Lib.hid hBW
    have c0 : v4.cell? ⟨w.heap.size, 0, none⟩ = some (.bool ng) := ka.out.cell 0
    have c1 : v4.cell? ⟨w.heap.size, 1, none⟩ = some (.string nu) := ka.out.cell 1
    have c2 : v4.cell? ⟨w.heap.size, 2, none⟩ = some (.string de) := ka.out.cell 2
    go_wp2_with fail
    refine (hback.out _).mono ?_
    rintro en v5 ⟨lv, rfl, hl, hb⟩
    have hszl := hBW.out.size
    replace hl := Lib.hid (own_le hl hszl)
    replace ka := Lib.hid (Blk.below ka.out hb)
    replace kt := Lib.hid (Blk.below kt.out hb)
    replace ku := Lib.hid (Blk.below ku.out hb)
    replace hBW := Lib.hid (hBW.out.trans (hb.mono hBW.out.size))
    clear hb hszl c0 c1 c2
    have c0 : v5.cell? ⟨w.heap.size, 0, none⟩ = some (.bool ng) := ka.out.cell 0
    have c1 : v5.cell? ⟨w.heap.size, 1, none⟩ = some (.string nu) := ka.out.cell 1
    have c2 : v5.cell? ⟨w.heap.size, 2, none⟩ = some (.string de) := ka.out.cell 2
    go_wp2_with fail
    refine (hback.out _).mono ?_
    rintro en v6 ⟨mv, rfl, hm, hb⟩
    have hlm : Hid (lv.ownBlock ≠ none → mv.ownBlock ≠ lv.ownBlock) := Lib.hid (fun h0 h => by
      cases hlb : lv.ownBlock with
      | none => exact h0 hlb
      | some g =>
        have h1 := (hl.out.lt g hlb).2
        obtain ⟨-, -, h2⟩ := own_kind hm (h.trans hlb)
        omega)
    have hszl := hBW.out.size
    replace hm := Lib.hid (own_le hm hszl)
    replace ka := Lib.hid (Blk.below ka.out hb)
    replace kt := Lib.hid (Blk.below kt.out hb)
    replace ku := Lib.hid (Blk.below ku.out hb)
    replace hl := Lib.hid (own_below hl.out hb)
    replace hBW := Lib.hid (hBW.out.trans (hb.mono hBW.out.size))
    clear hb hszl c0 c1 c2
    have c0 : v6.cell? ⟨w.heap.size, 0, none⟩ = some (.bool ng) := ka.out.cell 0
    have c1 : v6.cell? ⟨w.heap.size, 1, none⟩ = some (.string nu) := ka.out.cell 1
    have c2 : v6.cell? ⟨w.heap.size, 2, none⟩ = some (.string de) := ka.out.cell 2
    go_wp2_with fail
    refine (rof_any ng nu de _ z1 z2).mono ?_
    rintro en v7 ⟨rfl, hb⟩
    rw [hs1.out]
    replace kt := (Blk.below kt.out hb).alloc (.cells #[.int .u64 (p1 : Int), .int .u64 (q1 : Int)] 34)
    replace ku := (Blk.below ku.out hb).alloc (.cells #[.int .u64 (p1 : Int), .int .u64 (q1 : Int)] 34)
    replace hl := (own_below hl.out hb).alloc (.cells #[.int .u64 (p1 : Int), .int .u64 (q1 : Int)] 34)
    replace hm := (own_below hm.out hb).alloc (.cells #[.int .u64 (p1 : Int), .int .u64 (q1 : Int)] 34)
    have kx := Blk.new v7 34 #[.int .u64 (p1 : Int), .int .u64 (q1 : Int)]
    replace hBW := hBW.out.trans (hb.mono hBW.out.size)
    replace hBW := hBW.alloc hBW.size (.cells #[.int .u64 (p1 : Int), .int .u64 (q1 : Int)] 34)
    clear hb c0 c1 c2 ka
    go_upto_region 6 with fail
    generalize hxx : v7.alloc (.cells #[.int .u64 (p1 : Int), .int .u64 (q1 : Int)] 34) = v8 at kt ku hl hm kx hBW ⊢
    generalize hgg : v7.heap.size = g3 at *
    clear hxx hgg
    replace kt := Lib.hid kt
    replace ku := Lib.hid ku
    replace hl := Lib.hid hl
    replace hm := Lib.hid hm
    replace kx := Lib.hid kx
    replace hBW := Lib.hid hBW
    go_wp2_with fail
    refine (rround_any (dn : Int) _).mono ?_
    rintro en v9 ⟨rfl, rfl⟩
    rw [hr.out]
    go_upto_region 13 with fail
    have a0 : ∀ d os, (grow (redrawn v8 d) os).cell? ⟨g1, 0, none⟩ = some (.bool false) := cell_regrown (Blk.cell kt.out 0)
    have a1 : ∀ d os, (grow (redrawn v8 d) os).cell? ⟨g1, 1, none⟩ = some (.string t1) := cell_regrown (Blk.cell kt.out 1)
    have a2 : ∀ d os, (grow (redrawn v8 d) os).cell? ⟨g1, 2, none⟩ = some (.string t2) := cell_regrown (Blk.cell kt.out 2)
    have b0 : ∀ d os, (grow (redrawn v8 d) os).cell? ⟨g3, 0, none⟩ = some (.int .u64 (p1 : Int)) := cell_regrown (Blk.cell kx.out 0)
    have b1 : ∀ d os, (grow (redrawn v8 d) os).cell? ⟨g3, 1, none⟩ = some (.int .u64 (q1 : Int)) := cell_regrown (Blk.cell kx.out 1)
    have cc1 : ∀ d os, Calls Try.prog 28 #[.agg #[.int .u64 (p1 : Int), .int .u64 (q1 : Int)], .int .i64 (dn : Int)] (grow (redrawn v8 d) os) fun e w'' => e = .returned (.agg #[.int .u64 (N1 : Int), .int .u64 (D1 : Int)]) ∧ ∃ p : Regrown, w'' = grow (redrawn v8 p.d) p.os :=
      fun d os => Calls.regrown_of (hrt.out _)
    have cc2 : ∀ d os, Calls Try.prog 27 #[.agg #[.bool false, .string t1, .string t2], .int .i64 0, .agg #[.int .u64 (N1 : Int), .int .u64 (D1 : Int)], .int .i64 0] (grow (redrawn v8 d) os) fun e w'' => e = .returned (.bool true) ∧ ∃ p : Regrown, w'' = grow (redrawn v8 p.d) p.os :=
      fun d os => Calls.regrown_of (is_same hsame1.out _)
    refine wp_region_quiet_below (by kernel_rfl) (by kernel_rfl) ?_
    iterate 4 (quiet_step (fail))
    quiet_step (exact cc1 _ _)
    quiet_step (exact cc2 _ _)
    iterate 1 (quiet_step (fail))
    refine wpQuiet_nil ?_
    intro y1 hw'
    have hb : Below v8.heap.size v8 y1 := by
      obtain ⟨p, rfl⟩ := hw'
      exact below_regrown v8 p.d p.os
    clear hw'
    replace ku := Lib.hid (Blk.below ku.out hb)
    replace kx := Lib.hid (Blk.below kx.out hb)
    replace hl := Lib.hid (own_below hl.out hb)
    replace hm := Lib.hid (own_below hm.out hb)
    replace hBW := Lib.hid (hBW.out.trans (hb.mono hBW.out.size))
    clear hb a0 a1 a2 b0 b1 cc1 cc2 kt
    go_upto_region 18 with fail
    have a0 : ∀ d os, (grow (redrawn y1 d) os).cell? ⟨g2, 0, none⟩ = some (.bool false) := cell_regrown (Blk.cell ku.out 0)
    have a1 : ∀ d os, (grow (redrawn y1 d) os).cell? ⟨g2, 1, none⟩ = some (.string u1) := cell_regrown (Blk.cell ku.out 1)
    have a2 : ∀ d os, (grow (redrawn y1 d) os).cell? ⟨g2, 2, none⟩ = some (.string u2) := cell_regrown (Blk.cell ku.out 2)
    have b0 : ∀ d os, (grow (redrawn y1 d) os).cell? ⟨g3, 0, none⟩ = some (.int .u64 (p1 : Int)) := cell_regrown (Blk.cell kx.out 0)
    have b1 : ∀ d os, (grow (redrawn y1 d) os).cell? ⟨g3, 1, none⟩ = some (.int .u64 (q1 : Int)) := cell_regrown (Blk.cell kx.out 1)
    have cc1 : ∀ d os, Calls Try.prog 29 #[.agg #[.int .u64 (p1 : Int), .int .u64 (q1 : Int)], .int .i64 (dn : Int), .int .i64 n] (grow (redrawn y1 d) os) fun e w'' => e = .returned (.agg #[.int .u64 (N2 : Int), .int .u64 (D2 : Int)]) ∧ ∃ p : Regrown, w'' = grow (redrawn y1 p.d) p.os :=
      fun d os => Calls.regrown_of (hrts.out _)
    have cc2 : ∀ d os, Calls Try.prog 27 #[.agg #[.bool false, .string u1, .string u2], .int .i64 0, .agg #[.int .u64 (N2 : Int), .int .u64 (D2 : Int)], .int .i64 0] (grow (redrawn y1 d) os) fun e w'' => e = .returned (.bool true) ∧ ∃ p : Regrown, w'' = grow (redrawn y1 p.d) p.os :=
      fun d os => Calls.regrown_of (is_same hsame2.out _)
    refine wp_region_quiet_below (by kernel_rfl) (by kernel_rfl) ?_
    iterate 5 (quiet_step (fail))
    quiet_step (exact cc1 _ _)
    quiet_step (exact cc2 _ _)
    iterate 1 (quiet_step (fail))
    refine wpQuiet_nil ?_
    intro y2 hw'
    have hb : Below y1.heap.size y1 y2 := by
      obtain ⟨p, rfl⟩ := hw'
      exact below_regrown y1 p.d p.os
    clear hw'
    replace kx := Lib.hid (Blk.below kx.out hb)
    replace hl := Lib.hid (own_below hl.out hb)
    replace hm := Lib.hid (own_below hm.out hb)
    replace hBW := Lib.hid (hBW.out.trans (hb.mono hBW.out.size))
    clear hb a0 a1 a2 b0 b1 cc1 cc2 ku
    have b0 : y2.cell? ⟨g3, 0, none⟩ = some (.int .u64 (p1 : Int)) := kx.out.cell 0
    have b1 : y2.cell? ⟨g3, 1, none⟩ = some (.int .u64 (q1 : Int)) := kx.out.cell 1
    go_wp2_with fail
    refine (hrb.out _).mono ?_
    rintro en y3 ⟨bv, rfl, hbk, hb⟩
    replace hl := Lib.hid (own_below hl.out hb)
    replace hm := Lib.hid (own_below hm.out hb)
    replace hBW := Lib.hid (hBW.out.trans (hb.mono hBW.out.size))
    replace hbk := Lib.hid hbk
    clear hb b0 b1 kx
    go_wp2_with fail
    refine (same_any RR hsm.out hln lv bv _ _ _ hl.out hbk.out (own_apart hl.out hbk.out (by decide))).mono ?_
    rintro en y4 ⟨rfl, hg⟩
    have hm4 := Lib.hid (hm.out.kept hg (keep_other hlm.out))
    have hb4 := Lib.hid (hbk.out.kept hg (keep_other (fun _ e => by
      cases hlb : lv.ownBlock with
      | none => contradiction
      | some g => exact own_apart hl.out hbk.out (by decide) g hlb (e.trans hlb))))
    replace hBW := Lib.hid (hBW.out.grown hg hBW.out.size (fun k hk => (hl.out.lt k hk).1))
    clear hg hl hm hbk
    go_wp2_with fail
    refine (same_any RR hsm.out hln mv bv _ _ _ hm4.out hb4.out (own_apart hm4.out hb4.out (by decide))).mono ?_
    rintro en y5 ⟨rfl, hg⟩
    replace hBW := Lib.hid (hBW.out.grown hg hBW.out.size (fun k hk => (hm4.out.lt k hk).1))
    clear hg hm4 hb4
    go_wp2_with fail
    refine (awake_any _).mono ?_
    rintro en y6 ⟨rfl, hb⟩
    replace hBW := Lib.hid (hBW.out.trans (hb.mono hBW.out.size))
    clear hb
    go_wp2_with fail
    go_ret
    exact ⟨rfl, hBW.out⟩
end Go.Proofs.Ytciafmnideihjaa
