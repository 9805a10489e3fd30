/- filigreelaw21.AngleSpells: the walk. -/
import Derived.Test.YtciafmnideihjaaSpellP
import Derived.Deep.RegionHeld3
namespace Go.Proofs.Ytciafmnideihjaa
open Go.RowKit Go.Sort

theorem digsV_yes {ng : Bool} {nu de : ByteArray} {d n : Nat} (ha : okA ng nu de = true) (hr : roundB (d : Int) = true) (hn : n ≤ 1024) :
    digsE ng nu de (d : Int) (n : Int) = 0 ∧ digsR ng nu de (d : Int) (n : Int) = digL (be (sl nu)) (be (sl de)) d n := by
  have h1 : (n : Int) ≤ 1024 := by omega
  have h2 : (0 : Int) ≤ (n : Int) := by omega
  simp [digsE, digsR, ha, hr, h1]
theorem digsV_no {ng : Bool} {nu de : ByteArray} {d n : Int} (h : ¬ (okA ng nu de = true ∧ roundB d = true)) : ∃ c : Int, c ≠ 0 ∧ digsE ng nu de d n = c ∧ digsR ng nu de d n = [] := by
  cases h1 : okA ng nu de
  · exact ⟨210, by decide, by simp [digsE, h1], by simp [digsR, h1]⟩
  · cases h2 : roundB d
    · exact ⟨2, by decide, by simp [digsE, h1, h2], by simp [digsR, h1, h2]⟩
    · exact absurd ⟨h1, h2⟩ h
theorem below_drew {B : Nat} {a w : World} (h : Below B a w) : Below B a w.drew := ⟨h.os, h.tape, h.output, h.size, h.block⟩
theorem own_caps {w : World} {base : Nat} {T : TypeId} {g n cap : Nat} {xs : List Value} (h : w.ownsRow base T 1 (.slice (some ⟨g, 0, none⟩) n cap) n xs) : n ≤ cap ∧ cap ≤ maxLen := by
  rcases h.2 with ⟨h1, -⟩ | ⟨g', cap', cur, h1, -, -, h2, h3, -⟩
  · cases h1
  · injection h1 with _ _ h4
    subst h4
    exact ⟨h2, h3⟩
theorem own_len {k : IntKind} {w : World} {base : Nat} {T : TypeId} {v : Value} {n : Nat} {l : List Nat} (h : w.ownsRow base T 1 v n (ivs k l)) : n = l.length := by
  have := h.1
  rw [ivs_len] at this
  omega
theorem own_rdn {k : IntKind} {w : World} {base : Nat} {T : TypeId} {v : Value} {n : Nat} {l : List Nat} (h : w.ownsRow base T 1 v n (ivs k l)) : Rd k T w v l := by
  have e := own_len h
  subst e
  exact own_rd h

theorem rd_drop0 {k : IntKind} {T : TypeId} {w : World} {g c p n m : Nat} {l : List Nat} (h : Rd k T w (.slice (some ⟨g, 0, none⟩) n c) l) (hp : p ≤ l.length) (hm : m = l.length - p) : Rd k T w (.slice (some ⟨g, p, none⟩) m (c - p)) (l.drop p) := by
  have h1 := rd_drop h hp hm
  rwa [Nat.zero_add] at h1

set_option maxRecDepth 100000 in
set_option maxHeartbeats 4000000 in
theorem angleSpells_any (ng : Bool) (nu de : ByteArray) (d n : Int) (w : World) (z1 : nu.size ≤ 9223372036854775807) (z2 : de.size ≤ 9223372036854775807) :
    Calls Try.prog 13 #[.agg #[.bool ng, .string nu, .string de], .int .i64 d, .int .i64 n] w (RetVal (.bool true) w) := by
  have ka := Blk.new w 24 #[.bool ng, .string nu, .string de]
  have hBW : Below w.heap.size w (w.alloc (.cells #[.bool ng, .string nu, .string de] 24)) := (Below.refl _ w).alloc (Nat.le_refl _) _
  replace ka := Lib.hid ka
  replace hBW := Lib.hid hBW
  have hrange : (n < 0 ∨ ¬ n < 0 ∧ 1000 < n) ∨ (¬ n < 0 ∧ ¬ 1000 < n) := by omega
  rcases hrange with hx | ⟨n0, n1⟩
  · go_enter Try.func13, Try.ntmps13
    go_wp2_with fail
    refine (awake_any _).mono ?_
    rintro en v1 ⟨rfl, hb⟩
    replace hBW := Lib.hid (hBW.out.trans (hb.mono hBW.out.size))
    clear hb ka
    rcases hx with h1 | ⟨h1, h2⟩
    all_goals
      go_wp2_with fail
      go_ret
      exact ⟨rfl, hBW.out⟩
  obtain ⟨nn, rfl⟩ := Int.eq_ofNat_of_zero_le (show 0 ≤ n by omega)
  have n2 : nn ≤ 1000 := by omega
  by_cases hok : okA ng nu de = true ∧ roundB d = true
  rotate_left
  · obtain ⟨c, hc, hE, hRR⟩ := digsV_no (n := (nn : Int) + 1) hok
    have D1 : ∀ W : World, Calls Try.prog 45 #[.agg #[.bool ng, .string nu, .string de], .int .i64 d, .int .i64 ((nn : Int) + 1)] W (RetRow 5 1 c 0 [] W) := fun W => by
      have h := digits_any ng nu de d ((nn : Int) + 1) W z1 z2
      rw [hE, hRR] at h
      exact h
    replace D1 := Lib.hid D1
    have hcb : (c != 0) = true := by simpa using hc
    clear hE hRR hok
    go_enter Try.func13, Try.ntmps13
    go_wp2_with fail
    refine (awake_any _).mono ?_
    rintro en v1 ⟨rfl, hb⟩
    replace ka := Lib.hid (Blk.below ka.out hb)
    replace hBW := Lib.hid (hBW.out.trans (hb.mono hBW.out.size))
    clear hb
    have c0 : v1.cell? ⟨w.heap.size, 0, none⟩ = some (.bool ng) := ka.out.cell 0
    have c1 : v1.cell? ⟨w.heap.size, 1, none⟩ = some (.string nu) := ka.out.cell 1
    have c2 : v1.cell? ⟨w.heap.size, 2, none⟩ = some (.string de) := ka.out.cell 2
    go_wp2_with fail
    refine (D1.out _).mono ?_
    rintro en v2 ⟨lv, rfl, hl, hb⟩
    replace hBW := Lib.hid (hBW.out.trans (hb.mono hBW.out.size))
    clear hb ka c0 c1 c2
    rcases own_formsB hl with ⟨rfl, -⟩ | ⟨gl, capl, rfl⟩
    all_goals
      clear hl
      go_wp2_with fail
      go_ret
      exact ⟨rfl, hBW.out⟩
  obtain ⟨ok, hr⟩ := hok
  have hd := roundB_iff.1 hr
  obtain ⟨dn, rfl⟩ := Int.eq_ofNat_of_zero_le (show 0 ≤ d by omega)
  have hdn : dn ≤ 64 := by omega
  have hd2 : 2 ≤ dn := by omega
  obtain ⟨hng, mnu, mde, gc, lt, le⟩ := okA_spec ok
  subst hng
  obtain ⟨x, hx⟩ : ∃ x, x = be (sl nu) := ⟨_, rfl⟩
  obtain ⟨y, hy⟩ : ∃ y, y = be (sl de) := ⟨_, rfl⟩
  have hnx : natS x = nu := by rw [hx]; exact natS_be mnu
  have hny : natS y = de := by rw [hy]; exact natS_be mde
  have hdig : ∀ j : Nat, j ≤ 1024 → ∀ W : World, Calls Try.prog 45 #[.agg #[.bool false, .string nu, .string de], .int .i64 (dn : Int), .int .i64 (j : Int)] W (RetRow 5 1 0 j (ivs .u8 (digL x y dn j)) W) := fun j hj W => by
    have h := digits_any false nu de (dn : Int) (j : Int) W z1 z2
    obtain ⟨e1, e2⟩ := digsV_yes ok hr hj
    rw [e1, e2, digL_len, ← hx, ← hy] at h
    exact h
  obtain ⟨s1, es1⟩ : ∃ s, s = natS (rd (turnX x y dn 1) y).1 := ⟨_, rfl⟩
  obtain ⟨t1, et1⟩ : ∃ s, s = natS (rd (turnX x y dn 1) y).2 := ⟨_, rfl⟩
  have K1 : ∀ W : World, Calls Try.prog 17 #[.agg #[.bool false, .string nu, .string de], .int .i64 (dn : Int)] W (RetVal (.tuple #[.agg #[.bool false, .string s1, .string t1], .int .i64 0]) W) := fun W => by
    have h := turn1_any false nu de (dn : Int) W z1 z2
    have ht := turnsB_rd (n := 1) ok hr
    rw [show ((1 : Nat) : Int) = 1 from rfl, ← hx, ← hy, ← es1, ← et1] at ht
    rw [ht] at h
    exact h
  rw [← hx, ← hy] at gc lt
  rw [← hy] at le
  have y0 : 0 < y := by omega
  have hlt : ∀ j : Nat, turnX x y dn j < y := fun j => Nat.mod_lt _ y0
  obtain ⟨f1, f2, f3⟩ := rd_facts y0 (hlt 1)
  have ok1 : okA false s1 t1 = true := by
    rw [es1, et1]
    exact okA_natS f1 f2 (by omega)
  have hd1 : (digL x y dn (nn + 1)).drop 1 = digL (rd (turnX x y dn 1) y).1 (rd (turnX x y dn 1) y).2 dn nn := digL_turn y0 (by omega) rfl
  obtain ⟨L2, hL2⟩ : ∃ l, l = digL (rd (turnX x y dn 1) y).1 (rd (turnX x y dn 1) y).2 dn nn := ⟨_, rfl⟩
  have D2 : ∀ W : World, Calls Try.prog 45 #[.agg #[.bool false, .string s1, .string t1], .int .i64 (dn : Int), .int .i64 (nn : Int)] W (RetRow 5 1 0 nn (ivs .u8 L2) W) := fun W => by
    have h := digits_any false s1 t1 (dn : Int) (nn : Int) W (okA_size ok1).1 (okA_size ok1).2
    obtain ⟨e1, e2⟩ := digsV_yes (n := nn) ok1 hr (by omega)
    rw [e1, e2, digL_len] at h
    rw [hL2]
    have b1 : be (sl s1) = (rd (turnX x y dn 1) y).1 := by rw [es1, be_natS]
    have b2 : be (sl t1) = (rd (turnX x y dn 1) y).2 := by rw [et1, be_natS]
    rw [b1, b2] at h
    exact h
  rw [← hL2] at hd1
  have hL2l : L2.length = nn := by rw [hL2, digL_len]
  obtain ⟨L1, hL1⟩ : ∃ l, l = digL x y dn (nn + 1) := ⟨_, rfl⟩
  have hL1l : L1.length = nn + 1 := by rw [hL1, digL_len]
  have D1 : ∀ W : World, Calls Try.prog 45 #[.agg #[.bool false, .string nu, .string de], .int .i64 (dn : Int), .int .i64 ((nn : Int) + 1)] W (RetRow 5 1 0 (nn + 1) (ivs .u8 L1) W) := fun W => by
    have h := hdig (nn + 1) (by omega) W
    rw [← hL1] at h
    exact h
  rw [← hL1] at hd1
  obtain ⟨P, hP⟩ : ∃ P, P = (kindN y dn).1 := ⟨_, rfl⟩
  obtain ⟨K, hK⟩ : ∃ K, K = (kindN y dn).2 := ⟨_, rfl⟩
  have hPs : P ≤ 2147483647 := by rw [hP]; have := kindF_cnt y y dn 0; unfold kindN; omega
  have hKs : K ≤ 2147483647 := by rw [hK]; have := kind_le y y dn 0 y0 (Nat.le_refl _); unfold kindN; omega
  have hK1 : 1 ≤ K := by rw [hK]; exact (kind_facts (d := dn) (by omega) y y0).1
  have Kk : ∀ W : World, Calls Try.prog 16 #[.agg #[.bool false, .string nu, .string de], .int .i64 (dn : Int)] W (RetVal (.tuple #[.int .i64 (P : Int), .int .i64 (K : Int), .int .i64 0]) W) := fun W => by
    have h := kindW_any false nu de (dn : Int) W z1 z2
    have e : kindV false nu de (dn : Int) = .tuple #[.int .i64 (P : Int), .int .i64 (K : Int), .int .i64 0] := by
      unfold kindV
      rw [if_pos ok, if_pos hr, Int.toNat_natCast, ← hy, ← hP, ← hK]
    rw [e] at h
    exact h
  obtain ⟨L3, hL3⟩ : ∃ l, l = digL x y dn (P + K) := ⟨_, rfl⟩
  have hL3l : L3.length = P + K := by rw [hL3, digL_len]
  have D3 : P + K ≤ 1024 → ∀ W : World, Calls Try.prog 45 #[.agg #[.bool false, .string nu, .string de], .int .i64 (dn : Int), .int .i64 ((P : Int) + (K : Int))] W (RetRow 5 1 0 (P + K) (ivs .u8 L3) W) := fun hle W => by
    have h := hdig (P + K) hle W
    rw [← hL3] at h
    exact h
  have hof : P + K ≤ 1024 → ∀ (W : World) (v1 v2 : Value), Rd .u8 5 W v1 (L3.take P) → Rd .u8 5 W v2 (L3.drop P) → Calls Try.prog 48 #[.int .i64 (dn : Int), v1, v2] W (RetVal (.tuple #[.agg #[.bool false, .string nu, .string de], .int .i64 0]) W) := fun hle W v1 v2 h1 h2 => by
    have hall : ∀ z, z ∈ L3 → z < dn := by rw [hL3]; exact digL_lt y0 (by omega)
    have l1 : (L3.take P).length = P := by rw [List.length_take]; omega
    have l2 : (L3.drop P).length = K := by rw [List.length_drop]; omega
    have hsb := spell_back (x := x) (y := y) (d := dn) (p := P) (k := K) (A := numL dn (L3.take P)) (C := numL dn (L3.drop P)) (E1 := dn ^ P) (B := dn ^ K - 1) hd2 lt gc hP hK (by rw [hL3, digL_take]) (by rw [hL3, digL_drop]) rfl rfl
    injection hsb with hs1 hs2
    have h := of_any dn v1 v2 (L3.take P) (L3.drop P) x y W hd2 hdn h1 h2 (fun z hz => hall z (List.mem_of_mem_take hz)) (fun z hz => hall z (List.mem_of_mem_drop hz)) (by omega) (by omega)
      (by rw [l1, l2]; exact hs1.symm) (by rw [l1, l2]; exact hs2.symm) (by omega)
    rw [hnx, hny] at h
    exact h
  have hd1I : ((nn : Int) + 1 != (nn : Int) + 1) = false := by simp
  replace D1 := Lib.hid D1
  replace D2 := Lib.hid D2
  replace D3 := Lib.hid D3
  replace K1 := Lib.hid K1
  replace Kk := Lib.hid Kk
  replace hof := Lib.hid hof
  replace hd1 := Lib.hid hd1
  replace hL1l := Lib.hid hL1l
  replace hL2l := Lib.hid hL2l
  replace hL3l := Lib.hid hL3l
  clear hdig hlt ok1 es1 et1 hL1 hL2 hL3 hP hK f1 f2 f3 gc lt le y0 hx hy hnx hny mnu mde ok hr hd z1 z2
  go_enter Try.func13, Try.ntmps13
  go_wp2_with fail
  refine (awake_any _).mono ?_
  rintro en v1 ⟨rfl, hb⟩
  replace ka := Lib.hid (Blk.below ka.out hb)
  replace hBW := Lib.hid (hBW.out.trans (hb.mono hBW.out.size))
  clear hb
  have c0 : v1.cell? ⟨w.heap.size, 0, none⟩ = some (.bool false) := ka.out.cell 0
  have c1 : v1.cell? ⟨w.heap.size, 1, none⟩ = some (.string nu) := ka.out.cell 1
  have c2 : v1.cell? ⟨w.heap.size, 2, none⟩ = some (.string de) := ka.out.cell 2
  go_wp2_with fail
  refine (D1.out _).mono ?_
  rintro en v2 ⟨lv, rfl, hl, hb⟩
  replace ka := Lib.hid (Blk.below ka.out hb)
  replace hBW := Lib.hid (hBW.out.trans (hb.mono hBW.out.size))
  clear hb c0 c1 c2
  have hl1 := Lib.hid (own_rdn hl)
  rcases own_formsB hl with ⟨-, h0⟩ | ⟨gl, capl, rfl⟩
  · omega
  obtain ⟨hc1, hc2⟩ := own_caps hl
  clear hl
  have c0 : v2.cell? ⟨w.heap.size, 0, none⟩ = some (.bool false) := ka.out.cell 0
  have c1 : v2.cell? ⟨w.heap.size, 1, none⟩ = some (.string nu) := ka.out.cell 1
  have c2 : v2.cell? ⟨w.heap.size, 2, none⟩ = some (.string de) := ka.out.cell 2
  go_wp2_with fail
  refine (K1.out _).mono ?_
  rintro en v3 ⟨rfl, hb⟩
  replace hl1 := (hl1.out.below hb).alloc (.cells #[.bool false, .string s1, .string t1] 24)
  replace ka := (Blk.below ka.out hb).alloc (.cells #[.bool false, .string s1, .string t1] 24)
  have kt := Blk.new v3 24 #[.bool false, .string s1, .string t1]
  replace hBW := hBW.out.trans (hb.mono hBW.out.size)
  replace hBW := hBW.alloc hBW.size (.cells #[.bool false, .string s1, .string t1] 24)
  clear hb c0 c1 c2
  go_upto_region 9 with fail
  generalize hxx : v3.alloc (.cells #[.bool false, .string s1, .string t1] 24) = v4 at hl1 ka kt hBW ⊢
  generalize hgg : v3.heap.size = g1 at *
  clear hxx hgg
  replace ka := Lib.hid ka
  replace kt := Lib.hid kt
  replace hBW := Lib.hid hBW
  replace hl1 := Lib.hid hl1
  have c0 : v4.cell? ⟨g1, 0, none⟩ = some (.bool false) := kt.out.cell 0
  have c1 : v4.cell? ⟨g1, 1, none⟩ = some (.string s1) := kt.out.cell 1
  have c2 : v4.cell? ⟨g1, 2, none⟩ = some (.string t1) := kt.out.cell 2
  go_wp2_with fail
  refine (D2.out _).mono ?_
  rintro en v5 ⟨mv, rfl, hm, hb⟩
  replace hl1 := Lib.hid (hl1.out.below hb)
  replace ka := Lib.hid (Blk.below ka.out hb)
  replace hBW := Lib.hid (hBW.out.trans (hb.mono hBW.out.size))
  clear hb c0 c1 c2 kt
  have hm1 := Lib.hid (own_rdn hm)
  clear hm
  go_wp2_with fail
  · have nn0 : nn = 0 := by omega
    have hsl : Rd .u8 5 v5 (.slice (some ⟨gl, 0, none⟩) nn 0) L2 := ⟨_, 0, by rw [hL2l.out], by rw [hL2l.out]; omega, Nat.zero_le _, fun h => absurd (List.length_eq_zero_iff.1 (by rw [hL2l.out]; exact nn0)) h⟩
    clear nn0
    refine (bytes_any _ _ L2 _ hsl hm1.out (by have := hL2l.out; omega)).mono ?_
    rintro en v6 ⟨rfl, nd, rfl⟩
    replace ka := Lib.hid (Blk.drewN ka.out nd)
    replace hBW := Lib.hid (below_drewN hBW.out nd)
    clear hsl hl1 hm1 hc1 hc2 hd1
    have c0 : (v5.drewN nd).cell? ⟨w.heap.size, 0, none⟩ = some (.bool false) := ka.out.cell 0
    have c1 : (v5.drewN nd).cell? ⟨w.heap.size, 1, none⟩ = some (.string nu) := ka.out.cell 1
    have c2 : (v5.drewN nd).cell? ⟨w.heap.size, 2, none⟩ = some (.string de) := ka.out.cell 2
    go_wp2_with fail
    refine (Kk.out _).mono ?_
    rintro en v7 ⟨rfl, hb⟩
    replace ka := Lib.hid (Blk.below ka.out hb)
    replace hBW := Lib.hid (hBW.out.trans (hb.mono hBW.out.size))
    clear hb c0 c1 c2
    have hP0 : ¬ (P : Int) < 0 := by omega
    have hK0 : ¬ (K : Int) < 1 := by omega
    have hpk : (300 < P ∨ ¬ 300 < P ∧ 300 < K) ∨ (¬ 300 < P ∧ ¬ 300 < K) := by omega
    rcases hpk with hx | ⟨p1, p2⟩
    · clear ka
      rcases hx with h1 | ⟨h1, h2⟩
      · have h1I : (300 : Int) < (P : Int) := by omega
        go_wp2_with fail
        go_ret
        exact ⟨rfl, hBW.out⟩
      · have h1I : ¬ (300 : Int) < (P : Int) := by omega
        have h2I : (300 : Int) < (K : Int) := by omega
        go_wp2_with fail
        go_ret
        exact ⟨rfl, hBW.out⟩
    have p1I : ¬ (300 : Int) < (P : Int) := by omega
    have p2I : ¬ (300 : Int) < (K : Int) := by omega
    have D3' := Lib.hid (D3.out (by omega))
    have hof' := Lib.hid (hof.out (by omega))
    clear p1 p2 D3 hof
    have c0 : v7.cell? ⟨w.heap.size, 0, none⟩ = some (.bool false) := ka.out.cell 0
    have c1 : v7.cell? ⟨w.heap.size, 1, none⟩ = some (.string nu) := ka.out.cell 1
    have c2 : v7.cell? ⟨w.heap.size, 2, none⟩ = some (.string de) := ka.out.cell 2
    go_wp2_with fail
    refine (D3'.out _).mono ?_
    rintro en v8 ⟨kv, rfl, hl, hb⟩
    replace ka := Lib.hid (Blk.below ka.out hb)
    replace hBW := Lib.hid (hBW.out.trans (hb.mono hBW.out.size))
    clear hb c0 c1 c2
    have hl1 := Lib.hid (own_rdn hl)
    rcases own_formsB hl with ⟨-, h0⟩ | ⟨gl2, capl2, rfl⟩
    · omega
    obtain ⟨hc1, hc2⟩ := own_caps hl
    clear hl
    have hPc : ¬ capl2 = P := by omega
    have hb0 : (0 : Int) ≤ (P : Int) := by omega
    have hb1 : (P : Int) ≤ (capl2 : Int) := by omega
    have hb2 : (P : Int) ≤ (P : Int) + (K : Int) := by omega
    have hb3 : P ≤ capl2 := by omega
    have hb4 : P ≤ P + K := by omega
    have hq1 : Calls Try.prog 48 #[.int .i64 (dn : Int), .slice (some ⟨gl2, 0, none⟩) P capl2, .slice (some ⟨gl2, P, none⟩) K (capl2 - P)] v8.drew (RetVal (.tuple #[.agg #[.bool false, .string nu, .string de], .int .i64 0]) v8.drew) :=
      hof'.out _ _ _ (rd_take hl1.out.drew (by have := hL3l.out; omega)) (rd_drop0 hl1.out.drew (by have := hL3l.out; omega) (by have := hL3l.out; omega))
    have hq2 : ∀ o, Calls Try.prog 48 #[.int .i64 (dn : Int), .slice (some ⟨gl2, 0, none⟩) P capl2, .slice (some ⟨gl2, P, none⟩) K (capl2 - P)] (v8.drew.alloc o) (RetVal (.tuple #[.agg #[.bool false, .string nu, .string de], .int .i64 0]) (v8.drew.alloc o)) := fun o =>
      hof'.out _ _ _ (rd_take (hl1.out.drew.alloc o) (by have := hL3l.out; omega)) (rd_drop0 (hl1.out.drew.alloc o) (by have := hL3l.out; omega) (by have := hL3l.out; omega))
    replace hq1 := Lib.hid hq1
    replace hq2 := Lib.hid hq2
    have hwl : w.heap.size < v8.heap.size := ka.out.lt
    have hne : w.heap.size ≠ v8.heap.size := by omega
    have hne' : v8.heap.size ≠ w.heap.size := by omega
    go_upto_region 22 with fail
    have hBW2 : Hid (∀ o, Below w.heap.size w (v8.drew.alloc o)) := Lib.hid (fun o => (below_drew hBW.out).alloc (below_drew hBW.out).size o)
    go_region_held3 (fun _ => True) (trivial)
      (first
        | (go_at_call 48; first | (refine (hq1.out).mono ?_; rintro en v9 ⟨rfl, hb⟩; have k9 := Blk.below (Blk.drew ka.out) hb; have b9 := (below_drew hBW.out).trans (hb.mono (below_drew hBW.out).size); have e0 : v9.cell? ⟨w.heap.size, 0, none⟩ = some (.bool false) := k9.cell 0; have e1 : v9.cell? ⟨w.heap.size, 1, none⟩ = some (.string nu) := k9.cell 1; have e2 : v9.cell? ⟨w.heap.size, 2, none⟩ = some (.string de) := k9.cell 2; have hlt9 : w.heap.size < v9.heap.size := k9.lt; have hw9 : w.heap.size ≠ v9.heap.size := Nat.ne_of_lt k9.lt; have hw9' : v9.heap.size ≠ w.heap.size := Ne.symm hw9; replace b9 := Lib.hid b9; clear k9 hb) | (refine (hq2.out _).mono ?_; rintro en v9 ⟨rfl, hb⟩; have k9 := Blk.below (Blk.alloc (Blk.drew ka.out) _) hb; have b9 := (hBW2.out _).trans (hb.mono (hBW2.out _).size); have e0 : v9.cell? ⟨w.heap.size, 0, none⟩ = some (.bool false) := k9.cell 0; have e1 : v9.cell? ⟨w.heap.size, 1, none⟩ = some (.string nu) := k9.cell 1; have e2 : v9.cell? ⟨w.heap.size, 2, none⟩ = some (.string de) := k9.cell 2; have kz := Blk.below (Blk.new v8.drew 24 #[.bool false, .string ⟨#[]⟩, .string ⟨#[]⟩]) hb; have z0 : v9.cell? ⟨v8.heap.size, 0, none⟩ = some (.bool false) := kz.cell 0; have z1 : v9.cell? ⟨v8.heap.size, 1, none⟩ = some (.string ⟨#[]⟩) := kz.cell 1; have z2 : v9.cell? ⟨v8.heap.size, 2, none⟩ = some (.string ⟨#[]⟩) := kz.cell 2; have y0 : v9.frozen? ⟨v8.heap.size, 0, none⟩ = false := kz.frozen 0; have y1 : v9.frozen? ⟨v8.heap.size, 1, none⟩ = false := kz.frozen 1; have y2 : v9.frozen? ⟨v8.heap.size, 2, none⟩ = false := kz.frozen 2; clear kz; replace b9 := Lib.hid b9; clear k9 hb)))
    all_goals clear ka hBW hBW2 hq1 hq2
    all_goals go_wp2_with fail
    all_goals go_ret
    · exact ⟨rfl, b9.out.alloc b9.out.size _⟩
    · exact ⟨rfl, ((b9.out.setCell (Nat.le_of_lt hwl) _).setCell (Nat.le_of_lt hwl) _).setCell (Nat.le_of_lt hwl) _⟩
  · have hsl := rd_drop (p := 1) (m := nn) hl1.out (by have := hL1l.out; omega) (by have := hL1l.out; omega)
    rw [hd1.out] at hsl
    refine (bytes_any _ _ L2 _ hsl hm1.out (by have := hL2l.out; omega)).mono ?_
    rintro en v6 ⟨rfl, nd, rfl⟩
    replace ka := Lib.hid (Blk.drewN ka.out nd)
    replace hBW := Lib.hid (below_drewN hBW.out nd)
    clear hsl hl1 hm1 hc1 hc2 hd1
    have c0 : (v5.drewN nd).cell? ⟨w.heap.size, 0, none⟩ = some (.bool false) := ka.out.cell 0
    have c1 : (v5.drewN nd).cell? ⟨w.heap.size, 1, none⟩ = some (.string nu) := ka.out.cell 1
    have c2 : (v5.drewN nd).cell? ⟨w.heap.size, 2, none⟩ = some (.string de) := ka.out.cell 2
    go_wp2_with fail
    refine (Kk.out _).mono ?_
    rintro en v7 ⟨rfl, hb⟩
    replace ka := Lib.hid (Blk.below ka.out hb)
    replace hBW := Lib.hid (hBW.out.trans (hb.mono hBW.out.size))
    clear hb c0 c1 c2
    have hP0 : ¬ (P : Int) < 0 := by omega
    have hK0 : ¬ (K : Int) < 1 := by omega
    have hpk : (300 < P ∨ ¬ 300 < P ∧ 300 < K) ∨ (¬ 300 < P ∧ ¬ 300 < K) := by omega
    rcases hpk with hx | ⟨p1, p2⟩
    · clear ka
      rcases hx with h1 | ⟨h1, h2⟩
      · have h1I : (300 : Int) < (P : Int) := by omega
        go_wp2_with fail
        go_ret
        exact ⟨rfl, hBW.out⟩
      · have h1I : ¬ (300 : Int) < (P : Int) := by omega
        have h2I : (300 : Int) < (K : Int) := by omega
        go_wp2_with fail
        go_ret
        exact ⟨rfl, hBW.out⟩
    have p1I : ¬ (300 : Int) < (P : Int) := by omega
    have p2I : ¬ (300 : Int) < (K : Int) := by omega
    have D3' := Lib.hid (D3.out (by omega))
    have hof' := Lib.hid (hof.out (by omega))
    clear p1 p2 D3 hof
    have c0 : v7.cell? ⟨w.heap.size, 0, none⟩ = some (.bool false) := ka.out.cell 0
    have c1 : v7.cell? ⟨w.heap.size, 1, none⟩ = some (.string nu) := ka.out.cell 1
    have c2 : v7.cell? ⟨w.heap.size, 2, none⟩ = some (.string de) := ka.out.cell 2
    go_wp2_with fail
    refine (D3'.out _).mono ?_
    rintro en v8 ⟨kv, rfl, hl, hb⟩
    replace ka := Lib.hid (Blk.below ka.out hb)
    replace hBW := Lib.hid (hBW.out.trans (hb.mono hBW.out.size))
    clear hb c0 c1 c2
    have hl1 := Lib.hid (own_rdn hl)
    rcases own_formsB hl with ⟨-, h0⟩ | ⟨gl2, capl2, rfl⟩
    · omega
    obtain ⟨hc1, hc2⟩ := own_caps hl
    clear hl
    have hPc : ¬ capl2 = P := by omega
    have hb0 : (0 : Int) ≤ (P : Int) := by omega
    have hb1 : (P : Int) ≤ (capl2 : Int) := by omega
    have hb2 : (P : Int) ≤ (P : Int) + (K : Int) := by omega
    have hb3 : P ≤ capl2 := by omega
    have hb4 : P ≤ P + K := by omega
    have hq1 : Calls Try.prog 48 #[.int .i64 (dn : Int), .slice (some ⟨gl2, 0, none⟩) P capl2, .slice (some ⟨gl2, P, none⟩) K (capl2 - P)] v8.drew (RetVal (.tuple #[.agg #[.bool false, .string nu, .string de], .int .i64 0]) v8.drew) :=
      hof'.out _ _ _ (rd_take hl1.out.drew (by have := hL3l.out; omega)) (rd_drop0 hl1.out.drew (by have := hL3l.out; omega) (by have := hL3l.out; omega))
    have hq2 : ∀ o, Calls Try.prog 48 #[.int .i64 (dn : Int), .slice (some ⟨gl2, 0, none⟩) P capl2, .slice (some ⟨gl2, P, none⟩) K (capl2 - P)] (v8.drew.alloc o) (RetVal (.tuple #[.agg #[.bool false, .string nu, .string de], .int .i64 0]) (v8.drew.alloc o)) := fun o =>
      hof'.out _ _ _ (rd_take (hl1.out.drew.alloc o) (by have := hL3l.out; omega)) (rd_drop0 (hl1.out.drew.alloc o) (by have := hL3l.out; omega) (by have := hL3l.out; omega))
    replace hq1 := Lib.hid hq1
    replace hq2 := Lib.hid hq2
    have hwl : w.heap.size < v8.heap.size := ka.out.lt
    have hne : w.heap.size ≠ v8.heap.size := by omega
    have hne' : v8.heap.size ≠ w.heap.size := by omega
    go_upto_region 22 with fail
    have hBW2 : Hid (∀ o, Below w.heap.size w (v8.drew.alloc o)) := Lib.hid (fun o => (below_drew hBW.out).alloc (below_drew hBW.out).size o)
    go_region_held3 (fun _ => True) (trivial)
      (first
        | (go_at_call 48; first | (refine (hq1.out).mono ?_; rintro en v9 ⟨rfl, hb⟩; have k9 := Blk.below (Blk.drew ka.out) hb; have b9 := (below_drew hBW.out).trans (hb.mono (below_drew hBW.out).size); have e0 : v9.cell? ⟨w.heap.size, 0, none⟩ = some (.bool false) := k9.cell 0; have e1 : v9.cell? ⟨w.heap.size, 1, none⟩ = some (.string nu) := k9.cell 1; have e2 : v9.cell? ⟨w.heap.size, 2, none⟩ = some (.string de) := k9.cell 2; have hlt9 : w.heap.size < v9.heap.size := k9.lt; have hw9 : w.heap.size ≠ v9.heap.size := Nat.ne_of_lt k9.lt; have hw9' : v9.heap.size ≠ w.heap.size := Ne.symm hw9; replace b9 := Lib.hid b9; clear k9 hb) | (refine (hq2.out _).mono ?_; rintro en v9 ⟨rfl, hb⟩; have k9 := Blk.below (Blk.alloc (Blk.drew ka.out) _) hb; have b9 := (hBW2.out _).trans (hb.mono (hBW2.out _).size); have e0 : v9.cell? ⟨w.heap.size, 0, none⟩ = some (.bool false) := k9.cell 0; have e1 : v9.cell? ⟨w.heap.size, 1, none⟩ = some (.string nu) := k9.cell 1; have e2 : v9.cell? ⟨w.heap.size, 2, none⟩ = some (.string de) := k9.cell 2; have kz := Blk.below (Blk.new v8.drew 24 #[.bool false, .string ⟨#[]⟩, .string ⟨#[]⟩]) hb; have z0 : v9.cell? ⟨v8.heap.size, 0, none⟩ = some (.bool false) := kz.cell 0; have z1 : v9.cell? ⟨v8.heap.size, 1, none⟩ = some (.string ⟨#[]⟩) := kz.cell 1; have z2 : v9.cell? ⟨v8.heap.size, 2, none⟩ = some (.string ⟨#[]⟩) := kz.cell 2; have y0 : v9.frozen? ⟨v8.heap.size, 0, none⟩ = false := kz.frozen 0; have y1 : v9.frozen? ⟨v8.heap.size, 1, none⟩ = false := kz.frozen 1; have y2 : v9.frozen? ⟨v8.heap.size, 2, none⟩ = false := kz.frozen 2; clear kz; replace b9 := Lib.hid b9; clear k9 hb)))
    all_goals clear ka hBW hBW2 hq1 hq2
    all_goals go_wp2_with fail
    all_goals go_ret
    · exact ⟨rfl, b9.out.alloc b9.out.size _⟩
    · exact ⟨rfl, ((b9.out.setCell (Nat.le_of_lt hwl) _).setCell (Nat.le_of_lt hwl) _).setCell (Nat.le_of_lt hwl) _⟩
end Go.Proofs.Ytciafmnideihjaa
