/- filigreelaw21.AngleMakes: the walk. -/
import Derived.Test.YtciafmnideihjaaRefG
import Derived.Test.YtciafmnideihjaaRefB
import Derived.Test.YtciafmnideihjaaAngQ
import Derived.Test.YtciafmnideihjaaAwakeA
namespace Go.Proofs.Ytciafmnideihjaa
open Go.RowKit

/-- The program's answer and the document's tell the same. -/
def SameA (s1 s2 : ByteArray) (e : Int) (N D : Nat) : Prop :=
  (e = 0 ∧ s1 = natS N ∧ s2 = natS D ∧ N < 18446744073709551616 ∧ D < 18446744073709551616) ∨ (e ≠ 0 ∧ s1 = ⟨#[]⟩ ∧ s2 = ⟨#[]⟩)

theorem is_same {s1 s2 : ByteArray} {e : Int} {N D : Nat} (h : SameA s1 s2 e N D) (w : World) :
    Calls Try.prog 27 #[.agg #[.bool false, .string s1, .string s2], .int .i64 e, .agg #[.int .u64 (N : Int), .int .u64 (D : Int)], .int .i64 e] w (RetVal (.bool true) w) := by
  rcases h with ⟨rfl, rfl, rfl, h1, h2⟩ | ⟨h0, rfl, rfl⟩
  · exact is_yes N D w h1 h2
  · exact is_no N D e w h0

theorem make_same (num den : Int) : ∃ (s1 s2 : ByteArray) (e : Int) (N D : Nat), makeV num den = .tuple #[.agg #[.bool false, .string s1, .string s2], .int .i64 e] ∧
    rmakeV num den = .tuple #[.agg #[.int .u64 (N : Int), .int .u64 (D : Int)], .int .i64 e] ∧ SameA s1 s2 e N D := by
  unfold makeV rmakeV
  by_cases h : 1 ≤ den ∧ den ≤ 2147483647
  · rw [if_pos h, if_pos h]
    have h1 := Int.emod_lt_of_pos num (show 0 < den by omega)
    have h2 := Int.emod_nonneg num (show den ≠ 0 by omega)
    refine ⟨_, _, 0, _, _, rfl, rfl, Or.inl ⟨rfl, rfl, rfl, ?_, ?_⟩⟩
    · exact Nat.lt_of_le_of_lt (Nat.div_le_self _ _) (by omega)
    · exact Nat.lt_of_le_of_lt (Nat.div_le_self _ _) (by omega)
  · rw [if_neg h, if_neg h]
    exact ⟨_, _, 2, 0, 0, rfl, rfl, Or.inr ⟨by omega, rfl, rfl⟩⟩

theorem told_same (N D : Nat) (hN : N < 18446744073709551616) : ∃ (s1 s2 : ByteArray) (e : Int) (N' D' : Nat), toldV N D = .tuple #[.agg #[.bool false, .string s1, .string s2], .int .i64 e] ∧
    raddV N D = .tuple #[.agg #[.int .u64 (N' : Int), .int .u64 (D' : Int)], .int .i64 e] ∧ SameA s1 s2 e N' D' := by
  unfold toldV raddV
  by_cases h : D ≤ 2147483647
  · rw [if_pos h, if_pos h]
    exact ⟨_, _, 0, _, _, rfl, rfl, Or.inl ⟨rfl, rfl, rfl, hN, by omega⟩⟩
  · rw [if_neg h, if_neg h]
    exact ⟨_, _, 210, 0, 0, rfl, rfl, Or.inr ⟨by omega, rfl, rfl⟩⟩

set_option maxRecDepth 100000 in
set_option maxHeartbeats 2000000 in
theorem angleMakes_any (num den : Int) (n1 : Bool) (a1 d1 : ByteArray) (n2 : Bool) (a2 d2 : ByteArray) (w : World)
    (z1 : a1.size ≤ 9223372036854775807) (y1 : d1.size ≤ 9223372036854775807) (z2 : a2.size ≤ 9223372036854775807) (y2 : d2.size ≤ 9223372036854775807) :
    Calls Try.prog 8 #[.int .i64 num, .int .i64 den, .agg #[.bool n1, .string a1, .string d1], .agg #[.bool n2, .string a2, .string d2]] w (RetVal (.bool true) w) := by
  obtain ⟨s1, s2, e, N, D, hm, hrm, hsame⟩ := make_same num den
  obtain ⟨p1, q1, hs1, hq1⟩ := smallV_form n1 a1 d1
  obtain ⟨p2, q2, hs2, hq2⟩ := smallV_form n2 a2 d2
  have ka := (Blk.new w 24 #[.bool n1, .string a1, .string d1]).alloc (.cells #[.bool n2, .string a2, .string d2] 24)
  have kb := Blk.new (w.alloc (.cells #[.bool n1, .string a1, .string d1] 24)) 24 #[.bool n2, .string a2, .string d2]
  have hBW : Below w.heap.size w ((w.alloc (.cells #[.bool n1, .string a1, .string d1] 24)).alloc (.cells #[.bool n2, .string a2, .string d2] 24)) := ((Below.refl _ w).alloc (Nat.le_refl _) _).alloc (by simp) _
  rw [show (w.alloc (.cells #[.bool n1, .string a1, .string d1] 24)).heap.size = w.heap.size + 1 by simp] at kb
  replace ka := Lib.hid ka
  replace kb := Lib.hid kb
  replace hBW := Lib.hid hBW
  replace hm := Lib.hid hm
  replace hrm := Lib.hid hrm
  replace hsame := Lib.hid hsame
  replace hs1 := Lib.hid hs1
  replace hs2 := Lib.hid hs2
  replace hq1 := Lib.hid hq1
  replace hq2 := Lib.hid hq2
  go_enter Try.func8, Try.ntmps8
  go_wp2_with fail
  refine (make_any num den _).mono ?_
  rintro en v1 ⟨rfl, hb⟩
  rw [hm.out]
  replace ka := (Blk.below ka.out hb).alloc (.cells #[.bool false, .string s1, .string s2] 24)
  replace kb := (Blk.below kb.out hb).alloc (.cells #[.bool false, .string s1, .string s2] 24)
  have kc := Blk.new v1 24 #[.bool false, .string s1, .string s2]
  replace hBW := hBW.out.trans (hb.mono hBW.out.size)
  replace hBW := hBW.alloc hBW.size (.cells #[.bool false, .string s1, .string s2] 24)
  clear hb
  go_upto_region 2 with fail
  generalize hxx : v1.alloc (.cells #[.bool false, .string s1, .string s2] 24) = v2 at ka kb kc hBW ⊢
  generalize hgg : v1.heap.size = g1 at *
  clear hxx hgg
  replace ka := Lib.hid ka
  replace kb := Lib.hid kb
  replace kc := Lib.hid kc
  replace hBW := Lib.hid hBW
  go_wp2_with fail
  refine (rmake_any num den _).mono ?_
  rintro en v3 ⟨rfl, hb⟩
  rw [hrm.out]
  replace ka := (Blk.below ka.out hb).alloc (.cells #[.int .u64 (N : Int), .int .u64 (D : Int)] 34)
  replace kb := (Blk.below kb.out hb).alloc (.cells #[.int .u64 (N : Int), .int .u64 (D : Int)] 34)
  replace kc := (Blk.below kc.out hb).alloc (.cells #[.int .u64 (N : Int), .int .u64 (D : Int)] 34)
  have kd := Blk.new v3 34 #[.int .u64 (N : Int), .int .u64 (D : Int)]
  replace hBW := hBW.out.trans (hb.mono hBW.out.size)
  replace hBW := hBW.alloc hBW.size (.cells #[.int .u64 (N : Int), .int .u64 (D : Int)] 34)
  clear hb
  go_upto_region 3 with fail
  generalize hxx : v3.alloc (.cells #[.int .u64 (N : Int), .int .u64 (D : Int)] 34) = v4 at ka kb kc kd hBW ⊢
  generalize hgg : v3.heap.size = g2 at *
  have c0 : v4.cell? ⟨g1, 0, none⟩ = some (.bool false) := kc.cell 0
  have c1 : v4.cell? ⟨g1, 1, none⟩ = some (.string s1) := kc.cell 1
  have c2 : v4.cell? ⟨g1, 2, none⟩ = some (.string s2) := kc.cell 2
  have e0 : v4.cell? ⟨g2, 0, none⟩ = some (.int .u64 (N : Int)) := kd.cell 0
  have e1 : v4.cell? ⟨g2, 1, none⟩ = some (.int .u64 (D : Int)) := kd.cell 1
  clear hxx hgg kc kd
  replace ka := Lib.hid ka
  replace kb := Lib.hid kb
  replace hBW := Lib.hid hBW
  go_wp2_with fail
  refine (is_same hsame.out _).mono ?_
  rintro en v5 ⟨rfl, hb⟩
  replace ka := Lib.hid (Blk.below ka.out hb)
  replace kb := Lib.hid (Blk.below kb.out hb)
  replace hBW := Lib.hid (hBW.out.trans (hb.mono hBW.out.size))
  clear hb c0 c1 c2 e0 e1
  have c0 : v5.cell? ⟨w.heap.size, 0, none⟩ = some (.bool n1) := ka.out.cell 0
  have c1 : v5.cell? ⟨w.heap.size, 1, none⟩ = some (.string a1) := ka.out.cell 1
  have c2 : v5.cell? ⟨w.heap.size, 2, none⟩ = some (.string d1) := ka.out.cell 2
  go_wp2_with fail
  refine (rof_any n1 a1 d1 _ z1 y1).mono ?_
  rintro en v6 ⟨rfl, hb⟩
  rw [hs1.out]
  replace ka := (Blk.below ka.out hb).alloc (.cells #[.int .u64 (p1 : Int), .int .u64 (q1 : Int)] 34)
  replace kb := (Blk.below kb.out hb).alloc (.cells #[.int .u64 (p1 : Int), .int .u64 (q1 : Int)] 34)
  have kx := Blk.new v6 34 #[.int .u64 (p1 : Int), .int .u64 (q1 : Int)]
  replace hBW := hBW.out.trans (hb.mono hBW.out.size)
  replace hBW := hBW.alloc hBW.size (.cells #[.int .u64 (p1 : Int), .int .u64 (q1 : Int)] 34)
  clear hb c0 c1 c2
  go_upto_region 6 with fail
  generalize hxx : v6.alloc (.cells #[.int .u64 (p1 : Int), .int .u64 (q1 : Int)] 34) = v7 at ka kb kx hBW ⊢
  generalize hgg : v6.heap.size = g3 at *
  have c0 : v7.cell? ⟨w.heap.size + 1, 0, none⟩ = some (.bool n2) := kb.cell 0
  have c1 : v7.cell? ⟨w.heap.size + 1, 1, none⟩ = some (.string a2) := kb.cell 1
  have c2 : v7.cell? ⟨w.heap.size + 1, 2, none⟩ = some (.string d2) := kb.cell 2
  clear hxx hgg
  replace ka := Lib.hid ka
  replace kb := Lib.hid kb
  replace kx := Lib.hid kx
  replace hBW := Lib.hid hBW
  go_wp2_with fail
  refine (rof_any n2 a2 d2 _ z2 y2).mono ?_
  rintro en v8 ⟨rfl, hb⟩
  rw [hs2.out]
  replace ka := (Blk.below ka.out hb).alloc (.cells #[.int .u64 (p2 : Int), .int .u64 (q2 : Int)] 34)
  replace kb := (Blk.below kb.out hb).alloc (.cells #[.int .u64 (p2 : Int), .int .u64 (q2 : Int)] 34)
  replace kx := (Blk.below kx.out hb).alloc (.cells #[.int .u64 (p2 : Int), .int .u64 (q2 : Int)] 34)
  have ky := Blk.new v8 34 #[.int .u64 (p2 : Int), .int .u64 (q2 : Int)]
  replace hBW := hBW.out.trans (hb.mono hBW.out.size)
  replace hBW := hBW.alloc hBW.size (.cells #[.int .u64 (p2 : Int), .int .u64 (q2 : Int)] 34)
  clear hb c0 c1 c2
  go_upto_region 7 with fail
  generalize hxx : v8.alloc (.cells #[.int .u64 (p2 : Int), .int .u64 (q2 : Int)] 34) = v9 at ka kb kx ky hBW ⊢
  generalize hgg : v8.heap.size = g4 at *
  have c0 : v9.cell? ⟨w.heap.size, 0, none⟩ = some (.bool n1) := ka.cell 0
  have c1 : v9.cell? ⟨w.heap.size, 1, none⟩ = some (.string a1) := ka.cell 1
  have c2 : v9.cell? ⟨w.heap.size, 2, none⟩ = some (.string d1) := ka.cell 2
  clear hxx hgg
  replace ka := Lib.hid ka
  replace kb := Lib.hid kb
  replace kx := Lib.hid kx
  replace ky := Lib.hid ky
  replace hBW := Lib.hid hBW
  cases h1 : okA n1 a1 d1
  · have hok : ¬ (okA n1 a1 d1 = true ∧ okA n2 a2 d2 = true) := by rw [h1]; simp
    have hc2 : ∀ W : World, Calls Try.prog 36 #[.agg #[.bool n1, .string a1, .string d1]] W (RetVal (.int .i64 210) W) := fun W => by
      have := check_any n1 a1 d1 W z1 y1
      rw [h1] at this
      exact this
    replace hc2 := Lib.hid hc2
    go_wp2_with fail
    refine (hc2.out _).mono ?_
    rintro en x00 ⟨rfl, hb⟩
    replace ka := Lib.hid (Blk.below ka.out hb)
    replace kb := Lib.hid (Blk.below kb.out hb)
    replace hBW := Lib.hid (hBW.out.trans (hb.mono hBW.out.size))
    clear hb c0 c1 c2
    have c0 : x00.cell? ⟨w.heap.size, 0, none⟩ = some (.bool n1) := ka.out.cell 0
    have c1 : x00.cell? ⟨w.heap.size, 1, none⟩ = some (.string a1) := ka.out.cell 1
    have c2 : x00.cell? ⟨w.heap.size, 2, none⟩ = some (.string d1) := ka.out.cell 2
    go_wp2_with fail
    refine (hc2.out _).mono ?_
    rintro en x0 ⟨rfl, hb⟩
    replace ka := Lib.hid (Blk.below ka.out hb)
    replace kb := Lib.hid (Blk.below kb.out hb)
    replace hBW := Lib.hid (hBW.out.trans (hb.mono hBW.out.size))
    clear hb c0 c1 c2
    have c0 : x0.cell? ⟨w.heap.size, 0, none⟩ = some (.bool n1) := ka.out.cell 0
    have c1 : x0.cell? ⟨w.heap.size, 1, none⟩ = some (.string a1) := ka.out.cell 1
    have c2 : x0.cell? ⟨w.heap.size, 2, none⟩ = some (.string d1) := ka.out.cell 2
    have e0 : x0.cell? ⟨w.heap.size + 1, 0, none⟩ = some (.bool n2) := kb.out.cell 0
    have e1 : x0.cell? ⟨w.heap.size + 1, 1, none⟩ = some (.string a2) := kb.out.cell 1
    have e2 : x0.cell? ⟨w.heap.size + 1, 2, none⟩ = some (.string d2) := kb.out.cell 2
    have hcv : acmpV n1 a1 d1 n2 a2 d2 = .tuple #[.int .i64 0, .int .i64 210] := by
      unfold acmpV
      rw [if_neg (by simpa using hok)]
    have hav : addV n1 a1 d1 n2 a2 d2 = .tuple #[.agg #[.bool false, .string ⟨#[]⟩, .string ⟨#[]⟩], .int .i64 210] := by
      unfold addV
      rw [if_neg (by simpa using hok)]
      rfl
    replace hcv := Lib.hid hcv
    replace hav := Lib.hid hav
    clear hok h1 hc2 hq1 hq2 hs1 hs2 hm hrm kx ky
    go_wp2_with fail
    refine (acmp_any n1 a1 d1 n2 a2 d2 _ z1 y1 z2 y2).mono ?_
    rintro en x1 ⟨rfl, hb⟩
    rw [hcv.out]
    replace ka := Lib.hid (Blk.below ka.out hb)
    replace kb := Lib.hid (Blk.below kb.out hb)
    replace hBW := Lib.hid (hBW.out.trans (hb.mono hBW.out.size))
    clear hb c0 c1 c2 e0 e1 e2
    have c0 : x1.cell? ⟨w.heap.size, 0, none⟩ = some (.bool n1) := ka.out.cell 0
    have c1 : x1.cell? ⟨w.heap.size, 1, none⟩ = some (.string a1) := ka.out.cell 1
    have c2 : x1.cell? ⟨w.heap.size, 2, none⟩ = some (.string d1) := ka.out.cell 2
    have e0 : x1.cell? ⟨w.heap.size + 1, 0, none⟩ = some (.bool n2) := kb.out.cell 0
    have e1 : x1.cell? ⟨w.heap.size + 1, 1, none⟩ = some (.string a2) := kb.out.cell 1
    have e2 : x1.cell? ⟨w.heap.size + 1, 2, none⟩ = some (.string d2) := kb.out.cell 2
    go_wp2_with fail
    refine (add_any n1 a1 d1 n2 a2 d2 _ z1 y1 z2 y2).mono ?_
    rintro en x2 ⟨rfl, hb⟩
    rw [hav.out]
    have ks := Blk.new x2 24 #[.bool false, .string ⟨#[]⟩, .string ⟨#[]⟩]
    replace hBW := hBW.out.trans (hb.mono hBW.out.size)
    replace hBW := hBW.alloc hBW.size (.cells #[.bool false, .string ⟨#[]⟩, .string ⟨#[]⟩] 24)
    clear hb c0 c1 c2 e0 e1 e2 ka kb
    go_upto_region 11 with fail
    generalize hxx : x2.alloc (.cells #[.bool false, .string ⟨#[]⟩, .string ⟨#[]⟩] 24) = x3 at ks hBW ⊢
    generalize hgg : x2.heap.size = g5 at *
    have c0 : x3.cell? ⟨g5, 0, none⟩ = some (.bool false) := ks.cell 0
    have c1 : x3.cell? ⟨g5, 1, none⟩ = some (.string ⟨#[]⟩) := ks.cell 1
    have c2 : x3.cell? ⟨g5, 2, none⟩ = some (.string ⟨#[]⟩) := ks.cell 2
    clear hxx hgg ks
    replace hBW := Lib.hid hBW
    go_wp2_with fail
    refine (awake_any _).mono ?_
    rintro en v9 ⟨rfl, hb⟩
    replace hBW := Lib.hid (hBW.out.trans (hb.mono hBW.out.size))
    clear hb
    go_wp2_with fail
    go_ret
    exact ⟨rfl, hBW.out⟩
  · have hc2 : ∀ W : World, Calls Try.prog 36 #[.agg #[.bool n1, .string a1, .string d1]] W (RetVal (.int .i64 0) W) := fun W => by
      have := check_any n1 a1 d1 W z1 y1
      rw [h1] at this
      exact this
    replace hc2 := Lib.hid hc2
    go_wp2_with fail
    refine (hc2.out _).mono ?_
    rintro en x0 ⟨rfl, hb⟩
    replace ka := Lib.hid (Blk.below ka.out hb)
    replace kb := Lib.hid (Blk.below kb.out hb)
    replace kx := Lib.hid (Blk.below kx.out hb)
    replace ky := Lib.hid (Blk.below ky.out hb)
    replace hBW := Lib.hid (hBW.out.trans (hb.mono hBW.out.size))
    clear hb c0 c1 c2
    have c0 : x0.cell? ⟨w.heap.size, 0, none⟩ = some (.bool n1) := ka.out.cell 0
    have c1 : x0.cell? ⟨w.heap.size, 1, none⟩ = some (.string a1) := ka.out.cell 1
    have c2 : x0.cell? ⟨w.heap.size, 2, none⟩ = some (.string d1) := ka.out.cell 2
    have e0 : x0.cell? ⟨w.heap.size + 1, 0, none⟩ = some (.bool n2) := kb.out.cell 0
    have e1 : x0.cell? ⟨w.heap.size + 1, 1, none⟩ = some (.string a2) := kb.out.cell 1
    have e2 : x0.cell? ⟨w.heap.size + 1, 2, none⟩ = some (.string d2) := kb.out.cell 2
    cases h2 : okA n2 a2 d2
    · have hok : ¬ (okA n1 a1 d1 = true ∧ okA n2 a2 d2 = true) := by rw [h2]; simp
      have hcv : acmpV n1 a1 d1 n2 a2 d2 = .tuple #[.int .i64 0, .int .i64 210] := by
        unfold acmpV
        rw [if_neg (by simpa using hok)]
      have hav : addV n1 a1 d1 n2 a2 d2 = .tuple #[.agg #[.bool false, .string ⟨#[]⟩, .string ⟨#[]⟩], .int .i64 210] := by
        unfold addV
        rw [if_neg (by simpa using hok)]
        rfl
      replace hcv := Lib.hid hcv
      replace hav := Lib.hid hav
      clear hok h1 h2 hc2 hq1 hq2 hs1 hs2 hm hrm kx ky
      go_wp2_with fail
      refine (acmp_any n1 a1 d1 n2 a2 d2 _ z1 y1 z2 y2).mono ?_
      rintro en x1 ⟨rfl, hb⟩
      rw [hcv.out]
      replace ka := Lib.hid (Blk.below ka.out hb)
      replace kb := Lib.hid (Blk.below kb.out hb)
      replace hBW := Lib.hid (hBW.out.trans (hb.mono hBW.out.size))
      clear hb c0 c1 c2 e0 e1 e2
      have c0 : x1.cell? ⟨w.heap.size, 0, none⟩ = some (.bool n1) := ka.out.cell 0
      have c1 : x1.cell? ⟨w.heap.size, 1, none⟩ = some (.string a1) := ka.out.cell 1
      have c2 : x1.cell? ⟨w.heap.size, 2, none⟩ = some (.string d1) := ka.out.cell 2
      have e0 : x1.cell? ⟨w.heap.size + 1, 0, none⟩ = some (.bool n2) := kb.out.cell 0
      have e1 : x1.cell? ⟨w.heap.size + 1, 1, none⟩ = some (.string a2) := kb.out.cell 1
      have e2 : x1.cell? ⟨w.heap.size + 1, 2, none⟩ = some (.string d2) := kb.out.cell 2
      go_wp2_with fail
      refine (add_any n1 a1 d1 n2 a2 d2 _ z1 y1 z2 y2).mono ?_
      rintro en x2 ⟨rfl, hb⟩
      rw [hav.out]
      have ks := Blk.new x2 24 #[.bool false, .string ⟨#[]⟩, .string ⟨#[]⟩]
      replace hBW := hBW.out.trans (hb.mono hBW.out.size)
      replace hBW := hBW.alloc hBW.size (.cells #[.bool false, .string ⟨#[]⟩, .string ⟨#[]⟩] 24)
      clear hb c0 c1 c2 e0 e1 e2 ka kb
      go_upto_region 11 with fail
      generalize hxx : x2.alloc (.cells #[.bool false, .string ⟨#[]⟩, .string ⟨#[]⟩] 24) = x3 at ks hBW ⊢
      generalize hgg : x2.heap.size = g5 at *
      have c0 : x3.cell? ⟨g5, 0, none⟩ = some (.bool false) := ks.cell 0
      have c1 : x3.cell? ⟨g5, 1, none⟩ = some (.string ⟨#[]⟩) := ks.cell 1
      have c2 : x3.cell? ⟨g5, 2, none⟩ = some (.string ⟨#[]⟩) := ks.cell 2
      clear hxx hgg ks
      replace hBW := Lib.hid hBW
      go_wp2_with fail
      refine (awake_any _).mono ?_
      rintro en v9 ⟨rfl, hb⟩
      replace hBW := Lib.hid (hBW.out.trans (hb.mono hBW.out.size))
      clear hb
      go_wp2_with fail
      go_ret
      exact ⟨rfl, hBW.out⟩
    · have o1 := h1
      have o2 := h2
      obtain ⟨ex1, ey1, k1, l1⟩ := hq1.out o1
      obtain ⟨ex2, ey2, k2, l2⟩ := hq2.out o2
      obtain ⟨C, hC⟩ : ∃ C, C = cmpN (p1 * q2) (p2 * q1) := ⟨_, rfl⟩
      have hcv : acmpV n1 a1 d1 n2 a2 d2 = .tuple #[.int .i64 C, .int .i64 0] := by rw [hC, ex1, ey1, ex2, ey2]; simp [acmpV, o1, o2]
      obtain ⟨XX, hXX⟩ : ∃ X, X = addX p1 q1 p2 q2 := ⟨_, rfl⟩
      obtain ⟨N2, hN2⟩ : ∃ N2, N2 = addX p1 q1 p2 q2 / Nat.gcd (addX p1 q1 p2 q2) (q1 * q2) := ⟨_, rfl⟩
      obtain ⟨D2, hD2⟩ : ∃ D2, D2 = q1 * q2 / Nat.gcd (addX p1 q1 p2 q2) (q1 * q2) := ⟨_, rfl⟩
      have hav : addV n1 a1 d1 n2 a2 d2 = toldV N2 D2 := by
        rw [hN2, hD2, ex1, ey1, ex2, ey2]; simp [addV, o1, o2]
      have hN2s : N2 < 18446744073709551616 := by
        have h1 : N2 ≤ addX p1 q1 p2 q2 := by rw [hN2]; exact Nat.div_le_self _ _
        have h2 : addX p1 q1 p2 q2 < q1 * q2 := Nat.mod_lt _ (Nat.mul_pos (by omega) (by omega))
        have h3 : q1 * q2 ≤ 2147483647 * 2147483647 := Nat.mul_le_mul l1 l2
        omega
      obtain ⟨t1, t2, g, N3, D3, ht, hrt, hsm⟩ := told_same N2 D2 hN2s
      rw [ht] at hav
      have hra := fun W : World => radd_any p1 q1 p2 q2 N2 D2 W k1 l1 k2 l2 hN2 hD2
      rw [hrt] at hra
      obtain ⟨X12, H12⟩ : ∃ X, X = p1 * q2 := ⟨_, rfl⟩
      have L12 : X12 < 18446744073709551616 := by rw [H12]; exact Nat.lt_of_le_of_lt (Nat.mul_le_mul (show p1 ≤ 2147483647 by omega) l2) (by omega)
      obtain ⟨X21, H21⟩ : ∃ X, X = p2 * q1 := ⟨_, rfl⟩
      have L21 : X21 < 18446744073709551616 := by rw [H21]; exact Nat.lt_of_le_of_lt (Nat.mul_le_mul (show p2 ≤ 2147483647 by omega) l1) (by omega)
      rw [← H12, ← H21] at hC
      replace hC := Lib.hid hC
      replace hcv := Lib.hid hcv
      replace hav := Lib.hid hav
      replace hra := Lib.hid hra
      replace hsm := Lib.hid hsm
      replace H12 := Lib.hid H12
      replace H21 := Lib.hid H21
      clear h1 h2 o1 o2 hc2 ex1 ey1 ex2 ey2 hXX hN2 hD2 hN2s ht hrt k1 l1 k2 l2 hq1 hq2 hs1 hs2 hm hrm
      go_wp2_with fail
      refine (acmp_any n1 a1 d1 n2 a2 d2 _ z1 y1 z2 y2).mono ?_
      rintro en x1 ⟨rfl, hb⟩
      rw [hcv.out]
      replace ka := Lib.hid (Blk.below ka.out hb)
      replace kb := Lib.hid (Blk.below kb.out hb)
      replace kx := Lib.hid (Blk.below kx.out hb)
      replace ky := Lib.hid (Blk.below ky.out hb)
      replace hBW := Lib.hid (hBW.out.trans (hb.mono hBW.out.size))
      clear hb c0 c1 c2 e0 e1 e2
      have c0 : x1.cell? ⟨w.heap.size, 0, none⟩ = some (.bool n1) := ka.out.cell 0
      have c1 : x1.cell? ⟨w.heap.size, 1, none⟩ = some (.string a1) := ka.out.cell 1
      have c2 : x1.cell? ⟨w.heap.size, 2, none⟩ = some (.string d1) := ka.out.cell 2
      have e0 : x1.cell? ⟨w.heap.size + 1, 0, none⟩ = some (.bool n2) := kb.out.cell 0
      have e1 : x1.cell? ⟨w.heap.size + 1, 1, none⟩ = some (.string a2) := kb.out.cell 1
      have e2 : x1.cell? ⟨w.heap.size + 1, 2, none⟩ = some (.string d2) := kb.out.cell 2
      go_wp2_with fail
      refine (add_any n1 a1 d1 n2 a2 d2 _ z1 y1 z2 y2).mono ?_
      rintro en x2 ⟨rfl, hb⟩
      rw [hav.out]
      replace kx := (Blk.below kx.out hb).alloc (.cells #[.bool false, .string t1, .string t2] 24)
      replace ky := (Blk.below ky.out hb).alloc (.cells #[.bool false, .string t1, .string t2] 24)
      have ks := Blk.new x2 24 #[.bool false, .string t1, .string t2]
      replace hBW := hBW.out.trans (hb.mono hBW.out.size)
      replace hBW := hBW.alloc hBW.size (.cells #[.bool false, .string t1, .string t2] 24)
      clear hb c0 c1 c2 e0 e1 e2 ka kb
      go_upto_region 11 with fail
      generalize hxx : x2.alloc (.cells #[.bool false, .string t1, .string t2] 24) = x3 at kx ky ks hBW ⊢
      generalize hgg : x2.heap.size = g5 at *
      have c0 : x3.cell? ⟨g3, 0, none⟩ = some (.int .u64 (p1 : Int)) := kx.cell 0
      have c1 : x3.cell? ⟨g3, 1, none⟩ = some (.int .u64 (q1 : Int)) := kx.cell 1
      have e0 : x3.cell? ⟨g4, 0, none⟩ = some (.int .u64 (p2 : Int)) := ky.cell 0
      have e1 : x3.cell? ⟨g4, 1, none⟩ = some (.int .u64 (q2 : Int)) := ky.cell 1
      clear hxx hgg
      replace kx := Lib.hid kx
      replace ky := Lib.hid ky
      replace ks := Lib.hid ks
      replace hBW := Lib.hid hBW
      go_wp2_with fail
      refine (hra.out _).mono ?_
      rintro en x4 ⟨rfl, hb⟩
      replace kx := (Blk.below kx.out hb).alloc (.cells #[.int .u64 (N3 : Int), .int .u64 (D3 : Int)] 34)
      replace ky := (Blk.below ky.out hb).alloc (.cells #[.int .u64 (N3 : Int), .int .u64 (D3 : Int)] 34)
      replace ks := (Blk.below ks.out hb).alloc (.cells #[.int .u64 (N3 : Int), .int .u64 (D3 : Int)] 34)
      have kt := Blk.new x4 34 #[.int .u64 (N3 : Int), .int .u64 (D3 : Int)]
      replace hBW := hBW.out.trans (hb.mono hBW.out.size)
      replace hBW := hBW.alloc hBW.size (.cells #[.int .u64 (N3 : Int), .int .u64 (D3 : Int)] 34)
      clear hb c0 c1 e0 e1
      go_upto_region 14 with fail
      generalize hxx : x4.alloc (.cells #[.int .u64 (N3 : Int), .int .u64 (D3 : Int)] 34) = x5 at kx ky ks kt hBW ⊢
      generalize hgg : x4.heap.size = g6 at *
      have c0 : x5.cell? ⟨g3, 0, none⟩ = some (.int .u64 (p1 : Int)) := kx.cell 0
      have c1 : x5.cell? ⟨g3, 1, none⟩ = some (.int .u64 (q1 : Int)) := kx.cell 1
      have e0 : x5.cell? ⟨g4, 0, none⟩ = some (.int .u64 (p2 : Int)) := ky.cell 0
      have e1 : x5.cell? ⟨g4, 1, none⟩ = some (.int .u64 (q2 : Int)) := ky.cell 1
      clear hxx hgg kx ky
      replace ks := Lib.hid ks
      replace kt := Lib.hid kt
      replace hBW := Lib.hid hBW
      go_wp2_with fail
      refine (rcmp_any p1 q1 p2 q2 X12 X21 _ H12 H21 L12 L21).mono ?_
      rintro en x6 ⟨rfl, hb⟩
      rw [← hC.out]
      replace ks := Lib.hid (Blk.below ks.out hb)
      replace kt := Lib.hid (Blk.below kt.out hb)
      replace hBW := Lib.hid (hBW.out.trans (hb.mono hBW.out.size))
      clear hb c0 c1 e0 e1
      have c0 : x6.cell? ⟨g5, 0, none⟩ = some (.bool false) := ks.out.cell 0
      have c1 : x6.cell? ⟨g5, 1, none⟩ = some (.string t1) := ks.out.cell 1
      have c2 : x6.cell? ⟨g5, 2, none⟩ = some (.string t2) := ks.out.cell 2
      have e0 : x6.cell? ⟨g6, 0, none⟩ = some (.int .u64 (N3 : Int)) := kt.out.cell 0
      have e1 : x6.cell? ⟨g6, 1, none⟩ = some (.int .u64 (D3 : Int)) := kt.out.cell 1
      go_wp2_with fail
      refine (is_same hsm.out _).mono ?_
      rintro en x7 ⟨rfl, hb⟩
      replace hBW := Lib.hid (hBW.out.trans (hb.mono hBW.out.size))
      clear hb c0 c1 c2 e0 e1 ks kt
      go_wp2_with fail
      refine (awake_any _).mono ?_
      rintro en x8 ⟨rfl, hb⟩
      replace hBW := Lib.hid (hBW.out.trans (hb.mono hBW.out.size))
      clear hb
      go_wp2_with fail
      go_ret
      exact ⟨rfl, hBW.out⟩
end Go.Proofs.Ytciafmnideihjaa
