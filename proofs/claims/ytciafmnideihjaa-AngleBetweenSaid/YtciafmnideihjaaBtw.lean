/- filigreelaw21.AngleBetween: the walk. -/
import Derived.Test.YtciafmnideihjaaRefC
import Derived.Test.YtciafmnideihjaaAwakeA
import Derived.Deep.CutBlock
namespace Go.Proofs.Ytciafmnideihjaa
open Go.RowKit

set_option maxRecDepth 100000 in
set_option maxHeartbeats 2000000 in
theorem angleBetween_any (n1 : Bool) (a1 d1 : ByteArray) (n2 : Bool) (a2 d2 : ByteArray) (n3 : Bool) (a3 d3 : ByteArray) (w : World)
    (z1 : a1.size ≤ 9223372036854775807) (y1 : d1.size ≤ 9223372036854775807) (z2 : a2.size ≤ 9223372036854775807) (y2 : d2.size ≤ 9223372036854775807)
    (z3 : a3.size ≤ 9223372036854775807) (y3 : d3.size ≤ 9223372036854775807) :
    Calls Try.prog 7 #[.agg #[.bool n1, .string a1, .string d1], .agg #[.bool n2, .string a2, .string d2], .agg #[.bool n3, .string a3, .string d3]] w (RetVal (.bool true) w) := by
  obtain ⟨got, e, hv1, he1, hn1⟩ := betweenV_form n1 a1 d1 n2 a2 d2 n3 a3 d3
  obtain ⟨p1, q1, hs1, hq1⟩ := smallV_form n1 a1 d1
  obtain ⟨p2, q2, hs2, hq2⟩ := smallV_form n2 a2 d2
  obtain ⟨p3, q3, hs3, hq3⟩ := smallV_form n3 a3 d3
  obtain ⟨w1, hw1⟩ : ∃ w1, w1 = w.alloc (.cells #[.bool n1, .string a1, .string d1] 24) := ⟨_, rfl⟩
  obtain ⟨w2, hw2⟩ : ∃ w2, w2 = w1.alloc (.cells #[.bool n2, .string a2, .string d2] 24) := ⟨_, rfl⟩
  obtain ⟨w3, hw3⟩ : ∃ w3, w3 = w2.alloc (.cells #[.bool n3, .string a3, .string d3] 24) := ⟨_, rfl⟩
  have s1 : w1.heap.size = w.heap.size + 1 := by rw [hw1]; simp
  have s2 : w2.heap.size = w.heap.size + 2 := by rw [hw2]; simp; omega
  have ka : Blk w3 w.heap.size 24 #[.bool n1, .string a1, .string d1] := by
    rw [hw3, hw2, hw1]; exact ((Blk.new w _ _).alloc _).alloc _
  have kb : Blk w3 (w.heap.size + 1) 24 #[.bool n2, .string a2, .string d2] := by
    rw [← s1, hw3, hw2]; exact (Blk.new w1 _ _).alloc _
  have kc : Blk w3 (w.heap.size + 2) 24 #[.bool n3, .string a3, .string d3] := by
    rw [← s2, hw3]; exact Blk.new w2 _ _
  have hBW : Below w.heap.size w w3 := by
    rw [hw3, hw2, hw1]
    exact (((Below.refl _ w).alloc (Nat.le_refl _) _).alloc (by simp) _).alloc (by simp; omega) _
  have hww : w3 = ((w.alloc (.cells #[.bool n1, .string a1, .string d1] 24)).alloc (.cells #[.bool n2, .string a2, .string d2] 24)).alloc (.cells #[.bool n3, .string a3, .string d3] 24) := by
    rw [hw3, hw2, hw1]
  replace ka := Lib.hid ka
  replace kb := Lib.hid kb
  replace kc := Lib.hid kc
  replace hBW := Lib.hid hBW
  replace hv1 := Lib.hid hv1
  replace he1 := Lib.hid he1
  replace hn1 := Lib.hid hn1
  replace hs1 := Lib.hid hs1
  replace hs2 := Lib.hid hs2
  replace hs3 := Lib.hid hs3
  replace hq1 := Lib.hid hq1
  replace hq2 := Lib.hid hq2
  replace hq3 := Lib.hid hq3
  replace hww := Lib.hid hww
  clear hw1 hw2 hw3 s1 s2
  go_enter Try.func7, Try.ntmps7
  go_wp2_with fail
  rw [← hww.out]
  refine (between_any n1 a1 d1 n2 a2 d2 n3 a3 d3 _ z1 y1 z2 y2 z3 y3).mono ?_
  rintro en v1 ⟨rfl, hb⟩
  rw [hv1.out]
  replace ka := Lib.hid (Blk.below ka.out hb)
  replace kb := Lib.hid (Blk.below kb.out hb)
  replace kc := Lib.hid (Blk.below kc.out hb)
  replace hBW := Lib.hid (hBW.out.trans (hb.mono hBW.out.size))
  clear hb hww
  have c0 : v1.cell? ⟨w.heap.size, 0, none⟩ = some (.bool n1) := ka.out.cell 0
  have c1 : v1.cell? ⟨w.heap.size, 1, none⟩ = some (.string a1) := ka.out.cell 1
  have c2 : v1.cell? ⟨w.heap.size, 2, none⟩ = some (.string d1) := ka.out.cell 2
  go_wp2_with fail
  refine (rof_any n1 a1 d1 _ z1 y1).mono ?_
  rintro en v2 ⟨rfl, hb⟩
  rw [hs1.out]
  replace kb := (Blk.below kb.out hb).alloc (.cells #[.int .u64 (p1 : Int), .int .u64 (q1 : Int)] 34)
  replace kc := (Blk.below kc.out hb).alloc (.cells #[.int .u64 (p1 : Int), .int .u64 (q1 : Int)] 34)
  have kx := Blk.new v2 34 #[.int .u64 (p1 : Int), .int .u64 (q1 : Int)]
  replace hBW := hBW.out.trans (hb.mono hBW.out.size)
  replace hBW := hBW.alloc hBW.size (.cells #[.int .u64 (p1 : Int), .int .u64 (q1 : Int)] 34)
  clear hb ka c0 c1 c2
  go_upto_region 3 with fail
  generalize hxx : v2.alloc (.cells #[.int .u64 (p1 : Int), .int .u64 (q1 : Int)] 34) = v3 at kb kc kx hBW ⊢
  generalize hgg : v2.heap.size = g1 at *
  have c0 : v3.cell? ⟨w.heap.size + 1, 0, none⟩ = some (.bool n2) := kb.cell 0
  have c1 : v3.cell? ⟨w.heap.size + 1, 1, none⟩ = some (.string a2) := kb.cell 1
  have c2 : v3.cell? ⟨w.heap.size + 1, 2, none⟩ = some (.string d2) := kb.cell 2
  clear hxx hgg kb
  replace kc := Lib.hid kc
  replace kx := Lib.hid kx
  replace hBW := Lib.hid hBW
  go_wp2_with fail
  refine (rof_any n2 a2 d2 _ z2 y2).mono ?_
  rintro en v4 ⟨rfl, hb⟩
  rw [hs2.out]
  replace kc := (Blk.below kc.out hb).alloc (.cells #[.int .u64 (p2 : Int), .int .u64 (q2 : Int)] 34)
  replace kx := (Blk.below kx.out hb).alloc (.cells #[.int .u64 (p2 : Int), .int .u64 (q2 : Int)] 34)
  have ky := Blk.new v4 34 #[.int .u64 (p2 : Int), .int .u64 (q2 : Int)]
  replace hBW := hBW.out.trans (hb.mono hBW.out.size)
  replace hBW := hBW.alloc hBW.size (.cells #[.int .u64 (p2 : Int), .int .u64 (q2 : Int)] 34)
  clear hb c0 c1 c2
  go_upto_region 4 with fail
  generalize hxx : v4.alloc (.cells #[.int .u64 (p2 : Int), .int .u64 (q2 : Int)] 34) = v5 at kc kx ky hBW ⊢
  generalize hgg : v4.heap.size = g2 at *
  have c0 : v5.cell? ⟨w.heap.size + 2, 0, none⟩ = some (.bool n3) := kc.cell 0
  have c1 : v5.cell? ⟨w.heap.size + 2, 1, none⟩ = some (.string a3) := kc.cell 1
  have c2 : v5.cell? ⟨w.heap.size + 2, 2, none⟩ = some (.string d3) := kc.cell 2
  clear hxx hgg kc
  replace kx := Lib.hid kx
  replace ky := Lib.hid ky
  replace hBW := Lib.hid hBW
  go_wp2_with fail
  refine (rof_any n3 a3 d3 _ z3 y3).mono ?_
  rintro en v6 ⟨rfl, hb⟩
  rw [hs3.out]
  replace kx := (Blk.below kx.out hb).alloc (.cells #[.int .u64 (p3 : Int), .int .u64 (q3 : Int)] 34)
  replace ky := (Blk.below ky.out hb).alloc (.cells #[.int .u64 (p3 : Int), .int .u64 (q3 : Int)] 34)
  have kz := Blk.new v6 34 #[.int .u64 (p3 : Int), .int .u64 (q3 : Int)]
  replace hBW := hBW.out.trans (hb.mono hBW.out.size)
  replace hBW := hBW.alloc hBW.size (.cells #[.int .u64 (p3 : Int), .int .u64 (q3 : Int)] 34)
  clear hb c0 c1 c2
  go_upto_region 5 with fail
  generalize hxx : v6.alloc (.cells #[.int .u64 (p3 : Int), .int .u64 (q3 : Int)] 34) = v7 at kx ky kz hBW ⊢
  generalize hgg : v6.heap.size = g3 at *
  have cx0 : v7.cell? ⟨g1, 0, none⟩ = some (.int .u64 (p1 : Int)) := kx.cell 0
  have cx1 : v7.cell? ⟨g1, 1, none⟩ = some (.int .u64 (q1 : Int)) := kx.cell 1
  have cy0 : v7.cell? ⟨g2, 0, none⟩ = some (.int .u64 (p2 : Int)) := ky.cell 0
  have cy1 : v7.cell? ⟨g2, 1, none⟩ = some (.int .u64 (q2 : Int)) := ky.cell 1
  have cz0 : v7.cell? ⟨g3, 0, none⟩ = some (.int .u64 (p3 : Int)) := kz.cell 0
  have cz1 : v7.cell? ⟨g3, 1, none⟩ = some (.int .u64 (q3 : Int)) := kz.cell 1
  clear hxx hgg kx ky kz
  replace hBW := Lib.hid hBW
  by_cases hok : okA n1 a1 d1 = true ∧ okA n2 a2 d2 = true ∧ okA n3 a3 d3 = true
  · obtain ⟨ok1, ok2, ok3⟩ := hok
    obtain ⟨ee, eg⟩ := he1.out ok1 ok2 ok3
    subst ee
    obtain ⟨ex1, ey1, k1, l1⟩ := hq1.out ok1
    obtain ⟨ex2, ey2, k2, l2⟩ := hq2.out ok2
    obtain ⟨ex3, ey3, k3, l3⟩ := hq3.out ok3
    have e13 := okA_cross ok1 ok3
    have e12 := okA_cross ok1 ok2
    rw [← ex1, ← ey1, ← ex3, ← ey3] at e13
    rw [← ex1, ← ey1, ← ex2, ← ey2] at e12
    rw [← ex1, ← ey1, ← ex2, ← ey2, ← ex3, ← ey3] at eg
    have b1 : p1 ≤ 2147483647 := by omega
    have b2 : p2 ≤ 2147483647 := by omega
    have b3 : p3 ≤ 2147483647 := by omega
    have hc := fun W : World => rbetween_any p1 q1 p2 q2 p3 q3 W b1 l1 b2 l2 b3 l3 e13 e12
    rw [← eg] at hc
    replace hc := Lib.hid hc
    have o1 := ok1
    have o2 := ok2
    have o3 := ok3
    clear ex1 ey1 ex2 ey2 ex3 ey3 e13 e12 k1 k2 k3 l1 l2 l3 b1 b2 b3 eg hq1 hq2 hq3 he1 hn1 ok1 ok2 ok3
    go_wp2_with fail
    refine (hc.out _).mono ?_
    rintro en v8 ⟨rfl, hb⟩
    replace hBW := Lib.hid (hBW.out.trans (hb.mono hBW.out.size))
    clear hb cx0 cx1 cy0 cy1 cz0 cz1
    go_wp2_with fail
    refine (awake_any _).mono ?_
    rintro en v9 ⟨rfl, hb⟩
    replace hBW := Lib.hid (hBW.out.trans (hb.mono hBW.out.size))
    clear hb
    go_wp2_with fail
    go_ret
    exact ⟨rfl, hBW.out⟩
  · obtain ⟨ee, eg⟩ := hn1.out hok
    subst ee eg
    have hs : okA n1 a1 d1 = false ∨ okA n1 a1 d1 = true ∧ okA n2 a2 d2 = false ∨ okA n1 a1 d1 = true ∧ okA n2 a2 d2 = true ∧ okA n3 a3 d3 = false := by
      cases h1 : okA n1 a1 d1
      · exact Or.inl rfl
      · cases h2 : okA n2 a2 d2
        · exact Or.inr (Or.inl ⟨rfl, rfl⟩)
        · cases h3 : okA n3 a3 d3
          · exact Or.inr (Or.inr ⟨rfl, rfl, rfl⟩)
          · exact absurd ⟨h1, h2, h3⟩ hok
    clear hok hq1 hq2 hq3 he1 hn1 hs1 hs2 hs3 hv1
    rcases hs with o1 | ⟨o1, o2⟩ | ⟨o1, o2, o3⟩
    all_goals
      go_wp2_with fail
      refine (awake_any _).mono ?_
      rintro en v9 ⟨rfl, hb⟩
      replace hBW := Lib.hid (hBW.out.trans (hb.mono hBW.out.size))
      clear hb
      go_wp2_with fail
      go_ret
      exact ⟨rfl, hBW.out⟩
end Go.Proofs.Ytciafmnideihjaa
