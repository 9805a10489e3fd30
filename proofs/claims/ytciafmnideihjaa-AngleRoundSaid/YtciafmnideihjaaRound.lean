/- filigreelaw21.AngleRound: the walk. -/
import Derived.Test.YtciafmnideihjaaRnd
import Derived.Test.YtciafmnideihjaaAwakeA
import Derived.Deep.CutRange
import Derived.Deep.CutBlock
namespace Go.Proofs.Ytciafmnideihjaa
open Go.RowKit

theorem ba_eq {a b : ByteArray} (h : a.toList = b.toList) : a = b := by
  rw [ByteArray.toList_eq, ByteArray.toList_eq] at h
  cases a; cases b
  simp at h ⊢
  exact h

set_option maxRecDepth 100000 in
set_option maxHeartbeats 2000000 in
theorem angleRound_any (n1 : Bool) (a1 d1 : ByteArray) (n2 : Bool) (a2 d2 : ByteArray) (n3 : Bool) (a3 d3 : ByteArray) (n4 : Bool) (a4 d4 : ByteArray) (w : World)
    (z1 : a1.size ≤ 9223372036854775807) (y1 : d1.size ≤ 9223372036854775807) (z2 : a2.size ≤ 9223372036854775807) (y2 : d2.size ≤ 9223372036854775807)
    (z3 : a3.size ≤ 9223372036854775807) (y3 : d3.size ≤ 9223372036854775807) (z4 : a4.size ≤ 9223372036854775807) (y4 : d4.size ≤ 9223372036854775807) :
    Calls Try.prog 9 #[.agg #[.bool n1, .string a1, .string d1], .agg #[.bool n2, .string a2, .string d2], .agg #[.bool n3, .string a3, .string d3], .agg #[.bool n4, .string a4, .string d4]] w (RetVal (.bool true) w) := by
  obtain ⟨one, e, hv1, he1, hn1⟩ := betweenV_form n1 a1 d1 n2 a2 d2 n3 a3 d3
  obtain ⟨two, f, hv2, he2, hn2⟩ := betweenV_form n3 a3 d3 n2 a2 d2 n1 a1 d1
  obtain ⟨w1, hw1⟩ : ∃ w1, w1 = w.alloc (.cells #[.bool n1, .string a1, .string d1] 24) := ⟨_, rfl⟩
  obtain ⟨w2, hw2⟩ : ∃ w2, w2 = w1.alloc (.cells #[.bool n2, .string a2, .string d2] 24) := ⟨_, rfl⟩
  obtain ⟨w3, hw3⟩ : ∃ w3, w3 = w2.alloc (.cells #[.bool n3, .string a3, .string d3] 24) := ⟨_, rfl⟩
  obtain ⟨w4, hw4⟩ : ∃ w4, w4 = w3.alloc (.cells #[.bool n4, .string a4, .string d4] 24) := ⟨_, rfl⟩
  have s1 : w1.heap.size = w.heap.size + 1 := by rw [hw1]; simp
  have s2 : w2.heap.size = w.heap.size + 2 := by rw [hw2]; simp; omega
  have s3 : w3.heap.size = w.heap.size + 3 := by rw [hw3]; simp; omega
  have ka : Blk w4 w.heap.size 24 #[.bool n1, .string a1, .string d1] := by
    rw [hw4, hw3, hw2, hw1]; exact (((Blk.new w _ _).alloc _).alloc _).alloc _
  have kb : Blk w4 (w.heap.size + 1) 24 #[.bool n2, .string a2, .string d2] := by
    rw [← s1, hw4, hw3, hw2]; exact ((Blk.new w1 _ _).alloc _).alloc _
  have kc : Blk w4 (w.heap.size + 2) 24 #[.bool n3, .string a3, .string d3] := by
    rw [← s2, hw4, hw3]; exact (Blk.new w2 _ _).alloc _
  have kd : Blk w4 (w.heap.size + 3) 24 #[.bool n4, .string a4, .string d4] := by
    rw [← s3, hw4]; exact Blk.new w3 _ _
  have hBW : Below w.heap.size w w4 := by
    rw [hw4, hw3, hw2, hw1]
    exact ((((Below.refl _ w).alloc (Nat.le_refl _) _).alloc (by simp) _).alloc (by simp; omega) _).alloc (by simp; omega) _
  have hz : w4.heap.size = w.heap.size + 4 := by rw [hw4]; simp; omega
  have hww : w4 = (((w.alloc (.cells #[.bool n1, .string a1, .string d1] 24)).alloc (.cells #[.bool n2, .string a2, .string d2] 24)).alloc (.cells #[.bool n3, .string a3, .string d3] 24)).alloc (.cells #[.bool n4, .string a4, .string d4] 24) := by
    rw [hw4, hw3, hw2, hw1]
  replace ka := Lib.hid ka
  replace kb := Lib.hid kb
  replace kc := Lib.hid kc
  replace kd := Lib.hid kd
  replace hBW := Lib.hid hBW
  replace hv1 := Lib.hid hv1
  replace hv2 := Lib.hid hv2
  replace he1 := Lib.hid he1
  replace he2 := Lib.hid he2
  replace hn1 := Lib.hid hn1
  replace hn2 := Lib.hid hn2
  replace hww := Lib.hid hww
  clear hw1 hw2 hw3 hw4 s1 s2 s3 hz
  go_enter Try.func9, Try.ntmps9
  go_wp2_with fail
  rw [← hww.out]
  refine (awake_any _).mono ?_
  rintro en v1 ⟨rfl, hb⟩
  replace ka := Lib.hid (Blk.below ka.out hb)
  replace kb := Lib.hid (Blk.below kb.out hb)
  replace kc := Lib.hid (Blk.below kc.out hb)
  replace kd := Lib.hid (Blk.below kd.out hb)
  replace hBW := Lib.hid (hBW.out.trans (hb.mono hBW.out.size))
  clear hb hww
  have c10 : v1.cell? ⟨w.heap.size, 0, none⟩ = some (.bool n1) := ka.out.cell 0
  have c11 : v1.cell? ⟨w.heap.size, 1, none⟩ = some (.string a1) := ka.out.cell 1
  have c12 : v1.cell? ⟨w.heap.size, 2, none⟩ = some (.string d1) := ka.out.cell 2
  have c20 : v1.cell? ⟨w.heap.size + 1, 0, none⟩ = some (.bool n2) := kb.out.cell 0
  have c21 : v1.cell? ⟨w.heap.size + 1, 1, none⟩ = some (.string a2) := kb.out.cell 1
  have c22 : v1.cell? ⟨w.heap.size + 1, 2, none⟩ = some (.string d2) := kb.out.cell 2
  have c30 : v1.cell? ⟨w.heap.size + 2, 0, none⟩ = some (.bool n3) := kc.out.cell 0
  have c31 : v1.cell? ⟨w.heap.size + 2, 1, none⟩ = some (.string a3) := kc.out.cell 1
  have c32 : v1.cell? ⟨w.heap.size + 2, 2, none⟩ = some (.string d3) := kc.out.cell 2
  go_wp2_with fail
  refine (between_any n1 a1 d1 n2 a2 d2 n3 a3 d3 _ z1 y1 z2 y2 z3 y3).mono ?_
  rintro en v2 ⟨rfl, hb⟩
  rw [hv1.out]
  replace ka := Lib.hid (Blk.below ka.out hb)
  replace kb := Lib.hid (Blk.below kb.out hb)
  replace kc := Lib.hid (Blk.below kc.out hb)
  replace kd := Lib.hid (Blk.below kd.out hb)
  replace hBW := Lib.hid (hBW.out.trans (hb.mono hBW.out.size))
  clear hb c10 c11 c12 c20 c21 c22 c30 c31 c32
  have c10 : v2.cell? ⟨w.heap.size, 0, none⟩ = some (.bool n1) := ka.out.cell 0
  have c11 : v2.cell? ⟨w.heap.size, 1, none⟩ = some (.string a1) := ka.out.cell 1
  have c12 : v2.cell? ⟨w.heap.size, 2, none⟩ = some (.string d1) := ka.out.cell 2
  have c20 : v2.cell? ⟨w.heap.size + 1, 0, none⟩ = some (.bool n2) := kb.out.cell 0
  have c21 : v2.cell? ⟨w.heap.size + 1, 1, none⟩ = some (.string a2) := kb.out.cell 1
  have c22 : v2.cell? ⟨w.heap.size + 1, 2, none⟩ = some (.string d2) := kb.out.cell 2
  have c30 : v2.cell? ⟨w.heap.size + 2, 0, none⟩ = some (.bool n3) := kc.out.cell 0
  have c31 : v2.cell? ⟨w.heap.size + 2, 1, none⟩ = some (.string a3) := kc.out.cell 1
  have c32 : v2.cell? ⟨w.heap.size + 2, 2, none⟩ = some (.string d3) := kc.out.cell 2
  go_wp2_with fail
  refine (between_any n3 a3 d3 n2 a2 d2 n1 a1 d1 _ z3 y3 z2 y2 z1 y1).mono ?_
  rintro en v3 ⟨rfl, hb⟩
  rw [hv2.out]
  replace ka := Lib.hid (Blk.below ka.out hb)
  replace kb := Lib.hid (Blk.below kb.out hb)
  replace kc := Lib.hid (Blk.below kc.out hb)
  replace kd := Lib.hid (Blk.below kd.out hb)
  replace hBW := Lib.hid (hBW.out.trans (hb.mono hBW.out.size))
  clear hb c10 c11 c12 c20 c21 c22 c30 c31 c32
  by_cases hok : okA n1 a1 d1 = true ∧ okA n2 a2 d2 = true ∧ okA n3 a3 d3 = true
  rotate_left
  · obtain ⟨ee, -⟩ := hn1.out hok
    obtain ⟨ff, -⟩ := hn2.out (fun h => hok ⟨h.2.2, h.2.1, h.1⟩)
    subst ee ff
    clear hok
    go_wp2_with fail
    go_ret
    exact ⟨rfl, hBW.out⟩
  obtain ⟨ok1, ok2, ok3⟩ := hok
  obtain ⟨ee, eo⟩ := he1.out ok1 ok2 ok3
  obtain ⟨ff, et⟩ := he2.out ok3 ok2 ok1
  subst ee ff
  have u : ¬ (a1.toList = a2.toList ∧ d1.toList = d2.toList) → ¬ (a2.toList = a3.toList ∧ d2.toList = d3.toList) → ¬ (a1.toList = a3.toList ∧ d1.toList = d3.toList) → (one == two) = false := fun h1 h2 h3 => by
    have : one ≠ two := by
      rw [eo, et]
      exact round_one ok1 ok2 ok3 (fun h => h1 ⟨by rw [h.2.1], by rw [h.2.2]⟩) (fun h => h2 ⟨by rw [h.2.1], by rw [h.2.2]⟩) (fun h => h3 ⟨by rw [h.2.1], by rw [h.2.2]⟩)
    simpa using this
  obtain ⟨rfl, -⟩ := okA_spec ok1
  obtain ⟨rfl, -⟩ := okA_spec ok2
  obtain ⟨rfl, -⟩ := okA_spec ok3
  obtain ⟨s1, t1, g1, ha1, j1, l1, q1⟩ := addV_form false a1 d1 n4 a4 d4
  obtain ⟨s2, t2, g2, ha2, j2, l2, q2⟩ := addV_form false a2 d2 n4 a4 d4
  obtain ⟨s3, t3, g3, ha3, j3, l3, q3⟩ := addV_form false a3 d3 n4 a4 d4
  replace ha1 := Lib.hid ha1
  replace ha2 := Lib.hid ha2
  replace ha3 := Lib.hid ha3
  replace q1 := Lib.hid q1
  replace q2 := Lib.hid q2
  replace q3 := Lib.hid q3
  replace ok1 := Lib.hid ok1
  replace ok2 := Lib.hid ok2
  replace ok3 := Lib.hid ok3
  replace eo := Lib.hid eo
  replace u := Lib.hid u
  clear hv1 hv2 he1 he2 hn1 hn2 et
  have c10 : v3.cell? ⟨w.heap.size, 0, none⟩ = some (.bool false) := ka.out.cell 0
  have c11 : v3.cell? ⟨w.heap.size, 1, none⟩ = some (.string a1) := ka.out.cell 1
  have c12 : v3.cell? ⟨w.heap.size, 2, none⟩ = some (.string d1) := ka.out.cell 2
  have c20 : v3.cell? ⟨w.heap.size + 1, 0, none⟩ = some (.bool false) := kb.out.cell 0
  have c21 : v3.cell? ⟨w.heap.size + 1, 1, none⟩ = some (.string a2) := kb.out.cell 1
  have c22 : v3.cell? ⟨w.heap.size + 1, 2, none⟩ = some (.string d2) := kb.out.cell 2
  have c30 : v3.cell? ⟨w.heap.size + 2, 0, none⟩ = some (.bool false) := kc.out.cell 0
  have c31 : v3.cell? ⟨w.heap.size + 2, 1, none⟩ = some (.string a3) := kc.out.cell 1
  have c32 : v3.cell? ⟨w.heap.size + 2, 2, none⟩ = some (.string d3) := kc.out.cell 2
  go_upto_region 7 with fail
  go_cut [60] from 43 to 60 (fun c wx => c = .bool false ∧ wx = v3)
  case first =>
    go_wp2_with fail
    all_goals
      go_meet
      case rel => first | exact ⟨rfl, rfl⟩ | exact ⟨congrArg Value.bool (u.out (by rintro ⟨_, _⟩; first | contradiction | (simp_all; done)) (by rintro ⟨_, _⟩; first | contradiction | (simp_all; done)) (by rintro ⟨_, _⟩; first | contradiction | (simp_all; done))), rfl⟩
  case rest =>
    obtain ⟨rfl, rfl⟩ := hcut
    clear c20 c21 c22 c30 c31 c32 u
    have c40 : wc.cell? ⟨w.heap.size + 3, 0, none⟩ = some (.bool n4) := kd.out.cell 0
    have c41 : wc.cell? ⟨w.heap.size + 3, 1, none⟩ = some (.string a4) := kd.out.cell 1
    have c42 : wc.cell? ⟨w.heap.size + 3, 2, none⟩ = some (.string d4) := kd.out.cell 2
    go_wp2_with fail
    refine (add_any false a1 d1 n4 a4 d4 _ z1 y1 z4 y4).mono ?_
    rintro en x1 ⟨rfl, hb⟩
    rw [ha1.out]
    replace kb := (Blk.below kb.out hb).alloc (.cells #[.bool false, .string s1, .string t1] 24)
    replace kc := (Blk.below kc.out hb).alloc (.cells #[.bool false, .string s1, .string t1] 24)
    replace kd := (Blk.below kd.out hb).alloc (.cells #[.bool false, .string s1, .string t1] 24)
    have ke := Blk.new x1 24 #[.bool false, .string s1, .string t1]
    replace hBW := hBW.out.trans (hb.mono hBW.out.size)
    replace hBW := hBW.alloc hBW.size (.cells #[.bool false, .string s1, .string t1] 24)
    clear hb ka c10 c11 c12 c40 c41 c42
    go_upto_region 10 with fail
    generalize hxx : x1.alloc (.cells #[.bool false, .string s1, .string t1] 24) = x2 at kb kc kd ke hBW ⊢
    generalize hgg : x1.heap.size = e1 at *
    have c20 : x2.cell? ⟨w.heap.size + 1, 0, none⟩ = some (.bool false) := kb.cell 0
    have c21 : x2.cell? ⟨w.heap.size + 1, 1, none⟩ = some (.string a2) := kb.cell 1
    have c22 : x2.cell? ⟨w.heap.size + 1, 2, none⟩ = some (.string d2) := kb.cell 2
    have c40 : x2.cell? ⟨w.heap.size + 3, 0, none⟩ = some (.bool n4) := kd.cell 0
    have c41 : x2.cell? ⟨w.heap.size + 3, 1, none⟩ = some (.string a4) := kd.cell 1
    have c42 : x2.cell? ⟨w.heap.size + 3, 2, none⟩ = some (.string d4) := kd.cell 2
    clear hxx hgg kb
    replace kc := Lib.hid kc
    replace kd := Lib.hid kd
    replace ke := Lib.hid ke
    replace hBW := Lib.hid hBW
    go_wp2_with fail
    refine (add_any false a2 d2 n4 a4 d4 _ z2 y2 z4 y4).mono ?_
    rintro en x3 ⟨rfl, hb⟩
    rw [ha2.out]
    replace kc := (Blk.below kc.out hb).alloc (.cells #[.bool false, .string s2, .string t2] 24)
    replace kd := (Blk.below kd.out hb).alloc (.cells #[.bool false, .string s2, .string t2] 24)
    replace ke := (Blk.below ke.out hb).alloc (.cells #[.bool false, .string s2, .string t2] 24)
    have kf := Blk.new x3 24 #[.bool false, .string s2, .string t2]
    replace hBW := hBW.out.trans (hb.mono hBW.out.size)
    replace hBW := hBW.alloc hBW.size (.cells #[.bool false, .string s2, .string t2] 24)
    clear hb c20 c21 c22 c40 c41 c42
    go_upto_region 11 with fail
    generalize hxx : x3.alloc (.cells #[.bool false, .string s2, .string t2] 24) = x4 at kc kd ke kf hBW ⊢
    generalize hgg : x3.heap.size = e2 at *
    have c30 : x4.cell? ⟨w.heap.size + 2, 0, none⟩ = some (.bool false) := kc.cell 0
    have c31 : x4.cell? ⟨w.heap.size + 2, 1, none⟩ = some (.string a3) := kc.cell 1
    have c32 : x4.cell? ⟨w.heap.size + 2, 2, none⟩ = some (.string d3) := kc.cell 2
    have c40 : x4.cell? ⟨w.heap.size + 3, 0, none⟩ = some (.bool n4) := kd.cell 0
    have c41 : x4.cell? ⟨w.heap.size + 3, 1, none⟩ = some (.string a4) := kd.cell 1
    have c42 : x4.cell? ⟨w.heap.size + 3, 2, none⟩ = some (.string d4) := kd.cell 2
    clear hxx hgg kc kd
    replace ke := Lib.hid ke
    replace kf := Lib.hid kf
    replace hBW := Lib.hid hBW
    go_wp2_with fail
    refine (add_any false a3 d3 n4 a4 d4 _ z3 y3 z4 y4).mono ?_
    rintro en x5 ⟨rfl, hb⟩
    rw [ha3.out]
    replace ke := (Blk.below ke.out hb).alloc (.cells #[.bool false, .string s3, .string t3] 24)
    replace kf := (Blk.below kf.out hb).alloc (.cells #[.bool false, .string s3, .string t3] 24)
    have kg := Blk.new x5 24 #[.bool false, .string s3, .string t3]
    replace hBW := hBW.out.trans (hb.mono hBW.out.size)
    replace hBW := hBW.alloc hBW.size (.cells #[.bool false, .string s3, .string t3] 24)
    clear hb c30 c31 c32 c40 c41 c42
    go_upto_region 12 with fail
    generalize hxx : x5.alloc (.cells #[.bool false, .string s3, .string t3] 24) = x6 at ke kf kg hBW ⊢
    generalize hgg : x5.heap.size = e3 at *
    have c50 : x6.cell? ⟨e1, 0, none⟩ = some (.bool false) := ke.cell 0
    have c51 : x6.cell? ⟨e1, 1, none⟩ = some (.string s1) := ke.cell 1
    have c52 : x6.cell? ⟨e1, 2, none⟩ = some (.string t1) := ke.cell 2
    have c60 : x6.cell? ⟨e2, 0, none⟩ = some (.bool false) := kf.cell 0
    have c61 : x6.cell? ⟨e2, 1, none⟩ = some (.string s2) := kf.cell 1
    have c62 : x6.cell? ⟨e2, 2, none⟩ = some (.string t2) := kf.cell 2
    have c70 : x6.cell? ⟨e3, 0, none⟩ = some (.bool false) := kg.cell 0
    have c71 : x6.cell? ⟨e3, 1, none⟩ = some (.string s3) := kg.cell 1
    have c72 : x6.cell? ⟨e3, 2, none⟩ = some (.string t3) := kg.cell 2
    clear hxx hgg ke kf kg
    replace hBW := Lib.hid hBW
    by_cases o1 : g1 = 0
    rotate_left
    · go_wp2_with fail
      go_ret
      exact ⟨rfl, hBW.out⟩
    by_cases o2 : g2 = 0
    rotate_left
    · subst o1
      go_wp2_with fail
      go_ret
      exact ⟨rfl, hBW.out⟩
    by_cases o3 : g3 = 0
    rotate_left
    · subst o1 o2
      go_wp2_with fail
      go_ret
      exact ⟨rfl, hBW.out⟩
    obtain ⟨-, okb, r1, m1⟩ := q1.out o1
    obtain ⟨-, -, r2, m2⟩ := q2.out o2
    obtain ⟨-, -, r3, m3⟩ := q3.out o3
    subst o1 o2 o3
    obtain ⟨on, ge, hv3, hge, -⟩ := betweenV_form false s1 t1 false s2 t2 false s3 t3
    obtain ⟨e0, eon⟩ := hge r1 r2 r3
    have hfin : on = one := by
      rw [eon, eo.out]
      exact round_on ok1.out ok2.out ok3.out okb r1 r2 r3 m1 m2 m3
    subst e0 hfin
    replace hv3 := Lib.hid hv3
    clear hge eon eo ok1 ok2 ok3 okb r1 r2 r3 m1 m2 m3 q1 q2 q3 ha1 ha2 ha3
    go_wp2_with fail
    refine (between_any false s1 t1 false s2 t2 false s3 t3 _ j1 l1 j2 l2 j3 l3).mono ?_
    rintro en x7 ⟨rfl, hb⟩
    rw [hv3.out]
    replace hBW := Lib.hid (hBW.out.trans (hb.mono hBW.out.size))
    clear hb c50 c51 c52 c60 c61 c62 c70 c71 c72
    go_wp2_with fail
    go_ret
    exact ⟨congrArg (fun b => Ending.returned (.bool b)) (by simp), hBW.out⟩
end Go.Proofs.Ytciafmnideihjaa
