import Derived.Test.YtoaggmegmgdgbaaGreatLamE
import Derived.Test.YtoaggmegmgdgbaaGreatRefA
import Derived.Test.YtoaggmegmgdgbaaGreatBack
import Derived.Deep.CutBlock
import Derived.Deep.CutRange
import Derived.Deep.RegionHeld3
namespace Go.Proofs.YtoaggmegmgdgbaaGreat
open Go.RowKit Go.Sort
def rlV (l : Lf) : Value := .agg #[.int .u64 (l.1.1 : Int), .int .u64 (l.1.2 : Int), .int .u64 (l.2.1 : Int), .int .u64 (l.2.2 : Int)]
theorem npair (p q : Nat × Nat) : (p = q ∧ p.1 = q.1 ∧ p.2 = q.2) ∨ (p ≠ q ∧ p.1 = q.1 ∧ ¬ p.2 = q.2) ∨ (p ≠ q ∧ ¬ p.1 = q.1) := by
  by_cases h1 : p.1 = q.1
  · by_cases h2 : p.2 = q.2
    · exact .inl ⟨Prod.ext h1 h2, h1, h2⟩
    · exact .inr (.inl ⟨fun e => h2 (by rw [e]), h1, h2⟩)
  · exact .inr (.inr ⟨fun e => h1 (by rw [e]), h1⟩)
theorem rcmpP (p q : Nat × Nat) (W : World) (hp : Ang p) (hq : Ang q) : Calls Tryz.prog 64 #[.agg #[.int .u64 (p.1 : Int), .int .u64 (p.2 : Int)], .agg #[.int .u64 (q.1 : Int), .int .u64 (q.2 : Int)]] W (RetVal (.int .i64 (cmpP p q)) W) := by
  have b : ∀ x y : Nat, x ≤ 2147483647 → y ≤ 2147483647 → x * y < 18446744073709551616 := fun x y hx hy => Nat.lt_of_le_of_lt (Nat.mul_le_mul hx hy) (by decide)
  have h1 := hp.2.1
  have h2 := hp.2.2
  have h3 := hq.2.1
  have h4 := hq.2.2
  exact rcmp_any p.1 p.2 q.1 q.2 (p.1 * q.2) (q.1 * p.2) W (Lib.hid rfl) (Lib.hid rfl) (b _ _ (by omega) h4) (b _ _ (by omega) h2)
set_option maxRecDepth 100000 in
set_option maxHeartbeats 2000000 in
theorem rlend_any (l : Lf) (a : Nat × Nat) (w : World) :
    Calls Tryz.prog 67 #[rlV l, .agg #[.int .u64 (a.1 : Int), .int .u64 (a.2 : Int)]] w (RetVal (.bool (endP l a)) w) := by
  unfold rlV
  have e1 := npair a l.1
  have e2 := npair a l.2
  obtain ⟨r, hr⟩ : ∃ r, r = endP l a := ⟨_, rfl⟩
  rw [← hr]
  obtain ⟨⟨l1, l2⟩, ⟨l3, l4⟩⟩ := l
  obtain ⟨a1, a2⟩ := a
  simp only at e1 e2
  have hBW : Below w.heap.size w ((w.alloc (.cells #[.int .u64 (l1 : Int), .int .u64 (l2 : Int), .int .u64 (l3 : Int), .int .u64 (l4 : Int)] 44)).alloc (.cells #[.int .u64 (a1 : Int), .int .u64 (a2 : Int)] 42)) := (((Below.refl _ w).alloc (Nat.le_refl _) _).alloc (by simp) _)
  have kk0 := ((Blk.new w 44 #[.int .u64 (l1 : Int), .int .u64 (l2 : Int), .int .u64 (l3 : Int), .int .u64 (l4 : Int)]).alloc (.cells #[.int .u64 (a1 : Int), .int .u64 (a2 : Int)] 42))
  have kk1 := (Blk.new (w.alloc (.cells #[.int .u64 (l1 : Int), .int .u64 (l2 : Int), .int .u64 (l3 : Int), .int .u64 (l4 : Int)] 44)) 42 #[.int .u64 (a1 : Int), .int .u64 (a2 : Int)])
  simp only [World.size_alloc] at kk1
  have K := Lib.hid ((KeepT.one kk0).snoc kk1)
  have hB := Lib.hid hBW
  clear hBW kk0 kk1
  rcases e1 with ⟨e1, x1, x2⟩ | ⟨e1, x1, x2⟩ | ⟨e1, x1⟩
  · obtain rfl : r = true := by rw [hr, endP, decide_eq_true e1]; rfl
    clear e1 e2 hr
    subst x1 x2
    go_enter Tryz.func67, Tryz.ntmps67
    go_wp2_with fail
    go_ret
    exact ⟨rfl, hB.out⟩
  · subst x1
    rcases e2 with ⟨e2, x3, x4⟩ | ⟨e2, x3, x4⟩ | ⟨e2, x3⟩
    · obtain rfl : r = true := by rw [hr, endP, decide_eq_true e2]; exact Bool.or_true _
      clear e1 e2 hr
      subst x3 x4
      go_enter Tryz.func67, Tryz.ntmps67
      go_wp2_with fail
      go_ret
      exact ⟨rfl, hB.out⟩
    · obtain rfl : r = false := by rw [hr, endP, decide_eq_false e1, decide_eq_false e2]; rfl
      clear e1 e2 hr
      subst x3
      go_enter Tryz.func67, Tryz.ntmps67
      go_wp2_with fail
      go_ret
      exact ⟨rfl, hB.out⟩
    · obtain rfl : r = false := by rw [hr, endP, decide_eq_false e1, decide_eq_false e2]; rfl
      clear e1 e2 hr
      go_enter Tryz.func67, Tryz.ntmps67
      go_wp2_with fail
      go_ret
      exact ⟨rfl, hB.out⟩
  · skip
    rcases e2 with ⟨e2, x3, x4⟩ | ⟨e2, x3, x4⟩ | ⟨e2, x3⟩
    · obtain rfl : r = true := by rw [hr, endP, decide_eq_true e2]; exact Bool.or_true _
      clear e1 e2 hr
      subst x3 x4
      go_enter Tryz.func67, Tryz.ntmps67
      go_wp2_with fail
      go_ret
      exact ⟨rfl, hB.out⟩
    · obtain rfl : r = false := by rw [hr, endP, decide_eq_false e1, decide_eq_false e2]; rfl
      clear e1 e2 hr
      subst x3
      go_enter Tryz.func67, Tryz.ntmps67
      go_wp2_with fail
      go_ret
      exact ⟨rfl, hB.out⟩
    · obtain rfl : r = false := by rw [hr, endP, decide_eq_false e1, decide_eq_false e2]; rfl
      clear e1 e2 hr
      go_enter Tryz.func67, Tryz.ntmps67
      go_wp2_with fail
      go_ret
      exact ⟨rfl, hB.out⟩
set_option maxRecDepth 100000 in
set_option maxHeartbeats 2000000 in
theorem rlwithin_any (l : Lf) (a : Nat × Nat) (w : World) (hl : AngL l) (ha : Ang a) :
    Calls Tryz.prog 68 #[rlV l, .agg #[.int .u64 (a.1 : Int), .int .u64 (a.2 : Int)]] w (RetVal (.bool (withinP l a)) w) := by
  unfold rlV
  obtain ⟨c1, h1⟩ : ∃ c, c = cmpP l.1 a := ⟨_, rfl⟩
  obtain ⟨c2, h2⟩ : ∃ c, c = cmpP a l.2 := ⟨_, rfl⟩
  have hC := Lib.hid (fun W => rcmpP l.1 a W hl.1 ha)
  have hD := Lib.hid (fun W => rcmpP a l.2 W ha hl.2)
  have hO : Hid (withinP l a = (decide (c1 < 0) && decide (c2 < 0))) := Lib.hid (by rw [h1, h2]; rfl)
  rw [← h1] at hC
  rw [← h2] at hD
  have hBW : Below w.heap.size w ((w.alloc (.cells #[.int .u64 (l.1.1 : Int), .int .u64 (l.1.2 : Int), .int .u64 (l.2.1 : Int), .int .u64 (l.2.2 : Int)] 44)).alloc (.cells #[.int .u64 (a.1 : Int), .int .u64 (a.2 : Int)] 42)) := (((Below.refl _ w).alloc (Nat.le_refl _) _).alloc (by simp) _)
  have kk0 := ((Blk.new w 44 #[.int .u64 (l.1.1 : Int), .int .u64 (l.1.2 : Int), .int .u64 (l.2.1 : Int), .int .u64 (l.2.2 : Int)]).alloc (.cells #[.int .u64 (a.1 : Int), .int .u64 (a.2 : Int)] 42))
  have kk1 := (Blk.new (w.alloc (.cells #[.int .u64 (l.1.1 : Int), .int .u64 (l.1.2 : Int), .int .u64 (l.2.1 : Int), .int .u64 (l.2.2 : Int)] 44)) 42 #[.int .u64 (a.1 : Int), .int .u64 (a.2 : Int)])
  simp only [World.size_alloc] at kk1
  have K := Lib.hid ((KeepT.one kk0).snoc kk1)
  have hB := Lib.hid hBW
  clear hBW kk0 kk1
  clear h1 h2
  go_enter Tryz.func68, Tryz.ntmps68
  go_wp2_with fail
  refine (hC.out _).mono ?_
  rintro en w1 ⟨rfl, hb⟩
  replace hB := Lib.hid (hB.out.trans (hb.mono hB.out.size))
  replace K := Lib.hid ((K.out.below hb))
  clear  hb hC
  have ll0 : w1.cell? ⟨w.heap.size, 0, none⟩ = some (.int .u64 (l.1.1 : Int)) := (K.out.at_ 0 rfl).cell 0
  have ll1 : w1.cell? ⟨w.heap.size, 1, none⟩ = some (.int .u64 (l.1.2 : Int)) := (K.out.at_ 0 rfl).cell 1
  have ll2 : w1.cell? ⟨w.heap.size, 2, none⟩ = some (.int .u64 (l.2.1 : Int)) := (K.out.at_ 0 rfl).cell 2
  have ll3 : w1.cell? ⟨w.heap.size, 3, none⟩ = some (.int .u64 (l.2.2 : Int)) := (K.out.at_ 0 rfl).cell 3
  have aa0 : w1.cell? ⟨w.heap.size + 1, 0, none⟩ = some (.int .u64 (a.1 : Int)) := (K.out.at_ 1 rfl).cell 0
  have aa1 : w1.cell? ⟨w.heap.size + 1, 1, none⟩ = some (.int .u64 (a.2 : Int)) := (K.out.at_ 1 rfl).cell 1
  by_cases hc : c1 < 0
  case neg =>
    replace hO : Hid (withinP l a = false) := Lib.hid (by rw [hO.out, decide_eq_false hc]; rfl)
    go_wp2_with fail
    go_ret
    exact ⟨by rw [hO.out]; rfl, hB.out⟩
  case pos =>
    replace hO : Hid (withinP l a = decide (c2 < 0)) := Lib.hid (by rw [hO.out, decide_eq_true hc]; rfl)
    go_wp2_with fail
    refine (hD.out _).mono ?_
    rintro en w2 ⟨rfl, hb⟩
    replace hB := Lib.hid (hB.out.trans (hb.mono hB.out.size))
    replace K := Lib.hid ((K.out.below hb))
    clear ll0 ll1 ll2 ll3 aa0 aa1 hb hD
    go_wp2_with fail
    go_ret
    exact ⟨by rw [hO.out]; rfl, hB.out⟩
set_option maxRecDepth 100000 in
set_option maxHeartbeats 2000000 in
theorem rlCross_any (l m : Lf) (w : World) (hl : AngL l) (hm : AngL m) :
    Calls Tryz.prog 19 #[rlV l, rlV m] w (RetVal (.bool (partsP l m.1 m.2)) w) := by
  unfold rlV
  obtain ⟨e1, h1⟩ : ∃ c, c = endP l m.1 := ⟨_, rfl⟩
  obtain ⟨e2, h2⟩ : ∃ c, c = endP l m.2 := ⟨_, rfl⟩
  obtain ⟨i1, h3⟩ : ∃ c, c = withinP l m.1 := ⟨_, rfl⟩
  obtain ⟨i2, h4⟩ : ∃ c, c = withinP l m.2 := ⟨_, rfl⟩
  have hO : Hid (partsP l m.1 m.2 = (!e1 && (!e2 && (i1 != i2)))) := Lib.hid (by rw [h1, h2, h3, h4]; rfl)
  have hE1 := Lib.hid (fun W => rlend_any l m.1 W)
  have hE2 := Lib.hid (fun W => rlend_any l m.2 W)
  have hI1 := Lib.hid (fun W => rlwithin_any l m.1 W hl hm.1)
  have hI2 := Lib.hid (fun W => rlwithin_any l m.2 W hl hm.2)
  unfold rlV at hE1 hE2 hI1 hI2
  rw [← h1] at hE1
  rw [← h2] at hE2
  rw [← h3] at hI1
  rw [← h4] at hI2
  have hBW : Below w.heap.size w ((w.alloc (.cells #[.int .u64 (l.1.1 : Int), .int .u64 (l.1.2 : Int), .int .u64 (l.2.1 : Int), .int .u64 (l.2.2 : Int)] 44)).alloc (.cells #[.int .u64 (m.1.1 : Int), .int .u64 (m.1.2 : Int), .int .u64 (m.2.1 : Int), .int .u64 (m.2.2 : Int)] 44)) := (((Below.refl _ w).alloc (Nat.le_refl _) _).alloc (by simp) _)
  have kk0 := ((Blk.new w 44 #[.int .u64 (l.1.1 : Int), .int .u64 (l.1.2 : Int), .int .u64 (l.2.1 : Int), .int .u64 (l.2.2 : Int)]).alloc (.cells #[.int .u64 (m.1.1 : Int), .int .u64 (m.1.2 : Int), .int .u64 (m.2.1 : Int), .int .u64 (m.2.2 : Int)] 44))
  have kk1 := (Blk.new (w.alloc (.cells #[.int .u64 (l.1.1 : Int), .int .u64 (l.1.2 : Int), .int .u64 (l.2.1 : Int), .int .u64 (l.2.2 : Int)] 44)) 44 #[.int .u64 (m.1.1 : Int), .int .u64 (m.1.2 : Int), .int .u64 (m.2.1 : Int), .int .u64 (m.2.2 : Int)])
  simp only [World.size_alloc] at kk1
  have K := Lib.hid ((KeepT.one kk0).snoc kk1)
  have hB := Lib.hid hBW
  clear hBW kk0 kk1
  clear h1 h2 h3 h4
  go_enter Tryz.func19, Tryz.ntmps19
  go_wp2_with fail
  refine (hE1.out _).mono ?_
  rintro en w1 ⟨rfl, hb⟩
  replace hB := Lib.hid (hB.out.trans (hb.mono hB.out.size))
  replace K := Lib.hid ((K.out.below hb))
  clear  hb hE1
  have ll0 : w1.cell? ⟨w.heap.size, 0, none⟩ = some (.int .u64 (l.1.1 : Int)) := (K.out.at_ 0 rfl).cell 0
  have ll1 : w1.cell? ⟨w.heap.size, 1, none⟩ = some (.int .u64 (l.1.2 : Int)) := (K.out.at_ 0 rfl).cell 1
  have ll2 : w1.cell? ⟨w.heap.size, 2, none⟩ = some (.int .u64 (l.2.1 : Int)) := (K.out.at_ 0 rfl).cell 2
  have ll3 : w1.cell? ⟨w.heap.size, 3, none⟩ = some (.int .u64 (l.2.2 : Int)) := (K.out.at_ 0 rfl).cell 3
  have mm0 : w1.cell? ⟨w.heap.size + 1, 0, none⟩ = some (.int .u64 (m.1.1 : Int)) := (K.out.at_ 1 rfl).cell 0
  have mm1 : w1.cell? ⟨w.heap.size + 1, 1, none⟩ = some (.int .u64 (m.1.2 : Int)) := (K.out.at_ 1 rfl).cell 1
  have mm2 : w1.cell? ⟨w.heap.size + 1, 2, none⟩ = some (.int .u64 (m.2.1 : Int)) := (K.out.at_ 1 rfl).cell 2
  have mm3 : w1.cell? ⟨w.heap.size + 1, 3, none⟩ = some (.int .u64 (m.2.2 : Int)) := (K.out.at_ 1 rfl).cell 3
  cases e1
  case true =>
    go_wp2_with fail
    go_ret
    exact ⟨by rw [hO.out]; rfl, hB.out⟩
  case false =>
    go_wp2_with fail
    refine (hE2.out _).mono ?_
    rintro en w2 ⟨rfl, hb⟩
    replace hB := Lib.hid (hB.out.trans (hb.mono hB.out.size))
    replace K := Lib.hid ((K.out.below hb))
    clear ll0 ll1 ll2 ll3 mm0 mm1 mm2 mm3 hb hE2
    cases e2
    case true =>
      go_wp2_with fail
      go_ret
      exact ⟨by rw [hO.out]; rfl, hB.out⟩
    case false =>
      have ll0 : ∀ d os, (grow (redrawn w2 d) os).cell? ⟨w.heap.size, 0, none⟩ = some (.int .u64 (l.1.1 : Int)) := cell_regrown ((K.out.at_ 0 rfl).cell 0)
      have ll1 : ∀ d os, (grow (redrawn w2 d) os).cell? ⟨w.heap.size, 1, none⟩ = some (.int .u64 (l.1.2 : Int)) := cell_regrown ((K.out.at_ 0 rfl).cell 1)
      have ll2 : ∀ d os, (grow (redrawn w2 d) os).cell? ⟨w.heap.size, 2, none⟩ = some (.int .u64 (l.2.1 : Int)) := cell_regrown ((K.out.at_ 0 rfl).cell 2)
      have ll3 : ∀ d os, (grow (redrawn w2 d) os).cell? ⟨w.heap.size, 3, none⟩ = some (.int .u64 (l.2.2 : Int)) := cell_regrown ((K.out.at_ 0 rfl).cell 3)
      have mm0 : ∀ d os, (grow (redrawn w2 d) os).cell? ⟨w.heap.size + 1, 0, none⟩ = some (.int .u64 (m.1.1 : Int)) := cell_regrown ((K.out.at_ 1 rfl).cell 0)
      have mm1 : ∀ d os, (grow (redrawn w2 d) os).cell? ⟨w.heap.size + 1, 1, none⟩ = some (.int .u64 (m.1.2 : Int)) := cell_regrown ((K.out.at_ 1 rfl).cell 1)
      have mm2 : ∀ d os, (grow (redrawn w2 d) os).cell? ⟨w.heap.size + 1, 2, none⟩ = some (.int .u64 (m.2.1 : Int)) := cell_regrown ((K.out.at_ 1 rfl).cell 2)
      have mm3 : ∀ d os, (grow (redrawn w2 d) os).cell? ⟨w.heap.size + 1, 3, none⟩ = some (.int .u64 (m.2.2 : Int)) := cell_regrown ((K.out.at_ 1 rfl).cell 3)
      have cI1 : ∀ d os, Calls Tryz.prog 68 #[.agg #[.int .u64 (l.1.1 : Int), .int .u64 (l.1.2 : Int), .int .u64 (l.2.1 : Int), .int .u64 (l.2.2 : Int)], .agg #[.int .u64 (m.1.1 : Int), .int .u64 (m.1.2 : Int)]] (grow (redrawn w2 d) os) fun e w'' => e = .returned (.bool i1) ∧ ∃ p : Regrown, w'' = grow (redrawn w2 p.d) p.os := fun d os => Calls.regrown_of (hI1.out _)
      have cI2 : ∀ d os, Calls Tryz.prog 68 #[.agg #[.int .u64 (l.1.1 : Int), .int .u64 (l.1.2 : Int), .int .u64 (l.2.1 : Int), .int .u64 (l.2.2 : Int)], .agg #[.int .u64 (m.2.1 : Int), .int .u64 (m.2.2 : Int)]] (grow (redrawn w2 d) os) fun e w'' => e = .returned (.bool i2) ∧ ∃ p : Regrown, w'' = grow (redrawn w2 p.d) p.os := fun d os => Calls.regrown_of (hI2.out _)
      clear hI1 hI2
      go_upto_region 3 with fail
      refine wp_region_quiet_below (by kernel_rfl) (by kernel_rfl) ?_
      iterate 3 (quiet_step (fail))
      quiet_step (exact cI1 _ _)
      iterate 3 (quiet_step (fail))
      quiet_step (exact cI2 _ _)
      iterate 2 (quiet_step (fail))
      refine wpQuiet_nil ?_
      intro w3 hw'
      have hb : Below w2.heap.size w2 w3 := by
        obtain ⟨p, rfl⟩ := hw'
        exact below_regrown w2 p.d p.os
      replace hB := Lib.hid (hB.out.trans (hb.mono hB.out.size))
      clear ll0 ll1 ll2 ll3 mm0 mm1 mm2 mm3 hw' hb cI1 cI2 K
      go_wp2_with fail
      go_ret
      exact ⟨by rw [hO.out]; rfl, hB.out⟩
set_option maxRecDepth 100000 in
set_option maxHeartbeats 2000000 in
theorem rlTold_any (l : Lf) (w : World) (hl : AngL l) :
    Calls Tryz.prog 23 #[rlV l] w (RetVal (leafV l) w) := by
  have b : ∀ x : Nat × Nat, Ang x → x.1 < 18446744073709551616 ∧ x.2 < 18446744073709551616 := fun x h => by have h1 := h.2.1; have h2 := h.2.2; omega
  have hR1 : Hid (∀ W, Calls Tryz.prog 72 #[.agg #[.int .u64 (l.1.1 : Int), .int .u64 (l.1.2 : Int)]] W (RetVal (.agg #[.bool false, .string (natS l.1.1), .string (natS l.1.2)]) W)) := Lib.hid (fun W => rratio_any l.1.1 l.1.2 W (b _ hl.1).1 (b _ hl.1).2)
  have hR2 : Hid (∀ W, Calls Tryz.prog 72 #[.agg #[.int .u64 (l.2.1 : Int), .int .u64 (l.2.2 : Int)]] W (RetVal (.agg #[.bool false, .string (natS l.2.1), .string (natS l.2.2)]) W)) := Lib.hid (fun W => rratio_any l.2.1 l.2.2 W (b _ hl.2).1 (b _ hl.2).2)
  clear b
  unfold rlV leafV leafE
  have hBW : Below w.heap.size w ((w.alloc (.cells #[.int .u64 (l.1.1 : Int), .int .u64 (l.1.2 : Int), .int .u64 (l.2.1 : Int), .int .u64 (l.2.2 : Int)] 44)).alloc (.cells #[.bool false, .string ⟨#[]⟩, .string ⟨#[]⟩, .bool false, .string ⟨#[]⟩, .string ⟨#[]⟩] 38)) := (((Below.refl _ w).alloc (Nat.le_refl _) _).alloc (by simp) _)
  have kk0 := ((Blk.new w 44 #[.int .u64 (l.1.1 : Int), .int .u64 (l.1.2 : Int), .int .u64 (l.2.1 : Int), .int .u64 (l.2.2 : Int)]).alloc (.cells #[.bool false, .string ⟨#[]⟩, .string ⟨#[]⟩, .bool false, .string ⟨#[]⟩, .string ⟨#[]⟩] 38))
  have kk1 := (Blk.new (w.alloc (.cells #[.int .u64 (l.1.1 : Int), .int .u64 (l.1.2 : Int), .int .u64 (l.2.1 : Int), .int .u64 (l.2.2 : Int)] 44)) 38 #[.bool false, .string ⟨#[]⟩, .string ⟨#[]⟩, .bool false, .string ⟨#[]⟩, .string ⟨#[]⟩])
  simp only [World.size_alloc] at kk1
  have K := Lib.hid ((KeepT.one kk0).snoc kk1)
  have hB := Lib.hid hBW
  clear hBW kk0 kk1
  go_enter Tryz.func23, Tryz.ntmps23
  go_upto_region 1 with fail
  generalize hW : ((w.alloc (.cells #[.int .u64 (l.1.1 : Int), .int .u64 (l.1.2 : Int), .int .u64 (l.2.1 : Int), .int .u64 (l.2.2 : Int)] 44)).alloc (.cells #[.bool false, .string ⟨#[]⟩, .string ⟨#[]⟩, .bool false, .string ⟨#[]⟩, .string ⟨#[]⟩] 38)) = w1 at hB K ⊢
  clear hW
  have ll0 : w1.cell? ⟨w.heap.size, 0, none⟩ = some (.int .u64 (l.1.1 : Int)) := (K.out.at_ 0 rfl).cell 0
  have ll1 : w1.cell? ⟨w.heap.size, 1, none⟩ = some (.int .u64 (l.1.2 : Int)) := (K.out.at_ 0 rfl).cell 1
  have ll2 : w1.cell? ⟨w.heap.size, 2, none⟩ = some (.int .u64 (l.2.1 : Int)) := (K.out.at_ 0 rfl).cell 2
  have ll3 : w1.cell? ⟨w.heap.size, 3, none⟩ = some (.int .u64 (l.2.2 : Int)) := (K.out.at_ 0 rfl).cell 3
  go_region_held3 (fun w' => w'.cell? ⟨w.heap.size, 0, none⟩ = some (.int .u64 (l.1.1 : Int)) ∧ w'.cell? ⟨w.heap.size, 1, none⟩ = some (.int .u64 (l.1.2 : Int)) ∧ w'.cell? ⟨w.heap.size, 2, none⟩ = some (.int .u64 (l.2.1 : Int)) ∧ w'.cell? ⟨w.heap.size, 3, none⟩ = some (.int .u64 (l.2.2 : Int))) (go_keep)
    (first
      | (go_at_call_of 72 (Value.int .u64 (l.1.1 : Int)); (with_reducible refine (hR1.out _).mono ?_); rintro en w2 ⟨rfl, hb⟩; have K2 := (K.out.drewN 1).below hb; have hB2 : Below w.heap.size w w2 := hB.out.drew.trans (hb.mono hB.out.size); have m0 : w2.cell? ⟨w.heap.size, 0, none⟩ = some (.int .u64 (l.1.1 : Int)) := (K2.at_ 0 rfl).cell 0; have m1 : w2.cell? ⟨w.heap.size, 1, none⟩ = some (.int .u64 (l.1.2 : Int)) := (K2.at_ 0 rfl).cell 1; have m2 : w2.cell? ⟨w.heap.size, 2, none⟩ = some (.int .u64 (l.2.1 : Int)) := (K2.at_ 0 rfl).cell 2; have m3 : w2.cell? ⟨w.heap.size, 3, none⟩ = some (.int .u64 (l.2.2 : Int)) := (K2.at_ 0 rfl).cell 3; replace K2 := Lib.hid K2; replace hB2 := Lib.hid hB2; clear hb)
      | (go_at_call_of 72 (Value.int .u64 (l.2.1 : Int)); (with_reducible refine (hR2.out _).mono ?_); rintro en w3 ⟨rfl, hb⟩; have K3 := K2.out.below hb; have hB3 : Below w.heap.size w w3 := hB2.out.trans (hb.mono hB2.out.size); have n0 : w3.cell? ⟨w.heap.size, 0, none⟩ = some (.int .u64 (l.1.1 : Int)) := (K3.at_ 0 rfl).cell 0; have n1 : w3.cell? ⟨w.heap.size, 1, none⟩ = some (.int .u64 (l.1.2 : Int)) := (K3.at_ 0 rfl).cell 1; have n2 : w3.cell? ⟨w.heap.size, 2, none⟩ = some (.int .u64 (l.2.1 : Int)) := (K3.at_ 0 rfl).cell 2; have n3 : w3.cell? ⟨w.heap.size, 3, none⟩ = some (.int .u64 (l.2.2 : Int)) := (K3.at_ 0 rfl).cell 3; have o0 : w3.cell? ⟨w.heap.size + 1, 0, none⟩ = some (.bool false) := (K3.at_ 1 rfl).cell 0; have g0 := (K3.at_ 1 rfl).frozen 0; have o1 : w3.cell? ⟨w.heap.size + 1, 1, none⟩ = some (.string ⟨#[]⟩) := (K3.at_ 1 rfl).cell 1; have g1 := (K3.at_ 1 rfl).frozen 1; have o2 : w3.cell? ⟨w.heap.size + 1, 2, none⟩ = some (.string ⟨#[]⟩) := (K3.at_ 1 rfl).cell 2; have g2 := (K3.at_ 1 rfl).frozen 2; have o3 : w3.cell? ⟨w.heap.size + 1, 3, none⟩ = some (.bool false) := (K3.at_ 1 rfl).cell 3; have g3 := (K3.at_ 1 rfl).frozen 3; have o4 : w3.cell? ⟨w.heap.size + 1, 4, none⟩ = some (.string ⟨#[]⟩) := (K3.at_ 1 rfl).cell 4; have g4 := (K3.at_ 1 rfl).frozen 4; have o5 : w3.cell? ⟨w.heap.size + 1, 5, none⟩ = some (.string ⟨#[]⟩) := (K3.at_ 1 rfl).cell 5; have g5 := (K3.at_ 1 rfl).frozen 5; replace K3 := Lib.hid K3; replace hB3 := Lib.hid hB3; clear hb))
  all_goals
    clear ll0 ll1 ll2 ll3
    have KZ := Lib.hid (Blk.set_ (Blk.set_ (Blk.set_ (Blk.set_ (Blk.set_ (Blk.set_ (K3.out.at_ 1 rfl) 0 (.bool false)) 1 (.string (natS l.1.1))) 2 (.string (natS l.1.2))) 3 (.bool false)) 4 (.string (natS l.2.1))) 5 (.string (natS l.2.2)))
    have hBZ := Lib.hid ((((((hB3.out.setCell (p := ⟨w.heap.size + 1, 0, none⟩) (by simp) (.bool false)).setCell (p := ⟨w.heap.size + 1, 1, none⟩) (by simp) (.string (natS l.1.1))).setCell (p := ⟨w.heap.size + 1, 2, none⟩) (by simp) (.string (natS l.1.2))).setCell (p := ⟨w.heap.size + 1, 3, none⟩) (by simp) (.bool false)).setCell (p := ⟨w.heap.size + 1, 4, none⟩) (by simp) (.string (natS l.2.1))).setCell (p := ⟨w.heap.size + 1, 5, none⟩) (by simp) (.string (natS l.2.2)))
    go_wp2_with fail
    have q0 := KZ.out.cell 0
    have q1 := KZ.out.cell 1
    have q2 := KZ.out.cell 2
    have q3 := KZ.out.cell 3
    have q4 := KZ.out.cell 4
    have q5 := KZ.out.cell 5
    refine bodyPost_ret (v := .agg #[.bool false, .string (natS l.1.1), .string (natS l.1.2), .bool false, .string (natS l.2.1), .string (natS l.2.2)]) (by simp [results, Tryz.results23, go_sem, q0, q1, q2, q3, q4, q5]) rfl ⟨rfl, hBZ.out⟩
end Go.Proofs.YtoaggmegmgdgbaaGreat
