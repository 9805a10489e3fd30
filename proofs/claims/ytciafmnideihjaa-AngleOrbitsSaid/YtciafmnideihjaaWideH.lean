/- Package wide: Neg, Mul, Add, Sub, Quo, Mod, Uint64. -/
import Derived.Test.YtciafmnideihjaaQTail
import Derived.Deep.CutBlock
namespace Go.Proofs.Ytciafmnideihjaa
open Go.RowKit Go.Sort

theorem below_after {w w1 : World} {B : Nat} (hB : B ≤ w.heap.size) (hb : Below w.drew.heap.size w.drew w1) : Below B w w1 := (Below.refl B w).drew.trans (hb.mono hB)
theorem bs_after {w w1 : World} {p o : Nat} (h : BS w p o) (hb : Below w.drew.heap.size w.drew w1) : BS w1 p o := BS.below (w := w.drew) h hb

set_option maxRecDepth 100000 in
set_option maxHeartbeats 400000 in
/-- Neg -/
theorem negBig_any (p o pa oa : Nat) (x : Int) (w : World) (h : BS w p o) (hx : Big w pa oa x) :
    Calls Try.prog 103 #[.pointer (some ⟨p, o, none⟩), .pointer (some ⟨pa, oa, none⟩)] w (RetBig (-x) p o w) := by
  obtain ⟨v, hc1, hc2, hv⟩ := hx.cells
  obtain ⟨b, hb⟩ : ∃ b, b = decide (x < 0) := ⟨_, rfl⟩
  rw [← hb] at hc1
  have hz : (if !b then -(x.natAbs : Int) else (x.natAbs : Int)) = -x := by
    rw [hb]
    by_cases h0 : x < 0
    · simp [h0]; omega
    · simp [h0]; omega
  have hl : ∀ W : World, BS W p o → Dg W v x.natAbs → Calls Try.prog 102 #[.pointer (some ⟨p, o, none⟩), .bool (!b), v] W (RetBig (-x) p o W) := fun W h1 h2 => by
    have := laid_any p o x.natAbs (!b) v W h1 h2
    rw [hz] at this
    exact this
  replace hl := Lib.hid hl
  replace hv := Lib.hid hv
  replace h := Lib.hid h
  clear hz hb hx
  go_enter Try.func103, Try.ntmps103
  go_wp2_with fail
  go_region_with (first | (go_at_call 102; refine (hl.out _ (h.out.drewN 1) (hv.out.drewN 1)).mono ?_; rintro e w2 ⟨rfl, hb2, hg⟩; have hb2 := Lib.hid hb2; have hg := Lib.hid hg))
  all_goals
    go_wp2
    go_ret
    exact ⟨rfl, hb2.out, gb_trans (gb_drewN (gb_refl _ _) 1) hg.out⟩

set_option maxRecDepth 100000 in
set_option maxHeartbeats 1000000 in
/-- Mul -/
theorem mulBig_any (p o pa oa pb ob : Nat) (x y : Int) (w : World) (h : BS w p o) (hx : Big w pa oa x) (hy : Big w pb ob y) (hlx : (dg x.natAbs).length ≤ 1073741823) (hly : (dg y.natAbs).length ≤ 1073741823) :
    Calls Try.prog 73 #[.pointer (some ⟨p, o, none⟩), .pointer (some ⟨pa, oa, none⟩), .pointer (some ⟨pb, ob, none⟩)] w (RetBig (x * y) p o w) := by
  obtain ⟨v, hc1, hc2, hv⟩ := hx.cells
  obtain ⟨v', hc1', hc2', hv'⟩ := hy.cells
  obtain ⟨b, hb⟩ : ∃ b, b = decide (x < 0) := ⟨_, rfl⟩
  obtain ⟨b', hb'⟩ : ∃ b, b = decide (y < 0) := ⟨_, rfl⟩
  rw [← hb] at hc1
  rw [← hb'] at hc1'
  have hz : (if (!b == b') then -((x.natAbs * y.natAbs : Nat) : Int) else ((x.natAbs * y.natAbs : Nat) : Int)) = x * y := by
    rw [hb, hb']
    have e1 : (x < 0 ∧ x = -(x.natAbs : Int)) ∨ (¬ x < 0 ∧ x = (x.natAbs : Int)) := by omega
    have e2 : (y < 0 ∧ y = -(y.natAbs : Int)) ∨ (¬ y < 0 ∧ y = (y.natAbs : Int)) := by omega
    generalize x.natAbs = n at *
    generalize y.natAbs = m at *
    rcases e1 with ⟨h1, e1⟩ | ⟨h1, e1⟩ <;> rcases e2 with ⟨h2, e2⟩ | ⟨h2, e2⟩ <;> simp [h1, h2] <;> rw [e1, e2] <;> simp [Int.mul_neg, Int.neg_mul]
  have hl : ∀ (W : World) (u : Value), BS W p o → Dg W u (x.natAbs * y.natAbs) → Calls Try.prog 102 #[.pointer (some ⟨p, o, none⟩), .bool (!b == b'), u] W (RetBig (x * y) p o W) := fun W u h1 h2 => by
    have := laid_any p o (x.natAbs * y.natAbs) (!b == b') u W h1 h2
    rw [hz] at this
    exact this
  have ht2 := Lib.hid (times_wide v v' x.natAbs y.natAbs w.drew hv hv' (by omega) (by omega))
  have k1 : ∀ d os, (grow (redrawn w d) os).cell? ⟨pa, oa, none⟩ = some (.bool b) := cell_regrown hc1
  have k2 : ∀ d os, (grow (redrawn w d) os).cell? ⟨pa, oa + 1, none⟩ = some v := cell_regrown hc2
  have k3 : ∀ d os, (grow (redrawn w d) os).cell? ⟨pb, ob, none⟩ = some (.bool b') := cell_regrown hc1'
  have k4 : ∀ d os, (grow (redrawn w d) os).cell? ⟨pb, ob + 1, none⟩ = some v' := cell_regrown hc2'
  replace hl := Lib.hid hl
  replace h := Lib.hid h
  clear hz hb hb' hv hv' hx hy hlx hly hc1 hc2 hc1' hc2'
  go_enter Try.func73, Try.ntmps73
  go_wp2_with fail
  refine wp_region_reads_call 18 rfl (by kernel_rfl) (by kernel_rfl) (by kernel_rfl) (fun c a d v w h => by cases d <;> exact h) ?_
  simp only [List.take_succ_cons, List.take_zero, List.drop_succ_cons, List.drop_zero]
  iterate 18
    refine wpReads_cons (v := ?_) (Or.inl ⟨by rfl, ?_⟩) ?_
    rotate_left
    · rintro w' ⟨p, rfl⟩
      go_simp
      try with_reducible rfl
    try simp only [Act.put, List.setIfInBounds_toArray, List.set_cons_zero, List.set_cons_succ]
  refine wpReads_nil ?_
  intro K hK
  rw [if_pos (by rfl)]
  go_simp
  refine ht2.out.mono ?_
  rintro e w1 ⟨u, rfl, hu, hbu⟩
  refine hK _ _ (below_after (Nat.le_refl _) hbu) ?_
  have kS := Lib.hid (bs_after h.out hbu)
  have kB := Lib.hid (below_after (Nat.le_refl _) hbu)
  replace hu := Lib.hid hu
  clear hK hbu k1 k2 k3 k4
  go_wp2_with fail
  refine (hl.out _ _ kS.out hu.out).mono ?_
  rintro e w2 ⟨rfl, hb2, hg⟩
  replace hb2 := Lib.hid hb2
  replace hg := Lib.hid hg
  go_wp2_with fail
  go_ret
  exact ⟨rfl, hb2.out, gb_trans (gb_of_below kB.out) hg.out⟩

set_option maxRecDepth 100000 in
set_option maxHeartbeats 2000000 in
/-- Add -/
theorem addBig_any (p o pa oa pb ob : Nat) (x y : Int) (w : World) (h : BS w p o) (hx : Big w pa oa x) (hy : Big w pb ob y) (hlx : (dg x.natAbs).length ≤ 1073741823) (hly : (dg y.natAbs).length ≤ 1073741823) :
    Calls Try.prog 75 #[.pointer (some ⟨p, o, none⟩), .pointer (some ⟨pa, oa, none⟩), .pointer (some ⟨pb, ob, none⟩)] w (RetBig (x + y) p o w) := by
  obtain ⟨v, hc1, hc2, hv⟩ := hx.cells
  obtain ⟨v', hc1', hc2', hv'⟩ := hy.cells
  obtain ⟨b, hb⟩ : ∃ b, b = decide (x < 0) := ⟨_, rfl⟩
  obtain ⟨b', hb'⟩ : ∃ b, b = decide (y < 0) := ⟨_, rfl⟩
  rw [← hb] at hc1
  rw [← hb'] at hc1'
  obtain ⟨C, hC⟩ : ∃ C, C = cmpI x.natAbs y.natAbs := ⟨_, rfl⟩
  have hCn : C < 0 ↔ x.natAbs < y.natAbs := by rw [hC]; unfold cmpI; split <;> (try split) <;> omega
  have hcmp := fun W h1 h2 => cmp_any v v' x.natAbs y.natAbs W h1 h2
  unfold RetCmp at hcmp
  rw [← hC] at hcmp
  replace hv := Lib.hid hv
  replace hv' := Lib.hid hv'
  replace hcmp := Lib.hid hcmp
  replace hb := Lib.hid hb
  replace hb' := Lib.hid hb'
  replace hCn := Lib.hid hCn
  replace h := Lib.hid h
  clear hx hy hC
  go_enter Try.func75, Try.ntmps75
  go_wp2_with fail
  go_quiet ((go_at_call 97; exact quiet_dr (hcmp.out _ hv.out hv'.out)))
  revert nq
  intro n1
  go_wp2_with fail
  go_quiet (fail)
  have k1 : ∀ d os, (grow (redrawn ((w.drewN n1).drewN nq) d) os).cell? ⟨pa, oa, none⟩ = some (.bool b) := cell_regrown (w := (w.drewN n1).drewN nq) hc1
  have k2 : ∀ d os, (grow (redrawn ((w.drewN n1).drewN nq) d) os).cell? ⟨pa, oa + 1, none⟩ = some v := cell_regrown (w := (w.drewN n1).drewN nq) hc2
  have k3 : ∀ d os, (grow (redrawn ((w.drewN n1).drewN nq) d) os).cell? ⟨pb, ob, none⟩ = some (.bool b') := cell_regrown (w := (w.drewN n1).drewN nq) hc1'
  have k4 : ∀ d os, (grow (redrawn ((w.drewN n1).drewN nq) d) os).cell? ⟨pb, ob + 1, none⟩ = some v' := cell_regrown (w := (w.drewN n1).drewN nq) hc2'
  have hS' : BS ((w.drewN n1).drewN nq) p o := (h.out.drewN n1).drewN nq
  have hv1 : Dg ((w.drewN n1).drewN nq) v x.natAbs := (hv.out.drewN n1).drewN nq
  have hv2 : Dg ((w.drewN n1).drewN nq) v' y.natAbs := (hv'.out.drewN n1).drewN nq
  have hG : w.grownBy ((w.drewN n1).drewN nq) (some p) := gb_drewN (gb_drewN (gb_refl _ _) n1) nq
  generalize ((w.drewN n1).drewN nq) = W at k1 k2 k3 k4 hS' hv1 hv2 hG ⊢
  replace h := Lib.hid hS'
  replace hv := Lib.hid hv1
  replace hv' := Lib.hid hv2
  replace hG := Lib.hid hG
  clear hS' hv1 hv2 hc1 hc2 hc1' hc2' hcmp
  have e1 : (x < 0 ∧ x = -(x.natAbs : Int)) ∨ (¬ x < 0 ∧ x = (x.natAbs : Int)) := by omega
  have e2 : (y < 0 ∧ y = -(y.natAbs : Int)) ∨ (¬ y < 0 ∧ y = (y.natAbs : Int)) := by omega
  replace e1 := Lib.hid e1
  replace e2 := Lib.hid e2
  by_cases hbb : b = b'
  · have hz : (if b then -((x.natAbs + y.natAbs : Nat) : Int) else ((x.natAbs + y.natAbs : Nat) : Int)) = x + y := by
      have hbo := hb.out
      have hbo' := hb'.out
      rw [← hbb, hbo] at hbo'
      have hiff : x < 0 ↔ y < 0 := by simpa using hbo'
      rw [hbo]
      by_cases h0 : x < 0
      · simp [h0]; omega
      · simp [h0]; omega
    have hl : ∀ (W : World) (u : Value), BS W p o → Dg W u (x.natAbs + y.natAbs) → Calls Try.prog 102 #[.pointer (some ⟨p, o, none⟩), .bool b, u] W (RetBig (x + y) p o W) := fun W u h1 h2 => by
      have := laid_any p o (x.natAbs + y.natAbs) b u W h1 h2
      rw [hz] at this
      exact this
    replace hl := Lib.hid hl
    clear hz e1 e2 hCn hb hb'
    subst hbb
    simp only [beq_self_eq_true]
    have ht2 := Lib.hid (plus_any v v' x.natAbs y.natAbs W.drew hv.out hv'.out (by omega) (by omega))
    go_wp2_with fail
    refine wp_region_reads_call 13 rfl (by kernel_rfl) (by kernel_rfl) (by kernel_rfl) (fun c a d v w h => by cases d <;> exact h) ?_
    simp only [List.take_succ_cons, List.take_zero, List.drop_succ_cons, List.drop_zero]
    iterate 13
      refine wpReads_cons (v := ?_) (Or.inl ⟨by rfl, ?_⟩) ?_
      rotate_left
      · rintro w' ⟨p, rfl⟩
        go_simp
        try with_reducible rfl
      try simp only [Act.put, List.setIfInBounds_toArray, List.set_cons_zero, List.set_cons_succ]
    refine wpReads_nil ?_
    intro K hK
    rw [if_pos (by rfl)]
    go_simp
    refine ht2.out.mono ?_
    rintro e w1 ⟨u, rfl, hu, hbu⟩
    refine hK _ _ (below_after (Nat.le_refl _) hbu) ?_
    have kS := Lib.hid (bs_after h.out hbu)
    have kB := Lib.hid (below_after (Nat.le_refl _) hbu)
    replace hu := Lib.hid hu
    clear hK hbu k1 k2 k3 k4
    go_wp2_with fail
    refine (hl.out _ _ kS.out hu.out).mono ?_
    rintro e w2 ⟨rfl, hb2, hg⟩
    replace hb2 := Lib.hid hb2
    replace hg := Lib.hid hg
    go_wp2_with fail
    go_ret
    exact ⟨rfl, hb2.out, gb_trans (gb_trans hG.out (gb_of_below kB.out)) hg.out⟩
  · have hbf : (b == b') = false := by simpa using hbb
    simp only [hbf]
    clear hbf
    by_cases hC0 : C < 0
    · have hlt := hCn.out.1 hC0
      have hz : (if b' then -((y.natAbs - x.natAbs : Nat) : Int) else ((y.natAbs - x.natAbs : Nat) : Int)) = x + y := by
        have hbo := hb.out
        have hbo' := hb'.out
        by_cases h0 : x < 0 <;> by_cases h1 : y < 0 <;> simp only [h0, h1, decide_true, decide_false] at hbo hbo' <;> subst hbo hbo' <;> simp at hbb ⊢ <;> omega
      have hl : ∀ (W : World) (u : Value), BS W p o → Dg W u (y.natAbs - x.natAbs) → Calls Try.prog 102 #[.pointer (some ⟨p, o, none⟩), .bool b', u] W (RetBig (x + y) p o W) := fun W u h1 h2 => by
        have := laid_any p o (y.natAbs - x.natAbs) b' u W h1 h2
        rw [hz] at this
        exact this
      replace hl := Lib.hid hl
      replace hlt := Lib.hid hlt
      clear hz e1 e2 hCn hb hb'
      have ht2 := Lib.hid (less_any v' v y.natAbs x.natAbs W.drew hv'.out hv.out (by omega) (Nat.le_of_lt hlt.out))
      go_wp2_with fail
      refine wp_region_reads_call 13 rfl (by kernel_rfl) (by kernel_rfl) (by kernel_rfl) (fun c a d v w h => by cases d <;> exact h) ?_
      simp only [List.take_succ_cons, List.take_zero, List.drop_succ_cons, List.drop_zero]
      iterate 13
        refine wpReads_cons (v := ?_) (Or.inl ⟨by rfl, ?_⟩) ?_
        rotate_left
        · rintro w' ⟨p, rfl⟩
          go_simp
          try with_reducible rfl
        try simp only [Act.put, List.setIfInBounds_toArray, List.set_cons_zero, List.set_cons_succ]
      refine wpReads_nil ?_
      intro K hK
      rw [if_pos (by rfl)]
      go_simp
      refine ht2.out.mono ?_
      rintro e w1 ⟨u, rfl, hu, hbu⟩
      refine hK _ _ (below_after (Nat.le_refl _) hbu) ?_
      have kS := Lib.hid (bs_after h.out hbu)
      have kB := Lib.hid (below_after (Nat.le_refl _) hbu)
      replace hu := Lib.hid hu
      clear hK hbu k1 k2 k3 k4
      go_wp2_with fail
      refine (hl.out _ _ kS.out hu.out).mono ?_
      rintro e w2 ⟨rfl, hb2, hg⟩
      replace hb2 := Lib.hid hb2
      replace hg := Lib.hid hg
      go_wp2_with fail
      go_ret
      exact ⟨rfl, hb2.out, gb_trans (gb_trans hG.out (gb_of_below kB.out)) hg.out⟩
    · have hge : y.natAbs ≤ x.natAbs := Nat.le_of_not_lt fun h => hC0 (hCn.out.2 h)
      have hz : (if b then -((x.natAbs - y.natAbs : Nat) : Int) else ((x.natAbs - y.natAbs : Nat) : Int)) = x + y := by
        have hbo := hb.out
        have hbo' := hb'.out
        by_cases h0 : x < 0 <;> by_cases h1 : y < 0 <;> simp only [h0, h1, decide_true, decide_false] at hbo hbo' <;> subst hbo hbo' <;> simp at hbb ⊢ <;> omega
      have hl : ∀ (W : World) (u : Value), BS W p o → Dg W u (x.natAbs - y.natAbs) → Calls Try.prog 102 #[.pointer (some ⟨p, o, none⟩), .bool b, u] W (RetBig (x + y) p o W) := fun W u h1 h2 => by
        have := laid_any p o (x.natAbs - y.natAbs) b u W h1 h2
        rw [hz] at this
        exact this
      replace hl := Lib.hid hl
      replace hge := Lib.hid hge
      clear hz e1 e2 hCn hb hb'
      have ht2 := Lib.hid (less_any v v' x.natAbs y.natAbs W.drew hv.out hv'.out (by omega) hge.out)
      go_wp2_with fail
      refine wp_region_reads_call 13 rfl (by kernel_rfl) (by kernel_rfl) (by kernel_rfl) (fun c a d v w h => by cases d <;> exact h) ?_
      simp only [List.take_succ_cons, List.take_zero, List.drop_succ_cons, List.drop_zero]
      iterate 13
        refine wpReads_cons (v := ?_) (Or.inl ⟨by rfl, ?_⟩) ?_
        rotate_left
        · rintro w' ⟨p, rfl⟩
          go_simp
          try with_reducible rfl
        try simp only [Act.put, List.setIfInBounds_toArray, List.set_cons_zero, List.set_cons_succ]
      refine wpReads_nil ?_
      intro K hK
      rw [if_pos (by rfl)]
      go_simp
      refine ht2.out.mono ?_
      rintro e w1 ⟨u, rfl, hu, hbu⟩
      refine hK _ _ (below_after (Nat.le_refl _) hbu) ?_
      have kS := Lib.hid (bs_after h.out hbu)
      have kB := Lib.hid (below_after (Nat.le_refl _) hbu)
      replace hu := Lib.hid hu
      clear hK hbu k1 k2 k3 k4
      go_wp2_with fail
      refine (hl.out _ _ kS.out hu.out).mono ?_
      rintro e w2 ⟨rfl, hb2, hg⟩
      replace hb2 := Lib.hid hb2
      replace hg := Lib.hid hg
      go_wp2_with fail
      go_ret
      exact ⟨rfl, hb2.out, gb_trans (gb_trans hG.out (gb_of_below kB.out)) hg.out⟩

set_option maxRecDepth 100000 in
set_option maxHeartbeats 1000000 in
/-- Sub -/
theorem subBig_any (p o pa oa pb ob : Nat) (x y : Int) (w : World) (h : BS w p o) (hx : Big w pa oa x) (hy : Big w pb ob y) (hlx : (dg x.natAbs).length ≤ 1073741823) (hly : (dg y.natAbs).length ≤ 1073741823) :
    Calls Try.prog 72 #[.pointer (some ⟨p, o, none⟩), .pointer (some ⟨pa, oa, none⟩), .pointer (some ⟨pb, ob, none⟩)] w (RetBig (x - y) p o w) := by
  have hN := (Big.new w).slot
  have hy1 := hy.alloc (.cells #[.bool false, .slice none 0 0] 120)
  have hx1 := hx.alloc (.cells #[.bool false, .slice none 0 0] 120)
  have h1 := h.alloc (.cells #[.bool false, .slice none 0 0] 120)
  have hpa := hx.slot.lt
  have hp := h.lt
  replace hN := Lib.hid hN
  replace hy1 := Lib.hid hy1
  replace hx1 := Lib.hid hx1
  replace h1 := Lib.hid h1
  replace hpa := Lib.hid hpa
  replace hp := Lib.hid hp
  clear hx hy h
  go_enter Try.func72, Try.ntmps72
  go_wp2_with fail
  refine (negBig_any w.heap.size 0 pb ob y _ hN.out hy1.out).mono ?_
  rintro e w1 ⟨rfl, hb1, hg1⟩
  have hx2 := Lib.hid (hx1.out.grown hN.out hg1 (Nat.ne_of_lt hpa.out))
  have h2 := Lib.hid (h1.out.grown hg1 (Nat.ne_of_lt hp.out))
  have hB := Lib.hid (gb_below hg1 (Nat.le_refl _) (by simp))
  replace hb1 := Lib.hid hb1
  clear hg1 hx1 h1 hy1 hN
  go_wp2_with fail
  refine (addBig_any p o pa oa w.heap.size 0 x (-y) _ h2.out hx2.out hb1.out hlx (by rw [Int.natAbs_neg]; exact hly)).mono ?_
  rintro e w2 ⟨rfl, hb2, hg2⟩
  replace hb2 := Lib.hid hb2
  replace hg2 := Lib.hid hg2
  go_wp2_with fail
  go_ret
  refine ⟨rfl, by rw [Int.sub_eq_add_neg]; exact hb2.out, ?_⟩
  have hw1 : Below w.heap.size w w1 := ((Below.refl _ w).alloc (Nat.le_refl _) _).trans hB.out
  exact gb_trans (gb_of_below hw1) hg2.out
end Go.Proofs.Ytciafmnideihjaa

