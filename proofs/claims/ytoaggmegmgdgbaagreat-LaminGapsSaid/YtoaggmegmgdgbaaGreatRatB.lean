import Derived.Test.YtoaggmegmgdgbaaGreatRatA
namespace Go.Proofs.YtoaggmegmgdgbaaGreat
open Go.RowKit Go.Sort
def RtS (w : World) (p : Nat) : Prop := ∃ x0 x1 x2 x3 : Value, w.heap[p]? = some (.cells #[x0, x1, x2, x3] 153 (0, 0))
def Rt (w : World) (p : Nat) (a : Int) (b : Nat) : Prop := ∃ va vb : Value, w.heap[p]? = some (.cells #[.bool (decide (a < 0)), va, .bool false, vb] 153 (0, 0)) ∧ Dg w va a.natAbs ∧ Dg w vb b
section
variable {w w' : World} {p : Nat} {a : Int} {b : Nat}
theorem Rt.room (h : Rt w p a b) : RtS w p := by obtain ⟨va, vb, h1, -, -⟩ := h; exact ⟨_, _, _, _, h1⟩
theorem Rt.num (h : Rt w p a b) : Big w p 0 a := by obtain ⟨va, vb, h1, h2, -⟩ := h; exact ⟨_, _, va, h1, by decide, rfl, rfl, h2⟩
theorem Rt.den (h : Rt w p a b) : Big w p 2 (b : Int) := by
  obtain ⟨va, vb, h1, -, h3⟩ := h
  exact ⟨_, _, vb, h1, by decide, by simp, rfl, h3⟩
theorem RtS.num (h : RtS w p) : BS w p 0 := by obtain ⟨x0, x1, x2, x3, h1⟩ := h; exact ⟨_, _, h1, by decide, by simp⟩
theorem RtS.den (h : RtS w p) : BS w p 2 := by obtain ⟨x0, x1, x2, x3, h1⟩ := h; exact ⟨_, _, h1, by decide, by simp⟩
theorem RtS.lt (h : RtS w p) : p < w.heap.size := h.num.lt
theorem RtS.below (h : RtS w p) (hb : Below w.heap.size w w') : RtS w' p := by
  have hl := h.lt
  obtain ⟨x0, x1, x2, x3, h1⟩ := h
  exact ⟨x0, x1, x2, x3, (hb.block p hl).trans h1⟩
theorem Rt.below (h : Rt w p a b) (hb : Below w.heap.size w w') : Rt w' p a b := by
  have hl := h.room.lt
  obtain ⟨va, vb, h1, h2, h3⟩ := h
  exact ⟨va, vb, (hb.block p hl).trans h1, h2.below hb, h3.below hb⟩
theorem RtS.drewN (h : RtS w p) (n : Nat) : RtS (w.drewN n) p := h
theorem Rt.of_set {va vb : Value} {s : Bool} (h : RtS w p) (hva : Dg w va a.natAbs) (hvb : Dg w vb b) (hs : s = decide (a < 0)) :
    Rt ((((w.setCell ⟨p, 0, none⟩ (.bool s)).setCell ⟨p, 0 + 1, none⟩ va).setCell ⟨p, 2, none⟩ (.bool false)).setCell ⟨p, 2 + 1, none⟩ vb) p a b := by
  obtain ⟨x0, x1, x2, x3, h1⟩ := h
  have hne : 153 ≠ 243 := by decide
  have e1 := heap_setCell_same w p 0 _ _ (.bool s) h1
  have e2 := heap_setCell_same _ p (0 + 1) _ _ va e1
  have e3 := heap_setCell_same _ p 2 _ _ (.bool false) e2
  have e4 := heap_setCell_same _ p (2 + 1) _ _ vb e3
  refine ⟨va, vb, by rw [e4, hs]; rfl, ?_, ?_⟩
  · exact Rd.setFar (Rd.setFar (Rd.setFar (Rd.setFar hva h1 hne.symm _) e1 hne.symm _) e2 hne.symm _) e3 hne.symm _
  · exact Rd.setFar (Rd.setFar (Rd.setFar (Rd.setFar hvb h1 hne.symm _) e1 hne.symm _) e2 hne.symm _) e3 hne.symm _
theorem Rt.new (w : World) : RtS (w.alloc (.cells #[.bool false, .slice none 0 0, .bool false, .slice none 0 0] 153)) w.heap.size := ⟨_, _, _, _, heap_alloc_new w _⟩
end
set_option maxHeartbeats 400000 in
theorem laidX_any (p o n : Nat) (neg : Bool) (v : Value) (w : World) (h : BS w p o) (hv : Dg w v n) :
    Calls Tryz.prog 159 #[.pointer (some ⟨p, o, none⟩), .bool neg, v] w fun e w' => e = .returned (.pointer (some ⟨p, o, none⟩)) ∧ w' = (w.setCell ⟨p, o, none⟩ (.bool (neg && decide (0 < n)))).setCell ⟨p, o + 1, none⟩ v := by
  obtain ⟨⟨u1, hc1⟩, ⟨u2, hc2⟩, hf1, hf2⟩ := h.cells
  obtain ⟨A, c, rfl, h1, h2, h3⟩ := id hv
  have hl0 := dg_len_zero n
  obtain ⟨L, hL⟩ : ∃ L, L = (dg n).length := ⟨_, rfl⟩
  rw [← hL] at hl0 h1 ⊢
  have h3 := Lib.hid h3
  have hv := Lib.hid hv
  have hl0 := Lib.hid hl0
  clear hL
  cases neg
  · go_enter Tryz.func159, Tryz.ntmps159
    go_wp2
    go_ret
    exact ⟨rfl, by simp⟩
  · by_cases hn : 0 < L
    · have hn1 : (0 : Int) < (L : Int) := by omega
      go_enter Tryz.func159, Tryz.ntmps159
      go_wp2
      go_ret
      have : n ≠ 0 := fun e => by have := hl0.out.2 e; omega
      exact ⟨rfl, by simp [show 0 < n by omega]⟩
    · have hn1 : ¬ (0 : Int) < (L : Int) := by omega
      go_enter Tryz.func159, Tryz.ntmps159
      go_wp2
      go_ret
      have : n = 0 := hl0.out.1 (by omega)
      exact ⟨rfl, by simp [this]⟩
def RetRt (a : Int) (b : Nat) (p : Nat) (w : World) (e : Ending) (w' : World) : Prop := e = .returned (.pointer (some ⟨p, 0, none⟩)) ∧ Rt w' p a b ∧ w.grownBy w' (some p)
def lowN (a : Int) (b : Nat) : Int := a / (Nat.gcd a.natAbs b : Nat)
def lowD (a : Int) (b : Nat) : Nat := b / Nat.gcd a.natAbs b
theorem lowN_abs (a : Int) (b : Nat) : (lowN a b).natAbs = a.natAbs / Nat.gcd a.natAbs b := by
  unfold lowN
  have hd : Nat.gcd a.natAbs b ∣ a.natAbs := Nat.gcd_dvd_left _ _
  rcases Int.natAbs_eq a with h | h
  · generalize a.natAbs = n at *
    subst h; norm_cast
  · generalize a.natAbs = n at *
    subst h
    rw [Int.neg_ediv_of_dvd (Int.natCast_dvd_natCast.2 hd)]
    simp only [Int.natAbs_neg]; norm_cast
theorem lowN_neg (a : Int) (b : Nat) (hb : 0 < b) : decide (lowN a b < 0) = decide (a < 0) := by
  unfold lowN
  have hg : 0 < Nat.gcd a.natAbs b := Nat.gcd_pos_of_pos_right _ hb
  congr 1
  rw [eq_iff_iff]
  constructor
  · intro h
    rcases Int.lt_or_le a 0 with h1 | h1
    · exact h1
    · have h2 := Int.ediv_nonneg h1 (Int.natCast_nonneg (Nat.gcd a.natAbs b))
      omega
  · intro h
    exact Int.ediv_neg_of_neg_of_pos h (by omega)
set_option maxRecDepth 100000 in
set_option maxHeartbeats 1000000 in
theorem norm_any (p pa oa pb ob : Nat) (a : Int) (b : Nat) (w : World) (h : RtS w p) (ha : Big w pa oa a) (hb : Big w pb ob (b : Int)) (hb0 : 0 < b) (hla : (dg a.natAbs).length ≤ 1073741823) (hlb : (dg b).length ≤ 1073741823) :
    Calls Tryz.prog 131 #[.pointer (some ⟨p, 0, none⟩), .pointer (some ⟨pa, oa, none⟩), .pointer (some ⟨pb, ob, none⟩)] w (RetRt (lowN a b) (lowD a b) p w) := by
  have hpa := Lib.hid ha.slot.lt
  have hpb := Lib.hid hb.slot.lt
  obtain ⟨va, hca1, hca2, hva⟩ := ha.cells
  obtain ⟨vb, hcb1, hcb2, hvb⟩ := hb.cells
  obtain ⟨sa, hsa⟩ : ∃ s, s = decide (a < 0) := ⟨_, rfl⟩
  obtain ⟨sb, hsb⟩ : ∃ s, s = decide ((b : Int) < 0) := ⟨_, rfl⟩
  rw [← hsa] at hca1
  rw [← hsb] at hcb1
  have hsb0 : sb = false := by rw [hsb]; simp
  have hn1 := lowN_abs a b
  have hn2 := lowN_neg a b hb0
  rw [← hsa] at hn2
  obtain ⟨n, hn⟩ : ∃ n, n = a.natAbs := ⟨_, rfl⟩
  rw [Int.natAbs_natCast] at hvb
  have hD : lowD a b = b / Nat.gcd n b := by rw [hn]; rfl
  obtain ⟨G, hG⟩ : ∃ G, G = Nat.gcd n b := ⟨_, rfl⟩
  have hG0 : 0 < G := by rw [hG]; exact Nat.gcd_pos_of_pos_right _ hb0
  obtain ⟨A', hA'⟩ : ∃ x, x = lowN a b := ⟨_, rfl⟩
  obtain ⟨B', hB'⟩ : ∃ x, x = lowD a b := ⟨_, rfl⟩
  rw [← hA', ← hB']
  rw [← hB', ← hG] at hD
  rw [← hA', ← hn, ← hG] at hn1
  rw [← hA'] at hn2
  rw [← hn] at hva hla
  have ht := Lib.hid (common_any va vb n b w.drew hva hvb hla hlb)
  rw [← hG] at ht
  have k1 : ∀ d os, (grow (redrawn w d) os).cell? ⟨pa, oa, none⟩ = some (.bool sa) := cell_regrown hca1
  have k2 : ∀ d os, (grow (redrawn w d) os).cell? ⟨pa, oa + 1, none⟩ = some va := cell_regrown hca2
  have k3 : ∀ d os, (grow (redrawn w d) os).cell? ⟨pb, ob, none⟩ = some (.bool sb) := cell_regrown hcb1
  have k4 : ∀ d os, (grow (redrawn w d) os).cell? ⟨pb, ob + 1, none⟩ = some vb := cell_regrown hcb2
  replace hca1 := Lib.hid hca1
  replace hca2 := Lib.hid hca2
  replace hcb1 := Lib.hid hcb1
  replace hcb2 := Lib.hid hcb2
  replace hva := Lib.hid hva
  replace hvb := Lib.hid hvb
  replace h := Lib.hid h
  replace hn1 := Lib.hid hn1
  replace hn2 := Lib.hid hn2
  replace hD := Lib.hid hD
  replace hsb0 := Lib.hid hsb0
  clear ha hb hsa hsb hn hG hA' hB'
  go_enter Tryz.func131, Tryz.ntmps131
  go_wp2_with fail
  refine wp_region_reads_call 8 rfl (by kernel_rfl) (by kernel_rfl) (by kernel_rfl) (fun c a d v w h => by cases d <;> exact h) ?_
  simp only [List.take_succ_cons, List.take_zero, List.drop_succ_cons, List.drop_zero]
  iterate 8
    refine wpReads_cons (v := ?_) (Or.inl ⟨by rfl, ?_⟩) ?_
    rotate_left
    · rintro w' ⟨p, rfl⟩
      go_simp
      try with_reducible rfl
    try simp only [Act.put, List.setIfInBounds_toArray, List.set_cons_zero, List.set_cons_succ]
  refine wpReads_nil ?_
  intro K hK
  rw [if_pos (by rfl)]
  go_simp
  refine ht.out.mono ?_
  rintro e w1 ⟨u, rfl, hu, hbu⟩
  refine hK _ _ (below_after (Nat.le_refl _) hbu) ?_
  have kB := Lib.hid (below_after (Nat.le_refl _) hbu)
  have q2 := (kB.out.cell hpa.out).trans hca2.out
  replace hu := Lib.hid hu
  clear hK hbu k1 k2 k3 k4
  go_wp2_with fail
  refine (over_any va u n G w1 (Dg.below hva.out kB.out) hu.out hG0 hla).mono ?_
  rintro e w2 ⟨vq, vr, rfl, hq, -, hb2⟩
  have kB2 := Lib.hid (kB.out.trans (hb2.mono kB.out.size))
  replace hu := Lib.hid (Dg.below hu.out hb2)
  replace hq := Lib.hid hq
  have q4 := (kB2.out.cell hpb.out).trans hcb2.out
  clear q2 hb2 kB
  go_wp2_with fail
  refine (over_any vb u b G w2 (Dg.below hvb.out kB2.out) hu.out hG0 hlb).mono ?_
  rintro e w3 ⟨vd, vr2, rfl, hd, -, hb3⟩
  have kB3 := Lib.hid (kB2.out.trans (hb3.mono kB2.out.size))
  replace hq := Lib.hid (Dg.below hq.out hb3)
  replace hd := Lib.hid hd
  have q1 := (kB3.out.cell hpa.out).trans hca1.out
  have q3 := (kB3.out.cell hpb.out).trans hcb1.out
  have kS := Lib.hid (RtS.below h.out kB3.out)
  have hl := Lib.hid (laidX_any p 0 (n / G) (!sa == sb) vq (w3.drewN 1) kS.out.num hq.out)
  clear q4 hb3 kB2 hu
  go_wp2_with fail
  go_region_with (first | (go_at_call 159; refine hl.out.mono ?_; rintro e w4 ⟨rfl, hw4⟩; replace hw4 := Lib.hid hw4))
  all_goals
    have hg4 : Hid (w3.grownBy w4 (some p)) := Lib.hid (by rw [hw4.out]; exact gb_trans (gb_drewN (gb_refl _ _) 1) (gb_set2 _ _ _ _ _ _))
    have kS4 : Hid (BS w4 p 2) := Lib.hid (by
      rw [hw4.out]
      obtain ⟨x0, x1, x2, x3, hx⟩ := kS.out
      have e1 := heap_setCell_same (w3.drewN 1) p 0 _ _ (.bool ((!sa == sb) && decide (0 < n / G))) hx
      have e2 := heap_setCell_same _ p (0 + 1) _ _ vq e1
      exact ⟨_, _, e2, by decide, by simp⟩)
    have hd4 : Hid (Dg w4 vd (b / G)) := Lib.hid (Dg.slot hd.out kS.out.num hg4.out)
    go_wp2_with fail
    refine (laidX_any p 2 (b / G) false vd w4 kS4.out hd4.out).mono ?_
    rintro e w5 ⟨rfl, hw5⟩
    replace hw5 := Lib.hid hw5
    clear q1 q3
    go_wp2
    go_ret
    have hsd : ((!sa == sb) && decide (0 < n / G)) = decide (A' < 0) := by
      rw [hsb0.out, hn2.out, ← hn1.out]
      cases sa <;> simp
      have := hn2.out
      simp at this
      omega
    refine ⟨rfl, ?_, ?_⟩
    · rw [hw5.out, hw4.out, hD.out]
      have := Rt.of_set (a := A') (b := b / G) (s := (!sa == sb) && decide (0 < n / G)) (kS.out.drewN 1) (by rw [hn1.out]; exact hq.out) hd.out hsd
      simpa using this
    · refine gb_trans (gb_of_below kB3.out) (gb_trans hg4.out ?_)
      rw [hw5.out]
      exact gb_set2 _ _ _ _ _ _
set_option maxHeartbeats 400000 in
theorem setFrac_any (p pa oa pb ob : Nat) (a : Int) (b : Nat) (w : World) (h : RtS w p) (ha : Big w pa oa a) (hb : Big w pb ob (b : Int)) (hb0 : 0 < b) (hla : (dg a.natAbs).length ≤ 1073741823) (hlb : (dg b).length ≤ 1073741823) :
    Calls Tryz.prog 129 #[.pointer (some ⟨p, 0, none⟩), .pointer (some ⟨pa, oa, none⟩), .pointer (some ⟨pb, ob, none⟩)] w (RetRt (lowN a b) (lowD a b) p w) := by
  have hn := Lib.hid (norm_any p pa oa pb ob a b w h ha hb hb0 hla hlb)
  clear h ha hb hb0 hla hlb
  go_enter Tryz.func129, Tryz.ntmps129
  go_wp2_with fail
  refine hn.out.mono ?_
  rintro e w1 ⟨rfl, hb, hg⟩
  replace hb := Lib.hid hb
  replace hg := Lib.hid hg
  clear hn
  go_wp2
  go_ret
  exact ⟨rfl, hb.out, hg.out⟩
set_option maxHeartbeats 400000 in
theorem ratSign_any (p : Nat) (a : Int) (b : Nat) (w : World) (h : Rt w p a b) :
    Calls Tryz.prog 117 #[.pointer (some ⟨p, 0, none⟩)] w fun e w' => e = .returned (.int .i64 a.sign) ∧ w = w' := by
  have hn := Lib.hid (sign_any p 0 a w h.num)
  clear h
  go_enter Tryz.func117, Tryz.ntmps117
  go_wp2_with fail
  refine hn.out.mono ?_
  rintro e w1 ⟨rfl, rfl⟩
  clear hn
  go_wp2
  go_ret
  exact ⟨rfl, rfl⟩
set_option maxRecDepth 100000 in
set_option maxHeartbeats 400000 in
theorem negX_any (p o pa oa n : Nat) (b : Bool) (v : Value) (w : World) (h : BS w p o) (hc1 : w.cell? ⟨pa, oa, none⟩ = some (.bool b)) (hc2 : w.cell? ⟨pa, oa + 1, none⟩ = some v) (hv : Dg w v n) :
    Calls Tryz.prog 161 #[.pointer (some ⟨p, o, none⟩), .pointer (some ⟨pa, oa, none⟩)] w fun e w' => e = .returned (.pointer (some ⟨p, o, none⟩)) ∧ w' = ((w.drewN 1).setCell ⟨p, o, none⟩ (.bool (!b && decide (0 < n)))).setCell ⟨p, o + 1, none⟩ v := by
  have hl := Lib.hid (laidX_any p o n (!b) v (w.drewN 1) (h.drewN 1) (hv.drewN 1))
  clear h hv
  go_enter Tryz.func161, Tryz.ntmps161
  go_wp2_with fail
  go_region_with (first | (go_at_call 159; refine hl.out.mono ?_; rintro e w2 ⟨rfl, hw2⟩; replace hw2 := Lib.hid hw2))
  all_goals
    go_wp2
    go_ret
    exact ⟨rfl, hw2.out⟩
set_option maxRecDepth 100000 in
set_option maxHeartbeats 800000 in
theorem ratNeg_any (p q : Nat) (a : Int) (b : Nat) (w : World) (h : RtS w p) (hx : Rt w q a b) :
    Calls Tryz.prog 124 #[.pointer (some ⟨p, 0, none⟩), .pointer (some ⟨q, 0, none⟩)] w (RetRt (-a) b p w) := by
  obtain ⟨va, vb, hx1, hva, hvb⟩ := hx
  have hca1 : w.cell? ⟨q, 0, none⟩ = some (.bool (decide (a < 0))) := by rw [cell_of_row w q 0 _ _ (0, 0) hx1]; rfl
  have hca2 : w.cell? ⟨q, 0 + 1, none⟩ = some va := by rw [cell_of_row w q (0 + 1) _ _ (0, 0) hx1]; rfl
  obtain ⟨s, hs⟩ : ∃ s, s = decide (a < 0) := ⟨_, rfl⟩
  rw [← hs] at hca1 hx1
  have hsd : (!s && decide (0 < a.natAbs)) = decide (-a < 0) := by
    rw [hs]
    rcases Int.lt_trichotomy a 0 with h1 | h1 | h1
    · simp [h1]; omega
    · subst h1; rfl
    · have h2 : ¬ a < 0 := by omega
      simp [h2, h1]; omega
  have hl := Lib.hid (negX_any p 0 q 0 a.natAbs s va (w.drewN 1) h.num hca1 hca2 hva)
  obtain ⟨n, hn⟩ : ∃ n, n = a.natAbs := ⟨_, rfl⟩
  rw [← hn] at hl hsd hva
  replace hx1 := Lib.hid hx1
  replace hva := Lib.hid hva
  replace hvb := Lib.hid hvb
  replace hsd := Lib.hid hsd
  replace hn := Lib.hid hn
  replace h := Lib.hid h
  clear hs hca1 hca2
  go_enter Tryz.func124, Tryz.ntmps124
  go_wp2_with fail
  go_region_with (first | (go_at_call 161; refine hl.out.mono ?_; rintro e w1 ⟨rfl, hw1⟩; replace hw1 := Lib.hid hw1))
  all_goals
    have hg1 : Hid (w.grownBy w1 (some p)) := Lib.hid (by rw [hw1.out]; exact gb_trans (gb_drewN (gb_drewN (gb_refl _ _) 1) 1) (gb_set2 _ _ _ _ _ _))
    have hp1 : Hid (∃ x2 x3 : Value, w1.heap[p]? = some (.cells #[.bool (!s && decide (0 < n)), va, x2, x3] 153 (0, 0)) ∧ (p = q → x3 = vb)) := Lib.hid (by
      rw [hw1.out]
      by_cases hpq : p = q
      · subst hpq
        have e1 := heap_setCell_same ((w.drewN 1).drewN 1) p 0 _ _ (.bool (!s && decide (0 < n))) hx1.out
        have e2 := heap_setCell_same _ p (0 + 1) _ _ va e1
        exact ⟨_, _, e2, fun _ => rfl⟩
      · obtain ⟨x0, x1, x2, x3, hh⟩ := h.out
        have e1 := heap_setCell_same ((w.drewN 1).drewN 1) p 0 _ _ (.bool (!s && decide (0 < n))) hh
        have e2 := heap_setCell_same _ p (0 + 1) _ _ va e1
        exact ⟨_, _, e2, fun e => absurd e hpq⟩)
    have kS1 : Hid (RtS w1 p) := Lib.hid (by obtain ⟨x2, x3, e, -⟩ := hp1.out; exact ⟨_, _, _, _, e⟩)
    have q3 : w1.cell? ⟨q, 3, none⟩ = some vb := by
      by_cases hpq : p = q
      · subst hpq
        obtain ⟨x2, x3, e, he⟩ := hp1.out
        rw [cell_of_row w1 p 3 _ _ (0, 0) e, he rfl]; rfl
      · have hlq : q < w.heap.size := by
          rcases Nat.lt_or_ge q w.heap.size with hlt | hge
          · exact hlt
          · have := hx1.out; rw [Array.getElem?_eq_none hge] at this; cases this
        rw [cell_of_row w1 q 3 _ _ (0, 0) ((hg1.out.block q hlq (fun e => hpq (by injection e with e; exact e.symm))).trans hx1.out)]; rfl
    have hvb1 : Hid (Dg w1 vb b) := Lib.hid (Dg.slot hvb.out h.out.num hg1.out)
    have hl2 := Lib.hid (laidX_any p 2 b false vb (w1.drewN 1) kS1.out.den hvb1.out)
    go_wp2_with fail
    go_region_with (first | (go_at_call 159; refine hl2.out.mono ?_; rintro e w2 ⟨rfl, hw2⟩; replace hw2 := Lib.hid hw2))
    all_goals
      clear q3
      go_wp2
      go_ret
      have hg2 : Hid (w1.grownBy w2 (some p)) := Lib.hid (by rw [hw2.out]; exact gb_trans (gb_drewN (gb_refl _ _) 1) (gb_set2 _ _ _ _ _ _))
      refine ⟨rfl, ?_, gb_trans hg1.out hg2.out⟩
      obtain ⟨x2, x3, e, -⟩ := hp1.out
      have e3 := heap_setCell_same (w1.drewN 1) p 2 _ _ (.bool false) e
      have e4 := heap_setCell_same _ p (2 + 1) _ _ vb e3
      refine ⟨va, vb, by rw [hw2.out, Bool.false_and, e4, hsd.out]; rfl, ?_, Dg.slot hvb1.out kS1.out.num hg2.out⟩
      rw [Int.natAbs_neg, ← hn.out]
      exact Dg.slot (Dg.slot hva.out h.out.num hg1.out) kS1.out.num hg2.out
end Go.Proofs.YtoaggmegmgdgbaaGreat
