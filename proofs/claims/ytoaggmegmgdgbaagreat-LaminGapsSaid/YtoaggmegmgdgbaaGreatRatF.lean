import Derived.Test.YtoaggmegmgdgbaaGreatRatE
namespace Go.Proofs.YtoaggmegmgdgbaaGreat
open Go.RowKit Go.Sort
theorem may_fr {a : Int} {b k : Nat} (h : LowF a b) (hk : k ≤ 1000) (la : Fit k a.natAbs) (lb : Fit k b) : ratioMay (decide (a < 0)) (natS a.natAbs) (natS b) = true := by
  unfold ratioMay
  rw [mayB_natS (la.nb (by omega)), mayB_natS (lb.nb (by omega)), be_natS, be_natS]
  have h0 := h.1
  have h1 := h.2
  by_cases hn : a < 0
  · have h2 : 0 < a.natAbs := by omega
    simp [h0, h1]
    omega
  · simp [h0, h1, hn]
set_option maxRecDepth 100000 in
set_option maxHeartbeats 2000000 in
theorem compareR_any (k a' b c' d : Nat) (w : World) (h : LowF (a' : Int) b) (h' : LowF (c' : Int) d) (hk : k ≤ 1000) (la : Fit k (a' : Int).natAbs) (lb : Fit k b) (lc : Fit k (c' : Int).natAbs) (ld : Fit k d) :
    Calls Tryz.prog 33 #[frV (a' : Int) b, frV (c' : Int) d] w fun e w' => e = .returned (.tuple #[.int .i64 (cmpI (a' * d) (c' * b)), .int .i64 0]) ∧ Below w.heap.size w w' := by
  have hC := fun (p q : Nat) (W : World) (k1 : Rt W p (a' : Int) b) (k2 : Rt W q (c' : Int) d) => ratCmp_any p q a' b c' d W k1 k2 (by simpa using la.dg (by omega)) (lb.dg (by omega)) (by simpa using lc.dg (by omega)) (ld.dg (by omega))
  have hcI : cmpI (a' * d) (c' * b) = -1 ∨ cmpI (a' * d) (c' * b) = 0 ∨ cmpI (a' * d) (c' * b) = 1 := by unfold cmpI; split <;> (try split) <;> simp
  obtain ⟨z, hz⟩ : ∃ z, z = cmpI (a' * d) (c' * b) := ⟨_, rfl⟩
  rw [← hz] at hC hcI ⊢
  replace hC := Lib.hid hC
  obtain ⟨a, ha⟩ : ∃ x : Int, x = (a' : Int) := ⟨_, rfl⟩
  obtain ⟨c, hc⟩ : ∃ x : Int, x = (c' : Int) := ⟨_, rfl⟩
  rw [← ha] at h la hC ⊢
  rw [← hc] at h' lc hC ⊢
  have hA4 : (natS a.natAbs).size ≤ 16384 := by rw [natS_size]; exact la.nb (by omega)
  have hB4 : (natS b).size ≤ 16384 := by rw [natS_size]; exact lb.nb (by omega)
  have hC4 : (natS c.natAbs).size ≤ 16384 := by rw [natS_size]; exact lc.nb (by omega)
  have hD4 : (natS d).size ≤ 16384 := by rw [natS_size]; exact ld.nb (by omega)
  have hm1 := fun W => ratMay_any (decide (a < 0)) (natS a.natAbs) (natS b) W (by omega) (by omega)
  have hm2 := fun W => ratMay_any (decide (c < 0)) (natS c.natAbs) (natS d) W (by omega) (by omega)
  rw [may_fr h hk la lb] at hm1
  rw [may_fr h' hk lc ld] at hm2
  have hr1 := fun W => ratNew_any k a b W h hk la lb
  have hr2 := fun W => ratNew_any k c d W h' hk lc ld
  unfold frV at hr1 hr2 ⊢
  obtain ⟨s, hs⟩ : ∃ s, s = decide (a < 0) := ⟨_, rfl⟩
  obtain ⟨sN, hsN⟩ : ∃ x, x = natS a.natAbs := ⟨_, rfl⟩
  obtain ⟨sD, hsD⟩ : ∃ x, x = natS b := ⟨_, rfl⟩
  obtain ⟨t, ht⟩ : ∃ s, s = decide (c < 0) := ⟨_, rfl⟩
  obtain ⟨tN, htN⟩ : ∃ x, x = natS c.natAbs := ⟨_, rfl⟩
  obtain ⟨tD, htD⟩ : ∃ x, x = natS d := ⟨_, rfl⟩
  rw [← hs, ← hsN, ← hsD] at hm1 hr1 ⊢
  rw [← ht, ← htN, ← htD] at hm2 hr2 ⊢
  replace hm1 := Lib.hid hm1
  replace hm2 := Lib.hid hm2
  replace hr1 := Lib.hid hr1
  replace hr2 := Lib.hid hr2
  clear hA4 hB4 hC4 hD4 hs hsN hsD ht htN htD
  clear hz ha hc la lb lc ld hk h h'
  go_enter Tryz.func33, Tryz.ntmps33
  go_wp2_with fail
  have kk0 := (Blk.new w 26 #[.bool s, .string sN, .string sD]).alloc (.cells #[.bool t, .string tN, .string tD] 26)
  have kk1 := Blk.new (w.alloc (.cells #[.bool s, .string sN, .string sD] 26)) 26 #[.bool t, .string tN, .string tD]
  rw [show (w.alloc (.cells #[.bool s, .string sN, .string sD] 26)).heap.size = w.heap.size + 1 by simp] at kk1
  have K := Lib.hid ((KeepT.one kk0).snoc kk1)
  have hB := Lib.hid (show Below w.heap.size w ((w.alloc (.cells #[.bool s, .string sN, .string sD] 26)).alloc (.cells #[.bool t, .string tN, .string tD] 26)) from ((Below.refl _ w).alloc (Nat.le_refl _) _).alloc (by simp) _)
  generalize hw1 : (w.alloc (.cells #[.bool s, .string sN, .string sD] 26)).alloc (.cells #[.bool t, .string tN, .string tD] 26) = w1 at K hB ⊢
  clear hw1 kk0 kk1
  refine (hm1.out w1).mono ?_
  rintro e w2 ⟨rfl, hb⟩
  replace K := Lib.hid (KeepT.below K.out hb)
  replace hB := Lib.hid (hB.out.trans (hb.mono hB.out.size))
  clear hb
  have kk1 : w2.cell? ⟨w.heap.size, 0, none⟩ = some (.bool s) := (K.out.at_ 0 rfl).cell 0
  have kk2 : w2.cell? ⟨w.heap.size, 1, none⟩ = some (.string sN) := (K.out.at_ 0 rfl).cell 1
  have kk3 : w2.cell? ⟨w.heap.size, 2, none⟩ = some (.string sD) := (K.out.at_ 0 rfl).cell 2
  have kk4 : w2.cell? ⟨w.heap.size + 1, 0, none⟩ = some (.bool t) := (K.out.at_ 1 rfl).cell 0
  have kk5 : w2.cell? ⟨w.heap.size + 1, 1, none⟩ = some (.string tN) := (K.out.at_ 1 rfl).cell 1
  have kk6 : w2.cell? ⟨w.heap.size + 1, 2, none⟩ = some (.string tD) := (K.out.at_ 1 rfl).cell 2
  go_wp2_with fail
  refine (hm2.out w2).mono ?_
  rintro e w3 ⟨rfl, hb⟩
  replace K := Lib.hid (KeepT.below K.out hb)
  replace hB := Lib.hid (hB.out.trans (hb.mono hB.out.size))
  clear hb kk1 kk2 kk3 kk4 kk5 kk6
  have kk7 : w3.cell? ⟨w.heap.size, 0, none⟩ = some (.bool s) := (K.out.at_ 0 rfl).cell 0
  have kk8 : w3.cell? ⟨w.heap.size, 1, none⟩ = some (.string sN) := (K.out.at_ 0 rfl).cell 1
  have kk9 : w3.cell? ⟨w.heap.size, 2, none⟩ = some (.string sD) := (K.out.at_ 0 rfl).cell 2
  have kk10 : w3.cell? ⟨w.heap.size + 1, 0, none⟩ = some (.bool t) := (K.out.at_ 1 rfl).cell 0
  have kk11 : w3.cell? ⟨w.heap.size + 1, 1, none⟩ = some (.string tN) := (K.out.at_ 1 rfl).cell 1
  have kk12 : w3.cell? ⟨w.heap.size + 1, 2, none⟩ = some (.string tD) := (K.out.at_ 1 rfl).cell 2
  have hl0 : w.heap.size < w3.heap.size := (K.out.at_ 0 rfl).lt
  have hl1 : w.heap.size + 1 < w3.heap.size := (K.out.at_ 1 rfl).lt
  replace K := Lib.hid (show KeepT w3.drew _ from K.out.drewN 1)
  replace hB := Lib.hid hB.out.drew
  clear hm1 hm2
  go_wp2_with fail
  go_region_held3 (fun w' => w'.cell? ⟨w.heap.size, 0, none⟩ = some (.bool s) ∧ w'.cell? ⟨w.heap.size, 1, none⟩ = some (.string sN) ∧ w'.cell? ⟨w.heap.size, 2, none⟩ = some (.string sD) ∧ w'.cell? ⟨w.heap.size + 1, 0, none⟩ = some (.bool t) ∧ w'.cell? ⟨w.heap.size + 1, 1, none⟩ = some (.string tN) ∧ w'.cell? ⟨w.heap.size + 1, 2, none⟩ = some (.string tD)) (go_keep)
    (first
      | (go_at_call 84; (with_reducible refine Calls.mono (hr1.out w3.drew) ?_); rintro e w4 ⟨p1, rfl, hp1, hR1, hb⟩; have K4 := Lib.hid (KeepT.below K.out hb); have hB4 := Lib.hid (hB.out.trans (hb.mono hB.out.size)); replace hR1 := Lib.hid hR1; clear hb hp1; have kk13 : w4.cell? ⟨w.heap.size, 0, none⟩ = some (.bool s) := (K4.out.at_ 0 rfl).cell 0; have kk14 : w4.cell? ⟨w.heap.size, 1, none⟩ = some (.string sN) := (K4.out.at_ 0 rfl).cell 1; have kk15 : w4.cell? ⟨w.heap.size, 2, none⟩ = some (.string sD) := (K4.out.at_ 0 rfl).cell 2; have kk16 : w4.cell? ⟨w.heap.size + 1, 0, none⟩ = some (.bool t) := (K4.out.at_ 1 rfl).cell 0; have kk17 : w4.cell? ⟨w.heap.size + 1, 1, none⟩ = some (.string tN) := (K4.out.at_ 1 rfl).cell 1; have kk18 : w4.cell? ⟨w.heap.size + 1, 2, none⟩ = some (.string tD) := (K4.out.at_ 1 rfl).cell 2)
      | (go_at_call 84; (with_reducible refine Calls.mono (hr2.out w4) ?_); rintro e w5 ⟨p2, rfl, hp2, hR2, hb⟩; have K5 := Lib.hid (KeepT.below K4.out hb); have hB5 := Lib.hid (hB4.out.trans (hb.mono hB4.out.size)); have hR12 := Lib.hid (And.intro (Rt.below hR1.out hb) hR2); clear hb hp2 hR2 hB4; have kk19 : w5.cell? ⟨w.heap.size, 0, none⟩ = some (.bool s) := (K5.out.at_ 0 rfl).cell 0; have kk20 : w5.cell? ⟨w.heap.size, 1, none⟩ = some (.string sN) := (K5.out.at_ 0 rfl).cell 1; have kk21 : w5.cell? ⟨w.heap.size, 2, none⟩ = some (.string sD) := (K5.out.at_ 0 rfl).cell 2; have kk22 : w5.cell? ⟨w.heap.size + 1, 0, none⟩ = some (.bool t) := (K5.out.at_ 1 rfl).cell 0; have kk23 : w5.cell? ⟨w.heap.size + 1, 1, none⟩ = some (.string tN) := (K5.out.at_ 1 rfl).cell 1; have kk24 : w5.cell? ⟨w.heap.size + 1, 2, none⟩ = some (.string tD) := (K5.out.at_ 1 rfl).cell 2)
      | (go_at_call 85; (with_reducible refine Calls.mono (hC.out _ _ w5 hR12.out.1 hR12.out.2) ?_); rintro e w6 ⟨rfl, hb⟩; have K6 := Lib.hid (KeepT.below K5.out hb); have hB6 := Lib.hid (hB5.out.trans (hb.mono hB5.out.size)); clear hb; have kk25 : w6.cell? ⟨w.heap.size, 0, none⟩ = some (.bool s) := (K6.out.at_ 0 rfl).cell 0; have kk26 : w6.cell? ⟨w.heap.size, 1, none⟩ = some (.string sN) := (K6.out.at_ 0 rfl).cell 1; have kk27 : w6.cell? ⟨w.heap.size, 2, none⟩ = some (.string sD) := (K6.out.at_ 0 rfl).cell 2; have kk28 : w6.cell? ⟨w.heap.size + 1, 0, none⟩ = some (.bool t) := (K6.out.at_ 1 rfl).cell 0; have kk29 : w6.cell? ⟨w.heap.size + 1, 1, none⟩ = some (.string tN) := (K6.out.at_ 1 rfl).cell 1; have kk30 : w6.cell? ⟨w.heap.size + 1, 2, none⟩ = some (.string tD) := (K6.out.at_ 1 rfl).cell 2))
  all_goals
    have F := Lib.hid hB6.out
    clear kk7 kk8 kk9 kk10 kk11 kk12
    rcases hcI with rfl | rfl | rfl
    all_goals
      go_wp2
      go_ret2
      exact ⟨rfl, F.out⟩
theorem KeepT.grown {W W' : World} {l : List (Nat × TypeId × Array Value)} {q B : Nat} (h : KeepT W l) (hg : W.grownBy W' (some q)) (hB : B < q) (hl : ∀ (i : Nat) (x : Nat × TypeId × Array Value), l[i]? = some x → x.1 ≤ B := by
  rintro (_ | _ | _ | i) x hx <;> (try (cases hx; omega)); cases hx) : KeepT W' l := fun i x hx => Blk.grown (h i x hx) hg (by
  intro e; injection e with e; have := hl i x hx; omega)
theorem keep_set3 {W : World} {a : Addr} {v u0 u1 u2 : Value} {g : Nat} (h : W.cell? a = some v) (hne : a.block ≠ g) : (((W.setCell ⟨g, 0, none⟩ u0).setCell ⟨g, 1, none⟩ u1).setCell ⟨g, 2, none⟩ u2).cell? a = some v := by
  rw [World.cell?_setCell_other _ _ _ _ (fun e => hne (by rw [← e])), World.cell?_setCell_other _ _ _ _ (fun e => hne (by rw [← e])), World.cell?_setCell_other _ _ _ _ (fun e => hne (by rw [← e]))]
  exact h
theorem Rt.alloc {w : World} {p : Nat} {a : Int} {b : Nat} (h : Rt w p a b) (o : Obj) : Rt (w.alloc o) p a b := h.below ((Below.refl _ w).alloc (Nat.le_refl _) o)
theorem low_fitAdd {k : Nat} {a c : Int} {b d : Nat} (la : Fit k a.natAbs) (lb : Fit k b) (lc : Fit k c.natAbs) (ld : Fit k d) : Fit (k + k + 1) (lowN (a * d + c * b) (b * d)).natAbs ∧ Fit (k + k + 1) (lowD (a * d + c * b) (b * d)) := by
  have f1 : Fit (k + k) (a * d).natAbs := by rw [Int.natAbs_mul, Int.natAbs_natCast]; exact la.mul ld
  have f2 : Fit (k + k) (c * b).natAbs := by rw [Int.natAbs_mul, Int.natAbs_natCast]; exact lc.mul lb
  have f3 : Fit (k + k + 1) (a * d + c * b).natAbs := (f1.add f2).le (Int.natAbs_add_le _ _)
  refine ⟨f3.le ?_, ((lb.mul ld).mono (by omega)).le (low_le _ _)⟩
  rw [lowN_abs]
  exact Nat.div_le_self _ _
theorem low_fitSub {k : Nat} {a c : Int} {b d : Nat} (la : Fit k a.natAbs) (lb : Fit k b) (lc : Fit k c.natAbs) (ld : Fit k d) : Fit (k + k + 1) (lowN (a * d + -c * b) (b * d)).natAbs ∧ Fit (k + k + 1) (lowD (a * d + -c * b) (b * d)) :=
  low_fitAdd (c := -c) la lb (by rw [Int.natAbs_neg]; exact lc) ld
set_option maxRecDepth 100000 in
set_option maxHeartbeats 4000000 in
theorem doAdd_any (k : Nat) (a c : Int) (b d : Nat) (w : World) (h : LowF a b) (h' : LowF c d) (hk : k ≤ 1000) (la : Fit k a.natAbs) (lb : Fit k b) (lc : Fit k c.natAbs) (ld : Fit k d) :
    Calls Tryz.prog 81 #[frV a b, frV c d, .func (.func 86) #[] #[]] w fun e w' => e = .returned (.tuple #[frV (lowN (a * d + c * b) (b * d)) (lowD (a * d + c * b) (b * d)), .int .i64 0]) ∧ Below w.heap.size w w' := by
  have hO := fun (z p q : Nat) (W : World) (k0 : RtS W z) (k1 : Rt W p a b) (k2 : Rt W q c d) => ratAdd_any k z p q a c b d W k0 k1 k2 h.1 h'.1 hk la lb lc ld
  have g1 := low_fitAdd la lb lc ld
  have hT := fun (z : Nat) (W : World) (k0 : Rt W z (lowN (a * d + c * b) (b * d)) (lowD (a * d + c * b) (b * d))) => toldR_any z (lowN (a * d + c * b) (b * d)) (lowD (a * d + c * b) (b * d)) W k0 (g1.1.dg (by omega)) (g1.2.dg (by omega)) (g1.1.nb (by omega)) (g1.2.nb (by omega))
  obtain ⟨ln, hln⟩ : ∃ x, x = (lowN (a * d + c * b) (b * d)) := ⟨_, rfl⟩
  obtain ⟨ld', hld⟩ : ∃ x, x = (lowD (a * d + c * b) (b * d)) := ⟨_, rfl⟩
  rw [← hln, ← hld] at hO hT ⊢
  replace hO := Lib.hid hO
  have hA4 : (natS a.natAbs).size ≤ 16384 := by rw [natS_size]; exact la.nb (by omega)
  have hB4 : (natS b).size ≤ 16384 := by rw [natS_size]; exact lb.nb (by omega)
  have hC4 : (natS c.natAbs).size ≤ 16384 := by rw [natS_size]; exact lc.nb (by omega)
  have hD4 : (natS d).size ≤ 16384 := by rw [natS_size]; exact ld.nb (by omega)
  have hm1 := fun W => ratMay_any (decide (a < 0)) (natS a.natAbs) (natS b) W (by omega) (by omega)
  have hm2 := fun W => ratMay_any (decide (c < 0)) (natS c.natAbs) (natS d) W (by omega) (by omega)
  rw [may_fr h hk la lb] at hm1
  rw [may_fr h' hk lc ld] at hm2
  have hr1 := fun W => ratNew_any k a b W h hk la lb
  have hr2 := fun W => ratNew_any k c d W h' hk lc ld
  unfold frV at hT
  rw [show frV ln ld' = .agg #[.bool (decide (ln < 0)), .string (natS ln.natAbs), .string (natS ld')] from rfl]
  obtain ⟨rs, hrs⟩ : ∃ s, s = decide (ln < 0) := ⟨_, rfl⟩
  obtain ⟨rN, hrN⟩ : ∃ x, x = natS ln.natAbs := ⟨_, rfl⟩
  obtain ⟨rD, hrD⟩ : ∃ x, x = natS ld' := ⟨_, rfl⟩
  rw [← hrs, ← hrN, ← hrD] at hT ⊢
  replace hT := Lib.hid hT
  unfold frV at hr1 hr2 ⊢
  obtain ⟨s, hs⟩ : ∃ s, s = decide (a < 0) := ⟨_, rfl⟩
  obtain ⟨sN, hsN⟩ : ∃ x, x = natS a.natAbs := ⟨_, rfl⟩
  obtain ⟨sD, hsD⟩ : ∃ x, x = natS b := ⟨_, rfl⟩
  obtain ⟨t, ht⟩ : ∃ s, s = decide (c < 0) := ⟨_, rfl⟩
  obtain ⟨tN, htN⟩ : ∃ x, x = natS c.natAbs := ⟨_, rfl⟩
  obtain ⟨tD, htD⟩ : ∃ x, x = natS d := ⟨_, rfl⟩
  rw [← hs, ← hsN, ← hsD] at hm1 hr1 ⊢
  rw [← ht, ← htN, ← htD] at hm2 hr2 ⊢
  replace hm1 := Lib.hid hm1
  replace hm2 := Lib.hid hm2
  replace hr1 := Lib.hid hr1
  replace hr2 := Lib.hid hr2
  clear hA4 hB4 hC4 hD4 hs hsN hsD ht htN htD
  clear hln hld hrs hrN hrD la lb lc ld hk h h' g1
  go_enter Tryz.func81, Tryz.ntmps81
  go_wp2_with fail
  have kk0 := ((Blk.new w 26 #[.bool s, .string sN, .string sD]).alloc (.cells #[.bool t, .string tN, .string tD] 26)).alloc (.cells #[.bool false, .string ⟨#[]⟩, .string ⟨#[]⟩] 26)
  have kk1 := (Blk.new (w.alloc (.cells #[.bool s, .string sN, .string sD] 26)) 26 #[.bool t, .string tN, .string tD]).alloc (.cells #[.bool false, .string ⟨#[]⟩, .string ⟨#[]⟩] 26)
  have kk2 := Blk.new ((w.alloc (.cells #[.bool s, .string sN, .string sD] 26)).alloc (.cells #[.bool t, .string tN, .string tD] 26)) 26 #[.bool false, .string ⟨#[]⟩, .string ⟨#[]⟩]
  rw [show (w.alloc (.cells #[.bool s, .string sN, .string sD] 26)).heap.size = w.heap.size + 1 by simp] at kk1
  rw [show ((w.alloc (.cells #[.bool s, .string sN, .string sD] 26)).alloc (.cells #[.bool t, .string tN, .string tD] 26)).heap.size = w.heap.size + 2 by simp] at kk2
  have K := Lib.hid (((KeepT.one kk0).snoc kk1).snoc kk2)
  have hB := Lib.hid (show Below w.heap.size w (((w.alloc (.cells #[.bool s, .string sN, .string sD] 26)).alloc (.cells #[.bool t, .string tN, .string tD] 26)).alloc (.cells #[.bool false, .string ⟨#[]⟩, .string ⟨#[]⟩] 26)) from (((Below.refl _ w).alloc (Nat.le_refl _) _).alloc (by simp) _).alloc (by simp; omega) _)
  generalize hw1 : (((w.alloc (.cells #[.bool s, .string sN, .string sD] 26)).alloc (.cells #[.bool t, .string tN, .string tD] 26)).alloc (.cells #[.bool false, .string ⟨#[]⟩, .string ⟨#[]⟩] 26)) = w1 at K hB ⊢
  clear hw1 kk0 kk1 kk2
  refine (hm1.out w1).mono ?_
  rintro e w2 ⟨rfl, hb⟩
  replace K := Lib.hid (show KeepT w2 [(w.heap.size, 26, #[.bool s, .string sN, .string sD]), (w.heap.size + 1, 26, #[.bool t, .string tN, .string tD]), (w.heap.size + 2, 26, #[.bool false, .string ⟨#[]⟩, .string ⟨#[]⟩])] from KeepT.below K.out hb)
  replace hB := Lib.hid (hB.out.trans (hb.mono hB.out.size))
  clear hb
  have kk127 : w2.cell? ⟨w.heap.size, 0, none⟩ = some (.bool s) := (K.out.at_ 0 rfl).cell 0
  have kk128 : w2.cell? ⟨w.heap.size, 1, none⟩ = some (.string sN) := (K.out.at_ 0 rfl).cell 1
  have kk129 : w2.cell? ⟨w.heap.size, 2, none⟩ = some (.string sD) := (K.out.at_ 0 rfl).cell 2
  have kk130 : w2.cell? ⟨w.heap.size + 1, 0, none⟩ = some (.bool t) := (K.out.at_ 1 rfl).cell 0
  have kk131 : w2.cell? ⟨w.heap.size + 1, 1, none⟩ = some (.string tN) := (K.out.at_ 1 rfl).cell 1
  have kk132 : w2.cell? ⟨w.heap.size + 1, 2, none⟩ = some (.string tD) := (K.out.at_ 1 rfl).cell 2
  go_wp2_with fail
  refine (hm2.out w2).mono ?_
  rintro e w3 ⟨rfl, hb⟩
  replace K := Lib.hid (KeepT.below K.out hb)
  replace hB := Lib.hid (hB.out.trans (hb.mono hB.out.size))
  clear hb kk127 kk128 kk129 kk130 kk131 kk132
  have kk133 : w3.cell? ⟨w.heap.size, 0, none⟩ = some (.bool s) := (K.out.at_ 0 rfl).cell 0
  have kk134 : w3.cell? ⟨w.heap.size, 1, none⟩ = some (.string sN) := (K.out.at_ 0 rfl).cell 1
  have kk135 : w3.cell? ⟨w.heap.size, 2, none⟩ = some (.string sD) := (K.out.at_ 0 rfl).cell 2
  have kk136 : w3.cell? ⟨w.heap.size + 1, 0, none⟩ = some (.bool t) := (K.out.at_ 1 rfl).cell 0
  have kk137 : w3.cell? ⟨w.heap.size + 1, 1, none⟩ = some (.string tN) := (K.out.at_ 1 rfl).cell 1
  have kk138 : w3.cell? ⟨w.heap.size + 1, 2, none⟩ = some (.string tD) := (K.out.at_ 1 rfl).cell 2
  have hl0 : w.heap.size < w3.heap.size := (K.out.at_ 0 rfl).lt
  have hl1 : w.heap.size + 1 < w3.heap.size := (K.out.at_ 1 rfl).lt
  have hl2 : w.heap.size + 2 < w3.heap.size := (K.out.at_ 2 rfl).lt
  have KA := Lib.hid (show KeepT (w3.alloc (.cells #[.bool false, .slice none 0 0, .bool false, .slice none 0 0] 153)).drew [(w.heap.size, 26, #[.bool s, .string sN, .string sD]), (w.heap.size + 1, 26, #[.bool t, .string tN, .string tD]), (w.heap.size + 2, 26, #[.bool false, .string ⟨#[]⟩, .string ⟨#[]⟩])] ∧ RtS (w3.alloc (.cells #[.bool false, .slice none 0 0, .bool false, .slice none 0 0] 153)).drew w3.heap.size from ⟨(K.out.alloc (.cells #[.bool false, .slice none 0 0, .bool false, .slice none 0 0] 153)).drewN 1, Rt.new w3⟩)
  have hBA := Lib.hid (show Below w.heap.size w (w3.alloc (.cells #[.bool false, .slice none 0 0, .bool false, .slice none 0 0] 153)).drew from (hB.out.alloc hB.out.size (.cells #[.bool false, .slice none 0 0, .bool false, .slice none 0 0] 153)).drew)
  replace K := Lib.hid (show KeepT w3.drew [(w.heap.size, 26, #[.bool s, .string sN, .string sD]), (w.heap.size + 1, 26, #[.bool t, .string tN, .string tD]), (w.heap.size + 2, 26, #[.bool false, .string ⟨#[]⟩, .string ⟨#[]⟩])] from K.out.drewN 1)
  replace hB := Lib.hid hB.out.drew
  clear hm1 hm2
  go_wp2_with fail
  go_region_held3 (fun w' => w'.cell? ⟨w.heap.size, 0, none⟩ = some (.bool s) ∧ w'.cell? ⟨w.heap.size, 1, none⟩ = some (.string sN) ∧ w'.cell? ⟨w.heap.size, 2, none⟩ = some (.string sD) ∧ w'.cell? ⟨w.heap.size + 1, 0, none⟩ = some (.bool t) ∧ w'.cell? ⟨w.heap.size + 1, 1, none⟩ = some (.string tN) ∧ w'.cell? ⟨w.heap.size + 1, 2, none⟩ = some (.string tD)) (first | (have hq0 := q0; with_reducible exact ⟨keep_set3 q0 (by simp; try omega), keep_set3 q1 (by simp; try omega), keep_set3 q2 (by simp; try omega), keep_set3 q3 (by simp; try omega), keep_set3 q4 (by simp; try omega), keep_set3 q5 (by simp; try omega)⟩) | go_keep)
    (first
      | (go_at_call 84; (with_reducible refine Calls.mono (hr1.out w3.drew) ?_); rintro e w4 ⟨p1, rfl, hp1, hR1, hb⟩; have K4 := Lib.hid (KeepT.below K.out hb); have hB4 := Lib.hid (hB.out.trans (hb.mono hB.out.size)); have V0 := Lib.hid hR1; clear hb hp1 hR1; have kk85 : w4.cell? ⟨w.heap.size, 0, none⟩ = some (.bool s) := (K4.out.at_ 0 rfl).cell 0; have kk86 : w4.cell? ⟨w.heap.size, 1, none⟩ = some (.string sN) := (K4.out.at_ 0 rfl).cell 1; have kk87 : w4.cell? ⟨w.heap.size, 2, none⟩ = some (.string sD) := (K4.out.at_ 0 rfl).cell 2; have kk88 : w4.cell? ⟨w.heap.size + 1, 0, none⟩ = some (.bool t) := (K4.out.at_ 1 rfl).cell 0; have kk89 : w4.cell? ⟨w.heap.size + 1, 1, none⟩ = some (.string tN) := (K4.out.at_ 1 rfl).cell 1; have kk90 : w4.cell? ⟨w.heap.size + 1, 2, none⟩ = some (.string tD) := (K4.out.at_ 1 rfl).cell 2)
      | (go_at_call 84; (with_reducible refine Calls.mono (hr1.out (w3.alloc (.cells #[.bool false, .slice none 0 0, .bool false, .slice none 0 0] 153)).drew) ?_); rintro e w4 ⟨p1, rfl, hp1, hR1, hb⟩; have K4 := Lib.hid (KeepT.below KA.out.1 hb); have hB4 := Lib.hid (hBA.out.trans (hb.mono hBA.out.size)); have V1 := Lib.hid (And.intro hR1 (RtS.below KA.out.2 hb)); clear hb hp1 hR1; have kk91 : w4.cell? ⟨w.heap.size, 0, none⟩ = some (.bool s) := (K4.out.at_ 0 rfl).cell 0; have kk92 : w4.cell? ⟨w.heap.size, 1, none⟩ = some (.string sN) := (K4.out.at_ 0 rfl).cell 1; have kk93 : w4.cell? ⟨w.heap.size, 2, none⟩ = some (.string sD) := (K4.out.at_ 0 rfl).cell 2; have kk94 : w4.cell? ⟨w.heap.size + 1, 0, none⟩ = some (.bool t) := (K4.out.at_ 1 rfl).cell 0; have kk95 : w4.cell? ⟨w.heap.size + 1, 1, none⟩ = some (.string tN) := (K4.out.at_ 1 rfl).cell 1; have kk96 : w4.cell? ⟨w.heap.size + 1, 2, none⟩ = some (.string tD) := (K4.out.at_ 1 rfl).cell 2)
      | (go_at_call 84; have hV := V1; (with_reducible refine Calls.mono (hr2.out w4) ?_); rintro e w5 ⟨p2, rfl, hp2, hR2, hb⟩; have K5 := Lib.hid (KeepT.below K4.out hb); have hB5 := Lib.hid (hB4.out.trans (hb.mono hB4.out.size)); have Z1 := Lib.hid (And.intro (Rt.below hV.out.1 hb) (And.intro hR2 (And.intro (RtS.below hV.out.2 hb) hl2))); clear hb hp2 hR2 hB4 V1 hV; have kk97 : w5.cell? ⟨w.heap.size, 0, none⟩ = some (.bool s) := (K5.out.at_ 0 rfl).cell 0; have kk98 : w5.cell? ⟨w.heap.size, 1, none⟩ = some (.string sN) := (K5.out.at_ 0 rfl).cell 1; have kk99 : w5.cell? ⟨w.heap.size, 2, none⟩ = some (.string sD) := (K5.out.at_ 0 rfl).cell 2; have kk100 : w5.cell? ⟨w.heap.size + 1, 0, none⟩ = some (.bool t) := (K5.out.at_ 1 rfl).cell 0; have kk101 : w5.cell? ⟨w.heap.size + 1, 1, none⟩ = some (.string tN) := (K5.out.at_ 1 rfl).cell 1; have kk102 : w5.cell? ⟨w.heap.size + 1, 2, none⟩ = some (.string tD) := (K5.out.at_ 1 rfl).cell 2)
      | (go_at_call 84; have hV := V0; (with_reducible refine Calls.mono (hr2.out w4) ?_); rintro e w5 ⟨p2, rfl, hp2, hR2, hb⟩; have K5 := Lib.hid (KeepT.below K4.out hb); have hB5 := Lib.hid (hB4.out.trans (hb.mono hB4.out.size)); have Z0 := Lib.hid (show Rt (w5.alloc (.cells #[.bool false, .slice none 0 0, .bool false, .slice none 0 0] 153)) p1 _ _ ∧ Rt (w5.alloc (.cells #[.bool false, .slice none 0 0, .bool false, .slice none 0 0] 153)) p2 _ _ ∧ RtS (w5.alloc (.cells #[.bool false, .slice none 0 0, .bool false, .slice none 0 0] 153)) w5.heap.size ∧ w.heap.size + 2 < w5.heap.size ∧ KeepT (w5.alloc (.cells #[.bool false, .slice none 0 0, .bool false, .slice none 0 0] 153)) [(w.heap.size, 26, #[.bool s, .string sN, .string sD]), (w.heap.size + 1, 26, #[.bool t, .string tN, .string tD]), (w.heap.size + 2, 26, #[.bool false, .string ⟨#[]⟩, .string ⟨#[]⟩])] ∧ Below w.heap.size w (w5.alloc (.cells #[.bool false, .slice none 0 0, .bool false, .slice none 0 0] 153)) from ⟨Rt.alloc (Rt.below hV.out hb) _, Rt.alloc hR2 _, Rt.new w5, (K5.out.at_ 2 rfl).lt, K5.out.alloc _, hB5.out.alloc hB5.out.size _⟩); clear hb hp2 hR2 hB4 V0 hV; have kk103 : w5.cell? ⟨w.heap.size, 0, none⟩ = some (.bool s) := (K5.out.at_ 0 rfl).cell 0; have kk104 : w5.cell? ⟨w.heap.size, 1, none⟩ = some (.string sN) := (K5.out.at_ 0 rfl).cell 1; have kk105 : w5.cell? ⟨w.heap.size, 2, none⟩ = some (.string sD) := (K5.out.at_ 0 rfl).cell 2; have kk106 : w5.cell? ⟨w.heap.size + 1, 0, none⟩ = some (.bool t) := (K5.out.at_ 1 rfl).cell 0; have kk107 : w5.cell? ⟨w.heap.size + 1, 1, none⟩ = some (.string tN) := (K5.out.at_ 1 rfl).cell 1; have kk108 : w5.cell? ⟨w.heap.size + 1, 2, none⟩ = some (.string tD) := (K5.out.at_ 1 rfl).cell 2)
      | (go_at_call 84; have hV := V0; (with_reducible refine Calls.mono (hr2.out (w4.alloc (.cells #[.bool false, .slice none 0 0, .bool false, .slice none 0 0] 153))) ?_); rintro e w5 ⟨p2, rfl, hp2, hR2, hb⟩; have K5 := Lib.hid (KeepT.below (K4.out.alloc (.cells #[.bool false, .slice none 0 0, .bool false, .slice none 0 0] 153)) hb); have hBX := hB4.out.alloc hB4.out.size (.cells #[.bool false, .slice none 0 0, .bool false, .slice none 0 0] 153); have hB5 := Lib.hid (hBX.trans (hb.mono hBX.size)); have Z1 := Lib.hid (And.intro (Rt.below (Rt.alloc hV.out (.cells #[.bool false, .slice none 0 0, .bool false, .slice none 0 0] 153)) hb) (And.intro hR2 (And.intro (RtS.below (Rt.new w4) hb) (K4.out.at_ 2 rfl).lt))); clear hb hp2 hR2 hB4 V0 hV hBX; have kk109 : w5.cell? ⟨w.heap.size, 0, none⟩ = some (.bool s) := (K5.out.at_ 0 rfl).cell 0; have kk110 : w5.cell? ⟨w.heap.size, 1, none⟩ = some (.string sN) := (K5.out.at_ 0 rfl).cell 1; have kk111 : w5.cell? ⟨w.heap.size, 2, none⟩ = some (.string sD) := (K5.out.at_ 0 rfl).cell 2; have kk112 : w5.cell? ⟨w.heap.size + 1, 0, none⟩ = some (.bool t) := (K5.out.at_ 1 rfl).cell 0; have kk113 : w5.cell? ⟨w.heap.size + 1, 1, none⟩ = some (.string tN) := (K5.out.at_ 1 rfl).cell 1; have kk114 : w5.cell? ⟨w.heap.size + 1, 2, none⟩ = some (.string tD) := (K5.out.at_ 1 rfl).cell 2)
      | (go_at_call 86; have hZ := Z1; (with_reducible refine Calls.mono (hO.out _ _ _ w5 hZ.out.2.2.1 hZ.out.1 hZ.out.2.1) ?_); rintro e w6 ⟨rfl, hr, hg⟩; have K6 := Lib.hid (KeepT.grown K5.out hg hZ.out.2.2.2); have hB6 := Lib.hid (below_gb hB5.out hg (by have := hZ.out.2.2.2; omega) hB5.out.size); have hr6 := Lib.hid hr; clear hr hg hZ Z1 hB5; have kk115 : w6.cell? ⟨w.heap.size, 0, none⟩ = some (.bool s) := (K6.out.at_ 0 rfl).cell 0; have kk116 : w6.cell? ⟨w.heap.size, 1, none⟩ = some (.string sN) := (K6.out.at_ 0 rfl).cell 1; have kk117 : w6.cell? ⟨w.heap.size, 2, none⟩ = some (.string sD) := (K6.out.at_ 0 rfl).cell 2; have kk118 : w6.cell? ⟨w.heap.size + 1, 0, none⟩ = some (.bool t) := (K6.out.at_ 1 rfl).cell 0; have kk119 : w6.cell? ⟨w.heap.size + 1, 1, none⟩ = some (.string tN) := (K6.out.at_ 1 rfl).cell 1; have kk120 : w6.cell? ⟨w.heap.size + 1, 2, none⟩ = some (.string tD) := (K6.out.at_ 1 rfl).cell 2)
      | (go_at_call 86; have hZ := Z0; (with_reducible refine Calls.mono (hO.out _ _ _ _ hZ.out.2.2.1 hZ.out.1 hZ.out.2.1) ?_); rintro e w6 ⟨rfl, hr, hg⟩; have K6 := Lib.hid (KeepT.grown hZ.out.2.2.2.2.1 hg hZ.out.2.2.2.1); have hB6 := Lib.hid (below_gb hZ.out.2.2.2.2.2 hg (by have := hZ.out.2.2.2.1; omega) hZ.out.2.2.2.2.2.size); have hr6 := Lib.hid hr; clear hr hg hZ Z0 hB5; have kk121 : w6.cell? ⟨w.heap.size, 0, none⟩ = some (.bool s) := (K6.out.at_ 0 rfl).cell 0; have kk122 : w6.cell? ⟨w.heap.size, 1, none⟩ = some (.string sN) := (K6.out.at_ 0 rfl).cell 1; have kk123 : w6.cell? ⟨w.heap.size, 2, none⟩ = some (.string sD) := (K6.out.at_ 0 rfl).cell 2; have kk124 : w6.cell? ⟨w.heap.size + 1, 0, none⟩ = some (.bool t) := (K6.out.at_ 1 rfl).cell 0; have kk125 : w6.cell? ⟨w.heap.size + 1, 1, none⟩ = some (.string tN) := (K6.out.at_ 1 rfl).cell 1; have kk126 : w6.cell? ⟨w.heap.size + 1, 2, none⟩ = some (.string tD) := (K6.out.at_ 1 rfl).cell 2)
      | (go_at_call 79; (with_reducible refine Calls.mono (hT.out _ w6 hr6.out) ?_); rintro e w7 ⟨rfl, hb⟩; have K7 := Lib.hid (KeepT.below K6.out hb); have hB7 := Lib.hid (hB6.out.trans (hb.mono hB6.out.size)); clear hb hr6; have q0 : w7.cell? ⟨w.heap.size, 0, none⟩ = some (.bool s) := (K7.out.at_ 0 rfl).cell 0; have q1 : w7.cell? ⟨w.heap.size, 1, none⟩ = some (.string sN) := (K7.out.at_ 0 rfl).cell 1; have q2 : w7.cell? ⟨w.heap.size, 2, none⟩ = some (.string sD) := (K7.out.at_ 0 rfl).cell 2; have q3 : w7.cell? ⟨w.heap.size + 1, 0, none⟩ = some (.bool t) := (K7.out.at_ 1 rfl).cell 0; have q4 : w7.cell? ⟨w.heap.size + 1, 1, none⟩ = some (.string tN) := (K7.out.at_ 1 rfl).cell 1; have q5 : w7.cell? ⟨w.heap.size + 1, 2, none⟩ = some (.string tD) := (K7.out.at_ 1 rfl).cell 2; have iz0 : w7.cell? ⟨w.heap.size + 2, 0, none⟩ = some (.bool false) := (K7.out.at_ 2 rfl).cell 0; have fz0 := (K7.out.at_ 2 rfl).frozen 0; have iz1 : w7.cell? ⟨w.heap.size + 2, 1, none⟩ = some (.string ⟨#[]⟩) := (K7.out.at_ 2 rfl).cell 1; have fz1 := (K7.out.at_ 2 rfl).frozen 1; have iz2 : w7.cell? ⟨w.heap.size + 2, 2, none⟩ = some (.string ⟨#[]⟩) := (K7.out.at_ 2 rfl).cell 2; have fz2 := (K7.out.at_ 2 rfl).frozen 2))
  all_goals
    go_wp2
    refine bodyPost_ret (v := .tuple #[.agg #[.bool rs, .string rN, .string rD], .int .i64 0]) (by simp [results, Tryz.results81, go_sem, iz0, iz1, iz2]) rfl ⟨rfl, ?_⟩
    exact ((hB7.out.setCell (p := ⟨w.heap.size + 2, 0, none⟩) (by simp) _).setCell (p := ⟨w.heap.size + 2, 1, none⟩) (by simp) _).setCell (p := ⟨w.heap.size + 2, 2, none⟩) (by simp) _
set_option maxRecDepth 100000 in
set_option maxHeartbeats 4000000 in
theorem doSub_any (k : Nat) (a c : Int) (b d : Nat) (w : World) (h : LowF a b) (h' : LowF c d) (hk : k ≤ 1000) (la : Fit k a.natAbs) (lb : Fit k b) (lc : Fit k c.natAbs) (ld : Fit k d) :
    Calls Tryz.prog 81 #[frV a b, frV c d, .func (.func 82) #[] #[]] w fun e w' => e = .returned (.tuple #[frV (lowN (a * d + -c * b) (b * d)) (lowD (a * d + -c * b) (b * d)), .int .i64 0]) ∧ Below w.heap.size w w' := by
  have hO := fun (z p q : Nat) (W : World) (k0 : RtS W z) (k1 : Rt W p a b) (k2 : Rt W q c d) => ratSub_any k z p q a c b d W k0 k1 k2 h.1 h'.1 hk la lb lc ld
  have g1 := low_fitSub la lb lc ld
  have hT := fun (z : Nat) (W : World) (k0 : Rt W z (lowN (a * d + -c * b) (b * d)) (lowD (a * d + -c * b) (b * d))) => toldR_any z (lowN (a * d + -c * b) (b * d)) (lowD (a * d + -c * b) (b * d)) W k0 (g1.1.dg (by omega)) (g1.2.dg (by omega)) (g1.1.nb (by omega)) (g1.2.nb (by omega))
  obtain ⟨ln, hln⟩ : ∃ x, x = (lowN (a * d + -c * b) (b * d)) := ⟨_, rfl⟩
  obtain ⟨ld', hld⟩ : ∃ x, x = (lowD (a * d + -c * b) (b * d)) := ⟨_, rfl⟩
  rw [← hln, ← hld] at hO hT ⊢
  replace hO := Lib.hid hO
  have hA4 : (natS a.natAbs).size ≤ 16384 := by rw [natS_size]; exact la.nb (by omega)
  have hB4 : (natS b).size ≤ 16384 := by rw [natS_size]; exact lb.nb (by omega)
  have hC4 : (natS c.natAbs).size ≤ 16384 := by rw [natS_size]; exact lc.nb (by omega)
  have hD4 : (natS d).size ≤ 16384 := by rw [natS_size]; exact ld.nb (by omega)
  have hm1 := fun W => ratMay_any (decide (a < 0)) (natS a.natAbs) (natS b) W (by omega) (by omega)
  have hm2 := fun W => ratMay_any (decide (c < 0)) (natS c.natAbs) (natS d) W (by omega) (by omega)
  rw [may_fr h hk la lb] at hm1
  rw [may_fr h' hk lc ld] at hm2
  have hr1 := fun W => ratNew_any k a b W h hk la lb
  have hr2 := fun W => ratNew_any k c d W h' hk lc ld
  unfold frV at hT
  rw [show frV ln ld' = .agg #[.bool (decide (ln < 0)), .string (natS ln.natAbs), .string (natS ld')] from rfl]
  obtain ⟨rs, hrs⟩ : ∃ s, s = decide (ln < 0) := ⟨_, rfl⟩
  obtain ⟨rN, hrN⟩ : ∃ x, x = natS ln.natAbs := ⟨_, rfl⟩
  obtain ⟨rD, hrD⟩ : ∃ x, x = natS ld' := ⟨_, rfl⟩
  rw [← hrs, ← hrN, ← hrD] at hT ⊢
  replace hT := Lib.hid hT
  unfold frV at hr1 hr2 ⊢
  obtain ⟨s, hs⟩ : ∃ s, s = decide (a < 0) := ⟨_, rfl⟩
  obtain ⟨sN, hsN⟩ : ∃ x, x = natS a.natAbs := ⟨_, rfl⟩
  obtain ⟨sD, hsD⟩ : ∃ x, x = natS b := ⟨_, rfl⟩
  obtain ⟨t, ht⟩ : ∃ s, s = decide (c < 0) := ⟨_, rfl⟩
  obtain ⟨tN, htN⟩ : ∃ x, x = natS c.natAbs := ⟨_, rfl⟩
  obtain ⟨tD, htD⟩ : ∃ x, x = natS d := ⟨_, rfl⟩
  rw [← hs, ← hsN, ← hsD] at hm1 hr1 ⊢
  rw [← ht, ← htN, ← htD] at hm2 hr2 ⊢
  replace hm1 := Lib.hid hm1
  replace hm2 := Lib.hid hm2
  replace hr1 := Lib.hid hr1
  replace hr2 := Lib.hid hr2
  clear hA4 hB4 hC4 hD4 hs hsN hsD ht htN htD
  clear hln hld hrs hrN hrD la lb lc ld hk h h' g1
  go_enter Tryz.func81, Tryz.ntmps81
  go_wp2_with fail
  have kk0 := ((Blk.new w 26 #[.bool s, .string sN, .string sD]).alloc (.cells #[.bool t, .string tN, .string tD] 26)).alloc (.cells #[.bool false, .string ⟨#[]⟩, .string ⟨#[]⟩] 26)
  have kk1 := (Blk.new (w.alloc (.cells #[.bool s, .string sN, .string sD] 26)) 26 #[.bool t, .string tN, .string tD]).alloc (.cells #[.bool false, .string ⟨#[]⟩, .string ⟨#[]⟩] 26)
  have kk2 := Blk.new ((w.alloc (.cells #[.bool s, .string sN, .string sD] 26)).alloc (.cells #[.bool t, .string tN, .string tD] 26)) 26 #[.bool false, .string ⟨#[]⟩, .string ⟨#[]⟩]
  rw [show (w.alloc (.cells #[.bool s, .string sN, .string sD] 26)).heap.size = w.heap.size + 1 by simp] at kk1
  rw [show ((w.alloc (.cells #[.bool s, .string sN, .string sD] 26)).alloc (.cells #[.bool t, .string tN, .string tD] 26)).heap.size = w.heap.size + 2 by simp] at kk2
  have K := Lib.hid (((KeepT.one kk0).snoc kk1).snoc kk2)
  have hB := Lib.hid (show Below w.heap.size w (((w.alloc (.cells #[.bool s, .string sN, .string sD] 26)).alloc (.cells #[.bool t, .string tN, .string tD] 26)).alloc (.cells #[.bool false, .string ⟨#[]⟩, .string ⟨#[]⟩] 26)) from (((Below.refl _ w).alloc (Nat.le_refl _) _).alloc (by simp) _).alloc (by simp; omega) _)
  generalize hw1 : (((w.alloc (.cells #[.bool s, .string sN, .string sD] 26)).alloc (.cells #[.bool t, .string tN, .string tD] 26)).alloc (.cells #[.bool false, .string ⟨#[]⟩, .string ⟨#[]⟩] 26)) = w1 at K hB ⊢
  clear hw1 kk0 kk1 kk2
  refine (hm1.out w1).mono ?_
  rintro e w2 ⟨rfl, hb⟩
  replace K := Lib.hid (show KeepT w2 [(w.heap.size, 26, #[.bool s, .string sN, .string sD]), (w.heap.size + 1, 26, #[.bool t, .string tN, .string tD]), (w.heap.size + 2, 26, #[.bool false, .string ⟨#[]⟩, .string ⟨#[]⟩])] from KeepT.below K.out hb)
  replace hB := Lib.hid (hB.out.trans (hb.mono hB.out.size))
  clear hb
  have kk181 : w2.cell? ⟨w.heap.size, 0, none⟩ = some (.bool s) := (K.out.at_ 0 rfl).cell 0
  have kk182 : w2.cell? ⟨w.heap.size, 1, none⟩ = some (.string sN) := (K.out.at_ 0 rfl).cell 1
  have kk183 : w2.cell? ⟨w.heap.size, 2, none⟩ = some (.string sD) := (K.out.at_ 0 rfl).cell 2
  have kk184 : w2.cell? ⟨w.heap.size + 1, 0, none⟩ = some (.bool t) := (K.out.at_ 1 rfl).cell 0
  have kk185 : w2.cell? ⟨w.heap.size + 1, 1, none⟩ = some (.string tN) := (K.out.at_ 1 rfl).cell 1
  have kk186 : w2.cell? ⟨w.heap.size + 1, 2, none⟩ = some (.string tD) := (K.out.at_ 1 rfl).cell 2
  go_wp2_with fail
  refine (hm2.out w2).mono ?_
  rintro e w3 ⟨rfl, hb⟩
  replace K := Lib.hid (KeepT.below K.out hb)
  replace hB := Lib.hid (hB.out.trans (hb.mono hB.out.size))
  clear hb kk181 kk182 kk183 kk184 kk185 kk186
  have kk187 : w3.cell? ⟨w.heap.size, 0, none⟩ = some (.bool s) := (K.out.at_ 0 rfl).cell 0
  have kk188 : w3.cell? ⟨w.heap.size, 1, none⟩ = some (.string sN) := (K.out.at_ 0 rfl).cell 1
  have kk189 : w3.cell? ⟨w.heap.size, 2, none⟩ = some (.string sD) := (K.out.at_ 0 rfl).cell 2
  have kk190 : w3.cell? ⟨w.heap.size + 1, 0, none⟩ = some (.bool t) := (K.out.at_ 1 rfl).cell 0
  have kk191 : w3.cell? ⟨w.heap.size + 1, 1, none⟩ = some (.string tN) := (K.out.at_ 1 rfl).cell 1
  have kk192 : w3.cell? ⟨w.heap.size + 1, 2, none⟩ = some (.string tD) := (K.out.at_ 1 rfl).cell 2
  have hl0 : w.heap.size < w3.heap.size := (K.out.at_ 0 rfl).lt
  have hl1 : w.heap.size + 1 < w3.heap.size := (K.out.at_ 1 rfl).lt
  have hl2 : w.heap.size + 2 < w3.heap.size := (K.out.at_ 2 rfl).lt
  have KA := Lib.hid (show KeepT (w3.alloc (.cells #[.bool false, .slice none 0 0, .bool false, .slice none 0 0] 153)).drew [(w.heap.size, 26, #[.bool s, .string sN, .string sD]), (w.heap.size + 1, 26, #[.bool t, .string tN, .string tD]), (w.heap.size + 2, 26, #[.bool false, .string ⟨#[]⟩, .string ⟨#[]⟩])] ∧ RtS (w3.alloc (.cells #[.bool false, .slice none 0 0, .bool false, .slice none 0 0] 153)).drew w3.heap.size from ⟨(K.out.alloc (.cells #[.bool false, .slice none 0 0, .bool false, .slice none 0 0] 153)).drewN 1, Rt.new w3⟩)
  have hBA := Lib.hid (show Below w.heap.size w (w3.alloc (.cells #[.bool false, .slice none 0 0, .bool false, .slice none 0 0] 153)).drew from (hB.out.alloc hB.out.size (.cells #[.bool false, .slice none 0 0, .bool false, .slice none 0 0] 153)).drew)
  replace K := Lib.hid (show KeepT w3.drew [(w.heap.size, 26, #[.bool s, .string sN, .string sD]), (w.heap.size + 1, 26, #[.bool t, .string tN, .string tD]), (w.heap.size + 2, 26, #[.bool false, .string ⟨#[]⟩, .string ⟨#[]⟩])] from K.out.drewN 1)
  replace hB := Lib.hid hB.out.drew
  clear hm1 hm2
  go_wp2_with fail
  go_region_held3 (fun w' => w'.cell? ⟨w.heap.size, 0, none⟩ = some (.bool s) ∧ w'.cell? ⟨w.heap.size, 1, none⟩ = some (.string sN) ∧ w'.cell? ⟨w.heap.size, 2, none⟩ = some (.string sD) ∧ w'.cell? ⟨w.heap.size + 1, 0, none⟩ = some (.bool t) ∧ w'.cell? ⟨w.heap.size + 1, 1, none⟩ = some (.string tN) ∧ w'.cell? ⟨w.heap.size + 1, 2, none⟩ = some (.string tD)) (first | (have hq0 := q0; with_reducible exact ⟨keep_set3 q0 (by simp; try omega), keep_set3 q1 (by simp; try omega), keep_set3 q2 (by simp; try omega), keep_set3 q3 (by simp; try omega), keep_set3 q4 (by simp; try omega), keep_set3 q5 (by simp; try omega)⟩) | go_keep)
    (first
      | (go_at_call 84; (with_reducible refine Calls.mono (hr1.out w3.drew) ?_); rintro e w4 ⟨p1, rfl, hp1, hR1, hb⟩; have K4 := Lib.hid (KeepT.below K.out hb); have hB4 := Lib.hid (hB.out.trans (hb.mono hB.out.size)); have V0 := Lib.hid hR1; clear hb hp1 hR1; have kk139 : w4.cell? ⟨w.heap.size, 0, none⟩ = some (.bool s) := (K4.out.at_ 0 rfl).cell 0; have kk140 : w4.cell? ⟨w.heap.size, 1, none⟩ = some (.string sN) := (K4.out.at_ 0 rfl).cell 1; have kk141 : w4.cell? ⟨w.heap.size, 2, none⟩ = some (.string sD) := (K4.out.at_ 0 rfl).cell 2; have kk142 : w4.cell? ⟨w.heap.size + 1, 0, none⟩ = some (.bool t) := (K4.out.at_ 1 rfl).cell 0; have kk143 : w4.cell? ⟨w.heap.size + 1, 1, none⟩ = some (.string tN) := (K4.out.at_ 1 rfl).cell 1; have kk144 : w4.cell? ⟨w.heap.size + 1, 2, none⟩ = some (.string tD) := (K4.out.at_ 1 rfl).cell 2)
      | (go_at_call 84; (with_reducible refine Calls.mono (hr1.out (w3.alloc (.cells #[.bool false, .slice none 0 0, .bool false, .slice none 0 0] 153)).drew) ?_); rintro e w4 ⟨p1, rfl, hp1, hR1, hb⟩; have K4 := Lib.hid (KeepT.below KA.out.1 hb); have hB4 := Lib.hid (hBA.out.trans (hb.mono hBA.out.size)); have V1 := Lib.hid (And.intro hR1 (RtS.below KA.out.2 hb)); clear hb hp1 hR1; have kk145 : w4.cell? ⟨w.heap.size, 0, none⟩ = some (.bool s) := (K4.out.at_ 0 rfl).cell 0; have kk146 : w4.cell? ⟨w.heap.size, 1, none⟩ = some (.string sN) := (K4.out.at_ 0 rfl).cell 1; have kk147 : w4.cell? ⟨w.heap.size, 2, none⟩ = some (.string sD) := (K4.out.at_ 0 rfl).cell 2; have kk148 : w4.cell? ⟨w.heap.size + 1, 0, none⟩ = some (.bool t) := (K4.out.at_ 1 rfl).cell 0; have kk149 : w4.cell? ⟨w.heap.size + 1, 1, none⟩ = some (.string tN) := (K4.out.at_ 1 rfl).cell 1; have kk150 : w4.cell? ⟨w.heap.size + 1, 2, none⟩ = some (.string tD) := (K4.out.at_ 1 rfl).cell 2)
      | (go_at_call 84; have hV := V1; (with_reducible refine Calls.mono (hr2.out w4) ?_); rintro e w5 ⟨p2, rfl, hp2, hR2, hb⟩; have K5 := Lib.hid (KeepT.below K4.out hb); have hB5 := Lib.hid (hB4.out.trans (hb.mono hB4.out.size)); have Z1 := Lib.hid (And.intro (Rt.below hV.out.1 hb) (And.intro hR2 (And.intro (RtS.below hV.out.2 hb) hl2))); clear hb hp2 hR2 hB4 V1 hV; have kk151 : w5.cell? ⟨w.heap.size, 0, none⟩ = some (.bool s) := (K5.out.at_ 0 rfl).cell 0; have kk152 : w5.cell? ⟨w.heap.size, 1, none⟩ = some (.string sN) := (K5.out.at_ 0 rfl).cell 1; have kk153 : w5.cell? ⟨w.heap.size, 2, none⟩ = some (.string sD) := (K5.out.at_ 0 rfl).cell 2; have kk154 : w5.cell? ⟨w.heap.size + 1, 0, none⟩ = some (.bool t) := (K5.out.at_ 1 rfl).cell 0; have kk155 : w5.cell? ⟨w.heap.size + 1, 1, none⟩ = some (.string tN) := (K5.out.at_ 1 rfl).cell 1; have kk156 : w5.cell? ⟨w.heap.size + 1, 2, none⟩ = some (.string tD) := (K5.out.at_ 1 rfl).cell 2)
      | (go_at_call 84; have hV := V0; (with_reducible refine Calls.mono (hr2.out w4) ?_); rintro e w5 ⟨p2, rfl, hp2, hR2, hb⟩; have K5 := Lib.hid (KeepT.below K4.out hb); have hB5 := Lib.hid (hB4.out.trans (hb.mono hB4.out.size)); have Z0 := Lib.hid (show Rt (w5.alloc (.cells #[.bool false, .slice none 0 0, .bool false, .slice none 0 0] 153)) p1 _ _ ∧ Rt (w5.alloc (.cells #[.bool false, .slice none 0 0, .bool false, .slice none 0 0] 153)) p2 _ _ ∧ RtS (w5.alloc (.cells #[.bool false, .slice none 0 0, .bool false, .slice none 0 0] 153)) w5.heap.size ∧ w.heap.size + 2 < w5.heap.size ∧ KeepT (w5.alloc (.cells #[.bool false, .slice none 0 0, .bool false, .slice none 0 0] 153)) [(w.heap.size, 26, #[.bool s, .string sN, .string sD]), (w.heap.size + 1, 26, #[.bool t, .string tN, .string tD]), (w.heap.size + 2, 26, #[.bool false, .string ⟨#[]⟩, .string ⟨#[]⟩])] ∧ Below w.heap.size w (w5.alloc (.cells #[.bool false, .slice none 0 0, .bool false, .slice none 0 0] 153)) from ⟨Rt.alloc (Rt.below hV.out hb) _, Rt.alloc hR2 _, Rt.new w5, (K5.out.at_ 2 rfl).lt, K5.out.alloc _, hB5.out.alloc hB5.out.size _⟩); clear hb hp2 hR2 hB4 V0 hV; have kk157 : w5.cell? ⟨w.heap.size, 0, none⟩ = some (.bool s) := (K5.out.at_ 0 rfl).cell 0; have kk158 : w5.cell? ⟨w.heap.size, 1, none⟩ = some (.string sN) := (K5.out.at_ 0 rfl).cell 1; have kk159 : w5.cell? ⟨w.heap.size, 2, none⟩ = some (.string sD) := (K5.out.at_ 0 rfl).cell 2; have kk160 : w5.cell? ⟨w.heap.size + 1, 0, none⟩ = some (.bool t) := (K5.out.at_ 1 rfl).cell 0; have kk161 : w5.cell? ⟨w.heap.size + 1, 1, none⟩ = some (.string tN) := (K5.out.at_ 1 rfl).cell 1; have kk162 : w5.cell? ⟨w.heap.size + 1, 2, none⟩ = some (.string tD) := (K5.out.at_ 1 rfl).cell 2)
      | (go_at_call 84; have hV := V0; (with_reducible refine Calls.mono (hr2.out (w4.alloc (.cells #[.bool false, .slice none 0 0, .bool false, .slice none 0 0] 153))) ?_); rintro e w5 ⟨p2, rfl, hp2, hR2, hb⟩; have K5 := Lib.hid (KeepT.below (K4.out.alloc (.cells #[.bool false, .slice none 0 0, .bool false, .slice none 0 0] 153)) hb); have hBX := hB4.out.alloc hB4.out.size (.cells #[.bool false, .slice none 0 0, .bool false, .slice none 0 0] 153); have hB5 := Lib.hid (hBX.trans (hb.mono hBX.size)); have Z1 := Lib.hid (And.intro (Rt.below (Rt.alloc hV.out (.cells #[.bool false, .slice none 0 0, .bool false, .slice none 0 0] 153)) hb) (And.intro hR2 (And.intro (RtS.below (Rt.new w4) hb) (K4.out.at_ 2 rfl).lt))); clear hb hp2 hR2 hB4 V0 hV hBX; have kk163 : w5.cell? ⟨w.heap.size, 0, none⟩ = some (.bool s) := (K5.out.at_ 0 rfl).cell 0; have kk164 : w5.cell? ⟨w.heap.size, 1, none⟩ = some (.string sN) := (K5.out.at_ 0 rfl).cell 1; have kk165 : w5.cell? ⟨w.heap.size, 2, none⟩ = some (.string sD) := (K5.out.at_ 0 rfl).cell 2; have kk166 : w5.cell? ⟨w.heap.size + 1, 0, none⟩ = some (.bool t) := (K5.out.at_ 1 rfl).cell 0; have kk167 : w5.cell? ⟨w.heap.size + 1, 1, none⟩ = some (.string tN) := (K5.out.at_ 1 rfl).cell 1; have kk168 : w5.cell? ⟨w.heap.size + 1, 2, none⟩ = some (.string tD) := (K5.out.at_ 1 rfl).cell 2)
      | (go_at_call 82; have hZ := Z1; (with_reducible refine Calls.mono (hO.out _ _ _ w5 hZ.out.2.2.1 hZ.out.1 hZ.out.2.1) ?_); rintro e w6 ⟨rfl, hr, hg⟩; have K6 := Lib.hid (KeepT.grown K5.out hg hZ.out.2.2.2); have hB6 := Lib.hid (below_gb hB5.out hg (by have := hZ.out.2.2.2; omega) hB5.out.size); have hr6 := Lib.hid hr; clear hr hg hZ Z1 hB5; have kk169 : w6.cell? ⟨w.heap.size, 0, none⟩ = some (.bool s) := (K6.out.at_ 0 rfl).cell 0; have kk170 : w6.cell? ⟨w.heap.size, 1, none⟩ = some (.string sN) := (K6.out.at_ 0 rfl).cell 1; have kk171 : w6.cell? ⟨w.heap.size, 2, none⟩ = some (.string sD) := (K6.out.at_ 0 rfl).cell 2; have kk172 : w6.cell? ⟨w.heap.size + 1, 0, none⟩ = some (.bool t) := (K6.out.at_ 1 rfl).cell 0; have kk173 : w6.cell? ⟨w.heap.size + 1, 1, none⟩ = some (.string tN) := (K6.out.at_ 1 rfl).cell 1; have kk174 : w6.cell? ⟨w.heap.size + 1, 2, none⟩ = some (.string tD) := (K6.out.at_ 1 rfl).cell 2)
      | (go_at_call 82; have hZ := Z0; (with_reducible refine Calls.mono (hO.out _ _ _ _ hZ.out.2.2.1 hZ.out.1 hZ.out.2.1) ?_); rintro e w6 ⟨rfl, hr, hg⟩; have K6 := Lib.hid (KeepT.grown hZ.out.2.2.2.2.1 hg hZ.out.2.2.2.1); have hB6 := Lib.hid (below_gb hZ.out.2.2.2.2.2 hg (by have := hZ.out.2.2.2.1; omega) hZ.out.2.2.2.2.2.size); have hr6 := Lib.hid hr; clear hr hg hZ Z0 hB5; have kk175 : w6.cell? ⟨w.heap.size, 0, none⟩ = some (.bool s) := (K6.out.at_ 0 rfl).cell 0; have kk176 : w6.cell? ⟨w.heap.size, 1, none⟩ = some (.string sN) := (K6.out.at_ 0 rfl).cell 1; have kk177 : w6.cell? ⟨w.heap.size, 2, none⟩ = some (.string sD) := (K6.out.at_ 0 rfl).cell 2; have kk178 : w6.cell? ⟨w.heap.size + 1, 0, none⟩ = some (.bool t) := (K6.out.at_ 1 rfl).cell 0; have kk179 : w6.cell? ⟨w.heap.size + 1, 1, none⟩ = some (.string tN) := (K6.out.at_ 1 rfl).cell 1; have kk180 : w6.cell? ⟨w.heap.size + 1, 2, none⟩ = some (.string tD) := (K6.out.at_ 1 rfl).cell 2)
      | (go_at_call 79; (with_reducible refine Calls.mono (hT.out _ w6 hr6.out) ?_); rintro e w7 ⟨rfl, hb⟩; have K7 := Lib.hid (KeepT.below K6.out hb); have hB7 := Lib.hid (hB6.out.trans (hb.mono hB6.out.size)); clear hb hr6; have q0 : w7.cell? ⟨w.heap.size, 0, none⟩ = some (.bool s) := (K7.out.at_ 0 rfl).cell 0; have q1 : w7.cell? ⟨w.heap.size, 1, none⟩ = some (.string sN) := (K7.out.at_ 0 rfl).cell 1; have q2 : w7.cell? ⟨w.heap.size, 2, none⟩ = some (.string sD) := (K7.out.at_ 0 rfl).cell 2; have q3 : w7.cell? ⟨w.heap.size + 1, 0, none⟩ = some (.bool t) := (K7.out.at_ 1 rfl).cell 0; have q4 : w7.cell? ⟨w.heap.size + 1, 1, none⟩ = some (.string tN) := (K7.out.at_ 1 rfl).cell 1; have q5 : w7.cell? ⟨w.heap.size + 1, 2, none⟩ = some (.string tD) := (K7.out.at_ 1 rfl).cell 2; have iz0 : w7.cell? ⟨w.heap.size + 2, 0, none⟩ = some (.bool false) := (K7.out.at_ 2 rfl).cell 0; have fz0 := (K7.out.at_ 2 rfl).frozen 0; have iz1 : w7.cell? ⟨w.heap.size + 2, 1, none⟩ = some (.string ⟨#[]⟩) := (K7.out.at_ 2 rfl).cell 1; have fz1 := (K7.out.at_ 2 rfl).frozen 1; have iz2 : w7.cell? ⟨w.heap.size + 2, 2, none⟩ = some (.string ⟨#[]⟩) := (K7.out.at_ 2 rfl).cell 2; have fz2 := (K7.out.at_ 2 rfl).frozen 2))
  all_goals
    go_wp2
    refine bodyPost_ret (v := .tuple #[.agg #[.bool rs, .string rN, .string rD], .int .i64 0]) (by simp [results, Tryz.results81, go_sem, iz0, iz1, iz2]) rfl ⟨rfl, ?_⟩
    exact ((hB7.out.setCell (p := ⟨w.heap.size + 2, 0, none⟩) (by simp) _).setCell (p := ⟨w.heap.size + 2, 1, none⟩) (by simp) _).setCell (p := ⟨w.heap.size + 2, 2, none⟩) (by simp) _
set_option maxRecDepth 100000 in
set_option maxHeartbeats 2000000 in
theorem ratioAdd_any (k : Nat) (a c : Int) (b d : Nat) (w : World) (h : LowF a b) (h' : LowF c d) (hk : k ≤ 1000) (la : Fit k a.natAbs) (lb : Fit k b) (lc : Fit k c.natAbs) (ld : Fit k d) :
    Calls Tryz.prog 34 #[frV a b, frV c d] w fun e w' => e = .returned (.tuple #[frV (lowN (a * d + c * b) (b * d)) (lowD (a * d + c * b) (b * d)), .int .i64 0]) ∧ Below w.heap.size w w' := by
  have hD := fun W => doAdd_any k a c b d W h h' hk la lb lc ld
  obtain ⟨ln, hln⟩ : ∃ x, x = (lowN (a * d + c * b) (b * d)) := ⟨_, rfl⟩
  obtain ⟨ld', hld⟩ : ∃ x, x = (lowD (a * d + c * b) (b * d)) := ⟨_, rfl⟩
  rw [← hln, ← hld] at hD ⊢
  unfold frV at hD ⊢
  obtain ⟨s, hs⟩ : ∃ s, s = decide (a < 0) := ⟨_, rfl⟩
  obtain ⟨sN, hsN⟩ : ∃ x, x = natS a.natAbs := ⟨_, rfl⟩
  obtain ⟨sD, hsD⟩ : ∃ x, x = natS b := ⟨_, rfl⟩
  obtain ⟨t, ht⟩ : ∃ s, s = decide (c < 0) := ⟨_, rfl⟩
  obtain ⟨tN, htN⟩ : ∃ x, x = natS c.natAbs := ⟨_, rfl⟩
  obtain ⟨tD, htD⟩ : ∃ x, x = natS d := ⟨_, rfl⟩
  obtain ⟨rs, hrs⟩ : ∃ s, s = decide (ln < 0) := ⟨_, rfl⟩
  obtain ⟨rN, hrN⟩ : ∃ x, x = natS ln.natAbs := ⟨_, rfl⟩
  obtain ⟨rD, hrD⟩ : ∃ x, x = natS ld' := ⟨_, rfl⟩
  rw [← hs, ← hsN, ← hsD, ← ht, ← htN, ← htD, ← hrs, ← hrN, ← hrD] at hD ⊢
  replace hD := Lib.hid hD
  clear hs hsN hsD ht htN htD hrs hrN hrD hln hld la lb lc ld hk h h'
  go_enter Tryz.func34, Tryz.ntmps34
  go_wp2_with fail
  have kk0 := ((Blk.new w 26 #[.bool s, .string sN, .string sD]).alloc (.cells #[.bool t, .string tN, .string tD] 26)).alloc (.cells #[.bool false, .string ⟨#[]⟩, .string ⟨#[]⟩] 26)
  have kk1 := (Blk.new (w.alloc (.cells #[.bool s, .string sN, .string sD] 26)) 26 #[.bool t, .string tN, .string tD]).alloc (.cells #[.bool false, .string ⟨#[]⟩, .string ⟨#[]⟩] 26)
  have kk2 := Blk.new ((w.alloc (.cells #[.bool s, .string sN, .string sD] 26)).alloc (.cells #[.bool t, .string tN, .string tD] 26)) 26 #[.bool false, .string ⟨#[]⟩, .string ⟨#[]⟩]
  rw [show (w.alloc (.cells #[.bool s, .string sN, .string sD] 26)).heap.size = w.heap.size + 1 by simp] at kk1
  rw [show ((w.alloc (.cells #[.bool s, .string sN, .string sD] 26)).alloc (.cells #[.bool t, .string tN, .string tD] 26)).heap.size = w.heap.size + 2 by simp] at kk2
  have K := Lib.hid (((KeepT.one kk0).snoc kk1).snoc kk2)
  have hB := Lib.hid (show Below w.heap.size w (((w.alloc (.cells #[.bool s, .string sN, .string sD] 26)).alloc (.cells #[.bool t, .string tN, .string tD] 26)).alloc (.cells #[.bool false, .string ⟨#[]⟩, .string ⟨#[]⟩] 26)) from (((Below.refl _ w).alloc (Nat.le_refl _) _).alloc (by simp) _).alloc (by simp; omega) _)
  generalize hw1 : (((w.alloc (.cells #[.bool s, .string sN, .string sD] 26)).alloc (.cells #[.bool t, .string tN, .string tD] 26)).alloc (.cells #[.bool false, .string ⟨#[]⟩, .string ⟨#[]⟩] 26)) = w1 at K hB ⊢
  clear hw1 kk0 kk1 kk2
  refine (hD.out w1).mono ?_
  rintro e w7 ⟨rfl, hb⟩
  replace K := Lib.hid (show KeepT w7 [(w.heap.size, 26, #[.bool s, .string sN, .string sD]), (w.heap.size + 1, 26, #[.bool t, .string tN, .string tD]), (w.heap.size + 2, 26, #[.bool false, .string ⟨#[]⟩, .string ⟨#[]⟩])] from KeepT.below K.out hb)
  replace hB := Lib.hid (hB.out.trans (hb.mono hB.out.size))
  clear hb hD
  have iz0 : w7.cell? ⟨w.heap.size + 2, 0, none⟩ = some (.bool false) := (K.out.at_ 2 rfl).cell 0
  have fz0 := (K.out.at_ 2 rfl).frozen 0
  have iz1 : w7.cell? ⟨w.heap.size + 2, 1, none⟩ = some (.string ⟨#[]⟩) := (K.out.at_ 2 rfl).cell 1
  have fz1 := (K.out.at_ 2 rfl).frozen 1
  have iz2 : w7.cell? ⟨w.heap.size + 2, 2, none⟩ = some (.string ⟨#[]⟩) := (K.out.at_ 2 rfl).cell 2
  have fz2 := (K.out.at_ 2 rfl).frozen 2
  clear K
  go_wp2
  refine bodyPost_ret (v := .tuple #[.agg #[.bool rs, .string rN, .string rD], .int .i64 0]) (by simp [results, Tryz.results34, go_sem, iz0, iz1, iz2]) rfl ⟨rfl, ?_⟩
  exact ((hB.out.setCell (p := ⟨w.heap.size + 2, 0, none⟩) (by simp) _).setCell (p := ⟨w.heap.size + 2, 1, none⟩) (by simp) _).setCell (p := ⟨w.heap.size + 2, 2, none⟩) (by simp) _
set_option maxRecDepth 100000 in
set_option maxHeartbeats 2000000 in
theorem ratioSub_any (k : Nat) (a c : Int) (b d : Nat) (w : World) (h : LowF a b) (h' : LowF c d) (hk : k ≤ 1000) (la : Fit k a.natAbs) (lb : Fit k b) (lc : Fit k c.natAbs) (ld : Fit k d) :
    Calls Tryz.prog 32 #[frV a b, frV c d] w fun e w' => e = .returned (.tuple #[frV (lowN (a * d + -c * b) (b * d)) (lowD (a * d + -c * b) (b * d)), .int .i64 0]) ∧ Below w.heap.size w w' := by
  have hD := fun W => doSub_any k a c b d W h h' hk la lb lc ld
  obtain ⟨ln, hln⟩ : ∃ x, x = (lowN (a * d + -c * b) (b * d)) := ⟨_, rfl⟩
  obtain ⟨ld', hld⟩ : ∃ x, x = (lowD (a * d + -c * b) (b * d)) := ⟨_, rfl⟩
  rw [← hln, ← hld] at hD ⊢
  unfold frV at hD ⊢
  obtain ⟨s, hs⟩ : ∃ s, s = decide (a < 0) := ⟨_, rfl⟩
  obtain ⟨sN, hsN⟩ : ∃ x, x = natS a.natAbs := ⟨_, rfl⟩
  obtain ⟨sD, hsD⟩ : ∃ x, x = natS b := ⟨_, rfl⟩
  obtain ⟨t, ht⟩ : ∃ s, s = decide (c < 0) := ⟨_, rfl⟩
  obtain ⟨tN, htN⟩ : ∃ x, x = natS c.natAbs := ⟨_, rfl⟩
  obtain ⟨tD, htD⟩ : ∃ x, x = natS d := ⟨_, rfl⟩
  obtain ⟨rs, hrs⟩ : ∃ s, s = decide (ln < 0) := ⟨_, rfl⟩
  obtain ⟨rN, hrN⟩ : ∃ x, x = natS ln.natAbs := ⟨_, rfl⟩
  obtain ⟨rD, hrD⟩ : ∃ x, x = natS ld' := ⟨_, rfl⟩
  rw [← hs, ← hsN, ← hsD, ← ht, ← htN, ← htD, ← hrs, ← hrN, ← hrD] at hD ⊢
  replace hD := Lib.hid hD
  clear hs hsN hsD ht htN htD hrs hrN hrD hln hld la lb lc ld hk h h'
  go_enter Tryz.func32, Tryz.ntmps32
  go_wp2_with fail
  have kk0 := ((Blk.new w 26 #[.bool s, .string sN, .string sD]).alloc (.cells #[.bool t, .string tN, .string tD] 26)).alloc (.cells #[.bool false, .string ⟨#[]⟩, .string ⟨#[]⟩] 26)
  have kk1 := (Blk.new (w.alloc (.cells #[.bool s, .string sN, .string sD] 26)) 26 #[.bool t, .string tN, .string tD]).alloc (.cells #[.bool false, .string ⟨#[]⟩, .string ⟨#[]⟩] 26)
  have kk2 := Blk.new ((w.alloc (.cells #[.bool s, .string sN, .string sD] 26)).alloc (.cells #[.bool t, .string tN, .string tD] 26)) 26 #[.bool false, .string ⟨#[]⟩, .string ⟨#[]⟩]
  rw [show (w.alloc (.cells #[.bool s, .string sN, .string sD] 26)).heap.size = w.heap.size + 1 by simp] at kk1
  rw [show ((w.alloc (.cells #[.bool s, .string sN, .string sD] 26)).alloc (.cells #[.bool t, .string tN, .string tD] 26)).heap.size = w.heap.size + 2 by simp] at kk2
  have K := Lib.hid (((KeepT.one kk0).snoc kk1).snoc kk2)
  have hB := Lib.hid (show Below w.heap.size w (((w.alloc (.cells #[.bool s, .string sN, .string sD] 26)).alloc (.cells #[.bool t, .string tN, .string tD] 26)).alloc (.cells #[.bool false, .string ⟨#[]⟩, .string ⟨#[]⟩] 26)) from (((Below.refl _ w).alloc (Nat.le_refl _) _).alloc (by simp) _).alloc (by simp; omega) _)
  generalize hw1 : (((w.alloc (.cells #[.bool s, .string sN, .string sD] 26)).alloc (.cells #[.bool t, .string tN, .string tD] 26)).alloc (.cells #[.bool false, .string ⟨#[]⟩, .string ⟨#[]⟩] 26)) = w1 at K hB ⊢
  clear hw1 kk0 kk1 kk2
  refine (hD.out w1).mono ?_
  rintro e w7 ⟨rfl, hb⟩
  replace K := Lib.hid (show KeepT w7 [(w.heap.size, 26, #[.bool s, .string sN, .string sD]), (w.heap.size + 1, 26, #[.bool t, .string tN, .string tD]), (w.heap.size + 2, 26, #[.bool false, .string ⟨#[]⟩, .string ⟨#[]⟩])] from KeepT.below K.out hb)
  replace hB := Lib.hid (hB.out.trans (hb.mono hB.out.size))
  clear hb hD
  have iz0 : w7.cell? ⟨w.heap.size + 2, 0, none⟩ = some (.bool false) := (K.out.at_ 2 rfl).cell 0
  have fz0 := (K.out.at_ 2 rfl).frozen 0
  have iz1 : w7.cell? ⟨w.heap.size + 2, 1, none⟩ = some (.string ⟨#[]⟩) := (K.out.at_ 2 rfl).cell 1
  have fz1 := (K.out.at_ 2 rfl).frozen 1
  have iz2 : w7.cell? ⟨w.heap.size + 2, 2, none⟩ = some (.string ⟨#[]⟩) := (K.out.at_ 2 rfl).cell 2
  have fz2 := (K.out.at_ 2 rfl).frozen 2
  clear K
  go_wp2
  refine bodyPost_ret (v := .tuple #[.agg #[.bool rs, .string rN, .string rD], .int .i64 0]) (by simp [results, Tryz.results32, go_sem, iz0, iz1, iz2]) rfl ⟨rfl, ?_⟩
  exact ((hB.out.setCell (p := ⟨w.heap.size + 2, 0, none⟩) (by simp) _).setCell (p := ⟨w.heap.size + 2, 1, none⟩) (by simp) _).setCell (p := ⟨w.heap.size + 2, 2, none⟩) (by simp) _
end Go.Proofs.YtoaggmegmgdgbaaGreat
