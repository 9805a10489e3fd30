import Derived.Test.YtoaggmegmgdgbaaGreatRatC
namespace Go.Proofs.YtoaggmegmgdgbaaGreat
open Go.RowKit Go.Sort
set_option maxRecDepth 100000 in
set_option maxHeartbeats 1000000 in
theorem ratCmp_any (p q a b c d : Nat) (w : World) (h : Rt w p (a : Int) b) (h' : Rt w q (c : Int) d) (la : (dg a).length ≤ 1073741823) (lb : (dg b).length ≤ 1073741823) (lc : (dg c).length ≤ 1073741823) (ld : (dg d).length ≤ 1073741823) :
    Calls Tryz.prog 85 #[.pointer (some ⟨p, 0, none⟩), .pointer (some ⟨q, 0, none⟩)] w fun e w' => e = .returned (.int .i64 (cmpI (a * d) (c * b))) ∧ Below w.heap.size w w' := by
  have hM1 : ∀ (A : Nat) (W : World), BS W A 0 → Rt W p (a : Int) b → Rt W q (c : Int) d → Calls Tryz.prog 130 #[.pointer (some ⟨A, 0, none⟩), .pointer (some ⟨p, 0, none⟩), .pointer (some ⟨q, 2, none⟩)] W (RetBig ((a * d : Nat) : Int) A 0 W) := fun A W k1 k2 k3 => by
    have := mulBig_any A 0 p 0 q 2 (a : Int) (d : Int) W k1 k2.num k3.den (by rw [Int.natAbs_natCast]; exact la) (by rw [Int.natAbs_natCast]; exact ld)
    rwa [← Int.natCast_mul] at this
  have hM2 : ∀ (A : Nat) (W : World), BS W A 0 → Rt W p (a : Int) b → Rt W q (c : Int) d → Calls Tryz.prog 130 #[.pointer (some ⟨A, 0, none⟩), .pointer (some ⟨q, 0, none⟩), .pointer (some ⟨p, 2, none⟩)] W (RetBig ((c * b : Nat) : Int) A 0 W) := fun A W k1 k2 k3 => by
    have := mulBig_any A 0 q 0 p 2 (c : Int) (b : Int) W k1 k3.num k2.den (by rw [Int.natAbs_natCast]; exact lc) (by rw [Int.natAbs_natCast]; exact lb)
    rwa [← Int.natCast_mul] at this
  have hpl := Lib.hid h.room.lt
  have hql := Lib.hid h'.room.lt
  replace hM1 := Lib.hid hM1
  replace hM2 := Lib.hid hM2
  replace h := Lib.hid h
  replace h' := Lib.hid h'
  clear la lb lc ld
  have e1 : (w.alloc (.cells #[.bool false, .slice none 0 0] 151)).heap.size = w.heap.size + 1 := by simp
  have b1 := (Big.new w).slot
  have b2 := BS.alloc b1 (.cells #[.bool false, .slice none 0 0] 151)
  have b3 := (Big.new (w.alloc (.cells #[.bool false, .slice none 0 0] 151))).slot
  rw [e1] at b3
  have B1 : Below w.heap.size w (w.alloc (.cells #[.bool false, .slice none 0 0] 151)) := (Below.refl _ w).alloc (Nat.le_refl _) _
  have B2 : Below w.heap.size w ((w.alloc (.cells #[.bool false, .slice none 0 0] 151)).alloc (.cells #[.bool false, .slice none 0 0] 151)) := B1.alloc B1.size _
  have U1 : Hid (BS (w.alloc (.cells #[.bool false, .slice none 0 0] 151)).drew w.heap.size 0 ∧ Below w.heap.size w (w.alloc (.cells #[.bool false, .slice none 0 0] 151)).drew) := Lib.hid ⟨b1.drewN 1, B1.drew⟩
  have U2 : Hid (BS ((w.alloc (.cells #[.bool false, .slice none 0 0] 151)).alloc (.cells #[.bool false, .slice none 0 0] 151)).drew w.heap.size 0 ∧ Below w.heap.size w ((w.alloc (.cells #[.bool false, .slice none 0 0] 151)).alloc (.cells #[.bool false, .slice none 0 0] 151)).drew) := Lib.hid ⟨b2.drewN 1, B2.drew⟩
  have U3 : Hid (BS ((w.alloc (.cells #[.bool false, .slice none 0 0] 151)).alloc (.cells #[.bool false, .slice none 0 0] 151)).drew (w.heap.size + 1) 0 ∧ Below w.heap.size w ((w.alloc (.cells #[.bool false, .slice none 0 0] 151)).alloc (.cells #[.bool false, .slice none 0 0] 151)).drew) := Lib.hid ⟨b3.drewN 1, B2.drew⟩
  clear e1 b1 b2 b3 B1 B2
  go_enter Tryz.func85, Tryz.ntmps85
  go_wp2_with fail
  go_region_held3 (fun _ => True) (trivial) (first
    | (go_at_call 130; have hU := U1; (with_reducible refine Calls.mono (hM1.out (w.heap.size) _ hU.out.1 (Rt.below h.out hU.out.2) (Rt.below h'.out hU.out.2)) ?_); rintro e w1 ⟨rfl, kb, hg⟩; have hB := below_gb hU.out.2 hg (Nat.le_refl _) hU.out.2.size; have S1 : Hid (BS (w1.alloc (.cells #[.bool false, .slice none 0 0] 151)) w1.heap.size 0 ∧ Below w.heap.size w (w1.alloc (.cells #[.bool false, .slice none 0 0] 151)) ∧ Big (w1.alloc (.cells #[.bool false, .slice none 0 0] 151)) w.heap.size 0 ((a * d : Nat) : Int) ∧ w.heap.size < w1.heap.size) := Lib.hid ⟨(Big.new w1).slot, hB.alloc hB.size _, Big.alloc kb _, kb.slot.lt⟩; clear kb hg hB; clear hU)
    | (go_at_call 130; have hU := U2; (with_reducible refine Calls.mono (hM1.out (w.heap.size) _ hU.out.1 (Rt.below h.out hU.out.2) (Rt.below h'.out hU.out.2)) ?_); rintro e w1 ⟨rfl, kb, hg⟩; have hB := below_gb hU.out.2 hg (Nat.le_refl _) hU.out.2.size; have S2 : Hid (BS w1 (w.heap.size + 1) 0 ∧ Below w.heap.size w w1 ∧ Big w1 w.heap.size 0 ((a * d : Nat) : Int)) := Lib.hid ⟨BS.grown U3.out.1 hg (by omega), hB, kb⟩; clear kb hg hB; clear hU)
    | (go_at_call 130; have hU := U3; (with_reducible refine Calls.mono (hM1.out (w.heap.size + 1) _ hU.out.1 (Rt.below h.out hU.out.2) (Rt.below h'.out hU.out.2)) ?_); rintro e w1 ⟨rfl, kb, hg⟩; have hB := below_gb hU.out.2 hg (by omega) hU.out.2.size; have S3 : Hid (BS w1 w.heap.size 0 ∧ Below w.heap.size w w1 ∧ Big w1 (w.heap.size + 1) 0 ((a * d : Nat) : Int)) := Lib.hid ⟨BS.grown U2.out.1 hg (by omega), hB, kb⟩; clear kb hg hB; clear hU)
    | (go_at_call 130; have hS := S1; (with_reducible refine Calls.mono (hM2.out _ _ hS.out.1 (Rt.below h.out hS.out.2.1) (Rt.below h'.out hS.out.2.1)) ?_); rintro e w2 ⟨rfl, kb2, hg2⟩; have kB2 := Lib.hid (below_gb hS.out.2.1 hg2 (Nat.le_of_lt hS.out.2.2.2) hS.out.2.1.size); have kbA := Lib.hid (Big.grown hS.out.2.2.1 hS.out.1 hg2 (Nat.ne_of_lt hS.out.2.2.2)); replace kb2 := Lib.hid kb2; clear hg2 S1 hS)
    | (go_at_call 130; have hS := S2; (with_reducible refine Calls.mono (hM2.out _ _ hS.out.1 (Rt.below h.out hS.out.2.1) (Rt.below h'.out hS.out.2.1)) ?_); rintro e w2 ⟨rfl, kb2, hg2⟩; have kB2 := Lib.hid (below_gb hS.out.2.1 hg2 (by omega) hS.out.2.1.size); have kbA := Lib.hid (Big.grown hS.out.2.2 hS.out.1 hg2 (by omega)); replace kb2 := Lib.hid kb2; clear hg2 S2 hS)
    | (go_at_call 130; have hS := S3; (with_reducible refine Calls.mono (hM2.out _ _ hS.out.1 (Rt.below h.out hS.out.2.1) (Rt.below h'.out hS.out.2.1)) ?_); rintro e w2 ⟨rfl, kb2, hg2⟩; have kB2 := Lib.hid (below_gb hS.out.2.1 hg2 (by omega) hS.out.2.1.size); have kbA := Lib.hid (Big.grown hS.out.2.2 hS.out.1 hg2 (by omega)); replace kb2 := Lib.hid kb2; clear hg2 S3 hS)
    | (go_at_call 128; (with_reducible refine Calls.mono (cmpBig_any _ 0 _ 0 (a * d) (c * b) _ kbA.out kb2.out) ?_); rintro e w3 ⟨rfl, hd⟩; replace hd := Lib.hid hd))
  all_goals
    go_wp2
    go_ret
    obtain ⟨n, rfl⟩ := hd.out
    exact ⟨rfl, below_drewN kB2.out n⟩
def Fit (k n : Nat) : Prop := n < 4294967296 ^ k
theorem Fit.mul {k l a b : Nat} (h : Fit k a) (h' : Fit l b) : Fit (k + l) (a * b) := by
  unfold Fit at *
  rw [Nat.pow_add]
  exact Nat.mul_lt_mul'' h h'
theorem Fit.add {k a b : Nat} (h : Fit k a) (h' : Fit k b) : Fit (k + 1) (a + b) := by
  unfold Fit at *
  rw [Nat.pow_succ]
  generalize 4294967296 ^ k = x at *
  omega
theorem Fit.le {k a b : Nat} (h : Fit k b) (h' : a ≤ b) : Fit k a := Nat.lt_of_le_of_lt h' h
theorem Fit.mono {k l a : Nat} (h : Fit k a) (h' : k ≤ l) : Fit l a := Nat.lt_of_lt_of_le h (Nat.pow_le_pow_right (by decide) h')
theorem Fit.dg {k n : Nat} (h : Fit k n) (hk : k ≤ 1073741823) : (dg n).length ≤ 1073741823 := Nat.le_trans (dg_len_le_of_lt h) hk
theorem Fit.nb {k n : Nat} (h : Fit k n) (hk : k ≤ 4096) : (nb n).length ≤ 16384 := by
  have h1 := nb_len_le n
  have h2 := dg_len_le_of_lt h
  omega
set_option maxRecDepth 100000 in
set_option maxHeartbeats 2000000 in
theorem ratAdd_any (k z p q : Nat) (a c : Int) (b d : Nat) (w : World) (hz : RtS w z) (h : Rt w p a b) (h' : Rt w q c d) (hb0 : 0 < b) (hd0 : 0 < d) (hk : k ≤ 1000) (la : Fit k a.natAbs) (lb : Fit k b) (lc : Fit k c.natAbs) (ld : Fit k d) :
    Calls Tryz.prog 86 #[.pointer (some ⟨z, 0, none⟩), .pointer (some ⟨p, 0, none⟩), .pointer (some ⟨q, 0, none⟩)] w (RetRt (lowN (a * d + c * b) (b * d)) (lowD (a * d + c * b) (b * d)) z w) := by
  have hM1 : ∀ (A : Nat) (W : World), BS W A 0 → Rt W p a b → Rt W q c d → Calls Tryz.prog 130 #[.pointer (some ⟨A, 0, none⟩), .pointer (some ⟨p, 0, none⟩), .pointer (some ⟨q, 2, none⟩)] W (RetBig (a * d) A 0 W) := fun A W k1 k2 k3 =>
    mulBig_any A 0 p 0 q 2 a (d : Int) W k1 k2.num k3.den (la.dg (by omega)) (by rw [Int.natAbs_natCast]; exact ld.dg (by omega))
  have hM2 : ∀ (A : Nat) (W : World), BS W A 0 → Rt W p a b → Rt W q c d → Calls Tryz.prog 130 #[.pointer (some ⟨A, 0, none⟩), .pointer (some ⟨q, 0, none⟩), .pointer (some ⟨p, 2, none⟩)] W (RetBig (c * b) A 0 W) := fun A W k1 k2 k3 =>
    mulBig_any A 0 q 0 p 2 c (b : Int) W k1 k3.num k2.den (lc.dg (by omega)) (by rw [Int.natAbs_natCast]; exact lb.dg (by omega))
  have hM3 : ∀ (A : Nat) (W : World), BS W A 0 → Rt W p a b → Rt W q c d → Calls Tryz.prog 130 #[.pointer (some ⟨A, 0, none⟩), .pointer (some ⟨p, 2, none⟩), .pointer (some ⟨q, 2, none⟩)] W (RetBig ((b * d : Nat) : Int) A 0 W) := fun A W k1 k2 k3 => by
    have := mulBig_any A 0 p 2 q 2 (b : Int) (d : Int) W k1 k2.den k3.den (by rw [Int.natAbs_natCast]; exact lb.dg (by omega)) (by rw [Int.natAbs_natCast]; exact ld.dg (by omega))
    rwa [← Int.natCast_mul] at this
  have f1 : Fit (k + k) (a * d).natAbs := by rw [Int.natAbs_mul, Int.natAbs_natCast]; exact la.mul ld
  have f2 : Fit (k + k) (c * b).natAbs := by rw [Int.natAbs_mul, Int.natAbs_natCast]; exact lc.mul lb
  have f3 : Fit (k + k + 1) (a * d + c * b).natAbs := (f1.add f2).le (Int.natAbs_add_le _ _)
  have hA : ∀ (A B : Nat) (W : World), Big W A 0 (a * d) → Big W B 0 (c * b) → Calls Tryz.prog 132 #[.pointer (some ⟨A, 0, none⟩), .pointer (some ⟨A, 0, none⟩), .pointer (some ⟨B, 0, none⟩)] W (RetBig (a * d + c * b) A 0 W) := fun A B W k1 k2 =>
    addBig_any A 0 A 0 B 0 (a * d) (c * b) W k1.slot k1 k2 (f1.dg (by omega)) (f2.dg (by omega))
  have hN : ∀ (A B : Nat) (W : World), RtS W z → Big W A 0 (a * d + c * b) → Big W B 0 ((b * d : Nat) : Int) → Calls Tryz.prog 131 #[.pointer (some ⟨z, 0, none⟩), .pointer (some ⟨A, 0, none⟩), .pointer (some ⟨B, 0, none⟩)] W (RetRt (lowN (a * d + c * b) (b * d)) (lowD (a * d + c * b) (b * d)) z W) := fun A B W k1 k2 k3 =>
    norm_any z A 0 B 0 (a * d + c * b) (b * d) W k1 k2 k3 (Nat.mul_pos hb0 hd0) (f3.dg (by omega)) ((lb.mul ld).dg (by omega))
  obtain ⟨rn, hrn⟩ : ∃ x, x = lowN (a * d + c * b) (b * d) := ⟨_, rfl⟩
  obtain ⟨rd, hrd⟩ : ∃ x, x = lowD (a * d + c * b) (b * d) := ⟨_, rfl⟩
  rw [← hrn, ← hrd] at hN ⊢
  replace hM1 := Lib.hid hM1
  replace hM2 := Lib.hid hM2
  replace hM3 := Lib.hid hM3
  replace hA := Lib.hid hA
  replace hN := Lib.hid hN
  replace h := Lib.hid h
  replace h' := Lib.hid h'
  replace hz := Lib.hid hz
  have hzl := Lib.hid hz.out.lt
  clear la lb lc ld f1 f2 f3 hk hb0 hd0 hrn hrd
  have e1 : (w.alloc (.cells #[.bool false, .slice none 0 0] 151)).heap.size = w.heap.size + 1 := by simp
  have b1 := (Big.new w).slot
  have b2 := BS.alloc b1 (.cells #[.bool false, .slice none 0 0] 151)
  have b3 := (Big.new (w.alloc (.cells #[.bool false, .slice none 0 0] 151))).slot
  rw [e1] at b3
  have B1 : Below w.heap.size w (w.alloc (.cells #[.bool false, .slice none 0 0] 151)) := (Below.refl _ w).alloc (Nat.le_refl _) _
  have B2 : Below w.heap.size w ((w.alloc (.cells #[.bool false, .slice none 0 0] 151)).alloc (.cells #[.bool false, .slice none 0 0] 151)) := B1.alloc B1.size _
  have U1 : Hid (BS (w.alloc (.cells #[.bool false, .slice none 0 0] 151)).drew w.heap.size 0 ∧ Below w.heap.size w (w.alloc (.cells #[.bool false, .slice none 0 0] 151)).drew) := Lib.hid ⟨b1.drewN 1, B1.drew⟩
  have U2 : Hid (BS ((w.alloc (.cells #[.bool false, .slice none 0 0] 151)).alloc (.cells #[.bool false, .slice none 0 0] 151)).drew w.heap.size 0 ∧ Below w.heap.size w ((w.alloc (.cells #[.bool false, .slice none 0 0] 151)).alloc (.cells #[.bool false, .slice none 0 0] 151)).drew) := Lib.hid ⟨b2.drewN 1, B2.drew⟩
  have U3 : Hid (BS ((w.alloc (.cells #[.bool false, .slice none 0 0] 151)).alloc (.cells #[.bool false, .slice none 0 0] 151)).drew (w.heap.size + 1) 0 ∧ Below w.heap.size w ((w.alloc (.cells #[.bool false, .slice none 0 0] 151)).alloc (.cells #[.bool false, .slice none 0 0] 151)).drew) := Lib.hid ⟨b3.drewN 1, B2.drew⟩
  clear e1 b1 b2 b3 B1 B2
  go_enter Tryz.func86, Tryz.ntmps86
  go_wp2_with fail
  go_region_held3 (fun _ => True) (trivial) (first
    | (go_at_call 130; have hU := U1; (with_reducible refine Calls.mono (hM1.out (w.heap.size) _ hU.out.1 (Rt.below h.out hU.out.2) (Rt.below h'.out hU.out.2)) ?_); rintro e w1 ⟨rfl, kb, hg⟩; have hB := below_gb hU.out.2 hg (Nat.le_refl _) hU.out.2.size; have S1 : Hid (BS (w1.alloc (.cells #[.bool false, .slice none 0 0] 151)) w1.heap.size 0 ∧ Below w.heap.size w (w1.alloc (.cells #[.bool false, .slice none 0 0] 151)) ∧ Big (w1.alloc (.cells #[.bool false, .slice none 0 0] 151)) w.heap.size 0 (a * d) ∧ w.heap.size < w1.heap.size) := Lib.hid ⟨(Big.new w1).slot, hB.alloc hB.size _, Big.alloc kb _, kb.slot.lt⟩; clear kb hg hB; clear hU)
    | (go_at_call 130; have hU := U2; (with_reducible refine Calls.mono (hM1.out (w.heap.size) _ hU.out.1 (Rt.below h.out hU.out.2) (Rt.below h'.out hU.out.2)) ?_); rintro e w1 ⟨rfl, kb, hg⟩; have hB := below_gb hU.out.2 hg (Nat.le_refl _) hU.out.2.size; have S2 : Hid (BS w1 (w.heap.size + 1) 0 ∧ Below w.heap.size w w1 ∧ Big w1 w.heap.size 0 (a * d)) := Lib.hid ⟨BS.grown U3.out.1 hg (by omega), hB, kb⟩; clear kb hg hB; clear hU)
    | (go_at_call 130; have hU := U3; (with_reducible refine Calls.mono (hM1.out (w.heap.size + 1) _ hU.out.1 (Rt.below h.out hU.out.2) (Rt.below h'.out hU.out.2)) ?_); rintro e w1 ⟨rfl, kb, hg⟩; have hB := below_gb hU.out.2 hg (by omega) hU.out.2.size; have S3 : Hid (BS w1 w.heap.size 0 ∧ Below w.heap.size w w1 ∧ Big w1 (w.heap.size + 1) 0 (a * d)) := Lib.hid ⟨BS.grown U2.out.1 hg (by omega), hB, kb⟩; clear kb hg hB; clear hU)
    | (go_at_call 130; have hS := S1; (with_reducible refine Calls.mono (hM2.out _ _ hS.out.1 (Rt.below h.out hS.out.2.1) (Rt.below h'.out hS.out.2.1)) ?_); rintro e w2 ⟨rfl, kb2, hg2⟩; have R2 := Lib.hid (And.intro (below_gb hS.out.2.1 hg2 (Nat.le_of_lt hS.out.2.2.2) hS.out.2.1.size) (And.intro (Big.grown hS.out.2.2.1 hS.out.1 hg2 (Nat.ne_of_lt hS.out.2.2.2)) (And.intro kb2 (Nat.le_refl w.heap.size)))); clear kb2 hg2 S1 hS)
    | (go_at_call 130; have hS := S2; (with_reducible refine Calls.mono (hM2.out _ _ hS.out.1 (Rt.below h.out hS.out.2.1) (Rt.below h'.out hS.out.2.1)) ?_); rintro e w2 ⟨rfl, kb2, hg2⟩; have R2 := Lib.hid (And.intro (below_gb hS.out.2.1 hg2 (by omega) hS.out.2.1.size) (And.intro (Big.grown hS.out.2.2 hS.out.1 hg2 (by omega)) (And.intro kb2 (Nat.le_refl w.heap.size)))); clear kb2 hg2 S2 hS)
    | (go_at_call 130; have hS := S3; (with_reducible refine Calls.mono (hM2.out _ _ hS.out.1 (Rt.below h.out hS.out.2.1) (Rt.below h'.out hS.out.2.1)) ?_); rintro e w2 ⟨rfl, kb2, hg2⟩; have R2 := Lib.hid (And.intro (below_gb hS.out.2.1 hg2 (by omega) hS.out.2.1.size) (And.intro (Big.grown hS.out.2.2 hS.out.1 hg2 (by omega)) (And.intro kb2 (Nat.le_succ w.heap.size)))); clear kb2 hg2 S3 hS))
  all_goals
    clear hM1 hM2
    have T1 := Lib.hid (show Below w.heap.size w w2.drew ∧ Big w2.drew _ 0 _ ∧ Big w2.drew _ 0 _ from ⟨R2.out.1.drew, Big.drewN R2.out.2.1 1, Big.drewN R2.out.2.2.1 1⟩)
    have T2 := Lib.hid (show Below w.heap.size w (w2.alloc (.cells #[.bool false, .slice none 0 0] 151)).drew ∧ Big (w2.alloc (.cells #[.bool false, .slice none 0 0] 151)).drew _ 0 _ ∧ Big (w2.alloc (.cells #[.bool false, .slice none 0 0] 151)).drew _ 0 _ ∧ BS (w2.alloc (.cells #[.bool false, .slice none 0 0] 151)).drew w2.heap.size 0 from ⟨(R2.out.1.alloc R2.out.1.size _).drew, Big.drewN (Big.alloc R2.out.2.1 _) 1, Big.drewN (Big.alloc R2.out.2.2.1 _) 1, (Big.new w2).slot.drewN 1⟩)
    have T3 := Lib.hid (And.intro R2.out.2.2.2 (And.intro R2.out.2.1.slot.lt R2.out.1.size))
    clear R2
    go_wp2_with fail
    go_region_held3 (fun _ => True) (trivial) (first
      | (go_at_call 132; have hU := T1; (with_reducible refine Calls.mono (hA.out _ _ _ hU.out.2.1 hU.out.2.2) ?_); rintro e w3 ⟨rfl, kb, hg⟩; have hB := below_gb hU.out.1 hg T3.out.1 hU.out.1.size; have S1 := Lib.hid (show BS (w3.alloc (.cells #[.bool false, .slice none 0 0] 151)) w3.heap.size 0 ∧ Below w.heap.size w (w3.alloc (.cells #[.bool false, .slice none 0 0] 151)) ∧ Big (w3.alloc (.cells #[.bool false, .slice none 0 0] 151)) _ 0 _ ∧ w.heap.size ≤ w3.heap.size ∧ _ < w3.heap.size from ⟨(Big.new w3).slot, hB.alloc hB.size _, Big.alloc kb _, hB.size, kb.slot.lt⟩); clear kb hg hB hU)
      | (go_at_call 132; have hU := T2; (with_reducible refine Calls.mono (hA.out _ _ _ hU.out.2.1 hU.out.2.2.1) ?_); rintro e w3 ⟨rfl, kb, hg⟩; have hB := below_gb hU.out.1 hg T3.out.1 hU.out.1.size; have S2 := Lib.hid (show BS w3 w2.heap.size 0 ∧ Below w.heap.size w w3 ∧ Big w3 _ 0 _ from ⟨BS.grown hU.out.2.2.2 hg (Nat.ne_of_gt T3.out.2.1), hB, kb⟩); clear kb hg hB hU)
      | (go_at_call 130; have hS := S1; (with_reducible refine Calls.mono (hM3.out _ _ hS.out.1 (Rt.below h.out hS.out.2.1) (Rt.below h'.out hS.out.2.1)) ?_); rintro e w4 ⟨rfl, kb2, hg2⟩; have N := Lib.hid (And.intro (below_gb hS.out.2.1 hg2 hS.out.2.2.2.1 hS.out.2.1.size) (And.intro (Big.grown hS.out.2.2.1 hS.out.1 hg2 (Nat.ne_of_lt hS.out.2.2.2.2)) kb2)); clear kb2 hg2 S1 hS)
      | (go_at_call 130; have hS := S2; (with_reducible refine Calls.mono (hM3.out _ _ hS.out.1 (Rt.below h.out hS.out.2.1) (Rt.below h'.out hS.out.2.1)) ?_); rintro e w4 ⟨rfl, kb2, hg2⟩; have N := Lib.hid (And.intro (below_gb hS.out.2.1 hg2 T3.out.2.2 hS.out.2.1.size) (And.intro (Big.grown hS.out.2.2 hS.out.1 hg2 (Nat.ne_of_lt T3.out.2.1)) kb2)); clear kb2 hg2 S2 hS)
      | (go_at_call 131; (with_reducible refine Calls.mono (hN.out _ _ _ (RtS.below hz.out N.out.1) N.out.2.1 N.out.2.2) ?_); rintro e w5 ⟨rfl, hr, hg5⟩; have F := Lib.hid (And.intro hr (gb_trans (gb_of_below N.out.1) hg5)); clear hr hg5 N))
    all_goals
      go_wp2
      go_ret
      exact ⟨rfl, F.out.1, F.out.2⟩
set_option maxRecDepth 100000 in
set_option maxHeartbeats 1000000 in
theorem ratSub_any (k z p q : Nat) (a c : Int) (b d : Nat) (w : World) (hz : RtS w z) (h : Rt w p a b) (h' : Rt w q c d) (hb0 : 0 < b) (hd0 : 0 < d) (hk : k ≤ 1000) (la : Fit k a.natAbs) (lb : Fit k b) (lc : Fit k c.natAbs) (ld : Fit k d) :
    Calls Tryz.prog 82 #[.pointer (some ⟨z, 0, none⟩), .pointer (some ⟨p, 0, none⟩), .pointer (some ⟨q, 0, none⟩)] w (RetRt (lowN (a * d + -c * b) (b * d)) (lowD (a * d + -c * b) (b * d)) z w) := by
  have hNg := Lib.hid (fun (r : Nat) (W : World) (k1 : RtS W r) (k2 : Rt W q c d) => ratNeg_any r q c d W k1 k2)
  have hA := Lib.hid (fun (r : Nat) (W : World) (k1 : RtS W z) (k2 : Rt W p a b) (k3 : Rt W r (-c) d) => ratAdd_any k z p r a (-c) b d W k1 k2 k3 hb0 hd0 hk la lb (by rw [Int.natAbs_neg]; exact lc) ld)
  obtain ⟨rn, hrn⟩ : ∃ x, x = lowN (a * d + -c * b) (b * d) := ⟨_, rfl⟩
  obtain ⟨rd, hrd⟩ : ∃ x, x = lowD (a * d + -c * b) (b * d) := ⟨_, rfl⟩
  rw [← hrn, ← hrd] at hA ⊢
  have hzl := Lib.hid hz.lt
  replace h := Lib.hid h
  replace h' := Lib.hid h'
  replace hz := Lib.hid hz
  clear la lb lc ld hk hb0 hd0 hrn hrd
  go_enter Tryz.func82, Tryz.ntmps82
  go_wp2_with fail
  have B1 : Hid (Below w.heap.size w (w.alloc (.cells #[.bool false, .slice none 0 0, .bool false, .slice none 0 0] 153))) := Lib.hid ((Below.refl _ w).alloc (Nat.le_refl _) _)
  have S1 := Lib.hid (Rt.new w)
  generalize hw1 : w.alloc (.cells #[.bool false, .slice none 0 0, .bool false, .slice none 0 0] 153) = w1 at B1 S1 ⊢
  clear hw1
  refine (hNg.out w.heap.size w1 S1.out (Rt.below h'.out B1.out)).mono ?_
  rintro e w2 ⟨rfl, hr, hg⟩
  have B2 := Lib.hid (below_gb B1.out hg (Nat.le_refl _) B1.out.size)
  replace hr := Lib.hid hr
  clear hg B1 S1
  go_wp2_with fail
  refine (hA.out w.heap.size w2 (RtS.below hz.out B2.out) (Rt.below h.out B2.out) hr.out).mono ?_
  rintro e w3 ⟨rfl, hr3, hg3⟩
  have F := Lib.hid (And.intro hr3 (gb_trans (gb_of_below B2.out) hg3))
  clear hr3 hg3 hr B2
  go_wp2
  go_ret
  exact ⟨rfl, F.out.1, F.out.2⟩
end Go.Proofs.YtoaggmegmgdgbaaGreat
