import Derived.Test.YtoaggmegmgdgbaaGreatRowP
import Derived.Test.YtoaggmegmgdgbaaGreatItO
namespace Go.Proofs.YtoaggmegmgdgbaaGreat
def Per (f : Nat → Nat) (N m : Nat) : Prop := ∀ n, N ≤ n → f (n + m) = f n
section
variable {f g : Nat → Nat} {N N' m k a b : Nat}
theorem Per.mul (h : Per f N m) : ∀ k, Per f N (k * m)
  | 0 => fun n _ => by rw [Nat.zero_mul, Nat.add_zero]
  | k + 1 => fun n hn => by
    rw [Nat.succ_mul, ← Nat.add_assoc, h _ (by omega), h.mul k n hn]
theorem Per.sub (h : Per f N a) (h2 : Per f N b) (hab : a ≤ b) : Per f N (b - a) := fun n hn => by
  rw [← h (n + (b - a)) (by omega), show n + (b - a) + a = n + b by omega, h2 n hn]
theorem Per.mod_ (h : Per f N a) (h2 : Per f N b) : Per f N (b % a) := by
  have e : b % a = b - b / a * a := by
    have h1 := Nat.div_add_mod b a
    have h2 := Nat.mul_comm a (b / a)
    omega
  rw [e]
  exact (h.mul (b / a)).sub h2 (Nat.div_mul_le_self b a)
theorem Per.gcd_ : ∀ a b, Per f N a → Per f N b → Per f N (Nat.gcd a b) := by
  intro a
  induction a using Nat.strongRecOn with
  | _ a ih =>
    intro b h h2
    rcases Nat.eq_zero_or_pos a with rfl | h0
    · rwa [Nat.gcd_zero_left]
    · rw [Nat.gcd_rec]
      exact ih (b % a) (Nat.mod_lt _ h0) a (h.mod_ h2) h
theorem Per.down (h : Per f N m) (hm : 1 ≤ m) (h2 : Per f N' k) : Per f N k := fun n hn => by
  have h3 := h.mul N'
  have h4 := Nat.le_mul_of_pos_right N' hm
  rw [← h3 (n + k) (by omega), show n + k + N' * m = n + N' * m + k by omega, h2 _ (by omega), h3 n hn]
theorem Per.rest (h : Per f N m) {n : Nat} (hn : N ≤ n) : f n = f (N + (n - N) % m) := by
  have h1 := h.mul ((n - N) / m) (N + (n - N) % m) (by omega)
  have h2 := Nat.div_add_mod (n - N) m
  have h3 := Nat.mul_comm m ((n - N) / m)
  rw [show N + (n - N) % m + (n - N) / m * m = n by omega] at h1
  exact h1
end
section
variable {p q p' q' : List Nat}
theorem per_row (_hq : 0 < q.length) : Per (rowAt p q) p.length q.length := fun _ hn => rowAt_next hn
theorem per_rootM (hq : 0 < q.length) : Per (rowAt p q) p.length (rootM q) := fun _ hn => rowAt_root hq hn
theorem getD_row {i : Nat} (hi : i < q.length) : q.getD i 0 = rowAt p q (p.length + i) := by
  have h1 : ¬ p.length + i < p.length := by omega
  rw [rowAt, if_neg h1, Nat.add_sub_cancel_left, Nat.mod_eq_of_lt hi]
theorem rootM_le {N k : Nat} (hq : 0 < q.length) (hk : 1 ≤ k) (h : Per (rowAt p q) N k) : rootM q ≤ k := by
  have h1 := (per_row (p := p) hq).down hq h
  have h2 := Per.gcd_ _ _ h1 (per_row (p := p) hq)
  obtain ⟨c, hc⟩ : ∃ c, c = Nat.gcd k q.length := ⟨_, rfl⟩
  have hc0 : 1 ≤ c := by rw [hc]; exact Nat.gcd_pos_of_pos_left _ hk
  have hck : c ≤ k := by rw [hc]; exact Nat.gcd_le_left _ hk
  have hcd : q.length % c = 0 := by rw [hc]; exact Nat.mod_eq_zero_of_dvd (Nat.gcd_dvd_right _ _)
  rw [← hc] at h2
  have hcq : c ≤ q.length := Nat.le_of_dvd hq (Nat.dvd_of_mod_eq_zero hcd)
  have hp : per q c = true := per_iff.2 ⟨hcd, fun i hi => by
    have hm := Nat.mod_lt i hc0
    rw [getD_row (p := p) hi, getD_row (p := p) (by omega : i % c < q.length)]
    have := h2.rest (n := p.length + i) (by omega)
    rw [Nat.add_sub_cancel_left] at this
    exact this⟩
  obtain ⟨-, -, -, r4⟩ := rootM_spec hq
  rcases Nat.lt_or_ge c (rootM q) with h3 | h3
  · have := r4 c hc0 h3; rw [hp] at this; cases this
  · omega
theorem lowN_per {m : Nat} : ∀ n, Per (rowAt p q) n m → Per (rowAt p q) (lowN p q m n) m
  | 0, h => h
  | n + 1, h => by
    unfold lowN
    split
    · rename_i e
      exact lowN_per n fun j hj => by
        rcases Nat.lt_or_ge n j with h1 | h1
        · exact h j h1
        · rw [show j = n by omega]; exact e.symm
    · exact h
theorem lowN_least {m N : Nat} (h : Per (rowAt p q) N m) : ∀ n, lowN p q m n ≤ N
  | 0 => Nat.zero_le _
  | n + 1 => by
    unfold lowN
    split
    · exact lowN_least h n
    · rename_i e
      rcases Nat.lt_or_ge n N with h1 | h1
      · exact h1
      · exact absurd (h n h1).symm e
theorem rowL_alike (h : ∀ n, rowAt p q n = rowAt p' q' n) (a k : Nat) : rowL p q a k = rowL p' q' a k := by simp only [rowL, h]
theorem per_alike {N m : Nat} (h : ∀ n, rowAt p q n = rowAt p' q' n) (k : Per (rowAt p q) N m) : Per (rowAt p' q') N m := fun n hn => by
  rw [← h, ← h]; exact k n hn
theorem low_alike (hq : 0 < q.length) (hq' : 0 < q'.length) (h : ∀ n, rowAt p q n = rowAt p' q' n) : lowP p q = lowP p' q' ∧ lowQ p q = lowQ p' q' := by
  have hs : ∀ n, rowAt p' q' n = rowAt p q n := fun n => (h n).symm
  have e1 : rootM q = rootM q' := Nat.le_antisymm (rootM_le (p := p) hq (rootM_spec hq').1 (per_alike hs (per_rootM (p := p') hq'))) (rootM_le (p := p') hq' (rootM_spec hq).1 (per_alike h (per_rootM (p := p) hq)))
  have a1 := lowN_per (q := q) p.length (per_rootM hq)
  have a2 := lowN_per (q := q') p'.length (per_rootM hq')
  have e2 : lowN p q (rootM q) p.length = lowN p' q' (rootM q') p'.length := Nat.le_antisymm (lowN_least (by rw [e1]; exact per_alike hs a2) _) (lowN_least (by rw [← e1]; exact per_alike h a1) _)
  unfold lowP lowQ
  rw [take_rowL (q := q) (lowN_le _ _ _ _), take_rowL (q := q') (lowN_le _ _ _ _), ← e2, ← e1]
  exact ⟨rowL_alike h _ _, rowL_alike h _ _⟩
theorem lowP_len : (lowP p q).length = lowN p q (rootM q) p.length := by
  unfold lowP
  rw [List.length_take]
  have := lowN_le p q (rootM q) p.length
  omega
theorem lowQ_len : (lowQ p q).length = rootM q := by unfold lowQ; rw [rowL_len]
theorem lowQ_pos (hq : 0 < q.length) : 0 < (lowQ p q).length := by rw [lowQ_len]; exact (rootM_spec hq).1
theorem low_at (hq : 0 < q.length) (n : Nat) : rowAt (lowP p q) (lowQ p q) n = rowAt p q n := by
  obtain ⟨N, hN⟩ : ∃ N, N = lowN p q (rootM q) p.length := ⟨_, rfl⟩
  have hNl : N ≤ p.length := by rw [hN]; exact lowN_le _ _ _ _
  have hP : lowP p q = rowL p q 0 N := by unfold lowP; rw [take_rowL (q := q) (lowN_le _ _ _ _), ← hN]
  have hQ : lowQ p q = rowL p q N (rootM q) := by unfold lowQ; rw [← hN]
  have hp := lowN_per (q := q) p.length (per_rootM hq)
  rw [← hN] at hp
  obtain ⟨r1, -⟩ := rootM_spec hq
  rw [hP, hQ]
  unfold rowAt
  rw [rowL_len, rowL_len]
  split
  · rename_i h
    rw [List.getD_eq_getElem?_getD, rowL_get h, Nat.zero_add]
    rfl
  · rename_i h
    rw [List.getD_eq_getElem?_getD, rowL_get (Nat.mod_lt _ r1)]
    exact (hp.rest (by omega)).symm
theorem low_may (h : mayI p q = true) : mayI (lowP p q) (lowQ p q) = true := by
  obtain ⟨m1, m2, m3, m4⟩ := mayI_spec h
  have h1 := lowQ_pos (p := p) m1
  have h2 : (lowP p q).length ≤ p.length := by rw [lowP_len]; exact lowN_le _ _ _ _
  have h3 : (lowQ p q).length ≤ q.length := by rw [lowQ_len]; exact (rootM_spec m1).2.1
  have hs : ∀ j, symB (rowAt p q j) = true := fun j => by
    rcases rowAt_mem (p := p) (q := q) (n := j) m1 with h | h
    · exact m3 _ h
    · exact m4 _ h
  have hn : lowQ p q ≠ [] := fun e => by rw [e] at h1; simp at h1
  simp only [mayI, Bool.and_eq_true, List.all_eq_true, decide_eq_true_eq]
  refine ⟨⟨⟨hn, by omega⟩, fun x hx => ?_⟩, fun x hx => ?_⟩
  · exact m3 _ (List.mem_of_mem_take hx)
  · unfold lowQ rowL at hx
    obtain ⟨j, -, rfl⟩ := List.mem_map.1 hx
    exact hs _
end
end Go.Proofs.YtoaggmegmgdgbaaGreat
