/- The primes of a number, by trial division: plain functions as the Go text reckons them. -/
namespace Go.Proofs.Ytciafmnideihjaa

/-- p is taken out of n as often as it goes: what is left, how often. -/
def stripF : Nat → Nat → Nat → Nat → Nat × Nat
  | 0, n, _, c => (n, c)
  | f + 1, n, p, c => if n % p = 0 then stripF f (n / p) p (c + 1) else (n, c)
def strip (n p : Nat) : Nat × Nat := stripF n n p 0

/-- From p on. -/
def facF : Nat → Nat → Nat → List (Nat × Nat)
  | 0, n, _ => if 1 < n then [(n, 1)] else []
  | f + 1, n, p =>
    if p * p ≤ n then (if 0 < (strip n p).2 then [(p, (strip n p).2)] else []) ++ facF f (strip n p).1 (p + 1)
    else if 1 < n then [(n, 1)] else []
/-- The primes of n, and how often each stands in it. -/
def factorsL (n : Nat) : List (Nat × Nat) := facF n n 2

theorem stripF_spec : ∀ (f n p c : Nat), 2 ≤ p → 0 < n → n ≤ f → (stripF f n p c).2 ≥ c ∧ (stripF f n p c).1 * p ^ ((stripF f n p c).2 - c) = n ∧ (stripF f n p c).1 % p ≠ 0 ∧ 0 < (stripF f n p c).1 := by
  intro f
  induction f with
  | zero => intro n p c _ h0 hf; omega
  | succ f ih =>
    intro n p c hp h0 hf
    simp only [stripF]
    split
    · rename_i hm
      have hd := Nat.div_add_mod n p
      rw [hm, Nat.add_zero] at hd
      have hq0 : 0 < n / p := by
        rcases Nat.eq_zero_or_pos (n / p) with h | h
        · rw [h, Nat.mul_zero] at hd; omega
        · exact h
      have hlt : n / p < n := Nat.div_lt_self h0 hp
      obtain ⟨h1, h2, h3, h4⟩ := ih (n / p) p (c + 1) hp hq0 (by omega)
      refine ⟨by omega, ?_, h3, h4⟩
      have e : (stripF f (n / p) p (c + 1)).2 - c = (stripF f (n / p) p (c + 1)).2 - (c + 1) + 1 := by omega
      rw [e, Nat.pow_succ, ← Nat.mul_assoc, h2, Nat.mul_comm]
      exact hd
    · rename_i hm
      refine ⟨Nat.le_refl _, by simp, hm, h0⟩

theorem strip_spec {n p : Nat} (hp : 2 ≤ p) (h0 : 0 < n) : (strip n p).1 * p ^ (strip n p).2 = n ∧ (strip n p).1 % p ≠ 0 ∧ 0 < (strip n p).1 := by
  have := stripF_spec n n p 0 hp h0 (Nat.le_refl _)
  exact ⟨this.2.1, this.2.2⟩

theorem strip_le {n p : Nat} (hp : 2 ≤ p) (h0 : 0 < n) : (strip n p).1 ≤ n := by
  obtain ⟨h1, -, h3⟩ := strip_spec hp h0
  have : 1 ≤ p ^ (strip n p).2 := Nat.pow_pos (by omega)
  have := Nat.mul_le_mul_left (strip n p).1 this
  omega

/-- One more step of the taking out. -/
theorem stripF_step {f n p c : Nat} (h : n % p = 0) : stripF (f + 1) n p c = stripF f (n / p) p (c + 1) := by simp [stripF, h]
theorem stripF_stop {f n p c : Nat} (h : n % p ≠ 0) : stripF f n p c = (n, c) := by cases f <;> simp [stripF, h]

theorem facF_go {f n p : Nat} (h : p * p ≤ n) : facF (f + 1) n p = (if 0 < (strip n p).2 then [(p, (strip n p).2)] else []) ++ facF f (strip n p).1 (p + 1) := by simp [facF, h]
theorem facF_end {f n p : Nat} (h : ¬ p * p ≤ n) : facF f n p = if 1 < n then [(n, 1)] else [] := by cases f <;> simp [facF, h]

theorem stripF_count : ∀ (f n p c : Nat), (stripF f n p c).2 ≤ f + c := by
  intro f
  induction f with
  | zero => intro n p c; simp [stripF]
  | succ f ih =>
    intro n p c
    simp only [stripF]
    split
    · have := ih (n / p) p (c + 1); omega
    · simp

/-- The list is not longer than the number. -/
theorem facF_len : ∀ (f n p : Nat), (facF f n p).length ≤ f + 1 := by
  intro f
  induction f with
  | zero => intro n p; simp only [facF]; split <;> simp
  | succ f ih =>
    intro n p
    simp only [facF]
    split
    · rw [List.length_append]
      have := ih (strip n p).1 (p + 1)
      split <;> simp <;> omega
    · split <;> simp
end Go.Proofs.Ytciafmnideihjaa
