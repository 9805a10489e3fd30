/- The symbol of an angle: by quotients, by counting the borders. No program in sight. -/
import Derived.Test.YtbddlbhanpjdnaaDoorNum
namespace Go.Proofs.YtbddlbhanpjdnaaDoor

/-- The symbol of p/q, the circle parted at the angles that are turned into s/t. -/
def symV (s t p q d : Nat) : Nat :=
  if s * q = (d * p % q) * t then 255 else (d * p / q + if s * q < (d * p % q) * t then 1 else 0) % d
/-- The border k lies below, at, or above. -/
theorem bord {s t p q d k : Nat} (hq : 0 < q) (hst : s < t) :
    ((s + k * t) * q < d * p * t ↔ k < d * p / q ∨ (k = d * p / q ∧ s * q < (d * p % q) * t)) ∧ ((s + k * t) * q = d * p * t ↔ k = d * p / q ∧ s * q = (d * p % q) * t) := by
  obtain ⟨f, hf⟩ : ∃ f, f = d * p / q := ⟨_, rfl⟩
  obtain ⟨r, hr⟩ : ∃ r, r = d * p % q := ⟨_, rfl⟩
  have he : d * p = q * f + r := by rw [hf, hr]; exact (Nat.div_add_mod _ _).symm
  have hrq : r < q := by rw [hr]; exact Nat.mod_lt _ hq
  rw [← hf, ← hr, he]
  obtain ⟨A, hA⟩ : ∃ A, A = t * q := ⟨_, rfl⟩
  have hA0 : 0 < A := by rw [hA]; exact Nat.mul_pos (by omega) hq
  have e1 : (s + k * t) * q = s * q + k * A := by rw [hA, Nat.add_mul]; congr 1; ac_rfl
  have e2 : (q * f + r) * t = f * A + r * t := by rw [hA, Nat.add_mul]; congr 1; ac_rfl
  rw [e1, e2]
  have b1 : s * q < A := by rw [hA]; exact Nat.mul_lt_mul_of_pos_right hst hq
  have b2 : r * t < A := by rw [hA, Nat.mul_comm t q]; exact Nat.mul_lt_mul_of_pos_right hrq (by omega)
  rcases Nat.lt_trichotomy k f with h | h | h
  · have h1 : k * A + A ≤ f * A := by have := Nat.mul_le_mul_right A (show k + 1 ≤ f from h); rw [Nat.succ_mul] at this; exact this
    constructor
    · exact ⟨fun _ => .inl h, fun _ => by omega⟩
    · exact ⟨fun h2 => by omega, fun h2 => by omega⟩
  · subst h
    constructor
    · exact ⟨fun h2 => .inr ⟨rfl, by omega⟩, fun h2 => by rcases h2 with h2 | h2 <;> omega⟩
    · exact ⟨fun h2 => ⟨rfl, by omega⟩, fun h2 => by omega⟩
  · have h1 : f * A + A ≤ k * A := by have := Nat.mul_le_mul_right A (show f + 1 ≤ k from h); rw [Nat.succ_mul] at this; exact this
    constructor
    · exact ⟨fun h2 => by omega, fun h2 => by rcases h2 with h2 | h2 <;> omega⟩
    · exact ⟨fun h2 => by omega, fun h2 => by omega⟩
theorem symV_star {s t p q d k : Nat} (hq : 0 < q) (hst : s < t) (h : (s + k * t) * q = d * p * t) : symV s t p q d = 255 := by
  unfold symV
  rw [if_pos (((bord hq hst).2.1 h).2)]
/-- k borders lie below, none is met: the symbol is k modulo d. -/
theorem symV_count {s t p q d k : Nat} (hd : 0 < d) (hq : 0 < q) (hst : s < t) (hpq : p < q) (hlo : ∀ j, j < k → (s + j * t) * q < d * p * t) (hhi : k = d ∨ d * p * t < (s + k * t) * q) : symV s t p q d = k % d := by
  obtain ⟨f, hf⟩ : ∃ f, f = d * p / q := ⟨_, rfl⟩
  have hfd : f < d := by rw [hf, Nat.div_lt_iff_lt_mul hq]; exact Nat.mul_lt_mul_of_pos_left hpq hd
  have hb : ∀ j, (s + j * t) * q < d * p * t ↔ j < f ∨ (j = f ∧ s * q < (d * p % q) * t) := fun j => by rw [hf]; exact (bord hq hst).1
  have he : ∀ j, (s + j * t) * q = d * p * t ↔ j = f ∧ s * q = (d * p % q) * t := fun j => by rw [hf]; exact (bord hq hst).2
  have hkf : f ≤ k := by
    rcases hhi with rfl | h
    · omega
    · rcases Nat.lt_or_ge k f with h1 | h1
      · have := (hb k).2 (.inl h1); omega
      · exact h1
  have hne : ¬ s * q = (d * p % q) * t := by
    intro e
    have h1 := (he f).2 ⟨rfl, e⟩
    rcases Nat.lt_or_ge f k with h2 | h2
    · have := hlo f h2; omega
    · have h3 : k = f := by omega
      rcases hhi with h4 | h4
      · omega
      · rw [h3] at h4; omega
  unfold symV
  rw [if_neg hne, ← hf]
  rcases Nat.lt_or_ge f k with h2 | h2
  · have h3 := ((hb f).1 (hlo f h2)).resolve_left (by omega)
    rw [if_pos h3.2]
    have h4 : k = f + 1 := by
      rcases Nat.lt_or_ge (f + 1) k with h5 | h5
      · have := (hb (f + 1)).1 (hlo _ h5); omega
      · omega
    rw [h4]
  · have h3 : k = f := by omega
    have h4 : ¬ s * q < (d * p % q) * t := by
      intro h5
      rcases hhi with h6 | h6
      · omega
      · have := (hb k).2 (.inr ⟨h3, h5⟩); omega
    rw [if_neg h4, h3, Nat.add_zero]
theorem symV_lt {s t p q d : Nat} (hd : 0 < d) (h : symV s t p q d ≠ 255) : symV s t p q d < d := by
  unfold symV at h ⊢
  split at h
  · exact absurd rfl h
  · rename_i h1
    rw [if_neg h1]
    exact Nat.mod_lt _ hd

/-- Quotients compared: their whole parts first. -/
theorem quo_lt {a b c d : Nat} (hb : 0 < b) (hd : 0 < d) (h : a / b < c / d) : a * d < c * b := by
  have h1 : a < (a / b + 1) * b := by have := Nat.lt_div_mul_add (a := a) hb; rw [Nat.add_mul, Nat.one_mul]; exact this
  have h2 : (a / b + 1) * d ≤ c := by have := Nat.mul_le_mul_right d h; exact Nat.le_trans this (Nat.div_mul_le_self c d)
  have h3 : a * d < (a / b + 1) * b * d := Nat.mul_lt_mul_of_pos_right h1 hd
  have h4 : (a / b + 1) * d * b ≤ c * b := Nat.mul_le_mul_right b h2
  rw [Nat.mul_right_comm] at h3
  omega
theorem quo_rest {a b c d : Nat} (h : a / b = c / d) : (a * d < c * b ↔ (a % b) * d < (c % d) * b) ∧ (c * b < a * d ↔ (c % d) * b < (a % b) * d) := by
  have e1 : a * d = (a / b) * (b * d) + (a % b) * d := by
    conv => lhs; rw [← Nat.div_add_mod a b]
    rw [Nat.add_mul]; congr 1; ac_rfl
  have e2 : c * b = (a / b) * (b * d) + (c % d) * b := by
    conv => lhs; rw [← Nat.div_add_mod c d]
    rw [← h, Nat.add_mul]; congr 1; ac_rfl
  omega
end Go.Proofs.YtbddlbhanpjdnaaDoor
