/- The parts of the circle: where an angle lies among the borders; two of one part that are turned into one. No program in sight. -/
import Derived.Test.YtbddlbhanpjdnaaDoorOrbQ
import Derived.Test.YtbddlbhanpjdnaaDoorRnd
namespace Go.Proofs.YtbddlbhanpjdnaaDoor

section
variable {s t p q d : Nat}
theorem part_facts (hd : 2 ≤ d) (hd2 : d ≤ 64) (hq : 0 < q) (hst : s < t) (hpq : p < q) : ∃ f, f < d ∧ (∀ k, (s + k * t) * q = d * p * t ↔ k = f ∧ symV s t p q d = 255) ∧
    ∀ k, k < d → betwN ((s + (k + d - 1) % d * t) * q) (d * p * t) ((s + k * t) * q) = (decide (symV s t p q d ≠ 255) && decide (symV s t p q d = k)) := by
  obtain ⟨f, hf⟩ : ∃ f, f = d * p / q := ⟨_, rfl⟩
  obtain ⟨r, hr⟩ : ∃ r, r = d * p % q := ⟨_, rfl⟩
  obtain ⟨c, hc⟩ : ∃ c, c = f + if s * q < r * t then 1 else 0 := ⟨_, rfl⟩
  have hfd : f < d := by rw [hf, Nat.div_lt_iff_lt_mul hq]; exact Nat.mul_lt_mul_of_pos_left hpq (by omega)
  have hb : ∀ j, (s + j * t) * q < d * p * t ↔ j < f ∨ (j = f ∧ s * q < r * t) := fun j => by rw [hf, hr]; exact (bord hq hst).1
  have he : ∀ j, (s + j * t) * q = d * p * t ↔ j = f ∧ s * q = r * t := fun j => by rw [hf, hr]; exact (bord hq hst).2
  have hsv : symV s t p q d = if s * q = r * t then 255 else c % d := by unfold symV; rw [← hf, ← hr, ← hc]
  have hcd : c % d < d := Nat.mod_lt _ (by omega)
  have hstar : symV s t p q d = 255 ↔ s * q = r * t := by
    rw [hsv]
    split
    · rename_i h; simp [h]
    · rename_i h
      constructor
      · intro e; omega
      · intro e; exact absurd e h
  have hbc : ∀ j, (s + j * t) * q < d * p * t ↔ j < c := fun j => by
    rw [hb, hc]
    split <;> omega
  have hmono : ∀ i j, i < j → (s + i * t) * q < (s + j * t) * q := fun i j h => by
    refine Nat.mul_lt_mul_of_pos_right ?_ hq
    have := Nat.mul_lt_mul_of_pos_right h (show 0 < t by omega)
    omega
  have hc1 : c ≤ d := by rw [hc]; split <;> omega
  refine ⟨f, hfd, fun k => by rw [he, hstar], fun k hk => ?_⟩
  obtain ⟨X, hX⟩ : ∃ X, X = d * p * t := ⟨_, rfl⟩
  rw [← hX] at hb he hbc ⊢
  rw [Bool.eq_iff_iff, betwN_iff]
  simp only [Bool.and_eq_true, decide_eq_true_eq]
  rw [hsv]
  rcases Nat.eq_zero_or_pos k with rfl | hk0
  · have e1 : (0 + d - 1) % d = d - 1 := by rw [Nat.zero_add, Nat.mod_eq_of_lt (by omega)]
    rw [e1]
    have m := hmono 0 (d - 1) (by omega)
    have b1 := hbc (d - 1)
    have b0 := hbc 0
    have e0 := he 0
    have ed := he (d - 1)
    obtain ⟨U, hU⟩ : ∃ U, U = (s + (d - 1) * t) * q := ⟨_, rfl⟩
    obtain ⟨V, hV⟩ : ∃ V, V = (s + 0 * t) * q := ⟨_, rfl⟩
    rw [← hU] at m b1 ed ⊢
    rw [← hV] at m b0 e0 ⊢
    by_cases hs : s * q = r * t
    · rw [if_pos hs]
      have hcf : c = f := by rw [hc, if_neg (by omega)]; rfl
      omega
    · rw [if_neg hs]
      have h0 : c % d = 0 ↔ c = d ∨ c = 0 := by
        constructor
        · intro h
          rcases Nat.lt_or_ge c d with h1 | h1
          · rw [Nat.mod_eq_of_lt h1] at h; exact .inr h
          · exact .inl (by omega)
        · rintro (h | h)
          · rw [h, Nat.mod_self]
          · rw [h, Nat.zero_mod]
      rw [h0]
      omega
  · have e1 : (k + d - 1) % d = k - 1 := by
      rw [show k + d - 1 = (k - 1) + d by omega, Nat.add_mod_right, Nat.mod_eq_of_lt (by omega)]
    rw [e1]
    have m := hmono (k - 1) k (by omega)
    have b1 := hbc (k - 1)
    have b0 := hbc k
    have e0 := he k
    obtain ⟨U, hU⟩ : ∃ U, U = (s + (k - 1) * t) * q := ⟨_, rfl⟩
    obtain ⟨V, hV⟩ : ∃ V, V = (s + k * t) * q := ⟨_, rfl⟩
    rw [← hU] at m b1 ⊢
    rw [← hV] at m b0 e0 ⊢
    by_cases hs : s * q = r * t
    · rw [if_pos hs]
      have hcf : c = f := by rw [hc, if_neg (by omega)]; rfl
      omega
    · rw [if_neg hs]
      have h0 : c % d = k ↔ c = k := by
        rcases Nat.lt_or_ge c d with h1 | h1
        · rw [Nat.mod_eq_of_lt h1]
        · have : c = d := by omega
          rw [this, Nat.mod_self]
          omega
      rw [h0]
      omega

/-- Two of one part that are turned into one are one. -/
theorem part_one {p' q' : Nat} (hd : 2 ≤ d) (hd2 : d ≤ 64) (hq : 0 < q) (hq' : 0 < q') (hpq : p < q) (hpq' : p' < q') (he : symV s t p q d = symV s t p' q' d) (hn : symV s t p q d ≠ 255)
    (hr : rd (d * p % q) q = rd (d * p' % q') q') : p * q' = p' * q := by
  obtain ⟨f, hf⟩ : ∃ f, f = d * p / q := ⟨_, rfl⟩
  obtain ⟨r, hr1⟩ : ∃ r, r = d * p % q := ⟨_, rfl⟩
  obtain ⟨f', hf'⟩ : ∃ f, f = d * p' / q' := ⟨_, rfl⟩
  obtain ⟨r', hr1'⟩ : ∃ r, r = d * p' % q' := ⟨_, rfl⟩
  rw [← hr1, ← hr1'] at hr
  have hfd : f < d := by rw [hf, Nat.div_lt_iff_lt_mul hq]; exact Nat.mul_lt_mul_of_pos_left hpq (by omega)
  have hfd' : f' < d := by rw [hf', Nat.div_lt_iff_lt_mul hq']; exact Nat.mul_lt_mul_of_pos_left hpq' (by omega)
  have hx : r * q' = r' * q := by
    obtain ⟨g, hg⟩ : ∃ g, g = Nat.gcd r q := ⟨_, rfl⟩
    obtain ⟨g', hg'⟩ : ∃ g, g = Nat.gcd r' q' := ⟨_, rfl⟩
    unfold rd at hr
    rw [← hg, ← hg'] at hr
    injection hr with h1 h2
    have a1 : r / g * g = r := Nat.div_mul_cancel (by rw [hg]; exact Nat.gcd_dvd_left _ _)
    have a2 : q / g * g = q := Nat.div_mul_cancel (by rw [hg]; exact Nat.gcd_dvd_right _ _)
    have a3 : r' / g' * g' = r' := Nat.div_mul_cancel (by rw [hg']; exact Nat.gcd_dvd_left _ _)
    have a4 : q' / g' * g' = q' := Nat.div_mul_cancel (by rw [hg']; exact Nat.gcd_dvd_right _ _)
    rw [← a1, ← a4, ← a3, ← a2, h1, h2]
    ac_rfl
  have hlt : s * q < r * t ↔ s * q' < r' * t := by
    have e1 : r * t * q' = r' * t * q := by rw [Nat.mul_right_comm, hx, Nat.mul_right_comm]
    constructor
    · intro h
      have h2 := Nat.mul_lt_mul_of_pos_right h hq'
      rw [e1, Nat.mul_right_comm] at h2
      exact Nat.lt_of_mul_lt_mul_right h2
    · intro h
      have h2 := Nat.mul_lt_mul_of_pos_right h hq
      rw [← e1, Nat.mul_right_comm] at h2
      exact Nat.lt_of_mul_lt_mul_right h2
  have hs1 : symV s t p q d = if s * q = r * t then 255 else (f + if s * q < r * t then 1 else 0) % d := by unfold symV; rw [← hf, ← hr1]
  have hs2 : symV s t p' q' d = if s * q' = r' * t then 255 else (f' + if s * q' < r' * t then 1 else 0) % d := by unfold symV; rw [← hf', ← hr1']
  have hn2 : symV s t p' q' d ≠ 255 := by rw [← he]; exact hn
  have n1 : ¬ s * q = r * t := fun e => hn (by rw [hs1, if_pos e])
  have n2 : ¬ s * q' = r' * t := fun e => hn2 (by rw [hs2, if_pos e])
  rw [hs1, hs2, if_neg n1, if_neg n2] at he
  have hff : f = f' := by
    by_cases hc : s * q < r * t
    · rw [if_pos hc, if_pos (hlt.1 hc)] at he
      rcases Nat.lt_or_ge (f + 1) d with h1 | h1 <;> rcases Nat.lt_or_ge (f' + 1) d with h2 | h2
      · rw [Nat.mod_eq_of_lt h1, Nat.mod_eq_of_lt h2] at he; omega
      · rw [Nat.mod_eq_of_lt h1, show f' + 1 = d by omega, Nat.mod_self] at he; omega
      · rw [Nat.mod_eq_of_lt h2, show f + 1 = d by omega, Nat.mod_self] at he; omega
      · omega
    · rw [if_neg hc, if_neg (fun h => hc (hlt.2 h)), Nat.add_zero, Nat.add_zero, Nat.mod_eq_of_lt hfd, Nat.mod_eq_of_lt hfd'] at he
      exact he
  have d1 : d * p = q * f + r := by rw [hf, hr1]; exact (Nat.div_add_mod _ _).symm
  have d2 : d * p' = q' * f + r' := by rw [hff, hf', hr1']; exact (Nat.div_add_mod _ _).symm
  have d3 : d * (p * q') = d * (p' * q) := by
    rw [← Nat.mul_assoc, ← Nat.mul_assoc, d1, d2, Nat.add_mul, Nat.add_mul, hx]
    congr 1
    ac_rfl
  exact Nat.eq_of_mul_eq_mul_left (by omega) d3
end
end Go.Proofs.YtbddlbhanpjdnaaDoor
