import Derived.Test.YtoaggmegmgdgbaaGreatBackP
namespace Go.Proofs.YtoaggmegmgdgbaaGreat
open Go.RowKit
theorem kind_rest {d : Nat} : ∀ y, 0 < y → ∃ r, r ∣ y ∧ 0 < r ∧ Nat.Coprime d r ∧ (kindN y d).2 = ordG r d := by
  intro y
  induction y using Nat.strongRecOn with
  | _ y ih =>
    intro hy
    by_cases hg : Nat.gcd y d = 1
    · have e : kindN y d = (0, ordG y d) := kindF_end hg
      exact ⟨y, Nat.dvd_refl _, hy, Nat.Coprime.symm hg, by rw [e]⟩
    · obtain ⟨g, hgg⟩ : ∃ g, g = Nat.gcd y d := ⟨_, rfl⟩
      have hgy : g ∣ y := by rw [hgg]; exact Nat.gcd_dvd_left _ _
      have hg0 : 0 < g := Nat.pos_of_dvd_of_pos hgy hy
      have hg1 : 1 < g := by rw [← hgg] at hg; omega
      have ht := kindN_turn (d := d) hy
      rw [← hgg] at ht
      obtain ⟨r, h1, h2, h3, h4⟩ := ih (y / g) (Nat.div_lt_self hy hg1) (Nat.div_pos (Nat.le_of_dvd hy hgy) hg0)
      rw [ht] at h4
      exact ⟨r, Nat.dvd_trans h1 (Nat.div_dvd_of_dvd hgy), h2, h3, h4⟩
theorem turnX_shift {x y d a b : Nat} (s : Nat) (h : turnX x y d a = turnX x y d b) : turnX x y d (a + s) = turnX x y d (b + s) := by
  rw [turnX_eq, turnX_eq] at h ⊢
  rw [Nat.pow_add, Nat.pow_add, ← Nat.mul_assoc, ← Nat.mul_assoc, Nat.mul_mod, h, ← Nat.mul_mod]
theorem orb_round {x y d p k s : Nat} (hd : 1 ≤ d) (hy : 0 < y) (hp : p = (kindN y d).1) (hk : k = (kindN y d).2) : ∀ t, turnX x y d (p + s + k * t) = turnX x y d (p + s)
  | 0 => by simp
  | t + 1 => by
    have h1 := orbit_back (x := x) hd hy hp hk
    have h2 := turnX_shift (s + k * t) h1
    rw [show p + s + k * (t + 1) = p + k + (s + k * t) by rw [Nat.mul_succ]; omega, h2, show p + (s + k * t) = p + s + k * t by omega]
    exact orb_round hd hy hp hk t
def orbM (x y d n : Nat) : Nat × Nat := rd (turnX x y d n) y
def orbL (x y d n : Nat) : List (Nat × Nat) := (List.range n).map (orbM x y d)
theorem orbL_len (x y d n : Nat) : (orbL x y d n).length = n := by simp [orbL]
theorem orbL_succ (x y d n : Nat) : orbL x y d (n + 1) = orbL x y d n ++ [orbM x y d n] := by simp [orbL, List.range_succ]
theorem orbL_get {x y d n i : Nat} (h : i < n) : (orbL x y d n)[i]? = some (orbM x y d i) := by simp [orbL, h]
theorem orbL_take {x y d i n : Nat} (h : i ≤ n) : (orbL x y d n).take i = orbL x y d i := by
  unfold orbL
  rw [← List.map_take, List.take_range, Nat.min_eq_left h]
def orbN (y d : Nat) : Nat := (kindN y d).1 + (kindN y d).2
theorem orbM_zero {x y d : Nat} (hc : Nat.gcd x y = 1) (hxy : x < y) : orbM x y d 0 = (x, y) := by
  unfold orbM
  rw [turnX_eq, Nat.pow_zero, Nat.mul_one, Nat.mod_eq_of_lt hxy, rd_self hc]
theorem orbM_facts {x y d n : Nat} (hy : 0 < y) : Nat.gcd (orbM x y d n).1 (orbM x y d n).2 = 1 ∧ (orbM x y d n).1 < (orbM x y d n).2 ∧ (orbM x y d n).2 ≤ y := rd_facts hy (Nat.mod_lt _ hy)
theorem orbM_next {x y d n N D : Nat} (hy : 0 < y) (h : (N, D) = orbM x y d n) : orbM N D d 1 = orbM x y d (n + 1) := turn_turn hy h
theorem orbL_head {x y d t : Nat} {pre : List (Nat × Nat)} {p : Nat × Nat} (h : pre ++ [p] <+: orbL x y d t) : pre = orbL x y d pre.length ∧ p = orbM x y d pre.length ∧ pre.length < t := by
  have hl := h.length_le
  rw [List.length_append, orbL_len, List.length_singleton] at hl
  have e := List.prefix_iff_eq_take.1 h
  rw [List.length_append, List.length_singleton, orbL_take (by omega), orbL_succ] at e
  have h2 := List.append_inj e (by rw [orbL_len])
  exact ⟨h2.1, by simpa using h2.2, by omega⟩
end Go.Proofs.YtoaggmegmgdgbaaGreat
