/- Orbits of angles, each member once. No program in sight. -/
import Derived.Test.YtbddlbhanpjdnaaGreatDoorBackP
namespace Go.Proofs.YtbddlbhanpjdnaaGreatDoor
open Go.RowKit

theorem kind_rest {d : Nat} : ∀ y, 0 < y → ∃ r, r ∣ y ∧ 0 < r ∧ Nat.Coprime d r ∧ (kindN y d).2 = ordG r d := by
  intro y
  induction y using Nat.strongRecOn with
  | _ y ih =>
    intro hy
    by_cases hg : Nat.gcd y d = 1
    · have e : kindN y d = (0, ordG y d) := kindF_end hg
      exact ⟨y, Nat.dvd_refl _, hy, Nat.Coprime.symm hg, by rw [e]⟩
    · obtain ⟨g, hgg⟩ : ∃ g, g = Nat.gcd y d := ⟨_, rfl⟩
      have hgy : g ∣ y := by rw [hgg]; exact Nat.gcd_dvd_left _ _
      have hg0 : 0 < g := Nat.pos_of_dvd_of_pos hgy hy
      have hg1 : 1 < g := by rw [← hgg] at hg; omega
      have ht := kindN_turn (d := d) hy
      rw [← hgg] at ht
      obtain ⟨r, h1, h2, h3, h4⟩ := ih (y / g) (Nat.div_lt_self hy hg1) (Nat.div_pos (Nat.le_of_dvd hy hgy) hg0)
      rw [ht] at h4
      exact ⟨r, Nat.dvd_trans h1 (Nat.div_dvd_of_dvd hgy), h2, h3, h4⟩

theorem turnX_shift {x y d a b : Nat} (s : Nat) (h : turnX x y d a = turnX x y d b) : turnX x y d (a + s) = turnX x y d (b + s) := by
  rw [turnX_eq, turnX_eq] at h ⊢
  rw [Nat.pow_add, Nat.pow_add, ← Nat.mul_assoc, ← Nat.mul_assoc, Nat.mul_mod, h, ← Nat.mul_mod]

/-- Two members are one: the period goes into their distance. -/
theorem orb_dvd {x y d i j : Nat} (hd : 1 ≤ d) (hy : 0 < y) (hc : Nat.gcd x y = 1) (h : i < j) (he : turnX x y d i = turnX x y d j) : (kindN y d).2 ∣ j - i := by
  obtain ⟨r, h1, h2, h3, h4⟩ := kind_rest (d := d) y hy
  rw [h4]
  refine (ordG_order h2 hd h3).2 _ ?_
  rw [turnX_eq, turnX_eq] at he
  have e1 : x * d ^ j - x * d ^ i = x * (d ^ i * (d ^ (j - i) - 1)) := by
    have e2 : d ^ j = d ^ i * d ^ (j - i) := by rw [← Nat.pow_add]; congr 1; omega
    rw [e2, ← Nat.mul_sub, Nat.mul_sub (d ^ i), Nat.mul_one]
  have h5 : y ∣ x * d ^ j - x * d ^ i := Nat.dvd_of_mod_eq_zero (Nat.sub_mod_eq_zero_of_mod_eq he.symm)
  rw [e1] at h5
  have h6 : y ∣ d ^ i * (d ^ (j - i) - 1) := Nat.Coprime.dvd_of_dvd_mul_left (Nat.Coprime.symm hc) h5
  have h7 : Nat.Coprime r (d ^ i) := (Nat.Coprime.pow_left i h3).symm
  exact Nat.Coprime.dvd_of_dvd_mul_left h7 (Nat.dvd_trans h1 h6)

/-- From the period's beginning on the orbit goes round. -/
theorem orb_round {x y d p k s : Nat} (hd : 1 ≤ d) (hy : 0 < y) (hp : p = (kindN y d).1) (hk : k = (kindN y d).2) : ∀ t, turnX x y d (p + s + k * t) = turnX x y d (p + s)
  | 0 => by simp
  | t + 1 => by
    have h1 := orbit_back (x := x) hd hy hp hk
    have h2 := turnX_shift (s + k * t) h1
    rw [show p + s + k * (t + 1) = p + k + (s + k * t) by rw [Nat.mul_succ]; omega, h2, show p + (s + k * t) = p + s + k * t by omega]
    exact orb_round hd hy hp hk t

theorem orb_new {x y d p k i j : Nat} (hd : 1 ≤ d) (hy : 0 < y) (hc : Nat.gcd x y = 1) (hp : p = (kindN y d).1) (hk : k = (kindN y d).2) (hij : i < j) (hj : j < p + k) : turnX x y d i ≠ turnX x y d j := by
  intro he
  have hk1 : 1 ≤ k := by rw [hk]; exact kindN_pos hy
  have hdv := orb_dvd hd hy hc hij he
  rw [← hk] at hdv
  obtain ⟨t, ht⟩ := hdv
  have ht1 : 1 ≤ t := by
    rcases Nat.eq_zero_or_pos t with h | h
    · subst h; simp at ht; omega
    · exact h
  obtain ⟨u, rfl⟩ : ∃ u, t = u + 1 := ⟨t - 1, by omega⟩
  rw [Nat.mul_succ] at ht
  have hip : i < p := by omega
  have h1 := turnX_shift (p - 1 - i) he
  rw [show i + (p - 1 - i) = p - 1 by omega, show j + (p - 1 - i) = p + (k - 1) + k * u by omega, orb_round hd hy hp hk u] at h1
  exact orbit_not hd hy hc hp hk (by omega) (by rw [h1]; congr 1; omega)

/-- The n-th member; the first n members. -/
def orbM (x y d n : Nat) : Nat × Nat := rd (turnX x y d n) y
def orbL (x y d n : Nat) : List (Nat × Nat) := (List.range n).map (orbM x y d)
theorem orbL_len (x y d n : Nat) : (orbL x y d n).length = n := by simp [orbL]
theorem orbL_succ (x y d n : Nat) : orbL x y d (n + 1) = orbL x y d n ++ [orbM x y d n] := by simp [orbL, List.range_succ]
theorem orbL_get {x y d n i : Nat} (h : i < n) : (orbL x y d n)[i]? = some (orbM x y d i) := by simp [orbL, h]
theorem orbL_take {x y d i n : Nat} (h : i ≤ n) : (orbL x y d n).take i = orbL x y d i := by
  unfold orbL
  rw [← List.map_take, List.take_range, Nat.min_eq_left h]
/-- How many members there are. -/
def orbN (y d : Nat) : Nat := (kindN y d).1 + (kindN y d).2
theorem orbM_zero {x y d : Nat} (hc : Nat.gcd x y = 1) (hxy : x < y) : orbM x y d 0 = (x, y) := by
  unfold orbM
  rw [turnX_eq, Nat.pow_zero, Nat.mul_one, Nat.mod_eq_of_lt hxy, rd_self hc]
theorem orbM_back {x y d : Nat} (hd : 1 ≤ d) (hy : 0 < y) : orbM x y d (orbN y d) = orbM x y d (kindN y d).1 := by
  unfold orbM orbN
  rw [orbit_back hd hy rfl rfl]
theorem orbM_new {x y d i j : Nat} (hd : 1 ≤ d) (hy : 0 < y) (hc : Nat.gcd x y = 1) (hij : i < j) (hj : j < orbN y d) : orbM x y d i ≠ orbM x y d j :=
  fun h => orb_new hd hy hc rfl rfl hij hj (rd_inj hy h)
theorem orbN_pos {y d : Nat} (hy : 0 < y) : 1 ≤ orbN y d := by have := kindN_pos (d := d) hy; unfold orbN; omega
theorem orbM_facts {x y d n : Nat} (hy : 0 < y) : Nat.gcd (orbM x y d n).1 (orbM x y d n).2 = 1 ∧ (orbM x y d n).1 < (orbM x y d n).2 ∧ (orbM x y d n).2 ≤ y := rd_facts hy (Nat.mod_lt _ hy)
theorem orbM_next {x y d n N D : Nat} (hy : 0 < y) (h : (N, D) = orbM x y d n) : orbM N D d 1 = orbM x y d (n + 1) := turn_turn hy h
/-- What stands at the head of the members. -/
theorem orbL_head {x y d t : Nat} {pre : List (Nat × Nat)} {p : Nat × Nat} (h : pre ++ [p] <+: orbL x y d t) : pre = orbL x y d pre.length ∧ p = orbM x y d pre.length ∧ pre.length < t := by
  have hl := h.length_le
  rw [List.length_append, orbL_len, List.length_singleton] at hl
  have e := List.prefix_iff_eq_take.1 h
  rw [List.length_append, List.length_singleton, orbL_take (by omega), orbL_succ] at e
  have h2 := List.append_inj e (by rw [orbL_len])
  exact ⟨h2.1, by simpa using h2.2, by omega⟩
end Go.Proofs.YtbddlbhanpjdnaaGreatDoor
