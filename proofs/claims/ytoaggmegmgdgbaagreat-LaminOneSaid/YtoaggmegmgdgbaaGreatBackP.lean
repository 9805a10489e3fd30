import Derived.Test.YtoaggmegmgdgbaaGreatEuler
import Derived.Test.YtoaggmegmgdgbaaGreatAngN
import Derived.Test.YtoaggmegmgdgbaaGreatRnd
import Derived.Test.YtoaggmegmgdgbaaGreatBack
import Derived.Deep.CutRange
namespace Go.Proofs.YtoaggmegmgdgbaaGreat
open Go.RowKit
def rd (X Y : Nat) : Nat × Nat := (X / Nat.gcd X Y, Y / Nat.gcd X Y)
theorem rd_scale {g X Y : Nat} (hg : 0 < g) : rd (g * X) (g * Y) = rd X Y := by
  unfold rd
  rw [Nat.gcd_mul_left, Nat.mul_div_mul_left _ _ hg, Nat.mul_div_mul_left _ _ hg]
theorem rd_self {X Y : Nat} (h : Nat.gcd X Y = 1) : rd X Y = (X, Y) := by
  unfold rd
  rw [h, Nat.div_one, Nat.div_one]
theorem rd_facts {X Y : Nat} (hY : 0 < Y) (hX : X < Y) : Nat.gcd (rd X Y).1 (rd X Y).2 = 1 ∧ (rd X Y).1 < (rd X Y).2 ∧ (rd X Y).2 ≤ Y := by
  unfold rd
  have g0 : 0 < Nat.gcd X Y := Nat.gcd_pos_of_pos_right _ hY
  refine ⟨?_, Nat.div_lt_div_of_lt_of_dvd (Nat.gcd_dvd_right _ _) hX, Nat.div_le_self _ _⟩
  rw [Nat.gcd_div (Nat.gcd_dvd_left _ _) (Nat.gcd_dvd_right _ _)]
  exact Nat.div_self g0
theorem turnX_eq (x y d n : Nat) : turnX x y d n = x * d ^ n % y := by
  unfold turnX
  rw [Nat.mul_mod, Nat.mod_mod, ← Nat.mul_mod]
theorem turn_turn {x y d m n N D : Nat} (hy : 0 < y) (h : (N, D) = rd (turnX x y d m) y) : rd (turnX N D d n) D = rd (turnX x y d (m + n)) y := by
  obtain ⟨T, hT⟩ : ∃ T, T = turnX x y d m := ⟨_, rfl⟩
  rw [← hT] at h
  unfold rd at h
  injection h with h1 h2
  obtain ⟨g, hg⟩ : ∃ g, g = Nat.gcd T y := ⟨_, rfl⟩
  have hg0 : 0 < g := by rw [hg]; exact Nat.gcd_pos_of_pos_right _ hy
  rw [← hg] at h1 h2
  have e1 : g * N = T := by rw [h1]; exact Nat.mul_div_cancel' (by rw [hg]; exact Nat.gcd_dvd_left _ _)
  have e2 : g * D = y := by rw [h2]; exact Nat.mul_div_cancel' (by rw [hg]; exact Nat.gcd_dvd_right _ _)
  have e3 : turnX x y d (m + n) = g * turnX N D d n := by
    rw [turnX_eq, turnX_eq, ← Nat.mul_mod_mul_left, e2, ← Nat.mul_assoc, e1, hT, turnX_eq, Nat.pow_add, ← Nat.mul_assoc, Nat.mul_mod (x * d ^ m % y), Nat.mod_mod, ← Nat.mul_mod]
  rw [e3]
  conv => rhs; rw [← e2]
  rw [rd_scale hg0]
theorem mod_of_sub {A B y : Nat} (h : A ≤ B) (hd : y ∣ B - A) : B % y = A % y := by
  obtain ⟨q, hq⟩ := hd
  rw [show B = A + y * q by omega, Nat.add_mul_mod_self_left]
theorem kind_facts {d : Nat} (hd : 1 ≤ d) : ∀ y, 0 < y → 1 ≤ (kindN y d).2 ∧ y ∣ d ^ (kindN y d).1 * (d ^ (kindN y d).2 - 1) ∧ (0 < (kindN y d).1 → ¬ y ∣ d ^ ((kindN y d).1 - 1) * (d ^ (kindN y d).2 - 1)) := by
  intro y
  induction y using Nat.strongRecOn with
  | _ y ih =>
    intro hy
    have hk := kindN_pos (d := d) hy
    refine ⟨hk, ?_⟩
    by_cases hg : Nat.gcd y d = 1
    · have e : kindN y d = (0, ordG y d) := kindF_end hg
      rw [e]
      refine ⟨?_, fun h => absurd h (by simp)⟩
      simp only [Nat.pow_zero, Nat.one_mul]
      exact (ordG_order hy hd (Nat.Coprime.symm hg)).1
    · obtain ⟨g, hgg⟩ : ∃ g, g = Nat.gcd y d := ⟨_, rfl⟩
      have hgy : g ∣ y := by rw [hgg]; exact Nat.gcd_dvd_left _ _
      have hgd : g ∣ d := by rw [hgg]; exact Nat.gcd_dvd_right _ _
      have hg0 : 0 < g := Nat.pos_of_dvd_of_pos hgy hy
      have hg1 : 1 < g := by rw [← hgg] at hg; omega
      have hlt : y / g < y := Nat.div_lt_self hy hg1
      have hp : 0 < y / g := Nat.div_pos (Nat.le_of_dvd hy hgy) hg0
      have ht := kindN_turn (d := d) hy
      rw [← hgg] at ht
      -- the kind of y is one more
      have hstep : kindN y d = ((kindN (y / g) d).1 + 1, (kindN (y / g) d).2) := by
        have h1 : kindN y d = kindF y y d 0 := rfl
        obtain ⟨f, hf⟩ : ∃ f, y = f + 1 := ⟨y - 1, by omega⟩
        have h2 : kindF y y d 0 = kindF f (y / Nat.gcd y d) d 1 := by
          have h3 := kindF_go (f := f) (c := 0) hg
          rw [← hf] at h3
          exact h3
        rw [h1, h2, ← hgg, kindF_add f (y / g) d 1 hp (by omega)]
      obtain ⟨-, i2, i3⟩ := ih (y / g) hlt hp
      rw [hstep] at hk ⊢
      simp only at hk ⊢
      obtain ⟨p, hpp⟩ : ∃ p, p = (kindN (y / g) d).1 := ⟨_, rfl⟩
      obtain ⟨k, hkk⟩ : ∃ k, k = (kindN (y / g) d).2 := ⟨_, rfl⟩
      rw [← hpp, ← hkk] at i2 i3
      rw [← hkk] at hk
      rw [← hpp, ← hkk]
      obtain ⟨w, hw⟩ : ∃ w, w = d ^ k - 1 := ⟨_, rfl⟩
      rw [← hw] at i2 i3 ⊢
      have ey : y = g * (y / g) := (Nat.mul_div_cancel' hgy).symm
      constructor
      · rw [Nat.pow_succ, Nat.mul_comm (d ^ p) d, Nat.mul_assoc]
        conv => lhs; rw [ey]
        exact Nat.mul_dvd_mul hgd i2
      · intro _ hdv
        rw [Nat.add_sub_cancel] at hdv
        rcases Nat.eq_zero_or_pos p with h0 | h0
        · rw [h0, Nat.pow_zero, Nat.one_mul] at hdv
          have h1 : g ∣ w := Nat.dvd_trans hgy hdv
          have h2 : g ∣ d ^ k := by
            obtain ⟨j, rfl⟩ : ∃ j, k = j + 1 := ⟨k - 1, by omega⟩
            rw [Nat.pow_succ]
            exact Nat.dvd_trans hgd (Nat.dvd_mul_left _ _)
          have h3 := one_pow (k := k) hd
          have h4 : g ∣ 1 := by
            have := (Nat.dvd_add_right h1).1 (by rw [hw, Nat.sub_add_cancel h3]; exact h2)
            exact this
          have := Nat.le_of_dvd (by omega) h4
          omega
        · refine i3 h0 ?_
          obtain ⟨d', hd'⟩ := hgd
          have hc : Nat.Coprime (y / g) d' := by
            have h1 : d' = d / g := by rw [hd', Nat.mul_div_cancel_left _ hg0]
            unfold Nat.Coprime
            rw [h1, hgg, Nat.gcd_div (Nat.gcd_dvd_left _ _) (Nat.gcd_dvd_right _ _), ← hgg]
            exact Nat.div_self hg0
          obtain ⟨j, hj⟩ : ∃ j, p = j + 1 := ⟨p - 1, by omega⟩
          rw [hj] at hdv ⊢
          rw [Nat.add_sub_cancel]
          rw [Nat.pow_succ, Nat.mul_comm (d ^ j) d, Nat.mul_assoc] at hdv
          conv at hdv => lhs; rw [ey]
          conv at hdv => rhs; arg 1; rw [hd']
          rw [Nat.mul_assoc] at hdv
          exact Nat.Coprime.dvd_of_dvd_mul_left hc (Nat.dvd_of_mul_dvd_mul_left hg0 hdv)
theorem orbit_back {x y d p k : Nat} (hd : 1 ≤ d) (hy : 0 < y) (hp : p = (kindN y d).1) (hk : k = (kindN y d).2) : turnX x y d (p + k) = turnX x y d p := by
  obtain ⟨-, h2, -⟩ := kind_facts hd y hy
  rw [← hp, ← hk] at h2
  rw [turnX_eq, turnX_eq, Nat.pow_add, ← Nat.mul_assoc]
  have h1 := one_pow (k := k) hd
  refine mod_of_sub (Nat.le_mul_of_pos_right _ h1) ?_
  rw [show x * d ^ p * d ^ k - x * d ^ p = x * (d ^ p * (d ^ k - 1)) by rw [← Nat.mul_assoc, Nat.mul_sub, Nat.mul_one]]
  exact Nat.dvd_trans h2 (Nat.dvd_mul_left _ _)
open Go.RowKit Go.Sort
theorem kind_le : ∀ (f n d c : Nat), 0 < n → n ≤ f → (kindF f n d c).2 ≤ n := by
  intro f
  induction f with
  | zero => intro n d c h0 h; omega
  | succ f ih =>
    intro n d c h0 h
    by_cases hg : Nat.gcd n d = 1
    · rw [kindF_end hg]; exact (ordG_le h0).2
    · rw [kindF_go hg]
      have g0 : 0 < Nat.gcd n d := Nat.gcd_pos_of_pos_left _ h0
      have h1 : 0 < n / Nat.gcd n d := Nat.div_pos (Nat.gcd_le_left _ h0) g0
      have h2 : n / Nat.gcd n d < n := Nat.div_lt_self h0 (by omega)
      have := ih (n / Nat.gcd n d) d (c + 1) h1 (by omega)
      omega
end Go.Proofs.YtoaggmegmgdgbaaGreat
