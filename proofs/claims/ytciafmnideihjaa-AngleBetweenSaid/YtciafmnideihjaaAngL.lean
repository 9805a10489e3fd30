/- What a turned angle's kind is: plain law. -/
import Derived.Test.YtciafmnideihjaaAngK
namespace Go.Proofs.Ytciafmnideihjaa

theorem nb_small {n k : Nat} (h : n < 256 ^ k) : (nb n).length ≤ k := by
  rcases Nat.eq_zero_or_pos n with rfl | h0
  · simp [nb_zero]
  · have hb := (nb_bounds h0).1
    rcases Nat.lt_or_ge k (nb n).length with hlt | hge
    · exfalso
      have : 256 ^ k ≤ 256 ^ ((nb n).length - 1) := Nat.pow_le_pow_right (by omega) (by omega)
      omega
    · exact hge

theorem okA_natS {n d : Nat} (hg : Nat.gcd n d = 1) (hlt : n < d) (hd : d ≤ 2147483647) : okA false (natS n) (natS d) = true := by
  have e1 : (nb n).length ≤ 8 := nb_small (by omega)
  have e2 : (nb d).length ≤ 8 := nb_small (by omega)
  have m1 := mayB_natS (n := n) (by omega)
  have m2 := mayB_natS (n := d) (by omega)
  simp [okA, ratioMay, smallB, m1, m2, be_natS, hg, hlt, hd, natS_size, e1, e2]
  omega

theorem kindF_add : ∀ (f n d c : Nat), 0 < n → n ≤ f → kindF f n d c = ((kindN n d).1 + c, (kindN n d).2) := by
  intro f
  induction f using Nat.strongRecOn with
  | ind f ih =>
    intro n d c h0 hf
    by_cases h1 : Nat.gcd n d = 1
    · rw [kindF_end h1, kindN, kindF_end h1]
      simp
    · obtain ⟨f', rfl⟩ : ∃ f', f = f' + 1 := ⟨f - 1, by omega⟩
      obtain ⟨n', hn'⟩ : ∃ n', n = n' + 1 := ⟨n - 1, by omega⟩
      have hg0 : 0 < Nat.gcd n d := Nat.gcd_pos_of_pos_left _ h0
      have hq : n / Nat.gcd n d < n := Nat.div_lt_self h0 (by omega)
      have hq0 : 0 < n / Nat.gcd n d := Nat.div_pos (Nat.gcd_le_left _ h0) hg0
      have hN : kindN n d = ((kindN (n / Nat.gcd n d) d).1 + 1, (kindN (n / Nat.gcd n d) d).2) := by
        have e : kindN n d = kindF (n' + 1) n d 0 := by rw [kindN]; congr 1
        rw [e, kindF_go h1]
        exact ih n' (by omega) _ d _ hq0 (by omega)
      rw [kindF_go h1, ih f' (by omega) _ d _ hq0 (by omega), hN]
      simp [Nat.add_assoc, Nat.add_comm]

theorem kindN_pos {n d : Nat} (h0 : 0 < n) : 1 ≤ (kindN n d).2 := by
  have : ∀ (f n c : Nat), 0 < n → 1 ≤ (kindF f n d c).2 := by
    intro f
    induction f with
    | zero => intro n c h; simp only [kindF]; exact (ordG_le h).1
    | succ f ih =>
      intro n c h
      simp only [kindF]
      split
      · exact (ordG_le h).1
      · exact ih _ _ (Nat.div_pos (Nat.gcd_le_left _ h) (Nat.gcd_pos_of_pos_left _ h))
  exact this n n 0 h0

/-- Turned once: the period stays, the preperiod is one less. -/
theorem kindN_turn {n d : Nat} (h0 : 0 < n) : kindN (n / Nat.gcd n d) d = ((kindN n d).1 - 1, (kindN n d).2) := by
  by_cases h1 : Nat.gcd n d = 1
  · have e : kindN n d = (0, ordG n d) := kindF_end h1
    rw [h1, Nat.div_one, e]
    rfl
  · have hg0 : 0 < Nat.gcd n d := Nat.gcd_pos_of_pos_left _ h0
    have hq : n / Nat.gcd n d < n := Nat.div_lt_self h0 (by omega)
    have hq0 : 0 < n / Nat.gcd n d := Nat.div_pos (Nat.gcd_le_left _ h0) hg0
    obtain ⟨n', hn'⟩ : ∃ n', n = n' + 1 := ⟨n - 1, by omega⟩
    have hN : kindN n d = ((kindN (n / Nat.gcd n d) d).1 + 1, (kindN (n / Nat.gcd n d) d).2) := by
      have e : kindN n d = kindF (n' + 1) n d 0 := by rw [kindN]; congr 1
      rw [e, kindF_go h1]
      exact kindF_add n' _ d _ hq0 (by omega)
    rw [hN]
    simp

/-- The denominator of the turned angle. -/
theorem turn_den {x y d : Nat} (hg : Nat.gcd x y = 1) : Nat.gcd (turnX x y d 1) y = Nat.gcd y d := by
  unfold turnX
  rw [Nat.pow_one, Nat.mul_mod, Nat.mod_mod, ← Nat.mul_mod]
  rw [← Nat.gcd_rec, Nat.gcd_comm y, Nat.gcd_comm y]
  exact Nat.Coprime.gcd_mul_left_cancel d hg

end Go.Proofs.Ytciafmnideihjaa
