/- How many bits a word has. -/
import Derived.Test.YtoaggmegmgdgbaaNum
import Derived.Lib.ItoaNum
namespace Go.Proofs.Ytoaggmegmgdgbaa

theorem bitLen_spec {x : Nat} (h : x < 4294967296) (h0 : 0 < x) : 1 ≤ Go.Lib.bitLen x ∧ Go.Lib.bitLen x ≤ 32 ∧ 2 ^ (Go.Lib.bitLen x - 1) ≤ x ∧ x < 2 ^ Go.Lib.bitLen x := by
  have h1 := Go.Lib.bitLenAux_bounds 64 x (by omega) (by omega)
  have h2 := Go.Lib.bitLen_le x 32 (by omega) (by omega)
  exact ⟨h1.1, h2, h1.2.1, h1.2.2⟩

/-- Shifted by its leading noughts a digit's highest bit is 1. -/
theorem norm_spec {x : Nat} (h : x < 4294967296) (h0 : 0 < x) : ∃ s : Nat, s < 32 ∧ (32 - (Go.Lib.bitLen x : Int)) = (s : Int) ∧ 2147483648 ≤ x * 2 ^ s ∧ x * 2 ^ s < 4294967296 := by
  obtain ⟨h1, h2, h3, h4⟩ := bitLen_spec h h0
  generalize Go.Lib.bitLen x = b at *
  refine ⟨32 - b, by omega, by omega, ?_, ?_⟩
  · have e : 2 ^ (b - 1) * 2 ^ (32 - b) = 2147483648 := by rw [← Nat.pow_add, show b - 1 + (32 - b) = 31 by omega]
    have := Nat.mul_le_mul_right (2 ^ (32 - b)) h3
    omega
  · have e : 2 ^ b * 2 ^ (32 - b) = 4294967296 := by rw [← Nat.pow_add, show b + (32 - b) = 32 by omega]
    have := Nat.mul_lt_mul_of_pos_right h4 (Nat.two_pow_pos (32 - b))
    omega

/-- The divisor, shifted: as many digits, the highest bit 1. -/
theorem norm_len {b s x n : Nat} (hn : (dg b).length = n) (hx : (dg b)[n - 1]? = some x) (h1 : 2147483648 ≤ x * 2 ^ s) (h2 : x * 2 ^ s < 4294967296) (hn0 : 0 < n) :
    (dg (b * 2 ^ s)).length = n ∧ 2147483648 * 4294967296 ^ (n - 1) ≤ b * 2 ^ s ∧ b * 2 ^ s < 4294967296 ^ n := by
  have e1 := val_take_drop (dg b) (n - 1)
  have e2 : val ((dg b).drop (n - 1)) = x := by
    have e := val_drop_cons hx
    have e' : (dg b).drop (n - 1 + 1) = [] := List.drop_eq_nil_of_le (by omega)
    rw [e'] at e
    simpa [val] using e
  rw [e2, val_dg, hn, Nat.min_eq_left (by omega)] at e1
  have hb := val_lt ((sm_dg b).take (n - 1))
  rw [List.length_take, hn, Nat.min_eq_left (by omega)] at hb
  have hp : 0 < 4294967296 ^ (n - 1) := Nat.pow_pos (by omega)
  have g1 : 2147483648 * 4294967296 ^ (n - 1) ≤ b * 2 ^ s := by
    have : 4294967296 ^ (n - 1) * x * 2 ^ s ≤ b * 2 ^ s := Nat.mul_le_mul_right _ (by omega)
    rw [Nat.mul_assoc] at this
    have h3 : 4294967296 ^ (n - 1) * 2147483648 ≤ 4294967296 ^ (n - 1) * (x * 2 ^ s) := Nat.mul_le_mul_left _ h1
    rw [Nat.mul_comm 2147483648]
    omega
  have g2 : b * 2 ^ s < 4294967296 ^ n := by
    have hs : 2 ^ s ≤ 4294967296 := by
      rcases Nat.eq_zero_or_pos x with h0 | h0
      · subst h0; omega
      · have : 1 * 2 ^ s ≤ x * 2 ^ s := Nat.mul_le_mul_right _ h0
        omega
    have h4 : b * 2 ^ s < 4294967296 ^ (n - 1) * (x + 1) * 2 ^ s := Nat.mul_lt_mul_of_pos_right (by rw [Nat.mul_add]; omega) (Nat.two_pow_pos s)
    have h5 : (x + 1) * 2 ^ s ≤ 4294967296 := by
      -- x * 2^s is a multiple of 2^s below 2^32, itself a multiple of 2^s
      have hs32 : s ≤ 32 := by
        rcases Nat.lt_or_ge 32 s with h | h
        · have : 2 ^ 33 ≤ 2 ^ s := Nat.pow_le_pow_right (by omega) h
          omega
        · exact h
      have e : 2 ^ s * 2 ^ (32 - s) = 4294967296 := by rw [← Nat.pow_add, show s + (32 - s) = 32 by omega]
      have h6 : x < 2 ^ (32 - s) := by
        rw [← e, Nat.mul_comm x] at h2
        exact Nat.lt_of_mul_lt_mul_left h2
      have : (x + 1) * 2 ^ s ≤ 2 ^ (32 - s) * 2 ^ s := Nat.mul_le_mul_right _ h6
      rw [Nat.mul_comm (2 ^ (32 - s)), e] at this
      exact this
    have h6 : 4294967296 ^ (n - 1) * ((x + 1) * 2 ^ s) ≤ 4294967296 ^ (n - 1) * 4294967296 := Nat.mul_le_mul_left _ h5
    rw [← Nat.mul_assoc] at h6
    have e3 : 4294967296 ^ (n - 1) * 4294967296 = 4294967296 ^ n := by rw [← Nat.pow_succ, show (n - 1).succ = n by omega]
    omega
  refine ⟨?_, g1, g2⟩
  have k1 := dg_len_le_of_lt g2
  rcases Nat.lt_or_ge (dg (b * 2 ^ s)).length n with hlt | hge
  · have k2 := dg_lt (b * 2 ^ s)
    have k3 : 4294967296 ^ (dg (b * 2 ^ s)).length ≤ 4294967296 ^ (n - 1) := Nat.pow_le_pow_right (by omega) (by omega)
    omega
  · omega
end Go.Proofs.Ytoaggmegmgdgbaa
