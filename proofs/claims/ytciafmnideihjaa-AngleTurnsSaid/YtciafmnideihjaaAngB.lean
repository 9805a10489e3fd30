/- Package angle: turns, power, Rem64, turn. -/
import Derived.Test.YtciafmnideihjaaAngA
namespace Go.Proofs.Ytciafmnideihjaa
open Go.RowKit

/-- May d be? -/
def roundB (d : Int) : Bool := decide (2 ≤ d) && decide (d ≤ 64)
theorem roundB_iff {d : Int} : roundB d = true ↔ 2 ≤ d ∧ d ≤ 64 := by simp [roundB]

/-- angle.turns -/
theorem aturns_any (d : Int) (w : World) : Calls Try.prog 51 #[.int .i64 d] w fun e w' => e = .returned (.bool (roundB d)) ∧ w = w' := by
  by_cases h : 2 ≤ d
  · by_cases h2 : d ≤ 64
    · have HB : Hid (roundB d = true) := Lib.hid (roundB_iff.2 ⟨h, h2⟩)
      go_enter Try.func51, Try.ntmps51
      go_wp2
      go_ret
      exact ⟨by rw [HB.out]; rfl, rfl⟩
    · have HB : Hid (roundB d = false) := Lib.hid (by simp [roundB]; omega)
      have h2' : decide (d ≤ 64) = false := by simp; omega
      go_enter Try.func51, Try.ntmps51
      go_wp2
      go_ret
      exact ⟨by rw [HB.out]; rfl, rfl⟩
  · have HB : Hid (roundB d = false) := Lib.hid (by simp [roundB]; omega)
    have h' : decide (2 ≤ d) = false := by simp; omega
    go_enter Try.func51, Try.ntmps51
    go_wp2
    go_ret
    exact ⟨by rw [HB.out]; rfl, rfl⟩

theorem and_one_i64 (n : Nat) (h : n < 9223372036854775808) : bits .and .i64 (n : Int) 1 = ((n % 2 : Nat) : Int) := by
  have e1 : (BitVec.ofInt 64 (n : Int)).toNat = n := by
    rw [BitVec.ofInt_natCast, BitVec.toNat_ofNat]
    exact Nat.mod_eq_of_lt (by omega)
  show IntKind.i64.wrap ((BitVec.ofInt 64 (n : Int) &&& BitVec.ofInt 64 1).toNat : Int) = _
  rw [BitVec.toNat_and, e1, show (BitVec.ofInt 64 1).toNat = 1 by decide, Nat.and_one_is_mod, IntKind.wrap_i64]
  omega

theorem pow_step_even (x y n m : Nat) : x * y ^ (2 * n) % m = x * (y * y % m) ^ n % m := by
  rw [Nat.pow_mul, Nat.mul_mod, Nat.mul_mod x ((y * y % m) ^ n), Nat.pow_mod (y * y % m), Nat.mod_mod, ← Nat.pow_mod, Nat.pow_two]
theorem pow_step_odd (x y n m : Nat) : x * y ^ (2 * n + 1) % m = x * y % m * (y * y % m) ^ n % m := by
  have e : x * y ^ (2 * n + 1) = x * y * y ^ (2 * n) := by rw [Nat.pow_succ]; ac_rfl
  rw [e, pow_step_even]
  have h1 := Nat.mul_mod (x * y) ((y * y % m) ^ n) m
  have h2 := Nat.mul_mod (x * y % m) ((y * y % m) ^ n) m
  rw [Nat.mod_mod] at h2
  exact h1.trans h2.symm

set_option maxHeartbeats 400000 in
/-- angle.power -/
theorem power_any (d n m : Nat) (w : World) (hn : n < 9223372036854775808) (hm0 : 0 < m) (hm : m < 4294967296) :
    Calls Try.prog 60 #[.int .u64 (d : Int), .int .i64 (n : Int), .int .u64 (m : Int)] w (RetW (d ^ n % m) w) := by
  obtain ⟨x0, hx0⟩ : ∃ x0, x0 = 1 % m := ⟨_, rfl⟩
  obtain ⟨y0, hy0⟩ : ∃ y0, y0 = d % m := ⟨_, rfl⟩
  have e1 : (1 : Int).tmod (m : Int) = (x0 : Int) := by rw [hx0]; exact tmod_nat 1 m
  have e1' : (1 : Int) % (m : Int) = (x0 : Int) := by rw [hx0]; rfl
  have e2 : (d : Int).tmod (m : Int) = (y0 : Int) := by rw [hy0]; exact tmod_nat d m
  have e2' : (d : Int) % (m : Int) = (y0 : Int) := by rw [hy0]; rfl
  have hxm : x0 < m := by rw [hx0]; exact Nat.mod_lt _ hm0
  have hym : y0 < m := by rw [hy0]; exact Nat.mod_lt _ hm0
  have H0 : Hid (x0 * y0 ^ n % m = d ^ n % m) := Lib.hid (by rw [hx0, hy0, Nat.mul_mod, Nat.mod_mod, ← Nat.pow_mod, ← Nat.mul_mod, Nat.one_mul])
  clear hx0 hy0
  go_enter Try.func60, Try.ntmps60
  go_wp2
  go_quiet (fail)
  go_wp2
  go_loopw [1, 7, 8] (fun k x y wr => ∃ K X Y : Nat, k = .int .i64 (K : Int) ∧ x = .int .u64 (X : Int) ∧ y = .int .u64 (Y : Int) ∧ K < 9223372036854775808 ∧ X < m ∧ Y < m ∧ X * Y ^ K % m = d ^ n % m ∧ Dr w wr) (fun k _ _ _ => (intOf k).toNat)
  case atStart => exact ⟨n, x0, y0, rfl, by first | rfl | rw [e1'], by first | rfl | rw [e2'], hn, hxm, hym, H0.out, by repeat (first | exact Dr.refl _ | apply Dr.drewN)⟩
  case round =>
    obtain ⟨K, X, Y, rfl, rfl, rfl, hK, hX, hY, hv, nn, rfl⟩ := hrel
    have HV := Lib.hid hv
    clear hv e1 e1' e2 e2'
    by_cases h0 : 0 < K
    · have hXY : X * Y < 18446744073709551616 := Nat.lt_of_le_of_lt (Nat.mul_le_mul (show X ≤ 4294967295 by omega) (show Y ≤ 4294967295 by omega)) (by omega)
      have hYY : Y * Y < 18446744073709551616 := Nat.lt_of_le_of_lt (Nat.mul_le_mul (show Y ≤ 4294967295 by omega) (show Y ≤ 4294967295 by omega)) (by omega)
      obtain ⟨P, hP⟩ : ∃ P, P = X * Y := ⟨_, rfl⟩
      have hPi : (X : Int) * (Y : Int) = (P : Int) := by rw [hP]; push_cast; rfl
      obtain ⟨S, hS⟩ : ∃ S, S = Y * Y := ⟨_, rfl⟩
      have hSi : (Y : Int) * (Y : Int) = (S : Int) := by rw [hS]; push_cast; rfl
      obtain ⟨p, hp⟩ : ∃ p, p = P % m := ⟨_, rfl⟩
      have hpi : (P : Int).tmod (m : Int) = (p : Int) := by rw [hp]; exact tmod_nat P m
      have hpi' : (P : Int) % (m : Int) = (p : Int) := by rw [hp]; rfl
      obtain ⟨s, hs⟩ : ∃ s, s = S % m := ⟨_, rfl⟩
      have hsi : (S : Int).tmod (m : Int) = (s : Int) := by rw [hs]; exact tmod_nat S m
      have hsi' : (S : Int) % (m : Int) = (s : Int) := by rw [hs]; rfl
      have hpm : p < m := by rw [hp]; exact Nat.mod_lt _ hm0
      have hsm : s < m := by rw [hs]; exact Nat.mod_lt _ hm0
      obtain ⟨k2, hk2⟩ : ∃ k2, k2 = K / 2 := ⟨_, rfl⟩
      have hk2i : (K : Int) / 2 = (k2 : Int) := by omega
      have hand := and_one_i64 K hK
      rw [← hP] at hXY
      rw [← hS] at hYY
      rcases Nat.mod_two_eq_zero_or_one K with hpar | hpar
      · rw [hpar] at hand
        have hand : bits .and .i64 (K : Int) 1 = 0 := hand
        have HN : Hid (X * s ^ k2 % m = d ^ n % m) := Lib.hid (by
          rw [← HV.out, hs, hS, ← pow_step_even, show 2 * k2 = K by omega])
        clear hP hS hp hs hk2
        have hKp : (0 : Int) < (K : Int) := by omega
        go_wp2
        go_roundw
        case rel => exact ⟨k2, X, s, by first | rfl | rw [hk2i], rfl, rfl, by omega, hX, hsm, HN.out, by repeat (first | exact Dr.refl _ | apply Dr.drewN)⟩
        case measure => simp [intOf]; omega
      · rw [hpar] at hand
        have hand : bits .and .i64 (K : Int) 1 = 1 := hand
        have HN : Hid (p * s ^ k2 % m = d ^ n % m) := Lib.hid (by
          rw [← HV.out, hs, hS, hp, hP, ← pow_step_odd, show 2 * k2 + 1 = K by omega])
        clear hP hS hp hs hk2
        have hKp : (0 : Int) < (K : Int) := by omega
        go_wp2
        go_roundw
        case rel => exact ⟨k2, p, s, by first | rfl | rw [hk2i], rfl, rfl, by omega, hpm, hsm, HN.out, by repeat (first | exact Dr.refl _ | apply Dr.drewN)⟩
        case measure => simp [intOf]; omega
    · obtain rfl : K = 0 := by omega
      have HN : Hid (X = d ^ n % m) := Lib.hid (by have := HV.out; rwa [Nat.pow_zero, Nat.mul_one, Nat.mod_eq_of_lt hX] at this)
      go_wp2
      go_ret
      exact ⟨by rw [← HN.out]; rfl, by repeat (first | exact Dr.refl _ | apply Dr.drewN)⟩
end Go.Proofs.Ytciafmnideihjaa
