/- Moebius' function and the counts of angles: plain. -/
import Derived.Test.YtbddlbhanpjdnaaGreatDoorEuler
import Derived.Test.YtbddlbhanpjdnaaGreatDoorAngN
namespace Go.Proofs.YtbddlbhanpjdnaaGreatDoor
open Go.RowKit

/-- Moebius' function, as the program goes over the primes. -/
def moeL : List (Nat × Nat) → Int → Int
  | [], x => x
  | (_, c) :: M, x => if 1 < c then 0 else moeL M (-x)
def moe (n : Nat) : Int := moeL (factorsL n) 1

/-- A sum from 1 on. -/
def rsum (f : Nat → Int) : Nat → Int
  | 0 => 0
  | k + 1 => rsum f k + f (k + 1)
/-- A sum over divisors. -/
def dsum (n : Nat) (f : Nat → Int) (k : Nat) : Int := rsum (fun j => if n % j = 0 then f j else 0) k

theorem rsum_congr {f g : Nat → Int} : ∀ k, (∀ j, 1 ≤ j → j ≤ k → f j = g j) → rsum f k = rsum g k
  | 0, _ => rfl
  | k + 1, h => by rw [rsum, rsum, rsum_congr k (fun j h1 h2 => h j h1 (by omega)), h (k + 1) (by omega) (by omega)]
theorem rsum_zero {f : Nat → Int} : ∀ k, (∀ j, 1 ≤ j → j ≤ k → f j = 0) → rsum f k = 0
  | 0, _ => rfl
  | k + 1, h => by rw [rsum, rsum_zero k (fun j h1 h2 => h j h1 (by omega)), h (k + 1) (by omega) (by omega)]; rfl
theorem rsum_add (f g : Nat → Int) : ∀ k, rsum (fun j => f j + g j) k = rsum f k + rsum g k
  | 0 => rfl
  | k + 1 => by rw [rsum, rsum, rsum, rsum_add f g k]; omega
theorem rsum_mul (c : Int) (f : Nat → Int) : ∀ k, rsum (fun j => c * f j) k = c * rsum f k
  | 0 => by simp [rsum]
  | k + 1 => by rw [rsum, rsum, rsum_mul c f k, Int.mul_add]
theorem rsum_swap (F : Nat → Nat → Int) (n : Nat) : ∀ m, rsum (fun i => rsum (fun j => F i j) n) m = rsum (fun j => rsum (fun i => F i j) m) n
  | 0 => by
    rw [rsum_zero (f := fun j => rsum (fun i => F i j) 0) n (fun j _ _ => rfl)]
    rfl
  | m + 1 => by
    rw [rsum, rsum_swap F n m, ← rsum_add]
    rfl
theorem rsum_ext {f : Nat → Int} {k : Nat} : ∀ t, (∀ j, k < j → j ≤ k + t → f j = 0) → rsum f (k + t) = rsum f k
  | 0, _ => rfl
  | t + 1, h => by
    rw [← Nat.add_assoc, rsum, rsum_ext t (fun j h1 h2 => h j h1 (by omega)), h (k + t + 1) (by omega) (by omega), Int.add_zero]
theorem rsum_le {f g : Nat → Int} : ∀ k, (∀ j, 1 ≤ j → j ≤ k → f j ≤ g j) → rsum f k ≤ rsum g k
  | 0, _ => Int.le_refl _
  | k + 1, h => Int.add_le_add (rsum_le k (fun j h1 h2 => h j h1 (by omega))) (h (k + 1) (by omega) (by omega))
theorem rsum_nonneg {f : Nat → Int} : ∀ k, (∀ j, 1 ≤ j → j ≤ k → 0 ≤ f j) → 0 ≤ rsum f k
  | 0, _ => Int.le_refl _
  | k + 1, h => Int.add_nonneg (rsum_nonneg k (fun j h1 h2 => h j h1 (by omega))) (h (k + 1) (by omega) (by omega))
theorem rsum_mult {k : Nat} (hk : 1 ≤ k) (h : Nat → Int) : ∀ N, rsum (fun m => if m % k = 0 then h m else 0) (k * N) = rsum (fun j => h (k * j)) N
  | 0 => rfl
  | N + 1 => by
    obtain ⟨q, rfl⟩ : ∃ q, k = q + 1 := ⟨k - 1, by omega⟩
    have e : (q + 1) * (N + 1) = (q + 1) * N + q + 1 := by rw [Nat.mul_succ]; omega
    rw [e, rsum, rsum_ext q (fun j h1 h2 => ?_), rsum_mult hk h N, rsum, ← e]
    · rw [if_pos (Nat.mul_mod_right _ _)]
    · refine if_neg fun h0 => ?_
      have h3 := Nat.div_add_mod j (q + 1)
      rw [h0, Nat.add_zero] at h3
      generalize j / (q + 1) = t at h3
      rw [← h3] at h1 h2
      have h4 : N < t := Nat.lt_of_mul_lt_mul_left h1
      have h5 : (q + 1) * (N + 1) ≤ (q + 1) * t := Nat.mul_le_mul_left _ h4
      rw [e] at h5
      omega

/-- Both sums over divisors, turned round. -/
theorem dsum_turn (f g : Nat → Int) (n : Nat) : dsum n (fun m => dsum m (fun k => f k * g (m / k)) m) n = dsum n (fun k => f k * dsum (n / k) g (n / k)) n := by
  unfold dsum
  have h1 : rsum (fun m => if n % m = 0 then rsum (fun k => if m % k = 0 then f k * g (m / k) else 0) m else 0) n
      = rsum (fun m => rsum (fun k => if n % m = 0 then if m % k = 0 then f k * g (m / k) else 0 else 0) n) n := by
    refine rsum_congr n fun m m1 m2 => ?_
    by_cases h0 : n % m = 0
    · rw [if_pos h0]
      obtain ⟨t, rfl⟩ : ∃ t, n = m + t := ⟨n - m, by omega⟩
      rw [rsum_ext t (fun k k1 k2 => ?_)]
      · exact rsum_congr m fun k _ _ => (if_pos h0).symm
      · rw [if_pos h0, if_neg (by rw [Nat.mod_eq_of_lt k1]; omega)]
    · rw [if_neg h0]
      exact (rsum_zero n fun k _ _ => if_neg h0).symm
  rw [h1, rsum_swap (fun m k => if n % m = 0 then if m % k = 0 then f k * g (m / k) else 0 else 0)]
  refine rsum_congr n fun k k1 k2 => ?_
  by_cases h0 : n % k = 0
  · rw [if_pos h0]
    obtain ⟨N, rfl⟩ : ∃ N, n = k * N := ⟨n / k, by have := Nat.div_add_mod n k; omega⟩
    show _ = f k * rsum (fun j => if k * N / k % j = 0 then g j else 0) (k * N / k)
    rw [Nat.mul_div_cancel_left _ (by omega : 0 < k), ← rsum_mul]
    show rsum (fun m => if k * N % m = 0 then if m % k = 0 then f k * g (m / k) else 0 else 0) (k * N) = _
    have h2 := rsum_mult k1 (fun m => if k * N % m = 0 then f k * g (m / k) else 0) N
    have h3 : rsum (fun m => if k * N % m = 0 then if m % k = 0 then f k * g (m / k) else 0 else 0) (k * N) = rsum (fun m => if m % k = 0 then if k * N % m = 0 then f k * g (m / k) else 0 else 0) (k * N) :=
      rsum_congr _ fun m _ _ => by split <;> split <;> rfl
    rw [h3, h2]
    refine rsum_congr N fun j _ _ => ?_
    rw [Nat.mul_mod_mul_left, Nat.mul_div_cancel_left _ (by omega : 0 < k)]
    by_cases h4 : N % j = 0
    · rw [if_pos h4, if_pos (by rw [h4, Nat.mul_zero])]
    · rw [if_neg h4, if_neg (fun h5 => h4 (by rcases Nat.mul_eq_zero.1 h5 with h6 | h6 <;> omega)), Int.mul_zero]
  · rw [if_neg h0]
    refine rsum_zero n fun m _ _ => ?_
    split
    · split
      · rename_i h5 h6
        exact absurd (Nat.mod_eq_zero_of_dvd (Nat.dvd_trans (Nat.dvd_of_mod_eq_zero h6) (Nat.dvd_of_mod_eq_zero h5))) h0
      · rfl
    · rfl

/-- Moebius' sums, by the kernel's own reckoning. -/
def smu (N : Nat) : Nat → Int
  | 0 => 0
  | j + 1 => bif Nat.beq (N % (j + 1)) 0 then smu N j + moe (j + 1) else smu N j
def chkN : Nat → Bool
  | 0 => true
  | N + 1 => decide (smu (N + 1) (N + 1) = (bif Nat.beq N 0 then 1 else 0)) && chkN N
theorem smu_eq (N : Nat) : ∀ j, smu N j = dsum N moe j
  | 0 => rfl
  | j + 1 => by
    have ih := smu_eq N j
    unfold dsum at ih ⊢
    rw [smu, rsum, ← ih]
    cases h : Nat.beq (N % (j + 1)) 0
    · rw [cond_false, if_neg (by intro h1; rw [h1] at h; cases h), Int.add_zero]
    · rw [cond_true, if_pos (Nat.eq_of_beq_eq_true h)]
set_option maxRecDepth 100000 in
theorem chk_all : chkN 1024 = true := by decide +kernel
theorem chk_get : ∀ M, chkN M = true → ∀ N, 1 ≤ N → N ≤ M → dsum N moe N = if N = 1 then 1 else 0
  | 0, _, N, h1, h2 => by omega
  | M + 1, h, N, h1, h2 => by
    rw [chkN, Bool.and_eq_true, decide_eq_true_eq] at h
    rcases Nat.lt_or_ge N (M + 1) with h3 | h3
    · exact chk_get M h.2 N h1 (by omega)
    · obtain rfl : N = M + 1 := by omega
      rw [← smu_eq, h.1]
      cases h4 : Nat.beq M 0
      · rw [cond_false, if_neg (fun h5 => by
          have h6 : M = 0 := by omega
          rw [h6] at h4
          exact absurd h4 (by decide))]
      · have := Nat.eq_of_beq_eq_true h4
        subst this
        rfl
theorem moe_sum {N : Nat} (h1 : 1 ≤ N) (h2 : N ≤ 1024) : dsum N moe N = if N = 1 then 1 else 0 := chk_get 1024 chk_all N h1 h2

/-- How many angles have the period n. -/
def cntZ (d n : Nat) : Int := dsum n (fun k => ((d : Int) ^ k - 1) * moe (n / k)) n

theorem cnt_sum {d n : Nat} (h1 : 1 ≤ n) (h2 : n ≤ 1024) : dsum n (cntZ d) n = (d : Int) ^ n - 1 := by
  have e := dsum_turn (fun k => (d : Int) ^ k - 1) moe n
  have e2 : dsum n (cntZ d) n = dsum n (fun m => dsum m (fun k => ((d : Int) ^ k - 1) * moe (m / k)) m) n := rfl
  rw [e2, e]
  obtain ⟨m, rfl⟩ : ∃ m, n = m + 1 := ⟨n - 1, by omega⟩
  unfold dsum
  rw [rsum, rsum_zero m (fun k k1 k2 => ?_), Nat.mod_self, if_pos rfl]
  · show 0 + ((d : Int) ^ (m + 1) - 1) * rsum (fun j => if (m + 1) / (m + 1) % j = 0 then moe j else 0) ((m + 1) / (m + 1)) = _
    rw [Nat.div_self (by omega)]
    have := moe_sum (N := 1) (by omega) (by omega)
    unfold dsum at this
    rw [this, if_pos rfl]
    generalize (d : Int) ^ (m + 1) = Y
    omega
  · show (if (m + 1) % k = 0 then ((d : Int) ^ k - 1) * rsum (fun j => if (m + 1) / k % j = 0 then moe j else 0) ((m + 1) / k) else 0) = 0
    split
    · rename_i h0
      have h3 := Nat.div_add_mod (m + 1) k
      rw [h0, Nat.add_zero] at h3
      have h4 : (m + 1) / k ≤ 1024 := Nat.le_trans (Nat.div_le_self _ _) h2
      generalize hq : (m + 1) / k = q at h3 h4 ⊢
      have hq0 : q ≠ 0 := by rintro rfl; simp at h3
      have hq1 : q ≠ 1 := by rintro rfl; omega
      have := moe_sum (N := q) (by omega) h4
      unfold dsum at this
      rw [this, if_neg hq1, Int.mul_zero]
    · rfl

theorem pow_cast (d k : Nat) : (d : Int) ^ k = ((d ^ k : Nat) : Int) := by push_cast; rfl
theorem one_le_dpow {d k : Nat} (hd : 2 ≤ d) : 1 ≤ d ^ k := one_pow (by omega)
theorem geo_less {d : Nat} (hd : 2 ≤ d) : ∀ h, rsum (fun m => (d : Int) ^ m - 1) h ≤ (d : Int) ^ (h + 1) - 2
  | 0 => by
    rw [rsum, Nat.zero_add, show (d : Int) ^ 1 = (d : Int) from Int.pow_succ _ _ |>.trans (by simp)]
    omega
  | h + 1 => by
    have ih := geo_less hd h
    rw [rsum]
    have h1 : (d : Int) ^ (h + 1 + 1) = ((d ^ (h + 1) * d : Nat) : Int) := by rw [pow_cast, Nat.pow_succ d (h + 1)]
    have h2 : d ^ (h + 1) * 2 ≤ d ^ (h + 1) * d := Nat.mul_le_mul_left _ hd
    have h3 : (d : Int) ^ (h + 1) = ((d ^ (h + 1) : Nat) : Int) := pow_cast _ _
    have h4 := one_le_dpow (k := h + 1) hd
    rw [h1]
    rw [h3] at ih ⊢
    omega
theorem geo_twice {d : Nat} (hd : 2 ≤ d) : ∀ h, rsum (fun m => (d : Int) ^ m - 1) h ≤ 2 * (d : Int) ^ h
  | 0 => by simp [rsum]
  | h + 1 => by
    have ih := geo_twice hd h
    rw [rsum]
    have h1 : (d : Int) ^ (h + 1) = ((d ^ h * d : Nat) : Int) := by rw [pow_cast, Nat.pow_succ]
    have h2 : d ^ h * 2 ≤ d ^ h * d := Nat.mul_le_mul_left _ hd
    have h3 : (d : Int) ^ h = ((d ^ h : Nat) : Int) := pow_cast _ _
    rw [h1]
    rw [h3] at ih
    omega

theorem cnt_bounds {d : Nat} (hd : 2 ≤ d) : ∀ n, 1 ≤ n → n ≤ 1024 → 1 ≤ cntZ d n ∧ cntZ d n ≤ (d : Int) ^ n - 1 := by
  intro n
  induction n using Nat.strongRecOn with
  | ind n ih =>
    intro h1 h2
    have e := cnt_sum (d := d) h1 h2
    obtain ⟨m, rfl⟩ : ∃ m, n = m + 1 := ⟨n - 1, by omega⟩
    unfold dsum at e
    rw [rsum, Nat.mod_self, if_pos rfl] at e
    have hlo : 0 ≤ rsum (fun j => if (m + 1) % j = 0 then cntZ d j else 0) m := by
      refine rsum_nonneg m fun j j1 j2 => ?_
      split
      · have := (ih j (by omega) j1 (by omega)).1; omega
      · exact Int.le_refl _
    have hhi : rsum (fun j => if (m + 1) % j = 0 then cntZ d j else 0) m ≤ rsum (fun j => (d : Int) ^ j - 1) m := by
      refine rsum_le m fun j j1 j2 => ?_
      have h3 : (d : Int) ^ j = ((d ^ j : Nat) : Int) := pow_cast _ _
      have h4 := one_le_dpow (k := j) hd
      split
      · exact (ih j (by omega) j1 (by omega)).2
      · rw [h3]; omega
    have hg := geo_less hd m
    omega

/-- A little count says that the number of all is little. -/
theorem cnt_little {d n : Nat} (hd : 2 ≤ d) (h1 : 1 ≤ n) (h2 : n ≤ 1024) (h : cntZ d n ≤ 4096) : d ^ n < 2147483648 := by
  have e := cnt_sum (d := d) h1 h2
  obtain ⟨m, rfl⟩ : ∃ m, n = m + 1 := ⟨n - 1, by omega⟩
  unfold dsum at e
  rw [rsum, Nat.mod_self, if_pos rfl] at e
  obtain ⟨t, ht⟩ : ∃ t, m = (m + 1) / 2 + t := ⟨m - (m + 1) / 2, by omega⟩
  generalize hH : (m + 1) / 2 = H at ht
  have hhi : rsum (fun j => if (m + 1) % j = 0 then cntZ d j else 0) m ≤ rsum (fun j => (d : Int) ^ j - 1) H := by
    conv => lhs; rw [ht]
    rw [rsum_ext t (fun j j1 j2 => ?_)]
    · refine rsum_le H fun j j1 j2 => ?_
      have h3 : (d : Int) ^ j = ((d ^ j : Nat) : Int) := pow_cast _ _
      have h4 := one_le_dpow (k := j) hd
      split
      · exact (cnt_bounds hd j j1 (by omega)).2
      · rw [h3]; omega
    · refine if_neg fun h0 => ?_
      rw [← ht] at h0
      have h3 := Nat.div_add_mod (m + 1) j
      rw [h0, Nat.add_zero] at h3
      generalize hq : (m + 1) / j = q at h3
      have hq0 : q ≠ 0 := by rintro rfl; simp at h3
      have hq1 : q ≠ 1 := by rintro rfl; omega
      have h4 : j * 2 ≤ j * q := Nat.mul_le_mul_left _ (by omega)
      omega
  have hg := geo_twice hd H
  have e3 : (d : Int) ^ (m + 1) = ((d ^ (m + 1) : Nat) : Int) := pow_cast _ _
  have e4 : (d : Int) ^ H = ((d ^ H : Nat) : Int) := pow_cast _ _
  have hX : d ^ H * d ^ H ≤ d ^ (m + 1) := by
    rw [← Nat.pow_add]
    exact Nat.pow_le_pow_right (by omega) (by omega)
  rw [e3] at e
  rw [e4] at hg
  generalize d ^ (m + 1) = Y at *
  generalize d ^ H = X at *
  rcases Nat.lt_or_ge X 100 with hx | hx
  · omega
  · have : 100 * X ≤ X * X := Nat.mul_le_mul_right _ hx
    omega

/-- The values of Moebius' function. -/
theorem moeL_cases : ∀ (M : List (Nat × Nat)) (x : Int), x = 1 ∨ x = -1 → moeL M x = 0 ∨ moeL M x = 1 ∨ moeL M x = -1
  | [], x, h => by rw [moeL]; omega
  | (p, c) :: M, x, h => by
    rw [moeL]
    split
    · exact .inl rfl
    · exact moeL_cases M (-x) (by omega)
theorem moe_cases (n : Nat) : moe n = 0 ∨ moe n = 1 ∨ moe n = -1 := moeL_cases _ _ (.inl rfl)
end Go.Proofs.YtbddlbhanpjdnaaGreatDoor
