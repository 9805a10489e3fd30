import Derived.Test.YtoaggmegmgdgbaaGreatMem
namespace Go.Proofs.YtoaggmegmgdgbaaGreat
def rowAt (p q : List Nat) (n : Nat) : Nat := if n < p.length then p.getD n 0 else q.getD ((n - p.length) % q.length) 0
def rowL (p q : List Nat) (a k : Nat) : List Nat := (List.range k).map fun j => rowAt p q (a + j)
theorem rowL_len (p q : List Nat) (a k : Nat) : (rowL p q a k).length = k := by simp [rowL]
theorem rowL_get {p q : List Nat} {a k j : Nat} (h : j < k) : (rowL p q a k)[j]? = some (rowAt p q (a + j)) := by simp [rowL, h]
theorem rowL_cons (p q : List Nat) (a k : Nat) : rowL p q a (k + 1) = rowAt p q a :: rowL p q (a + 1) k := by
  simp only [rowL, List.range_succ_eq_map, List.map_cons, List.map_map, Nat.add_zero]
  congr 1
  exact List.map_congr_left fun j _ => by simp only [Function.comp]; congr 1; omega
theorem rowAt_pre {p q : List Nat} {n : Nat} (h : n < p.length) : p[n]? = some (rowAt p q n) := by simp [rowAt, h, List.getD]
theorem rowAt_per {p q : List Nat} {n : Nat} (h : p.length ≤ n) (hq : 0 < q.length) : q[(n - p.length) % q.length]? = some (rowAt p q n) := by
  have h1 := Nat.mod_lt (n - p.length) hq
  have h2 : ¬ n < p.length := by omega
  simp [rowAt, h2, List.getD, h1]
theorem rowAt_next {p q : List Nat} {n : Nat} (h : p.length ≤ n) : rowAt p q (n + q.length) = rowAt p q n := by
  have h1 : ¬ n < p.length := by omega
  have h2 : ¬ n + q.length < p.length := by omega
  simp only [rowAt, h1, h2, if_false]
  rw [show n + q.length - p.length = n - p.length + q.length by omega, Nat.add_mod_right]
theorem rowAt_mem {p q : List Nat} {n : Nat} (hq : 0 < q.length) : rowAt p q n ∈ p ∨ rowAt p q n ∈ q := by
  rcases Nat.lt_or_ge n p.length with h | h
  · exact .inl (List.mem_of_getElem? (rowAt_pre h))
  · exact .inr (List.mem_of_getElem? (rowAt_per h hq))
def symB (x : Nat) : Bool := decide (x < 64) || decide (x = 255)
def mayI (p q : List Nat) : Bool := decide (q ≠ []) && decide (p.length + q.length ≤ 4096) && p.all symB && q.all symB
theorem mayI_spec {p q : List Nat} (h : mayI p q = true) : 0 < q.length ∧ p.length + q.length ≤ 4096 ∧ (∀ x, x ∈ p → symB x = true) ∧ (∀ x, x ∈ q → symB x = true) := by
  simp only [mayI, Bool.and_eq_true, decide_eq_true_eq, List.all_eq_true] at h
  exact ⟨List.length_pos_iff.2 h.1.1.1, h.1.1.2, h.1.2, h.2⟩
def per (q : List Nat) (m : Nat) : Bool := decide (q.length % m = 0) && (List.range q.length).all fun i => decide (q.getD i 0 = q.getD (i % m) 0)
theorem per_iff {q : List Nat} {m : Nat} : per q m = true ↔ q.length % m = 0 ∧ ∀ i, i < q.length → q.getD i 0 = q.getD (i % m) 0 := by
  simp [per]
theorem per_all (q : List Nat) : per q q.length = true := per_iff.2 ⟨Nat.mod_self _, fun i hi => by rw [Nat.mod_eq_of_lt hi]⟩
theorem per_step {q : List Nat} {m : Nat} (hm : 1 ≤ m) (h0 : q.length % m = 0) : per q m = true ↔ ∀ i, m ≤ i → i < q.length → q.getD i 0 = q.getD (i - m) 0 := by
  rw [per_iff]
  constructor
  · rintro ⟨-, h⟩ i h1 h2
    rw [h i h2, h (i - m) (by omega)]
    congr 1
    conv => lhs; rw [show i = i - m + m by omega, Nat.add_mod_right]
  · intro h
    refine ⟨h0, fun i => ?_⟩
    induction i using Nat.strongRecOn with
    | _ i ih =>
      intro hi
      rcases Nat.lt_or_ge i m with h1 | h1
      · rw [Nat.mod_eq_of_lt h1]
      · rw [h i h1 hi, ih (i - m) (by omega) (by omega)]
        congr 1
        conv => rhs; rw [show i = i - m + m by omega, Nat.add_mod_right]
def rootF (q : List Nat) : Nat → Nat → Nat
  | 0, n => n
  | f + 1, n => if per q n then n else rootF q f (n + 1)
def rootM (q : List Nat) : Nat := rootF q (q.length - 1) 1
theorem rootF_spec (q : List Nat) : ∀ f n, 1 ≤ n → n + f = q.length → (∀ k, 1 ≤ k → k < n → per q k = false) → n ≤ rootF q f n ∧ rootF q f n ≤ q.length ∧ per q (rootF q f n) = true ∧ ∀ k, 1 ≤ k → k < rootF q f n → per q k = false
  | 0, n, h1, h2, h3 => by
    simp only [Nat.add_zero] at h2
    subst h2
    exact ⟨Nat.le_refl _, Nat.le_refl _, per_all q, h3⟩
  | f + 1, n, h1, h2, h3 => by
    unfold rootF
    split
    · rename_i h
      exact ⟨Nat.le_refl _, by omega, h, h3⟩
    · rename_i h
      have h4 := rootF_spec q f (n + 1) (by omega) (by omega) (fun k k1 k2 => by
        by_cases e : k = n
        · subst e; simpa using h
        · exact h3 k k1 (by omega))
      exact ⟨by omega, h4.2⟩
theorem rootM_spec {q : List Nat} (hq : 0 < q.length) : 1 ≤ rootM q ∧ rootM q ≤ q.length ∧ per q (rootM q) = true ∧ ∀ k, 1 ≤ k → k < rootM q → per q k = false :=
  rootF_spec q _ 1 (Nat.le_refl _) (by omega) (fun k h1 h2 => by omega)
theorem rootM_eq {q : List Nat} {m : Nat} (hq : 0 < q.length) (h1 : 1 ≤ m) (h2 : per q m = true) (h3 : ∀ k, 1 ≤ k → k < m → per q k = false) : m = rootM q := by
  obtain ⟨r1, r2, r3, r4⟩ := rootM_spec hq
  rcases Nat.lt_trichotomy m (rootM q) with h | h | h
  · have := r4 m h1 h; rw [h2] at this; cases this
  · exact h
  · have := h3 _ r1 h; rw [r3] at this; cases this
theorem rowAt_root {p q : List Nat} {n : Nat} (hq : 0 < q.length) (h : p.length ≤ n) : rowAt p q (n + rootM q) = rowAt p q n := by
  obtain ⟨r1, r2, r3, -⟩ := rootM_spec hq
  obtain ⟨m, hm⟩ : ∃ m, m = rootM q := ⟨_, rfl⟩
  rw [← hm] at r1 r2 r3 ⊢
  obtain ⟨c0, c1⟩ := per_iff.1 r3
  have e1 : ¬ n < p.length := by omega
  have e2 : ¬ n + m < p.length := by omega
  simp only [rowAt, e1, e2, if_false]
  rw [c1 _ (Nat.mod_lt _ hq), c1 ((n - p.length) % q.length) (Nat.mod_lt _ hq)]
  congr 1
  obtain ⟨t, ht⟩ := Nat.dvd_of_mod_eq_zero c0
  rw [ht, Nat.mod_mul_right_mod, Nat.mod_mul_right_mod, show n + m - p.length = n - p.length + m by omega, Nat.add_mod_right]
def lowN (p q : List Nat) (m : Nat) : Nat → Nat
  | 0 => 0
  | n + 1 => if rowAt p q n = rowAt p q (n + m) then lowN p q m n else n + 1
theorem lowN_le (p q : List Nat) (m : Nat) : ∀ n, lowN p q m n ≤ n
  | 0 => Nat.le_refl _
  | n + 1 => by
    unfold lowN
    split
    · exact Nat.le_succ_of_le (lowN_le p q m n)
    · exact Nat.le_refl _
def lowP (p q : List Nat) : List Nat := p.take (lowN p q (rootM q) p.length)
def lowQ (p q : List Nat) : List Nat := rowL p q (lowN p q (rootM q) p.length) (rootM q)
theorem take_rowL {p q : List Nat} {n : Nat} (h : n ≤ p.length) : p.take n = rowL p q 0 n := by
  refine List.ext_getElem? fun i => ?_
  rcases Nat.lt_or_ge i n with hi | hi
  · rw [List.getElem?_take_of_lt hi, rowL_get hi, Nat.zero_add, rowAt_pre (q := q) (by omega)]
  · rw [List.getElem?_eq_none (by rw [List.length_take]; omega), List.getElem?_eq_none (by rw [rowL_len]; exact hi)]
theorem root_rowL {p q : List Nat} (hq : 0 < q.length) : q.take (rootM q) = rowL p q p.length (rootM q) := by
  obtain ⟨r1, r2, -⟩ := rootM_spec hq
  refine List.ext_getElem? fun i => ?_
  rcases Nat.lt_or_ge i (rootM q) with hi | hi
  · rw [List.getElem?_take_of_lt hi, rowL_get hi, ← rowAt_per (p := p) (n := p.length + i) (by omega) hq, show p.length + i - p.length = i by omega, Nat.mod_eq_of_lt (by omega)]
  · rw [List.getElem?_eq_none (by rw [List.length_take]; omega), List.getElem?_eq_none (by rw [rowL_len]; exact hi)]
def symV (s t p q d : Nat) : Nat :=
  if s * q = (d * p % q) * t then 255 else (d * p / q + if s * q < (d * p % q) * t then 1 else 0) % d
theorem bord {s t p q d k : Nat} (hq : 0 < q) (hst : s < t) :
    ((s + k * t) * q < d * p * t ↔ k < d * p / q ∨ (k = d * p / q ∧ s * q < (d * p % q) * t)) ∧ ((s + k * t) * q = d * p * t ↔ k = d * p / q ∧ s * q = (d * p % q) * t) := by
  obtain ⟨f, hf⟩ : ∃ f, f = d * p / q := ⟨_, rfl⟩
  obtain ⟨r, hr⟩ : ∃ r, r = d * p % q := ⟨_, rfl⟩
  have he : d * p = q * f + r := by rw [hf, hr]; exact (Nat.div_add_mod _ _).symm
  have hrq : r < q := by rw [hr]; exact Nat.mod_lt _ hq
  rw [← hf, ← hr, he]
  obtain ⟨A, hA⟩ : ∃ A, A = t * q := ⟨_, rfl⟩
  have hA0 : 0 < A := by rw [hA]; exact Nat.mul_pos (by omega) hq
  have e1 : (s + k * t) * q = s * q + k * A := by rw [hA, Nat.add_mul]; congr 1; ac_rfl
  have e2 : (q * f + r) * t = f * A + r * t := by rw [hA, Nat.add_mul]; congr 1; ac_rfl
  rw [e1, e2]
  have b1 : s * q < A := by rw [hA]; exact Nat.mul_lt_mul_of_pos_right hst hq
  have b2 : r * t < A := by rw [hA, Nat.mul_comm t q]; exact Nat.mul_lt_mul_of_pos_right hrq (by omega)
  rcases Nat.lt_trichotomy k f with h | h | h
  · have h1 : k * A + A ≤ f * A := by have := Nat.mul_le_mul_right A (show k + 1 ≤ f from h); rw [Nat.succ_mul] at this; exact this
    constructor
    · exact ⟨fun _ => .inl h, fun _ => by omega⟩
    · exact ⟨fun h2 => by omega, fun h2 => by omega⟩
  · subst h
    constructor
    · exact ⟨fun h2 => .inr ⟨rfl, by omega⟩, fun h2 => by rcases h2 with h2 | h2 <;> omega⟩
    · exact ⟨fun h2 => ⟨rfl, by omega⟩, fun h2 => by omega⟩
  · have h1 : f * A + A ≤ k * A := by have := Nat.mul_le_mul_right A (show f + 1 ≤ k from h); rw [Nat.succ_mul] at this; exact this
    constructor
    · exact ⟨fun h2 => by omega, fun h2 => by rcases h2 with h2 | h2 <;> omega⟩
    · exact ⟨fun h2 => by omega, fun h2 => by omega⟩
theorem symV_star {s t p q d k : Nat} (hq : 0 < q) (hst : s < t) (h : (s + k * t) * q = d * p * t) : symV s t p q d = 255 := by
  unfold symV
  rw [if_pos (((bord hq hst).2.1 h).2)]
theorem symV_count {s t p q d k : Nat} (hd : 0 < d) (hq : 0 < q) (hst : s < t) (hpq : p < q) (hlo : ∀ j, j < k → (s + j * t) * q < d * p * t) (hhi : k = d ∨ d * p * t < (s + k * t) * q) : symV s t p q d = k % d := by
  obtain ⟨f, hf⟩ : ∃ f, f = d * p / q := ⟨_, rfl⟩
  have hfd : f < d := by rw [hf, Nat.div_lt_iff_lt_mul hq]; exact Nat.mul_lt_mul_of_pos_left hpq hd
  have hb : ∀ j, (s + j * t) * q < d * p * t ↔ j < f ∨ (j = f ∧ s * q < (d * p % q) * t) := fun j => by rw [hf]; exact (bord hq hst).1
  have he : ∀ j, (s + j * t) * q = d * p * t ↔ j = f ∧ s * q = (d * p % q) * t := fun j => by rw [hf]; exact (bord hq hst).2
  have hkf : f ≤ k := by
    rcases hhi with rfl | h
    · omega
    · rcases Nat.lt_or_ge k f with h1 | h1
      · have := (hb k).2 (.inl h1); omega
      · exact h1
  have hne : ¬ s * q = (d * p % q) * t := by
    intro e
    have h1 := (he f).2 ⟨rfl, e⟩
    rcases Nat.lt_or_ge f k with h2 | h2
    · have := hlo f h2; omega
    · have h3 : k = f := by omega
      rcases hhi with h4 | h4
      · omega
      · rw [h3] at h4; omega
  unfold symV
  rw [if_neg hne, ← hf]
  rcases Nat.lt_or_ge f k with h2 | h2
  · have h3 := ((hb f).1 (hlo f h2)).resolve_left (by omega)
    rw [if_pos h3.2]
    have h4 : k = f + 1 := by
      rcases Nat.lt_or_ge (f + 1) k with h5 | h5
      · have := (hb (f + 1)).1 (hlo _ h5); omega
      · omega
    rw [h4]
  · have h3 : k = f := by omega
    have h4 : ¬ s * q < (d * p % q) * t := by
      intro h5
      rcases hhi with h6 | h6
      · omega
      · have := (hb k).2 (.inr ⟨h3, h5⟩); omega
    rw [if_neg h4, h3, Nat.add_zero]
theorem symV_lt {s t p q d : Nat} (hd : 0 < d) (h : symV s t p q d ≠ 255) : symV s t p q d < d := by
  unfold symV at h ⊢
  split at h
  · exact absurd rfl h
  · rename_i h1
    rw [if_neg h1]
    exact Nat.mod_lt _ hd
theorem quo_lt {a b c d : Nat} (hb : 0 < b) (hd : 0 < d) (h : a / b < c / d) : a * d < c * b := by
  have h1 : a < (a / b + 1) * b := by have := Nat.lt_div_mul_add (a := a) hb; rw [Nat.add_mul, Nat.one_mul]; exact this
  have h2 : (a / b + 1) * d ≤ c := by have := Nat.mul_le_mul_right d h; exact Nat.le_trans this (Nat.div_mul_le_self c d)
  have h3 : a * d < (a / b + 1) * b * d := Nat.mul_lt_mul_of_pos_right h1 hd
  have h4 : (a / b + 1) * d * b ≤ c * b := Nat.mul_le_mul_right b h2
  rw [Nat.mul_right_comm] at h3
  omega
theorem quo_rest {a b c d : Nat} (h : a / b = c / d) : (a * d < c * b ↔ (a % b) * d < (c % d) * b) ∧ (c * b < a * d ↔ (c % d) * b < (a % b) * d) := by
  have e1 : a * d = (a / b) * (b * d) + (a % b) * d := by
    conv => lhs; rw [← Nat.div_add_mod a b]
    rw [Nat.add_mul]; congr 1; ac_rfl
  have e2 : c * b = (a / b) * (b * d) + (c % d) * b := by
    conv => lhs; rw [← Nat.div_add_mod c d]
    rw [← h, Nat.add_mul]; congr 1; ac_rfl
  omega
end Go.Proofs.YtoaggmegmgdgbaaGreat
