/- Rows of symbols: some ahead, then a stretch over and over. No program in sight. -/
import Derived.Test.YtbddlbhanpjdnaaDoorNum
namespace Go.Proofs.YtbddlbhanpjdnaaDoor

/-- The symbol at a place. -/
def rowAt (p q : List Nat) (n : Nat) : Nat := if n < p.length then p.getD n 0 else q.getD ((n - p.length) % q.length) 0
/-- So many symbols from a place on. -/
def rowL (p q : List Nat) (a k : Nat) : List Nat := (List.range k).map fun j => rowAt p q (a + j)
theorem rowL_len (p q : List Nat) (a k : Nat) : (rowL p q a k).length = k := by simp [rowL]
theorem rowL_get {p q : List Nat} {a k j : Nat} (h : j < k) : (rowL p q a k)[j]? = some (rowAt p q (a + j)) := by simp [rowL, h]
theorem rowL_succ (p q : List Nat) (a k : Nat) : rowL p q a (k + 1) = rowL p q a k ++ [rowAt p q (a + k)] := by simp [rowL, List.range_succ]
theorem rowL_cons (p q : List Nat) (a k : Nat) : rowL p q a (k + 1) = rowAt p q a :: rowL p q (a + 1) k := by
  simp only [rowL, List.range_succ_eq_map, List.map_cons, List.map_map, Nat.add_zero]
  congr 1
  exact List.map_congr_left fun j _ => by simp only [Function.comp]; congr 1; omega
theorem rowL_zero (p q : List Nat) (a : Nat) : rowL p q a 0 = [] := rfl
theorem rowAt_pre {p q : List Nat} {n : Nat} (h : n < p.length) : p[n]? = some (rowAt p q n) := by simp [rowAt, h, List.getD]
theorem rowAt_per {p q : List Nat} {n : Nat} (h : p.length ≤ n) (hq : 0 < q.length) : q[(n - p.length) % q.length]? = some (rowAt p q n) := by
  have h1 := Nat.mod_lt (n - p.length) hq
  have h2 : ¬ n < p.length := by omega
  simp [rowAt, h2, List.getD, h1]
theorem rowAt_next {p q : List Nat} {n : Nat} (h : p.length ≤ n) : rowAt p q (n + q.length) = rowAt p q n := by
  have h1 : ¬ n < p.length := by omega
  have h2 : ¬ n + q.length < p.length := by omega
  simp only [rowAt, h1, h2, if_false]
  rw [show n + q.length - p.length = n - p.length + q.length by omega, Nat.add_mod_right]
theorem rowAt_mem {p q : List Nat} {n : Nat} (hq : 0 < q.length) : rowAt p q n ∈ p ∨ rowAt p q n ∈ q := by
  rcases Nat.lt_or_ge n p.length with h | h
  · exact .inl (List.mem_of_getElem? (rowAt_pre h))
  · exact .inr (List.mem_of_getElem? (rowAt_per h hq))

/-- May a row be? -/
def symB (x : Nat) : Bool := decide (x < 64) || decide (x = 255)
def mayI (p q : List Nat) : Bool := decide (q ≠ []) && decide (p.length + q.length ≤ 4096) && p.all symB && q.all symB
theorem mayI_spec {p q : List Nat} (h : mayI p q = true) : 0 < q.length ∧ p.length + q.length ≤ 4096 ∧ (∀ x, x ∈ p → symB x = true) ∧ (∀ x, x ∈ q → symB x = true) := by
  simp only [mayI, Bool.and_eq_true, decide_eq_true_eq, List.all_eq_true] at h
  exact ⟨List.length_pos_iff.2 h.1.1.1, h.1.1.2, h.1.2, h.2⟩

/-- Does a stretch of m make the whole list? -/
def per (q : List Nat) (m : Nat) : Bool := decide (q.length % m = 0) && (List.range q.length).all fun i => decide (q.getD i 0 = q.getD (i % m) 0)
theorem per_iff {q : List Nat} {m : Nat} : per q m = true ↔ q.length % m = 0 ∧ ∀ i, i < q.length → q.getD i 0 = q.getD (i % m) 0 := by
  simp [per]
theorem per_all (q : List Nat) : per q q.length = true := per_iff.2 ⟨Nat.mod_self _, fun i hi => by rw [Nat.mod_eq_of_lt hi]⟩
/-- The same, asked as the program asks. -/
theorem per_step {q : List Nat} {m : Nat} (hm : 1 ≤ m) (h0 : q.length % m = 0) : per q m = true ↔ ∀ i, m ≤ i → i < q.length → q.getD i 0 = q.getD (i - m) 0 := by
  rw [per_iff]
  constructor
  · rintro ⟨-, h⟩ i h1 h2
    rw [h i h2, h (i - m) (by omega)]
    congr 1
    conv => lhs; rw [show i = i - m + m by omega, Nat.add_mod_right]
  · intro h
    refine ⟨h0, fun i => ?_⟩
    induction i using Nat.strongRecOn with
    | _ i ih =>
      intro hi
      rcases Nat.lt_or_ge i m with h1 | h1
      · rw [Nat.mod_eq_of_lt h1]
      · rw [h i h1 hi, ih (i - m) (by omega) (by omega)]
        congr 1
        conv => rhs; rw [show i = i - m + m by omega, Nat.add_mod_right]

/-- The shortest stretch. -/
def rootF (q : List Nat) : Nat → Nat → Nat
  | 0, n => n
  | f + 1, n => if per q n then n else rootF q f (n + 1)
def rootM (q : List Nat) : Nat := rootF q (q.length - 1) 1
theorem rootF_spec (q : List Nat) : ∀ f n, 1 ≤ n → n + f = q.length → (∀ k, 1 ≤ k → k < n → per q k = false) → n ≤ rootF q f n ∧ rootF q f n ≤ q.length ∧ per q (rootF q f n) = true ∧ ∀ k, 1 ≤ k → k < rootF q f n → per q k = false
  | 0, n, h1, h2, h3 => by
    simp only [Nat.add_zero] at h2
    subst h2
    exact ⟨Nat.le_refl _, Nat.le_refl _, per_all q, h3⟩
  | f + 1, n, h1, h2, h3 => by
    unfold rootF
    split
    · rename_i h
      exact ⟨Nat.le_refl _, by omega, h, h3⟩
    · rename_i h
      have h4 := rootF_spec q f (n + 1) (by omega) (by omega) (fun k k1 k2 => by
        by_cases e : k = n
        · subst e; simpa using h
        · exact h3 k k1 (by omega))
      exact ⟨by omega, h4.2⟩
theorem rootM_spec {q : List Nat} (hq : 0 < q.length) : 1 ≤ rootM q ∧ rootM q ≤ q.length ∧ per q (rootM q) = true ∧ ∀ k, 1 ≤ k → k < rootM q → per q k = false :=
  rootF_spec q _ 1 (Nat.le_refl _) (by omega) (fun k h1 h2 => by omega)
theorem rootM_eq {q : List Nat} {m : Nat} (hq : 0 < q.length) (h1 : 1 ≤ m) (h2 : per q m = true) (h3 : ∀ k, 1 ≤ k → k < m → per q k = false) : m = rootM q := by
  obtain ⟨r1, r2, r3, r4⟩ := rootM_spec hq
  rcases Nat.lt_trichotomy m (rootM q) with h | h | h
  · have := r4 m h1 h; rw [h2] at this; cases this
  · exact h
  · have := h3 _ r1 h; rw [r3] at this; cases this

/-- A row goes on over its shortest stretch. -/
theorem rowAt_root {p q : List Nat} {n : Nat} (hq : 0 < q.length) (h : p.length ≤ n) : rowAt p q (n + rootM q) = rowAt p q n := by
  obtain ⟨r1, r2, r3, -⟩ := rootM_spec hq
  obtain ⟨m, hm⟩ : ∃ m, m = rootM q := ⟨_, rfl⟩
  rw [← hm] at r1 r2 r3 ⊢
  obtain ⟨c0, c1⟩ := per_iff.1 r3
  have e1 : ¬ n < p.length := by omega
  have e2 : ¬ n + m < p.length := by omega
  simp only [rowAt, e1, e2, if_false]
  rw [c1 _ (Nat.mod_lt _ hq), c1 ((n - p.length) % q.length) (Nat.mod_lt _ hq)]
  congr 1
  obtain ⟨t, ht⟩ := Nat.dvd_of_mod_eq_zero c0
  rw [ht, Nat.mod_mul_right_mod, Nat.mod_mul_right_mod, show n + m - p.length = n - p.length + m by omega, Nat.add_mod_right]
/-- How many stand ahead in the lowest form. -/
def lowN (p q : List Nat) (m : Nat) : Nat → Nat
  | 0 => 0
  | n + 1 => if rowAt p q n = rowAt p q (n + m) then lowN p q m n else n + 1
theorem lowN_le (p q : List Nat) (m : Nat) : ∀ n, lowN p q m n ≤ n
  | 0 => Nat.le_refl _
  | n + 1 => by
    unfold lowN
    split
    · exact Nat.le_succ_of_le (lowN_le p q m n)
    · exact Nat.le_refl _
/-- The lowest form. -/
def lowP (p q : List Nat) : List Nat := p.take (lowN p q (rootM q) p.length)
def lowQ (p q : List Nat) : List Nat := rowL p q (lowN p q (rootM q) p.length) (rootM q)
theorem take_rowL {p q : List Nat} {n : Nat} (h : n ≤ p.length) : p.take n = rowL p q 0 n := by
  refine List.ext_getElem? fun i => ?_
  rcases Nat.lt_or_ge i n with hi | hi
  · rw [List.getElem?_take_of_lt hi, rowL_get hi, Nat.zero_add, rowAt_pre (q := q) (by omega)]
  · rw [List.getElem?_eq_none (by rw [List.length_take]; omega), List.getElem?_eq_none (by rw [rowL_len]; exact hi)]
theorem root_rowL {p q : List Nat} (hq : 0 < q.length) : q.take (rootM q) = rowL p q p.length (rootM q) := by
  obtain ⟨r1, r2, -⟩ := rootM_spec hq
  refine List.ext_getElem? fun i => ?_
  rcases Nat.lt_or_ge i (rootM q) with hi | hi
  · rw [List.getElem?_take_of_lt hi, rowL_get hi, ← rowAt_per (p := p) (n := p.length + i) (by omega) hq, show p.length + i - p.length = i by omega, Nat.mod_eq_of_lt (by omega)]
  · rw [List.getElem?_eq_none (by rw [List.length_take]; omega), List.getElem?_eq_none (by rw [rowL_len]; exact hi)]
end Go.Proofs.YtbddlbhanpjdnaaDoor
