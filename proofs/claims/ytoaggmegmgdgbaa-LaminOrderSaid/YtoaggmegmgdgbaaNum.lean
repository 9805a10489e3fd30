/- Plain arithmetic of digits to the base 2^32: the value of a list, its canonical digits. No program in sight. -/
namespace Go.Proofs.Ytoaggmegmgdgbaa

/-- The value of digits, the lowest first, to the base 2^32. -/
def val : List Nat → Nat
  | [] => 0
  | x :: l => x + 4294967296 * val l

/-- Each digit is below 2^32. -/
def Sm (l : List Nat) : Prop := ∀ x, x ∈ l → x < 4294967296

def dgF : Nat → Nat → List Nat
  | 0, _ => []
  | f + 1, n => if n = 0 then [] else n % 4294967296 :: dgF f (n / 4294967296)

/-- The digits of a number, no nought at the end. -/
def dg (n : Nat) : List Nat := dgF n n

theorem dgF_more : ∀ (f n : Nat), n ≤ f → dgF f n = dg n := by
  intro f
  induction f using Nat.strongRecOn with
  | _ f ih =>
    intro n hn
    unfold dg
    cases f with
    | zero => have : n = 0 := by omega
              subst this; rfl
    | succ f =>
      cases n with
      | zero => simp [dgF]
      | succ n =>
        have h1 : (n + 1) / 4294967296 ≤ f := by omega
        have h2 : (n + 1) / 4294967296 ≤ n := by omega
        simp only [dgF]
        rw [ih f (by omega) _ h1]
        by_cases hnf : n < f + 1
        · rw [ih n hnf _ h2]
        · omega

theorem dg_zero : dg 0 = [] := rfl
theorem dg_pos {n : Nat} (h : 0 < n) : dg n = n % 4294967296 :: dg (n / 4294967296) := by
  cases n with
  | zero => omega
  | succ n =>
    show dgF (n + 1) (n + 1) = _
    simp only [dgF]
    rw [if_neg (by omega), dgF_more n _ (by omega)]

theorem val_dg (n : Nat) : val (dg n) = n := by
  induction n using Nat.strongRecOn with
  | _ n ih =>
    by_cases h : 0 < n
    · rw [dg_pos h]
      simp only [val]
      rw [ih _ (by omega)]
      omega
    · have : n = 0 := by omega
      subst this; rfl

theorem sm_dg (n : Nat) : Sm (dg n) := by
  induction n using Nat.strongRecOn with
  | _ n ih =>
    by_cases h : 0 < n
    · rw [dg_pos h]
      intro x hx
      rcases List.mem_cons.1 hx with rfl | hx
      · omega
      · exact ih _ (by omega) x hx
    · have : n = 0 := by omega
      subst this
      intro x hx
      cases hx

theorem sm_nil : Sm [] := fun x hx => by cases hx
theorem sm_cons {x : Nat} {l : List Nat} (hx : x < 4294967296) (h : Sm l) : Sm (x :: l) := by
  intro y hy
  rcases List.mem_cons.1 hy with rfl | hy
  · exact hx
  · exact h y hy
theorem Sm.head {x : Nat} {l : List Nat} (h : Sm (x :: l)) : x < 4294967296 := h x (List.mem_cons_self)
theorem Sm.tail {x : Nat} {l : List Nat} (h : Sm (x :: l)) : Sm l := fun y hy => h y (List.mem_cons_of_mem _ hy)
theorem Sm.take {l : List Nat} (h : Sm l) (n : Nat) : Sm (l.take n) := fun y hy => h y (List.mem_of_mem_take hy)
theorem Sm.drop {l : List Nat} (h : Sm l) (n : Nat) : Sm (l.drop n) := fun y hy => h y (List.mem_of_mem_drop hy)
theorem Sm.app {l m : List Nat} (h : Sm l) (k : Sm m) : Sm (l ++ m) := fun y hy => (List.mem_append.1 hy).elim (h y) (k y)
theorem Sm.get {l : List Nat} (h : Sm l) {j x : Nat} (hj : l[j]? = some x) : x < 4294967296 := h x (List.mem_of_getElem? hj)
theorem Sm.set_ {l : List Nat} (h : Sm l) {j x : Nat} (hx : x < 4294967296) : Sm (l.set j x) := by
  intro y hy
  rcases List.mem_or_eq_of_mem_set hy with h1 | h1
  · exact h y h1
  · rw [h1]; exact hx
theorem sm_replicate (n : Nat) : Sm (List.replicate n 0) := by
  intro y hy
  rw [List.eq_of_mem_replicate hy]
  omega

theorem val_append (l m : List Nat) : val (l ++ m) = val l + 4294967296 ^ l.length * val m := by
  induction l with
  | nil => simp [val]
  | cons x l ih =>
    simp only [List.cons_append, val, List.length_cons, Nat.pow_succ]
    rw [ih, Nat.mul_add, ← Nat.mul_assoc, Nat.mul_comm (4294967296 ^ l.length) 4294967296]
    omega

theorem val_lt {l : List Nat} (h : Sm l) : val l < 4294967296 ^ l.length := by
  induction l with
  | nil => simp [val]
  | cons x l ih =>
    have h1 := ih h.tail
    have h2 := h.head
    simp only [val, List.length_cons, Nat.pow_succ]
    omega

theorem val_replicate (n : Nat) : val (List.replicate n 0) = 0 := by
  induction n with
  | zero => rfl
  | succ n ih => simp only [List.replicate_succ, val, ih]

/-- Digits without a nought at the end are the number's own. -/
theorem dg_of_last {l : List Nat} (h : Sm l) (hl : ∀ x, l.getLast? = some x → 0 < x) : dg (val l) = l := by
  induction l with
  | nil => rfl
  | cons x l ih =>
    have h1 := h.head
    have hv : 0 < val (x :: l) := by
      cases l with
      | nil => have := hl x rfl; simp only [val]; omega
      | cons y m =>
        have hm := ih h.tail (fun z hz => hl z (by rw [List.getLast?_cons_cons]; exact hz))
        by_cases h0 : val (y :: m) = 0
        · rw [h0] at hm; cases hm
        · simp only [val] at h0 ⊢; omega
    rw [dg_pos hv]
    have e1 : val (x :: l) % 4294967296 = x := by simp only [val]; omega
    have e2 : val (x :: l) / 4294967296 = val l := by simp only [val]; omega
    rw [e1, e2]
    congr 1
    cases l with
    | nil => rfl
    | cons y m => exact ih h.tail (fun z hz => hl z (by rw [List.getLast?_cons_cons]; exact hz))

/-- The last digit is not 0. -/
theorem dg_last (n : Nat) : ∀ x, (dg n).getLast? = some x → 0 < x := by
  induction n using Nat.strongRecOn with
  | _ n ih =>
    intro x hx
    by_cases h : 0 < n
    · rw [dg_pos h] at hx
      by_cases h2 : 0 < n / 4294967296
      · have hh : dg (n / 4294967296) ≠ [] := by rw [dg_pos h2]; simp
        cases hd : dg (n / 4294967296) with
        | nil => exact absurd hd hh
        | cons y m =>
          rw [hd, List.getLast?_cons_cons, ← hd] at hx
          exact ih _ (by omega) x hx
      · have e : n / 4294967296 = 0 := by omega
        rw [e, dg_zero] at hx
        simp at hx
        omega
    · have : n = 0 := by omega
      subst this
      simp [dg_zero] at hx

theorem dg_nil_iff (n : Nat) : dg n = [] ↔ n = 0 := by
  constructor
  · intro h
    have := val_dg n
    rw [h] at this
    simpa [val] using this.symm
  · rintro rfl; rfl
theorem dg_len_pos {n : Nat} (h : 0 < n) : 0 < (dg n).length := by rw [dg_pos h]; simp
theorem dg_len_zero (n : Nat) : (dg n).length = 0 ↔ n = 0 := by rw [List.length_eq_zero_iff, dg_nil_iff]

theorem dg_lt (n : Nat) : n < 4294967296 ^ (dg n).length := by
  have := val_lt (sm_dg n)
  rwa [val_dg] at this

/-- A number with k digits is at least 2^(32 (k - 1)). -/
theorem dg_ge {n : Nat} (h : 0 < n) : 4294967296 ^ ((dg n).length - 1) ≤ n := by
  induction n using Nat.strongRecOn with
  | _ n ih =>
    rw [dg_pos h]
    simp only [List.length_cons, Nat.add_sub_cancel]
    by_cases h2 : 0 < n / 4294967296
    · have h3 := ih _ (by omega) h2
      have h4 := dg_len_pos h2
      have e : (dg (n / 4294967296)).length = (dg (n / 4294967296)).length - 1 + 1 := by omega
      rw [e, Nat.pow_succ]
      have : 4294967296 ^ ((dg (n / 4294967296)).length - 1) * 4294967296 ≤ n / 4294967296 * 4294967296 := Nat.mul_le_mul_right _ h3
      omega
    · have e : n / 4294967296 = 0 := by omega
      rw [e, dg_zero]
      simp
      exact h

theorem dg_len_le_of_lt {n k : Nat} (h : n < 4294967296 ^ k) : (dg n).length ≤ k := by
  by_cases h0 : 0 < n
  · have h1 := dg_ge h0
    rcases Nat.lt_or_ge k (dg n).length with h2 | h2
    · have h3 : 4294967296 ^ k ≤ 4294967296 ^ ((dg n).length - 1) := Nat.pow_le_pow_right (by omega) (by omega)
      omega
    · exact h2
  · have : n = 0 := by omega
    subst this
    simp [dg_zero]

theorem dg_len_mono {a b : Nat} (h : a ≤ b) : (dg a).length ≤ (dg b).length :=
  dg_len_le_of_lt (Nat.lt_of_le_of_lt h (dg_lt b))

theorem val_set {l : List Nat} {j y : Nat} (x : Nat) (hj : l[j]? = some y) : val (l.set j x) + 4294967296 ^ j * y = val l + 4294967296 ^ j * x := by
  induction l generalizing j with
  | nil => simp at hj
  | cons z l ih =>
    cases j with
    | zero => simp at hj; subst hj; simp [val]; omega
    | succ j =>
      simp at hj
      have := ih hj
      simp only [List.set_cons_succ, val, Nat.pow_succ]
      have e : ∀ t, 4294967296 ^ j * 4294967296 * t = 4294967296 * (4294967296 ^ j * t) := fun t => by
        rw [Nat.mul_comm (4294967296 ^ j) 4294967296, Nat.mul_assoc]
      rw [e, e]
      omega

theorem val_take_succ {l : List Nat} {j x : Nat} (hj : l[j]? = some x) : val (l.take (j + 1)) = val (l.take j) + 4294967296 ^ j * x := by
  have hlt : j < l.length := by
    rcases Nat.lt_or_ge j l.length with h | h
    · exact h
    · rw [List.getElem?_eq_none h] at hj; cases hj
  have hx : l[j] = x := by rw [List.getElem?_eq_getElem hlt] at hj; exact Option.some.inj hj
  rw [List.take_succ_eq_append_getElem hlt, val_append, hx]
  simp only [List.length_take, val, Nat.mul_zero, Nat.add_zero]
  rw [Nat.min_eq_left (by omega)]

theorem val_take_drop (l : List Nat) (k : Nat) : val l = val (l.take k) + 4294967296 ^ (min k l.length) * val (l.drop k) := by
  have := val_append (l.take k) (l.drop k)
  rw [List.take_append_drop, List.length_take] at this
  exact this

theorem val_drop {l : List Nat} (h : Sm l) (k : Nat) : val (l.drop k) = val l / 4294967296 ^ k := by
  induction l generalizing k with
  | nil => simp [val]
  | cons x l ih =>
    cases k with
    | zero => simp
    | succ k =>
      have h1 := h.head
      simp only [List.drop_succ_cons, ih h.tail, val, Nat.pow_succ]
      rw [Nat.mul_comm (4294967296 ^ k) 4294967296, ← Nat.div_div_eq_div_mul]
      congr 1
      omega

theorem val_drop_cons {l : List Nat} {j x : Nat} (hj : l[j]? = some x) : val (l.drop j) = x + 4294967296 * val (l.drop (j + 1)) := by
  have hlt : j < l.length := by
    rcases Nat.lt_or_ge j l.length with h | h
    · exact h
    · rw [List.getElem?_eq_none h] at hj; cases hj
  have hx : l[j] = x := by rw [List.getElem?_eq_getElem hlt] at hj; exact Option.some.inj hj
  rw [List.drop_eq_getElem_cons hlt, hx]
  rfl

/-- -1, 0, 1: the order of two numbers. -/
def cmpI (a b : Nat) : Int := if a < b then -1 else if b < a then 1 else 0

/-- Rows of one length whose digits from place k on are the same, and whose digits ahead differ at k - 1. -/
theorem val_lt_of_digit {l m : List Nat} (hl : Sm l) {k x y : Nat} (hk : l.drop (k + 1) = m.drop (k + 1)) (hx : l[k]? = some x) (hy : m[k]? = some y) (h : x < y) : val l < val m := by
  have lt : ∀ {l : List Nat} {x : Nat}, l[k]? = some x → k < l.length := fun {l x} h => by
    rcases Nat.lt_or_ge k l.length with h' | h'
    · exact h'
    · rw [List.getElem?_eq_none h'] at h; cases h
  have e1 := val_take_drop l (k + 1)
  have e2 := val_take_drop m (k + 1)
  rw [val_take_succ hx, Nat.min_eq_left (lt hx)] at e1
  rw [val_take_succ hy, Nat.min_eq_left (lt hy), ← hk] at e2
  have b1 := val_lt (hl.take k)
  rw [List.length_take, Nat.min_eq_left (Nat.le_of_lt (lt hx))] at b1
  have h2 : 4294967296 ^ k * (x + 1) ≤ 4294967296 ^ k * y := Nat.mul_le_mul_left _ h
  rw [Nat.mul_add, Nat.mul_one] at h2
  omega

theorem lt_of_getElem? {l : List Nat} {j x : Nat} (h : l[j]? = some x) : j < l.length := by
  rcases Nat.lt_or_ge j l.length with h' | h'
  · exact h'
  · rw [List.getElem?_eq_none h'] at h; cases h

theorem lt_of_len {a b : Nat} (h : (dg a).length < (dg b).length) : a < b := by
  rcases Nat.lt_or_ge a b with h' | h'
  · exact h'
  · have := dg_len_mono h'
    omega

theorem getElem?_dg {n j x : Nat} (h : (dg n)[j]? = some x) : x < 4294967296 := (sm_dg n).get h
end Go.Proofs.Ytoaggmegmgdgbaa
