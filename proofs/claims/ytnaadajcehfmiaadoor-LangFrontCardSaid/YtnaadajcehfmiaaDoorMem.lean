/- Plain arithmetic of digits to the base 2^32: the value of a list, its canonical digits. No program in sight. · Words for memory: a block that is an array of numbers; a slice that reads as a list of numbers. -/
import Derived.WalkKit
import Derived.WalkSpells
import Derived.BigQuiet
import Derived.Deep.QuietTactic
import Derived.Lib.Hide
import Derived.Laws.CopyOwn
namespace Go.Proofs.YtnaadajcehfmiaaDoor

/-- The value of digits, the lowest first, to the base 2^32. -/
def val : List Nat → Nat
  | [] => 0
  | x :: l => x + 4294967296 * val l

/-- Each digit is below 2^32. -/
def Sm (l : List Nat) : Prop := ∀ x, x ∈ l → x < 4294967296

def dgF : Nat → Nat → List Nat
  | 0, _ => []
  | f + 1, n => if n = 0 then [] else n % 4294967296 :: dgF f (n / 4294967296)

/-- The digits of a number, no nought at the end. -/
def dg (n : Nat) : List Nat := dgF n n

theorem dgF_more : ∀ (f n : Nat), n ≤ f → dgF f n = dg n := by
  intro f
  induction f using Nat.strongRecOn with
  | _ f ih =>
    intro n hn
    unfold dg
    cases f with
    | zero => have : n = 0 := by omega
              subst this; rfl
    | succ f =>
      cases n with
      | zero => simp [dgF]
      | succ n =>
        have h1 : (n + 1) / 4294967296 ≤ f := by omega
        have h2 : (n + 1) / 4294967296 ≤ n := by omega
        simp only [dgF]
        rw [ih f (by omega) _ h1]
        by_cases hnf : n < f + 1
        · rw [ih n hnf _ h2]
        · omega

theorem dg_zero : dg 0 = [] := rfl
theorem dg_pos {n : Nat} (h : 0 < n) : dg n = n % 4294967296 :: dg (n / 4294967296) := by
  cases n with
  | zero => omega
  | succ n =>
    show dgF (n + 1) (n + 1) = _
    simp only [dgF]
    rw [if_neg (by omega), dgF_more n _ (by omega)]

theorem val_dg (n : Nat) : val (dg n) = n := by
  induction n using Nat.strongRecOn with
  | _ n ih =>
    by_cases h : 0 < n
    · rw [dg_pos h]
      simp only [val]
      rw [ih _ (by omega)]
      omega
    · have : n = 0 := by omega
      subst this; rfl

theorem sm_dg (n : Nat) : Sm (dg n) := by
  induction n using Nat.strongRecOn with
  | _ n ih =>
    by_cases h : 0 < n
    · rw [dg_pos h]
      intro x hx
      rcases List.mem_cons.1 hx with rfl | hx
      · omega
      · exact ih _ (by omega) x hx
    · have : n = 0 := by omega
      subst this
      intro x hx
      cases hx

theorem sm_nil : Sm [] := fun x hx => by cases hx
theorem sm_cons {x : Nat} {l : List Nat} (hx : x < 4294967296) (h : Sm l) : Sm (x :: l) := by
  intro y hy
  rcases List.mem_cons.1 hy with rfl | hy
  · exact hx
  · exact h y hy
theorem Sm.head {x : Nat} {l : List Nat} (h : Sm (x :: l)) : x < 4294967296 := h x (List.mem_cons_self)
theorem Sm.tail {x : Nat} {l : List Nat} (h : Sm (x :: l)) : Sm l := fun y hy => h y (List.mem_cons_of_mem _ hy)
theorem Sm.take {l : List Nat} (h : Sm l) (n : Nat) : Sm (l.take n) := fun y hy => h y (List.mem_of_mem_take hy)
theorem Sm.drop {l : List Nat} (h : Sm l) (n : Nat) : Sm (l.drop n) := fun y hy => h y (List.mem_of_mem_drop hy)
theorem Sm.app {l m : List Nat} (h : Sm l) (k : Sm m) : Sm (l ++ m) := fun y hy => (List.mem_append.1 hy).elim (h y) (k y)
theorem Sm.get {l : List Nat} (h : Sm l) {j x : Nat} (hj : l[j]? = some x) : x < 4294967296 := h x (List.mem_of_getElem? hj)
theorem Sm.set_ {l : List Nat} (h : Sm l) {j x : Nat} (hx : x < 4294967296) : Sm (l.set j x) := by
  intro y hy
  rcases List.mem_or_eq_of_mem_set hy with h1 | h1
  · exact h y h1
  · rw [h1]; exact hx
theorem sm_replicate (n : Nat) : Sm (List.replicate n 0) := by
  intro y hy
  rw [List.eq_of_mem_replicate hy]
  omega

theorem val_append (l m : List Nat) : val (l ++ m) = val l + 4294967296 ^ l.length * val m := by
  induction l with
  | nil => simp [val]
  | cons x l ih =>
    simp only [List.cons_append, val, List.length_cons, Nat.pow_succ]
    rw [ih, Nat.mul_add, ← Nat.mul_assoc, Nat.mul_comm (4294967296 ^ l.length) 4294967296]
    omega

theorem val_lt {l : List Nat} (h : Sm l) : val l < 4294967296 ^ l.length := by
  induction l with
  | nil => simp [val]
  | cons x l ih =>
    have h1 := ih h.tail
    have h2 := h.head
    simp only [val, List.length_cons, Nat.pow_succ]
    omega

theorem val_replicate (n : Nat) : val (List.replicate n 0) = 0 := by
  induction n with
  | zero => rfl
  | succ n ih => simp only [List.replicate_succ, val, ih]

/-- Digits without a nought at the end are the number's own. -/
theorem dg_of_last {l : List Nat} (h : Sm l) (hl : ∀ x, l.getLast? = some x → 0 < x) : dg (val l) = l := by
  induction l with
  | nil => rfl
  | cons x l ih =>
    have h1 := h.head
    have hv : 0 < val (x :: l) := by
      cases l with
      | nil => have := hl x rfl; simp only [val]; omega
      | cons y m =>
        have hm := ih h.tail (fun z hz => hl z (by rw [List.getLast?_cons_cons]; exact hz))
        by_cases h0 : val (y :: m) = 0
        · rw [h0] at hm; cases hm
        · simp only [val] at h0 ⊢; omega
    rw [dg_pos hv]
    have e1 : val (x :: l) % 4294967296 = x := by simp only [val]; omega
    have e2 : val (x :: l) / 4294967296 = val l := by simp only [val]; omega
    rw [e1, e2]
    congr 1
    cases l with
    | nil => rfl
    | cons y m => exact ih h.tail (fun z hz => hl z (by rw [List.getLast?_cons_cons]; exact hz))

/-- The last digit is not 0. -/
theorem dg_last (n : Nat) : ∀ x, (dg n).getLast? = some x → 0 < x := by
  induction n using Nat.strongRecOn with
  | _ n ih =>
    intro x hx
    by_cases h : 0 < n
    · rw [dg_pos h] at hx
      by_cases h2 : 0 < n / 4294967296
      · have hh : dg (n / 4294967296) ≠ [] := by rw [dg_pos h2]; simp
        cases hd : dg (n / 4294967296) with
        | nil => exact absurd hd hh
        | cons y m =>
          rw [hd, List.getLast?_cons_cons, ← hd] at hx
          exact ih _ (by omega) x hx
      · have e : n / 4294967296 = 0 := by omega
        rw [e, dg_zero] at hx
        simp at hx
        omega
    · have : n = 0 := by omega
      subst this
      simp [dg_zero] at hx

theorem dg_nil_iff (n : Nat) : dg n = [] ↔ n = 0 := by
  constructor
  · intro h
    have := val_dg n
    rw [h] at this
    simpa [val] using this.symm
  · rintro rfl; rfl
theorem dg_len_pos {n : Nat} (h : 0 < n) : 0 < (dg n).length := by rw [dg_pos h]; simp
theorem dg_len_zero (n : Nat) : (dg n).length = 0 ↔ n = 0 := by rw [List.length_eq_zero_iff, dg_nil_iff]

theorem dg_lt (n : Nat) : n < 4294967296 ^ (dg n).length := by
  have := val_lt (sm_dg n)
  rwa [val_dg] at this

/-- A number with k digits is at least 2^(32 (k - 1)). -/
theorem dg_ge {n : Nat} (h : 0 < n) : 4294967296 ^ ((dg n).length - 1) ≤ n := by
  induction n using Nat.strongRecOn with
  | _ n ih =>
    rw [dg_pos h]
    simp only [List.length_cons, Nat.add_sub_cancel]
    by_cases h2 : 0 < n / 4294967296
    · have h3 := ih _ (by omega) h2
      have h4 := dg_len_pos h2
      have e : (dg (n / 4294967296)).length = (dg (n / 4294967296)).length - 1 + 1 := by omega
      rw [e, Nat.pow_succ]
      have : 4294967296 ^ ((dg (n / 4294967296)).length - 1) * 4294967296 ≤ n / 4294967296 * 4294967296 := Nat.mul_le_mul_right _ h3
      omega
    · have e : n / 4294967296 = 0 := by omega
      rw [e, dg_zero]
      simp
      exact h

theorem dg_len_le_of_lt {n k : Nat} (h : n < 4294967296 ^ k) : (dg n).length ≤ k := by
  by_cases h0 : 0 < n
  · have h1 := dg_ge h0
    rcases Nat.lt_or_ge k (dg n).length with h2 | h2
    · have h3 : 4294967296 ^ k ≤ 4294967296 ^ ((dg n).length - 1) := Nat.pow_le_pow_right (by omega) (by omega)
      omega
    · exact h2
  · have : n = 0 := by omega
    subst this
    simp [dg_zero]

theorem dg_len_mono {a b : Nat} (h : a ≤ b) : (dg a).length ≤ (dg b).length :=
  dg_len_le_of_lt (Nat.lt_of_le_of_lt h (dg_lt b))

theorem val_set {l : List Nat} {j y : Nat} (x : Nat) (hj : l[j]? = some y) : val (l.set j x) + 4294967296 ^ j * y = val l + 4294967296 ^ j * x := by
  induction l generalizing j with
  | nil => simp at hj
  | cons z l ih =>
    cases j with
    | zero => simp at hj; subst hj; simp [val]; omega
    | succ j =>
      simp at hj
      have := ih hj
      simp only [List.set_cons_succ, val, Nat.pow_succ]
      have e : ∀ t, 4294967296 ^ j * 4294967296 * t = 4294967296 * (4294967296 ^ j * t) := fun t => by
        rw [Nat.mul_comm (4294967296 ^ j) 4294967296, Nat.mul_assoc]
      rw [e, e]
      omega

theorem val_take_succ {l : List Nat} {j x : Nat} (hj : l[j]? = some x) : val (l.take (j + 1)) = val (l.take j) + 4294967296 ^ j * x := by
  have hlt : j < l.length := by
    rcases Nat.lt_or_ge j l.length with h | h
    · exact h
    · rw [List.getElem?_eq_none h] at hj; cases hj
  have hx : l[j] = x := by rw [List.getElem?_eq_getElem hlt] at hj; exact Option.some.inj hj
  rw [List.take_succ_eq_append_getElem hlt, val_append, hx]
  simp only [List.length_take, val, Nat.mul_zero, Nat.add_zero]
  rw [Nat.min_eq_left (by omega)]

theorem val_take_drop (l : List Nat) (k : Nat) : val l = val (l.take k) + 4294967296 ^ (min k l.length) * val (l.drop k) := by
  have := val_append (l.take k) (l.drop k)
  rw [List.take_append_drop, List.length_take] at this
  exact this

theorem val_drop {l : List Nat} (h : Sm l) (k : Nat) : val (l.drop k) = val l / 4294967296 ^ k := by
  induction l generalizing k with
  | nil => simp [val]
  | cons x l ih =>
    cases k with
    | zero => simp
    | succ k =>
      have h1 := h.head
      simp only [List.drop_succ_cons, ih h.tail, val, Nat.pow_succ]
      rw [Nat.mul_comm (4294967296 ^ k) 4294967296, ← Nat.div_div_eq_div_mul]
      congr 1
      omega

theorem val_drop_cons {l : List Nat} {j x : Nat} (hj : l[j]? = some x) : val (l.drop j) = x + 4294967296 * val (l.drop (j + 1)) := by
  have hlt : j < l.length := by
    rcases Nat.lt_or_ge j l.length with h | h
    · exact h
    · rw [List.getElem?_eq_none h] at hj; cases hj
  have hx : l[j] = x := by rw [List.getElem?_eq_getElem hlt] at hj; exact Option.some.inj hj
  rw [List.drop_eq_getElem_cons hlt, hx]
  rfl

/-- -1, 0, 1: the order of two numbers. -/
def cmpI (a b : Nat) : Int := if a < b then -1 else if b < a then 1 else 0

/-- Rows of one length whose digits from place k on are the same, and whose digits ahead differ at k - 1. -/
theorem val_lt_of_digit {l m : List Nat} (hl : Sm l) {k x y : Nat} (hk : l.drop (k + 1) = m.drop (k + 1)) (hx : l[k]? = some x) (hy : m[k]? = some y) (h : x < y) : val l < val m := by
  have lt : ∀ {l : List Nat} {x : Nat}, l[k]? = some x → k < l.length := fun {l x} h => by
    rcases Nat.lt_or_ge k l.length with h' | h'
    · exact h'
    · rw [List.getElem?_eq_none h'] at h; cases h
  have e1 := val_take_drop l (k + 1)
  have e2 := val_take_drop m (k + 1)
  rw [val_take_succ hx, Nat.min_eq_left (lt hx)] at e1
  rw [val_take_succ hy, Nat.min_eq_left (lt hy), ← hk] at e2
  have b1 := val_lt (hl.take k)
  rw [List.length_take, Nat.min_eq_left (Nat.le_of_lt (lt hx))] at b1
  have h2 : 4294967296 ^ k * (x + 1) ≤ 4294967296 ^ k * y := Nat.mul_le_mul_left _ h
  rw [Nat.mul_add, Nat.mul_one] at h2
  omega

theorem lt_of_getElem? {l : List Nat} {j x : Nat} (h : l[j]? = some x) : j < l.length := by
  rcases Nat.lt_or_ge j l.length with h' | h'
  · exact h'
  · rw [List.getElem?_eq_none h'] at h; cases h

theorem lt_of_len {a b : Nat} (h : (dg a).length < (dg b).length) : a < b := by
  rcases Nat.lt_or_ge a b with h' | h'
  · exact h'
  · have := dg_len_mono h'
    omega

theorem getElem?_dg {n j x : Nat} (h : (dg n)[j]? = some x) : x < 4294967296 := (sm_dg n).get h
end Go.Proofs.YtnaadajcehfmiaaDoor

namespace Go.Proofs.YtnaadajcehfmiaaDoor
open Go.RowKit

/-- A row of numbers, as values of kind k. -/
def ivs (k : IntKind) (L : List Nat) : List Value := L.map fun (x : Nat) => Value.int k (x : Int)
theorem ivs_len (k : IntKind) (L : List Nat) : (ivs k L).length = L.length := by simp [ivs]
theorem ivs_get {k : IntKind} {L : List Nat} {j x : Nat} (h : L[j]? = some x) : (ivs k L)[j]? = some (.int k (x : Int)) := by simp [ivs, h]
theorem ivs_set (k : IntKind) (L : List Nat) (j x : Nat) : (ivs k L).set j (.int k (x : Int)) = ivs k (L.set j x) := by simp [ivs, List.map_set]
theorem ivs_append (k : IntKind) (L M : List Nat) : ivs k (L ++ M) = ivs k L ++ ivs k M := by simp [ivs]

/-- Block g is just the numbers L, of kind k, its elements' type T; none of it is frozen. -/
def Arr (w : World) (g : Nat) (k : IntKind) (T : TypeId) (L : List Nat) : Prop := w.heap[g]? = some (.cells (ivs k L).toArray T (0, 0))

section
variable {w w' : World} {g : Nat} {k : IntKind} {T : TypeId} {L : List Nat}
theorem Arr.lt (h : Arr w g k T L) : g < w.heap.size := by
  rcases Nat.lt_or_ge g w.heap.size with hlt | hge
  · exact hlt
  · unfold Arr at h; rw [Array.getElem?_eq_none hge] at h; cases h
theorem Arr.cell (h : Arr w g k T L) {j x : Nat} (hj : L[j]? = some x) : w.cell? ⟨g, j, none⟩ = some (.int k (x : Int)) := by
  rw [cell_of_row w g j _ T (0, 0) h]
  simpa using ivs_get hj
theorem Arr.frozen (h : Arr w g k T L) (j : Nat) : w.frozen? ⟨g, j, none⟩ = false := by
  unfold Arr at h
  simp [World.frozen?, h]
theorem Arr.drewN (h : Arr w g k T L) (n : Nat) : Arr (w.drewN n) g k T L := h
theorem Arr.drew (h : Arr w g k T L) : Arr w.drew g k T L := h
theorem Arr.alloc (h : Arr w g k T L) (o : Obj) : Arr (w.alloc o) g k T L := (Below.heap_alloc w o g h.lt).trans h
theorem Arr.set_ (h : Arr w g k T L) (j x : Nat) : Arr (w.setCell ⟨g, j, none⟩ (.int k (x : Int))) g k T (L.set j x) := by
  unfold Arr at h ⊢
  have e : (ivs k L).toArray.setIfInBounds j (.int k (x : Int)) = (ivs k (L.set j x)).toArray := by rw [← ivs_set]; simp
  simp [World.setCell, Array.getElem?_modify, h, ← e]
theorem Arr.far (h : Arr w g k T L) {p : Addr} (hp : g ≠ p.block) (u : Value) : Arr (w.setCell p u) g k T L := (Below.heap_setCell w p u g hp).trans h
theorem Arr.below {B : Nat} (h : Arr w g k T L) (hb : Below B w w') (hg : g < B) : Arr w' g k T L := (hb.block g hg).trans h
theorem Arr.grown {row : Option Nat} (h : Arr w g k T L) (hb : w.grownBy w' row) (hg : some g ≠ row) : Arr w' g k T L := (hb.block g h.lt hg).trans h
theorem Arr.ne_ {g' : Nat} {T' : TypeId} {cs' : Array Value} (h : Arr w g k T L) (h' : w.heap[g']? = some (.cells cs' T' (0, 0))) (hne : T ≠ T') : g ≠ g' := by
  rintro rfl
  unfold Arr at h
  rw [h] at h'
  injection h' with h'
  injection h' with _ ht
  exact hne ht
theorem Arr.same {L' : List Nat} (h : Arr w g k T L) (h' : Arr w g k T L') : L = L' := by
  unfold Arr at h h'
  rw [h] at h'
  injection h' with h'
  injection h' with h' _
  have e : ivs k L = ivs k L' := by simpa using h'
  have hm := congrArg (List.map fun (v : Value) => match v with | .int _ n => n.toNat | _ => 0) e
  simpa [ivs, Function.comp_def] using hm
end

/-- Block g holds the numbers L, of kind k, where L tells one; its elements' type is T; it may be frozen, and hold more. -/
def Row (w : World) (g : Nat) (k : IntKind) (T : TypeId) (L : Nat → Option Nat) : Prop := ∃ (cs : Array Value) (fr : Nat × Nat), w.heap[g]? = some (.cells cs T fr) ∧ ∀ (j x : Nat), L j = some x → cs[j]? = some (Value.int k (x : Int))

section
variable {w w' : World} {g : Nat} {k : IntKind} {T : TypeId} {L : Nat → Option Nat}
theorem Arr.row {L : List Nat} (h : Arr w g k T L) : Row w g k T (fun j => L[j]?) := ⟨_, _, h, fun j x hj => by simpa using ivs_get hj⟩
theorem Row.lt (h : Row w g k T L) : g < w.heap.size := by
  obtain ⟨cs, fr, h, _⟩ := h
  rcases Nat.lt_or_ge g w.heap.size with hlt | hge
  · exact hlt
  · rw [Array.getElem?_eq_none hge] at h; cases h
theorem Row.cell (h : Row w g k T L) {j x : Nat} (hj : L j = some x) : w.cell? ⟨g, j, none⟩ = some (.int k (x : Int)) := by
  obtain ⟨cs, fr, h, hc⟩ := h
  rw [cell_of_row w g j cs T fr h]
  exact hc j x hj
theorem Row.of_block (h : Row w g k T L) (hb : w'.heap[g]? = w.heap[g]?) : Row w' g k T L := by
  obtain ⟨cs, fr, h, hc⟩ := h
  exact ⟨cs, fr, hb.trans h, hc⟩
theorem Row.alloc (h : Row w g k T L) (o : Obj) : Row (w.alloc o) g k T L := h.of_block (Below.heap_alloc w o g h.lt)
theorem Row.far (h : Row w g k T L) {p : Addr} (hp : g ≠ p.block) (u : Value) : Row (w.setCell p u) g k T L := h.of_block (Below.heap_setCell w p u g hp)
theorem Row.below {B : Nat} (h : Row w g k T L) (hb : Below B w w') (hg : g < B) : Row w' g k T L := h.of_block (hb.block g hg)
theorem Row.grown {row : Option Nat} (h : Row w g k T L) (hb : w.grownBy w' row) (hg : some g ≠ row) : Row w' g k T L := h.of_block (hb.block g h.lt hg)
theorem Row.ne_ {g' : Nat} {T' : TypeId} {cs' : Array Value} {fr' : Nat × Nat} (h : Row w g k T L) (h' : w.heap[g']? = some (.cells cs' T' fr')) (hne : T ≠ T') : g ≠ g' := by
  rintro rfl
  obtain ⟨cs, fr, h, _⟩ := h
  rw [h] at h'
  injection h' with h'
  injection h' with _ ht
  exact hne ht
end

/-- What 'make([]T, n)' lays. -/
theorem made_zeros (k : IntKind) (n : Nat) : madeCells #[Value.int k 0] n = (ivs k (List.replicate n 0)).toArray := by
  apply Array.ext'
  rw [toList_madeCells_one]
  simp [ivs]

/-- The slice v reads as the numbers l. -/
def Rd (k : IntKind) (T : TypeId) (w : World) (v : Value) (l : List Nat) : Prop :=
  ∃ (A : Option Addr) (c : Nat), v = .slice A l.length c ∧ l.length ≤ c ∧ c ≤ maxLen ∧
    (l ≠ [] → ∃ (g off : Nat) (L : Nat → Option Nat), A = some ⟨g, off, none⟩ ∧ Row w g k T L ∧ ∀ j x, l[j]? = some x → L (off + j) = some x)

section
variable {k : IntKind} {T : TypeId} {w w' : World} {v : Value} {l : List Nat}
theorem Rd.nil_ : Rd k T w (.slice none 0 0) [] := ⟨none, 0, rfl, Nat.le_refl _, Nat.zero_le _, fun h => absurd rfl h⟩
theorem Rd.keep (h : Rd k T w v l) (hk : ∀ g L, Row w g k T L → Row w' g k T L) : Rd k T w' v l := by
  obtain ⟨A, c, e, h1, h2, h3⟩ := h
  refine ⟨A, c, e, h1, h2, fun hn => ?_⟩
  obtain ⟨g, off, L, e1, e2, e3⟩ := h3 hn
  exact ⟨g, off, L, e1, hk g L e2, e3⟩
theorem Rd.drewN (h : Rd k T w v l) (n : Nat) : Rd k T (w.drewN n) v l := h
theorem Rd.drew (h : Rd k T w v l) : Rd k T w.drew v l := h
theorem Rd.alloc (h : Rd k T w v l) (o : Obj) : Rd k T (w.alloc o) v l := h.keep fun _ _ a => a.alloc o
theorem Rd.below (h : Rd k T w v l) (hb : Below w.heap.size w w') : Rd k T w' v l := h.keep fun _ _ a => a.below hb a.lt
theorem Rd.setFar (h : Rd k T w v l) {p : Addr} {cs : Array Value} {T' : TypeId} (hp : w.heap[p.block]? = some (.cells cs T' (0, 0))) (hne : T ≠ T') (u : Value) : Rd k T (w.setCell p u) v l :=
  h.keep fun _ _ a => a.far (a.ne_ hp hne) u
theorem Rd.grown {g : Nat} {cs : Array Value} {T' : TypeId} (h : Rd k T w v l) (hb : w.grownBy w' (some g)) (hp : w.heap[g]? = some (.cells cs T' (0, 0))) (hne : T ≠ T') : Rd k T w' v l :=
  h.keep fun _ _ a => a.grown hb (fun e => a.ne_ hp hne (by injection e))
/-- A whole array of the call's own. -/
theorem Rd.whole {g : Nat} (h : Arr w g k T l) (hm : l.length ≤ maxLen) : Rd k T w (.slice (some ⟨g, 0, none⟩) l.length l.length) l :=
  ⟨_, _, rfl, Nat.le_refl _, hm, fun _ => ⟨g, 0, _, rfl, h.row, fun j x hj => by simpa using hj⟩⟩
/-- Opened where there is something to read. -/
theorem Rd.open_ (h : Rd k T w v l) (hn : l ≠ []) : ∃ (g off c : Nat) (L : Nat → Option Nat), v = .slice (some ⟨g, off, none⟩) l.length c ∧ l.length ≤ c ∧ c ≤ maxLen ∧ Row w g k T L ∧ (∀ j x, l[j]? = some x → L (off + j) = some x) := by
  obtain ⟨A, c, e, h1, h2, h3⟩ := h
  obtain ⟨g, off, L, rfl, e2, e3⟩ := h3 hn
  exact ⟨g, off, c, L, e, h1, h2, e2, e3⟩
end

/-- 'copy(u, x)', u an array of the call's own, x not empty and not longer. -/
theorem copy_run {P : Program} {k : IntKind} {T dT ty : TypeId} {w : World} {g dLen dCap : Nat} {A : Option Addr} {c : Nat} {L l : List Nat}
    (hu : P.underlying dT = some (.slice T)) (hs : (P.info? T).map (·.size) = some 1) (hA : Arr w g k T L) (hR : Rd k T w (.slice A l.length c) l) (hn : l ≠ []) (hl : l.length ≤ dLen) (hL : l.length ≤ L.length) :
    ∃ w', (Builtin.copy_ #[dT, dT] ty #[.slice (some ⟨g, 0, none⟩) dLen dCap, .slice A l.length c]).run P w = .ok (.int .i64 (l.length : Int)) w' ∧ Arr w' g k T (l ++ L.drop l.length) ∧ w.grownBy w' (some g) := by
  obtain ⟨gs, off, c', Ls, e, -, -, hAs, hLs⟩ := hR.open_ hn
  injection e with e1 _ e2
  subst e1 e2
  have hlen : (ivs k l).length = l.length := ivs_len k l
  have hr := run_copy_row (P := P) w dT dT ty T g 0 dLen dCap ⟨gs, off, none⟩ l.length c (ivs k L).toArray T (ivs k l) hu hs hA (by rw [hlen]; exact (Nat.min_eq_left hl).symm)
    (fun j v hj => by
      have hjl : j < l.length := by
        rcases Nat.lt_or_ge j l.length with h | h
        · exact h
        · rw [List.getElem?_eq_none (by rw [hlen]; exact h)] at hj; cases hj
      have hx : l[j]? = some l[j] := List.getElem?_eq_getElem hjl
      rw [ivs_get hx] at hj
      cases hj
      have := hAs.cell (hLs j _ hx)
      unfold Addr.add
      split
      · rename_i h0; subst h0; simpa using this
      · exact this)
    (by simp [ivs]; exact hL) (fun v hv => by
      obtain ⟨x, _, rfl⟩ := List.mem_map.1 hv
      rfl)
  have e : ((ivs k L).toArray.toList.take 0 ++ ivs k l ++ (ivs k L).toArray.toList.drop (0 + (ivs k l).length)).toArray = (ivs k (l ++ L.drop l.length)).toArray := by
    simp [ivs, List.map_drop]
  rw [e, hlen] at hr
  refine ⟨w.setRow g (ivs k (l ++ L.drop l.length)).toArray, hr, ?_, ⟨rfl, rfl, rfl, by simp [World.setRow], fun j _ hj => setRow_other w g j _ (fun e => hj (by rw [e]))⟩⟩
  exact setRow_heap w g (ivs k L).toArray _ T _ hA

/-- A slice of digits (32 bits each) that reads as the number n, without noughts at the end. -/
def Dg (w : World) (v : Value) (n : Nat) : Prop := Rd .u32 110 w v (dg n)

section
variable {w w' : World} {v : Value} {n : Nat}
theorem Dg.drewN (h : Dg w v n) (m : Nat) : Dg (w.drewN m) v n := h
theorem Dg.alloc (h : Dg w v n) (o : Obj) : Dg (w.alloc o) v n := Rd.alloc h o
theorem Dg.below (h : Dg w v n) (hb : Below w.heap.size w w') : Dg w' v n := Rd.below h hb
theorem Dg.zero (w : World) : Dg w (.slice none 0 0) 0 := Rd.nil_
end

/-- The outcome: a slice that reads as the number n; of what was there nothing has turned. -/
def RetDg (n : Nat) (w : World) (e : Ending) (w' : World) : Prop := ∃ v, e = .returned v ∧ Dg w' v n ∧ Below w.heap.size w w'
/-- The same, and the world is as it was. -/
def RetDgS (n : Nat) (w : World) (e : Ending) (w' : World) : Prop := ∃ v, e = .returned v ∧ Dg w v n ∧ w = w'

/-- The world has but drawn. -/
def Dr (w w' : World) : Prop := ∃ n, w' = w.drewN n
theorem Dr.refl (w : World) : Dr w w := ⟨0, rfl⟩
theorem Dr.drewN {w w' : World} (h : Dr w w') (n : Nat) : Dr w (w'.drewN n) := by
  obtain ⟨m, rfl⟩ := h
  exact ⟨m + n, World.drewN_drewN _ _ _⟩
theorem Dr.trans {a b c : World} (h : Dr a b) (k : Dr b c) : Dr a c := by
  obtain ⟨m, rfl⟩ := k
  exact h.drewN m
theorem Dr.below {w w' : World} (h : Dr w w') (B : Nat) : Below B w w' := by
  obtain ⟨n, rfl⟩ := h
  exact ⟨rfl, rfl, rfl, Nat.le_refl _, fun _ _ => rfl⟩
theorem below_drewN {B : Nat} {a w : World} (h : Below B a w) (n : Nat) : Below B a (w.drewN n) := ⟨h.os, h.tape, h.output, h.size, h.block⟩

theorem or_hi (a x : Nat) (h : x < 4294967296) : a * 4294967296 ||| x = a * 4294967296 + x := by
  have := Nat.two_pow_add_eq_or_of_lt (i := 32) h a
  rw [show (2 : Nat) ^ 32 = 4294967296 from rfl] at this
  rw [Nat.mul_comm a]
  exact this.symm
/-- 'hi<<32 | lo' -/
theorem or64_hi (C x : Nat) (hC : C < 4294967296) (hx : x < 4294967296) : bits .or .u64 ((C : Int) * 4294967296) (x : Int) = ((C * 4294967296 + x : Nat) : Int) := by
  have := u64_or_nat (C * 4294967296) x (by omega) (by omega)
  rw [or_hi C x hx] at this
  rw [← this]
  congr 1
/-- 'lo | hi<<32' -/
theorem or64_lo (C x : Nat) (hC : C < 4294967296) (hx : x < 4294967296) : bits .or .u64 (x : Int) ((C : Int) * 4294967296) = ((C * 4294967296 + x : Nat) : Int) := by
  have := u64_or_nat x (C * 4294967296) (by omega) (by omega)
  rw [Nat.or_comm, or_hi C x hx] at this
  rw [← this]
  congr 1
theorem tdiv_nat (a b : Nat) : (a : Int).tdiv (b : Int) = ((a / b : Nat) : Int) := by
  rw [Int.tdiv_eq_ediv_of_nonneg (by omega)]; rfl
theorem tmod_nat (a b : Nat) : (a : Int).tmod (b : Int) = ((a % b : Nat) : Int) := by
  rw [Int.tmod_eq_emod_of_nonneg (by omega)]; rfl

theorem gb_refl (w : World) (r : Option Nat) : w.grownBy w r := ⟨rfl, rfl, rfl, Nat.le_refl _, fun _ _ _ => rfl⟩
theorem gb_set {a w : World} {g : Nat} (h : a.grownBy w (some g)) (i : Nat) (u : Value) : a.grownBy (w.setCell ⟨g, i, none⟩ u) (some g) :=
  ⟨h.os, h.tape, h.output, by simpa [World.setCell] using h.size, fun k hk hne => (Below.heap_setCell w ⟨g, i, none⟩ u k (fun e => hne (by rw [e]))).trans (h.block k hk hne)⟩
theorem gb_drewN {a w : World} {r : Option Nat} (h : a.grownBy w r) (n : Nat) : a.grownBy (w.drewN n) r := ⟨h.os, h.tape, h.output, h.size, h.block⟩
theorem gb_trans {a b c : World} {r : Option Nat} (h : a.grownBy b r) (k : b.grownBy c r) : a.grownBy c r :=
  ⟨k.os.trans h.os, k.tape.trans h.tape, k.output.trans h.output, Nat.le_trans h.size k.size, fun i hi hne => (k.block i (Nat.lt_of_lt_of_le hi h.size) hne).trans (h.block i hi hne)⟩
theorem gb_below {a w : World} {g : Nat} (h : a.grownBy w (some g)) {B : Nat} (hB : B ≤ g) (hs : B ≤ a.heap.size) : Below B a w :=
  ⟨h.os, h.tape, h.output, h.size, fun k hk => h.block k (by omega) (fun e => by injection e; omega)⟩

theorem Arr.dr {w w' : World} {g : Nat} {k : IntKind} {T : TypeId} {L : List Nat} (hd : Dr w w') (h : Arr w g k T L) : Arr w' g k T L := by
  obtain ⟨n, rfl⟩ := hd
  exact h
theorem Rd.dr {w w' : World} {v : Value} {k : IntKind} {T : TypeId} {L : List Nat} (hd : Dr w w') (h : Rd k T w v L) : Rd k T w' v L := by
  obtain ⟨n, rfl⟩ := hd
  exact h
theorem below_dr {a w w' : World} {B : Nat} (hd : Dr w w') (h : Below B a w) : Below B a w' := h.trans (hd.below B)

/-- A callee that but draws, met in a quiet walk. -/
theorem quiet_dr {P : Program} {f : FuncId} {args : Array Value} {w : World} {n : Nat} {v : Value} (h : Calls P f args (w.drewN n) fun e w' => e = .returned v ∧ Dr (w.drewN n) w') :
    Calls P f args (w.drewN n) fun e w'' => e = .returned v ∧ ∃ m, w'' = w.drewN m :=
  h.mono fun _ _ ⟨he, m, hm⟩ => ⟨he, n + m, by rw [hm, World.drewN_drewN]⟩

/-- The block of a function's body with this number. -/
def findBlock (id : Nat) : Code → Option Code
  | .block i c => if i = id then some (.block i c) else findBlock id c
  | .seq a b => match findBlock id a with
    | some c => some c
    | none => findBlock id b
  | .cond _ a b => match findBlock id a with
    | some c => some c
    | none => findBlock id b
  | .loop c => findBlock id c
  | .scope c => findBlock id c
  | _ => none

/-- The length of a slice value: for a loop's measure. -/
def lenV : Value → Nat | .slice _ n _ => n | _ => 0

theorem getElem?_last {l : List Nat} (h : l ≠ []) : ∃ x, l[l.length - 1]? = some x ∧ l.getLast? = some x := by
  have hl : 0 < l.length := by cases l with | nil => exact absurd rfl h | cons _ _ => simp
  refine ⟨l[l.length - 1], List.getElem?_eq_getElem (by omega), ?_⟩
  rw [List.getLast?_eq_getElem?]
  exact List.getElem?_eq_getElem (by omega)
end Go.Proofs.YtnaadajcehfmiaaDoor
