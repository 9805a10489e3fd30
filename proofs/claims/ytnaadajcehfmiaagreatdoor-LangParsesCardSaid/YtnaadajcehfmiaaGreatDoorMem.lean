/- Plain arithmetic of digits to the base 2^32: the value of a list, its canonical digits. No program in sight. · Words for memory: a block that is an array of numbers; a slice that reads as a list of numbers. -/
import Derived.WalkKit
import Derived.WalkSpells
import Derived.BigQuiet
import Derived.Deep.QuietTactic
import Derived.Lib.Hide
import Derived.Laws.CopyOwn
namespace Go.Proofs.YtnaadajcehfmiaaGreatDoor

/-- The value of digits, the lowest first, to the base 2^32. -/
def val : List Nat → Nat
  | [] => 0
  | x :: l => x + 4294967296 * val l

/-- Each digit is below 2^32. -/
def Sm (l : List Nat) : Prop := ∀ x, x ∈ l → x < 4294967296

def dgF : Nat → Nat → List Nat
  | 0, _ => []
  | f + 1, n => if n = 0 then [] else n % 4294967296 :: dgF f (n / 4294967296)

/-- The digits of a number, no nought at the end. -/
def dg (n : Nat) : List Nat := dgF n n

theorem Sm.head {x : Nat} {l : List Nat} (h : Sm (x :: l)) : x < 4294967296 := h x (List.mem_cons_self)
theorem Sm.tail {x : Nat} {l : List Nat} (h : Sm (x :: l)) : Sm l := fun y hy => h y (List.mem_cons_of_mem _ hy)
theorem Sm.take {l : List Nat} (h : Sm l) (n : Nat) : Sm (l.take n) := fun y hy => h y (List.mem_of_mem_take hy)
theorem Sm.drop {l : List Nat} (h : Sm l) (n : Nat) : Sm (l.drop n) := fun y hy => h y (List.mem_of_mem_drop hy)
theorem Sm.get {l : List Nat} (h : Sm l) {j x : Nat} (hj : l[j]? = some x) : x < 4294967296 := h x (List.mem_of_getElem? hj)
theorem Sm.set_ {l : List Nat} (h : Sm l) {j x : Nat} (hx : x < 4294967296) : Sm (l.set j x) := by
  intro y hy
  rcases List.mem_or_eq_of_mem_set hy with h1 | h1
  · exact h y h1
  · rw [h1]; exact hx
end Go.Proofs.YtnaadajcehfmiaaGreatDoor

namespace Go.Proofs.YtnaadajcehfmiaaGreatDoor
open Go.RowKit

/-- A row of numbers, as values of kind k. -/
def ivs (k : IntKind) (L : List Nat) : List Value := L.map fun (x : Nat) => Value.int k (x : Int)
theorem ivs_get {k : IntKind} {L : List Nat} {j x : Nat} (h : L[j]? = some x) : (ivs k L)[j]? = some (.int k (x : Int)) := by simp [ivs, h]
theorem ivs_set (k : IntKind) (L : List Nat) (j x : Nat) : (ivs k L).set j (.int k (x : Int)) = ivs k (L.set j x) := by simp [ivs, List.map_set]
/-- Block g is just the numbers L, of kind k, its elements' type T; none of it is frozen. -/
def Arr (w : World) (g : Nat) (k : IntKind) (T : TypeId) (L : List Nat) : Prop := w.heap[g]? = some (.cells (ivs k L).toArray T (0, 0))

section
variable {w w' : World} {g : Nat} {k : IntKind} {T : TypeId} {L : List Nat}
theorem Arr.lt (h : Arr w g k T L) : g < w.heap.size := by
  rcases Nat.lt_or_ge g w.heap.size with hlt | hge
  · exact hlt
  · unfold Arr at h; rw [Array.getElem?_eq_none hge] at h; cases h
theorem Arr.cell (h : Arr w g k T L) {j x : Nat} (hj : L[j]? = some x) : w.cell? ⟨g, j, none⟩ = some (.int k (x : Int)) := by
  rw [cell_of_row w g j _ T (0, 0) h]
  simpa using ivs_get hj
theorem Arr.frozen (h : Arr w g k T L) (j : Nat) : w.frozen? ⟨g, j, none⟩ = false := by
  unfold Arr at h
  simp [World.frozen?, h]
theorem Arr.drewN (h : Arr w g k T L) (n : Nat) : Arr (w.drewN n) g k T L := h
theorem Arr.drew (h : Arr w g k T L) : Arr w.drew g k T L := h
theorem Arr.alloc (h : Arr w g k T L) (o : Obj) : Arr (w.alloc o) g k T L := (Below.heap_alloc w o g h.lt).trans h
theorem Arr.set_ (h : Arr w g k T L) (j x : Nat) : Arr (w.setCell ⟨g, j, none⟩ (.int k (x : Int))) g k T (L.set j x) := by
  unfold Arr at h ⊢
  have e : (ivs k L).toArray.setIfInBounds j (.int k (x : Int)) = (ivs k (L.set j x)).toArray := by rw [← ivs_set]; simp
  simp [World.setCell, Array.getElem?_modify, h, ← e]
theorem Arr.far (h : Arr w g k T L) {p : Addr} (hp : g ≠ p.block) (u : Value) : Arr (w.setCell p u) g k T L := (Below.heap_setCell w p u g hp).trans h
theorem Arr.below {B : Nat} (h : Arr w g k T L) (hb : Below B w w') (hg : g < B) : Arr w' g k T L := (hb.block g hg).trans h
theorem Arr.grown {row : Option Nat} (h : Arr w g k T L) (hb : w.grownBy w' row) (hg : some g ≠ row) : Arr w' g k T L := (hb.block g h.lt hg).trans h
theorem Arr.ne_ {g' : Nat} {T' : TypeId} {cs' : Array Value} (h : Arr w g k T L) (h' : w.heap[g']? = some (.cells cs' T' (0, 0))) (hne : T ≠ T') : g ≠ g' := by
  rintro rfl
  unfold Arr at h
  rw [h] at h'
  injection h' with h'
  injection h' with _ ht
  exact hne ht
theorem Arr.same {L' : List Nat} (h : Arr w g k T L) (h' : Arr w g k T L') : L = L' := by
  unfold Arr at h h'
  rw [h] at h'
  injection h' with h'
  injection h' with h' _
  have e : ivs k L = ivs k L' := by simpa using h'
  have hm := congrArg (List.map fun (v : Value) => match v with | .int _ n => n.toNat | _ => 0) e
  simpa [ivs, Function.comp_def] using hm
end

/-- Block g holds the numbers L, of kind k, where L tells one; its elements' type is T; it may be frozen, and hold more. -/
def Row (w : World) (g : Nat) (k : IntKind) (T : TypeId) (L : Nat → Option Nat) : Prop := ∃ (cs : Array Value) (fr : Nat × Nat), w.heap[g]? = some (.cells cs T fr) ∧ ∀ (j x : Nat), L j = some x → cs[j]? = some (Value.int k (x : Int))

section
variable {w w' : World} {g : Nat} {k : IntKind} {T : TypeId} {L : Nat → Option Nat}
theorem Arr.row {L : List Nat} (h : Arr w g k T L) : Row w g k T (fun j => L[j]?) := ⟨_, _, h, fun j x hj => by simpa using ivs_get hj⟩
theorem Row.lt (h : Row w g k T L) : g < w.heap.size := by
  obtain ⟨cs, fr, h, _⟩ := h
  rcases Nat.lt_or_ge g w.heap.size with hlt | hge
  · exact hlt
  · rw [Array.getElem?_eq_none hge] at h; cases h
theorem Row.cell (h : Row w g k T L) {j x : Nat} (hj : L j = some x) : w.cell? ⟨g, j, none⟩ = some (.int k (x : Int)) := by
  obtain ⟨cs, fr, h, hc⟩ := h
  rw [cell_of_row w g j cs T fr h]
  exact hc j x hj
theorem Row.of_block (h : Row w g k T L) (hb : w'.heap[g]? = w.heap[g]?) : Row w' g k T L := by
  obtain ⟨cs, fr, h, hc⟩ := h
  exact ⟨cs, fr, hb.trans h, hc⟩
theorem Row.alloc (h : Row w g k T L) (o : Obj) : Row (w.alloc o) g k T L := h.of_block (Below.heap_alloc w o g h.lt)
theorem Row.far (h : Row w g k T L) {p : Addr} (hp : g ≠ p.block) (u : Value) : Row (w.setCell p u) g k T L := h.of_block (Below.heap_setCell w p u g hp)
theorem Row.below {B : Nat} (h : Row w g k T L) (hb : Below B w w') (hg : g < B) : Row w' g k T L := h.of_block (hb.block g hg)
theorem Row.grown {row : Option Nat} (h : Row w g k T L) (hb : w.grownBy w' row) (hg : some g ≠ row) : Row w' g k T L := h.of_block (hb.block g h.lt hg)
theorem Row.ne_ {g' : Nat} {T' : TypeId} {cs' : Array Value} {fr' : Nat × Nat} (h : Row w g k T L) (h' : w.heap[g']? = some (.cells cs' T' fr')) (hne : T ≠ T') : g ≠ g' := by
  rintro rfl
  obtain ⟨cs, fr, h, _⟩ := h
  rw [h] at h'
  injection h' with h'
  injection h' with _ ht
  exact hne ht
end

/-- The slice v reads as the numbers l. -/
def Rd (k : IntKind) (T : TypeId) (w : World) (v : Value) (l : List Nat) : Prop :=
  ∃ (A : Option Addr) (c : Nat), v = .slice A l.length c ∧ l.length ≤ c ∧ c ≤ maxLen ∧
    (l ≠ [] → ∃ (g off : Nat) (L : Nat → Option Nat), A = some ⟨g, off, none⟩ ∧ Row w g k T L ∧ ∀ j x, l[j]? = some x → L (off + j) = some x)

section
variable {k : IntKind} {T : TypeId} {w w' : World} {v : Value} {l : List Nat}
theorem Rd.nil_ : Rd k T w (.slice none 0 0) [] := ⟨none, 0, rfl, Nat.le_refl _, Nat.zero_le _, fun h => absurd rfl h⟩
theorem Rd.keep (h : Rd k T w v l) (hk : ∀ g L, Row w g k T L → Row w' g k T L) : Rd k T w' v l := by
  obtain ⟨A, c, e, h1, h2, h3⟩ := h
  refine ⟨A, c, e, h1, h2, fun hn => ?_⟩
  obtain ⟨g, off, L, e1, e2, e3⟩ := h3 hn
  exact ⟨g, off, L, e1, hk g L e2, e3⟩
theorem Rd.drewN (h : Rd k T w v l) (n : Nat) : Rd k T (w.drewN n) v l := h
theorem Rd.drew (h : Rd k T w v l) : Rd k T w.drew v l := h
theorem Rd.alloc (h : Rd k T w v l) (o : Obj) : Rd k T (w.alloc o) v l := h.keep fun _ _ a => a.alloc o
theorem Rd.below (h : Rd k T w v l) (hb : Below w.heap.size w w') : Rd k T w' v l := h.keep fun _ _ a => a.below hb a.lt
theorem Rd.grown {g : Nat} {cs : Array Value} {T' : TypeId} (h : Rd k T w v l) (hb : w.grownBy w' (some g)) (hp : w.heap[g]? = some (.cells cs T' (0, 0))) (hne : T ≠ T') : Rd k T w' v l :=
  h.keep fun _ _ a => a.grown hb (fun e => a.ne_ hp hne (by injection e))
/-- Opened where there is something to read. -/
theorem Rd.open_ (h : Rd k T w v l) (hn : l ≠ []) : ∃ (g off c : Nat) (L : Nat → Option Nat), v = .slice (some ⟨g, off, none⟩) l.length c ∧ l.length ≤ c ∧ c ≤ maxLen ∧ Row w g k T L ∧ (∀ j x, l[j]? = some x → L (off + j) = some x) := by
  obtain ⟨A, c, e, h1, h2, h3⟩ := h
  obtain ⟨g, off, L, rfl, e2, e3⟩ := h3 hn
  exact ⟨g, off, c, L, e, h1, h2, e2, e3⟩
end

/-- A slice of digits (32 bits each) that reads as the number n, without noughts at the end. -/
def Dg (w : World) (v : Value) (n : Nat) : Prop := Rd .u32 121 w v (dg n)

section
variable {w w' : World} {v : Value} {n : Nat}
theorem Dg.drewN (h : Dg w v n) (m : Nat) : Dg (w.drewN m) v n := h
theorem Dg.alloc (h : Dg w v n) (o : Obj) : Dg (w.alloc o) v n := Rd.alloc h o
theorem Dg.below (h : Dg w v n) (hb : Below w.heap.size w w') : Dg w' v n := Rd.below h hb
theorem Dg.zero (w : World) : Dg w (.slice none 0 0) 0 := Rd.nil_
end

/-- The world has but drawn. -/
def Dr (w w' : World) : Prop := ∃ n, w' = w.drewN n
theorem Dr.refl (w : World) : Dr w w := ⟨0, rfl⟩
theorem Dr.drewN {w w' : World} (h : Dr w w') (n : Nat) : Dr w (w'.drewN n) := by
  obtain ⟨m, rfl⟩ := h
  exact ⟨m + n, World.drewN_drewN _ _ _⟩
theorem Dr.trans {a b c : World} (h : Dr a b) (k : Dr b c) : Dr a c := by
  obtain ⟨m, rfl⟩ := k
  exact h.drewN m
theorem Dr.below {w w' : World} (h : Dr w w') (B : Nat) : Below B w w' := by
  obtain ⟨n, rfl⟩ := h
  exact ⟨rfl, rfl, rfl, Nat.le_refl _, fun _ _ => rfl⟩
theorem gb_refl (w : World) (r : Option Nat) : w.grownBy w r := ⟨rfl, rfl, rfl, Nat.le_refl _, fun _ _ _ => rfl⟩
theorem gb_set {a w : World} {g : Nat} (h : a.grownBy w (some g)) (i : Nat) (u : Value) : a.grownBy (w.setCell ⟨g, i, none⟩ u) (some g) :=
  ⟨h.os, h.tape, h.output, by simpa [World.setCell] using h.size, fun k hk hne => (Below.heap_setCell w ⟨g, i, none⟩ u k (fun e => hne (by rw [e]))).trans (h.block k hk hne)⟩
end Go.Proofs.YtnaadajcehfmiaaGreatDoor
