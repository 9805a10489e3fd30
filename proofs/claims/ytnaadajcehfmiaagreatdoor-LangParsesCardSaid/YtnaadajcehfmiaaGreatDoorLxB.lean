/- Words for memory that Lang's texts lean on. -/
import Derived.Test.YtnaadajcehfmiaaGreatDoorMem
import Derived.Test.YtnaadajcehfmiaaGreatDoorChecked
import Derived.Calls
import Derived.Lone
import Derived.Below
import Derived.Deep.RegionHeld3
import Derived.Deep.DrawnRows
import Derived.Deep.RegionWith
import Derived.Deep.LoopGhost
import Derived.Deep.AppendLies
import Derived.Deep.CutBlock
import Derived.Maps.Own
import Derived.Maps.OwnOps
import Derived.Maps.OwnSet
import Derived.Maps.AppendAt
import Derived.Maps.StringElems
import Derived.Lib.QuietBelow
import Derived.Lib.AppendStr
import Derived.StillTailTactics
import Derived.WalkMore
import Derived.WalkSmall
import Derived.Defers
import Derived.Recover
import Derived.RowKit3
namespace Go.Proofs.YtnaadajcehfmiaaGreatDoor
open Go.RowKit

/-- A string's bytes. -/
def sl (s : ByteArray) : List Nat := s.data.toList.map fun b => b.toNat
theorem sl_len (s : ByteArray) : (sl s).length = s.size := by simp [sl]
theorem sl_lt (s : ByteArray) : ∀ x, x ∈ sl s → x < 256 := by
  intro x hx
  obtain ⟨b, _, rfl⟩ := List.mem_map.1 hx
  exact b.toNat_lt
theorem sl_get (s : ByteArray) (i : Nat) (h : i < s.size) : (sl s)[i]? = some (s[i].toNat) := by
  have h' : i < s.data.size := h
  simp only [sl, List.getElem?_map, Array.getElem?_toList, Array.getElem?_eq_getElem h']
  rfl
theorem sl_mk (l : List Nat) (h : ∀ x, x ∈ l → x < 256) : sl ⟨(l.map UInt8.ofNat).toArray⟩ = l := by
  simp only [sl, List.map_map]
  rw [List.map_congr_left (g := id) (fun x hx => by simp; exact h x hx)]
  simp
/-- The outcome: an int; of what was there nothing has turned. -/
def RetVal (v : Value) (w : World) (e : Ending) (w' : World) : Prop := e = .returned v ∧ Below w.heap.size w w'
theorem toList_inj {a b : ByteArray} (h : a.toList = b.toList) : a = b := by
  have h1 : a.data.toList = b.data.toList := by simpa [ByteArray.toList_eq] using h
  exact ByteArray.ext (Array.ext' h1)
/-- Bytes as a string. -/
def mkS (l : List Nat) : ByteArray := ⟨(l.map UInt8.ofNat).toArray⟩
theorem mkS_size (l : List Nat) : (mkS l).size = l.length := by
  show ((l.map UInt8.ofNat).toArray).size = _
  simp
theorem mkS_append (l m : List Nat) : mkS l ++ mkS m = mkS (l ++ m) := by
  apply ByteArray.ext
  simp [mkS]
theorem mkS_data (l : List Nat) : (mkS l).data.toList = l.map UInt8.ofNat := by simp [mkS]
theorem mkS_beq {l m : List Nat} (hl : ∀ x, x ∈ l → x < 256) (hm : ∀ x, x ∈ m → x < 256) : ((mkS l).toList == (mkS m).toList) = decide (l = m) := by
  by_cases h : l = m
  · subst h; simp
  · rw [decide_eq_false h, beq_eq_false_iff_ne]
    intro e
    have e2 : mkS l = mkS m := toList_inj e
    apply h
    rw [← sl_mk l hl, ← sl_mk m hm]
    exact congrArg sl e2
/-- Block g is just the cells cs. -/
def Blk (w : World) (g : Nat) (T : TypeId) (cs : Array Value) : Prop := w.heap[g]? = some (.cells cs T (0, 0))
section
variable {w w' : World} {g : Nat} {T : TypeId} {cs : Array Value}
theorem Blk.lt (h : Blk w g T cs) : g < w.heap.size := by
  rcases Nat.lt_or_ge g w.heap.size with hlt | hge
  · exact hlt
  · unfold Blk at h; rw [Array.getElem?_eq_none hge] at h; cases h
theorem Blk.cell (h : Blk w g T cs) (i : Nat) : w.cell? ⟨g, i, none⟩ = cs[i]? := cell_of_row w g i cs T (0, 0) h
theorem Blk.frozen (h : Blk w g T cs) (i : Nat) : w.frozen? ⟨g, i, none⟩ = false := by
  unfold Blk at h
  simp [World.frozen?, h]
theorem Blk.new (w : World) (T : TypeId) (cs : Array Value) : Blk (w.alloc (.cells cs T)) w.heap.size T cs := heap_alloc_new w _
theorem Blk.drew (h : Blk w g T cs) : Blk w.drew g T cs := h
theorem Blk.drewN (h : Blk w g T cs) (n : Nat) : Blk (w.drewN n) g T cs := h
theorem Blk.alloc (h : Blk w g T cs) (o : Obj) : Blk (w.alloc o) g T cs := (Below.heap_alloc w o g h.lt).trans h
theorem Blk.below (h : Blk w g T cs) (hb : Below w.heap.size w w') : Blk w' g T cs := (hb.block g h.lt).trans h
theorem Blk.grown {row : Option Nat} (h : Blk w g T cs) (hb : w.grownBy w' row) (hg : some g ≠ row) : Blk w' g T cs := (hb.block g h.lt hg).trans h
theorem Blk.far (h : Blk w g T cs) {p : Addr} (hp : g ≠ p.block) (u : Value) : Blk (w.setCell p u) g T cs := (Below.heap_setCell w p u g hp).trans h
theorem Blk.set_ (h : Blk w g T cs) (i : Nat) (u : Value) : Blk (w.setCell ⟨g, i, none⟩ u) g T (cs.setIfInBounds i u) := by
  unfold Blk at h ⊢
  simp [World.setCell, Array.getElem?_modify, h]
end
/-- Blocks that are known whole. -/
def KeepT (W : World) (l : List (Nat × TypeId × Array Value)) : Prop := ∀ (i : Nat) (x : Nat × TypeId × Array Value), l[i]? = some x → Blk W x.1 x.2.1 x.2.2
section
variable {W W' : World} {l : List (Nat × TypeId × Array Value)}
theorem KeepT.below (h : KeepT W l) (hb : Below W.heap.size W W') : KeepT W' l := fun i x hx => Blk.below (h i x hx) hb
theorem KeepT.alloc (h : KeepT W l) (o : Obj) : KeepT (W.alloc o) l := fun i x hx => Blk.alloc (h i x hx) o
theorem KeepT.drewN (h : KeepT W l) (n : Nat) : KeepT (W.drewN n) l := fun i x hx => Blk.drewN (h i x hx) n
theorem KeepT.at_ (h : KeepT W l) (i : Nat) {g : Nat} {T : TypeId} {cs : Array Value} (hx : l[i]? = some (g, T, cs)) : Blk W g T cs := h i _ hx
theorem KeepT.one {g : Nat} {T : TypeId} {cs : Array Value} (h : Blk W g T cs) : KeepT W [(g, T, cs)] := fun i x hx => by
  match i, hx with
  | 0, hx => cases hx; exact h
theorem KeepT.snoc (h : KeepT W l) {g : Nat} {T : TypeId} {cs : Array Value} (k : Blk W g T cs) : KeepT W (l ++ [(g, T, cs)]) := fun i x hx => by
  rcases Nat.lt_or_ge i l.length with hi | hi
  · rw [List.getElem?_append_left hi] at hx; exact h i x hx
  · rw [List.getElem?_append_right hi] at hx
    match i - l.length, hx with
    | 0, hx => cases hx; exact k
end
theorem own_below {w w' : World} {base : Nat} {T : TypeId} {size : Nat} {v : Value} {n : Nat} {xs : List Value} (h : w.ownsRow base T size v n xs) (hb : Below w.heap.size w w') : w'.ownsRow base T size v n xs := by
  obtain ⟨hl, hc⟩ := h
  refine ⟨hl, ?_⟩
  rcases hc with hc | ⟨g, cap, cur, hv, hbase, hg, rest⟩
  · exact .inl hc
  · have hlt : g < w.heap.size := by
      rcases Nat.lt_or_ge g w.heap.size with h | h
      · exact h
      · rw [Array.getElem?_eq_none h] at hg; cases hg
    exact .inr ⟨g, cap, cur, hv, hbase, (hb.block g hlt).trans hg, rest⟩
theorem own_form {w : World} {B : Nat} {e : TypeId} {size n : Nat} {v : Value} {xs : List Value} (h : w.ownsRow B e size v n xs) : ∃ A c, v = .slice A n c ∧ (A = none → c = 0) ∧ (0 < n → ∃ g, A = some ⟨g, 0, none⟩) := by
  rcases h.2 with ⟨rfl, h0⟩ | ⟨g, cap, cur, rfl, -⟩
  · exact ⟨none, 0, by rw [h0], fun _ => rfl, fun h => by omega⟩
  · exact ⟨_, _, rfl, (fun h => by cases h), fun _ => ⟨g, rfl⟩⟩
theorem far_cell {w w1 : World} {o : Obj} {row : Option Nat} {a : Addr} {v : Value} (hg : (w.drew.alloc o).grownBy w1 row) (h : w.cell? a = some v) (hf : w.frozen? a = false) (hne : some a.block ≠ row) : w1.cell? a = some v ∧ w1.frozen? a = false := by
  have hlt := block_lt_of_cell h
  have h1 : (w.drew.alloc o).cell? a = some v := Lib.cell?_alloc_some o h
  refine ⟨hg.cell h1 hne, ?_⟩
  rw [hg.frozen_far a (by simpa using Nat.lt_succ_of_lt hlt) hne, (World.grownBy_alloc w.drew o none).frozen_far a hlt (by simp)]
  exact hf
/-- B is A, but for the blocks of r and for new ones. -/
structure But (r : Nat → Prop) (A B : World) : Prop where
  os : B.os = A.os
  tape : B.tape = A.tape
  output : B.output = A.output
  size : A.heap.size ≤ B.heap.size
  block : ∀ k, k < A.heap.size → ¬ r k → B.heap[k]? = A.heap[k]?
section
variable {r r' : Nat → Prop} {A B C : World}
theorem But.refl (r : Nat → Prop) (A : World) : But r A A := ⟨rfl, rfl, rfl, Nat.le_refl _, fun _ _ _ => rfl⟩
theorem But.trans (h : But r A B) (k : But r B C) : But r A C :=
  ⟨k.os.trans h.os, k.tape.trans h.tape, k.output.trans h.output, Nat.le_trans h.size k.size, fun i hi hn => (k.block i (Nat.lt_of_lt_of_le hi h.size) hn).trans (h.block i hi hn)⟩
theorem But.wide (h : But r A B) (hr : ∀ k, k < A.heap.size → r k → r' k) : But r' A B := ⟨h.os, h.tape, h.output, h.size, fun k hk hn => h.block k hk (fun e => hn (hr k hk e))⟩
theorem But.of_below (h : Below A.heap.size A B) : But r A B := ⟨h.os, h.tape, h.output, h.size, fun k hk _ => h.block k hk⟩
theorem But.below (h : But r A B) (k : Below B.heap.size B C) : But r A C := h.trans (But.of_below k)
theorem But.alloc (h : But r A B) (o : Obj) : But r A (B.alloc o) := h.trans ⟨rfl, rfl, rfl, by simp, fun k hk _ => Below.heap_alloc B o k hk⟩
theorem But.setCell (h : But r A B) {p : Addr} (hp : r p.block ∨ A.heap.size ≤ p.block) (v : Value) : But r A (B.setCell p v) :=
  ⟨h.os, h.tape, h.output, by have := h.size; simpa [World.setCell] using this, fun k hk hn => (Below.heap_setCell B p v k (fun e => by
    rcases hp with hp | hp
    · exact hn (by rw [e]; exact hp)
    · omega)).trans (h.block k hk hn)⟩
theorem But.grown (h : But r A B) {row : Option Nat} (hg : B.grownBy C row) (hr : ∀ k, row = some k → r k) : But r A C :=
  h.trans ⟨hg.os, hg.tape, hg.output, hg.size, fun k hk hn => hg.block k hk (fun e => hn (hr k e.symm))⟩
theorem But.toBelow (h : But r A B) {n : Nat} (hn : n ≤ A.heap.size) (hr : ∀ k, k < n → ¬ r k) : Below n A B := ⟨h.os, h.tape, h.output, h.size, fun k hk => h.block k (by omega) (hr k hk)⟩
end
end Go.Proofs.YtnaadajcehfmiaaGreatDoor
namespace Go.Proofs.YtnaadajcehfmiaaGreatDoor
open Go.RowKit Go.Sort Go.Maps

/-- A thing that lies in a block of its own, or in none. -/
structure It where
  own : Option Nat
  P : World → Prop
  keep : ∀ {w w' : World} {row : Option Nat}, P w → w.grownBy w' row → (own = none ∨ own ≠ row) → P w'
  lt : ∀ {w : World} {k : Nat}, P w → own = some k → k < w.heap.size
/-- No two lie in one block. -/
def Far (a b : It) : Prop := ∀ k, a.own = some k → b.own ≠ some k
theorem Far.symm {a b : It} (h : Far a b) : Far b a := fun k hb ha => h k ha hb
/-- Things side by side. -/
def Sep (w : World) (l : List It) : Prop := (∀ a, a ∈ l → a.P w) ∧ l.Pairwise Far
section
variable {w w' : World} {l A B : List It} {a a' : It}
theorem Sep.nil : Sep w [] := ⟨fun _ h => absurd h (by simp), List.Pairwise.nil⟩
theorem Sep.get (h : Sep w l) (ha : a ∈ l) : a.P w := h.1 a ha
theorem Sep.grown (h : Sep w l) (hg : w.grownBy w' none) : Sep w' l := ⟨fun a ha => a.keep (h.1 a ha) hg (by
  rcases ho : a.own with _ | k
  · exact .inl rfl
  · exact .inr (by simp)), h.2⟩
theorem Sep.below (h : Sep w l) (hb : Below w.heap.size w w') : Sep w' l := h.grown ⟨hb.os, hb.tape, hb.output, hb.size, fun j hj _ => hb.block j hj⟩
theorem Sep.alloc (h : Sep w l) (o : Obj) : Sep (w.alloc o) l := h.grown (World.grownBy_alloc w o none)
theorem Sep.drewN (h : Sep w l) (n : Nat) : Sep (w.drewN n) l := h.grown ⟨rfl, rfl, rfl, Nat.le_refl _, fun _ _ _ => rfl⟩
/-- One of them is turned, and goes into its own block or into a new one. -/
theorem Sep.upd (h : Sep w (A ++ a :: B)) (hg : w.grownBy w' a.own) (hP : a'.P w') (hloc : ∀ k, a'.own = some k → a.own = some k ∨ w.heap.size ≤ k) : Sep w' (A ++ a' :: B) := by
  obtain ⟨h1, h2⟩ := h
  obtain ⟨p1, p2, p3⟩ := List.pairwise_append.1 h2
  obtain ⟨p4, p5⟩ := List.pairwise_cons.1 p2
  have hA : ∀ x, x ∈ A → Far x a := fun x hx => p3 x hx a (List.mem_cons_self ..)
  have hk : ∀ x, x ∈ A ∨ x ∈ B → x.P w' := fun x hx => by
    have hx1 : x.P w := h1 x (by rcases hx with hx | hx <;> simp [hx])
    refine x.keep hx1 hg ?_
    rcases ho : x.own with _ | k
    · exact .inl rfl
    · refine .inr (fun e => ?_)
      rcases hx with hx | hx
      · exact hA x hx k ho e.symm
      · exact p4 x hx k e.symm ho
  have hf : ∀ x, x ∈ A ∨ x ∈ B → Far x a' := fun x hx k h3 h4 => by
    have hlt := x.lt (h1 x (by rcases hx with hx | hx <;> simp [hx])) h3
    rcases hloc k h4 with h5 | h5
    · rcases hx with hx | hx
      · exact hA x hx k h3 h5
      · exact p4 x hx k h5 h3
    · omega
  refine ⟨fun x hx => ?_, List.pairwise_append.2 ⟨p1, List.pairwise_cons.2 ⟨fun x hx => (hf x (.inr hx)).symm, p5⟩, fun x hx y hy => ?_⟩⟩
  · rcases List.mem_append.1 hx with hx | hx
    · exact hk x (.inl hx)
    · rcases List.mem_cons.1 hx with rfl | hx
      · exact hP
      · exact hk x (.inr hx)
  · rcases List.mem_cons.1 hy with rfl | hy
    · exact hf x (.inl hx)
    · exact p3 x hx y (List.mem_cons_of_mem _ hy)
/-- One more, in none of the others' blocks. -/
theorem Sep.cons (h : Sep w l) (hP : a.P w) (hf : ∀ x, x ∈ l → Far a x) : Sep w (a :: l) := ⟨fun x hx => by
  rcases List.mem_cons.1 hx with rfl | hx
  · exact hP
  · exact h.1 x hx, List.pairwise_cons.2 ⟨hf, h.2⟩⟩
theorem Sep.snoc (h : Sep w l) (hP : a.P w) (hf : ∀ x, x ∈ l → Far a x) : Sep w (l ++ [a]) := ⟨fun x hx => by
  rcases List.mem_append.1 hx with hx | hx
  · exact h.1 x hx
  · rw [List.mem_singleton.1 hx]; exact hP, List.pairwise_append.2 ⟨h.2, List.pairwise_singleton _ _, fun x hx y hy => by
    rw [List.mem_singleton.1 hy]; exact (hf x hx).symm⟩⟩
theorem Sep.sub {l m : List It} (h : Sep w l) (hs : m.Sublist l) : Sep w m := ⟨fun a ha => h.1 a (hs.subset ha), h.2.sublist hs⟩
/-- A new one, in a new block. -/
theorem Sep.newR {w0 : World} (h : Sep w0 l) (hg : w0.grownBy w none) (hP : a.P w) (hl : ∀ k, a.own = some k → w0.heap.size ≤ k) : Sep w (l ++ [a]) := (h.grown hg).snoc hP (fun x hx k h1 h2 => by
  have := x.lt (h.1 x hx) h2
  have := hl k h1
  omega)
theorem Sep.new {w0 : World} (h : Sep w0 l) (hg : w0.grownBy w none) (hP : a.P w) (hl : ∀ k, a.own = some k → w0.heap.size ≤ k) : Sep w (a :: l) := (h.grown hg).cons hP (fun x hx k h1 h2 => by
  have := x.lt (h.1 x hx) h2
  have := hl k h1
  omega)
end
theorem row_mono {w : World} {B B' : Nat} {e : TypeId} {size : Nat} {v : Value} {n : Nat} {xs : List Value} (h : w.ownsRow B e size v n xs) (hb : B' ≤ B) : w.ownsRow B' e size v n xs := by
  refine ⟨h.1, h.2.imp id ?_⟩
  rintro ⟨g, cap, cur, rfl, h1, rest⟩
  exact ⟨g, cap, cur, rfl, Nat.le_trans hb h1, rest⟩
/-- A row. -/
def itRow (B : Nat) (e : TypeId) (size : Nat) (v : Value) (n : Nat) (xs : List Value) : It where
  own := v.ownBlock
  P w := w.ownsRow B e size v n xs
  keep h hg hne := World.ownsRow.kept h hg hne
  lt h hk := (World.ownsRow.lt h _ hk).2
/-- A map. -/
def itMap {H : Type} (P : Program) (k : TypeId) (R : Value → Option (DataW H × List MemPlace)) (b n : Nat) (D : DataW H) : It where
  own := some b
  P w := w.ownsMap P k R b n D
  keep h hg hne := World.ownsMap.kept h hg (by
    rcases hne with h | h
    · cases h
    · exact h)
  lt h hk := by injection hk with hk; rw [← hk]; exact World.ownsMap.lt h
/-- A block known whole. -/
def itBlk (g : Nat) (T : TypeId) (cs : Array Value) : It where
  own := some g
  P w := Blk w g T cs
  keep h hg hne := Blk.grown h hg (by
    rcases hne with h | h
    · cases h
    · exact h)
  lt h hk := by injection hk with hk; rw [← hk]; exact h.lt
end Go.Proofs.YtnaadajcehfmiaaGreatDoor
