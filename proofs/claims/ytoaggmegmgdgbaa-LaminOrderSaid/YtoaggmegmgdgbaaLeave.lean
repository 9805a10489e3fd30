/- Ways out of a function behind ranges over functions. (No program in sight.) -/
import Derived.Test.YtoaggmegmgdgbaaLamA
import Derived.Test.YtoaggmegmgdgbaaIter
import Derived.RangeFuncNested
import Derived.RangeFuncBound
import Derived.Shelf.Abstract
import Derived.Shelf.RegionOpen
import Derived.OwnWalkIn
import Derived.TacticsInMore
import Derived.LoopNIn
import Derived.LoopIn
namespace Go.Proofs.Ytoaggmegmgdgbaa
open Go.RowKit Go.Sort
theorem blk_keep {S : Nat → Prop} {A B : World} {g : Nat} {T : TypeId} {cs : Array Value} (h : Blk A g T cs) (hk : KeepB S A B) (hg : S g) : Blk B g T cs := (hk.block g hg).trans h
theorem outB_of_below {lo hi : Nat} {A B : World} (h : Below A.heap.size A B) : OutB lo hi A B := (OutB.refl lo hi A).below h
theorem gb_out {a A B : World} {r : Option Nat} {hi : Nat} (h : a.grownBy A r) (ho : OutB a.heap.size hi A B) : a.grownBy B r :=
  ⟨ho.os.trans h.os, ho.tape.trans h.tape, ho.output.trans h.output, Nat.le_trans h.size ho.size, fun k hk hne => (ho.block k (Nat.lt_of_lt_of_le hk h.size) (by omega)).trans (h.block k hk hne)⟩
theorem blk_out {A B : World} {g lo hi : Nat} {T : TypeId} {cs : Array Value} (h : Blk A g T cs) (hg : g < lo) (ho : OutB lo hi A B) : Blk B g T cs := (ho.block g h.lt (by omega)).trans h

/-- A function's way out, past one mark, past two. -/
theorem leaves_one {P : Program} {fn : Func} {tmps : Array Value} {R : Ending → World → Prop} {W : World} {v : Value} {D : Nat} (hK : W.heap[D]? = some (.deferred (some []))) (hr : (results fn tmps).run P (W.putObj D (.deferred none)) = .ok v (W.putObj D (.deferred none)))
    (hR : R (.returned v) (W.putObj D (.deferred none))) : LeavesInM Fence.wide 0 P fn tmps R [{ target := .collected D, args := #[] }] .returning W :=
  ⟨by simp, .inl ⟨_, _, rfl, run_takeDeferred hK, ⟨_, hr, hR⟩⟩⟩
theorem leaves_two {P : Program} {fn : Func} {tmps : Array Value} {R : Ending → World → Prop} {W : World} {v : Value} {D E : Nat} (hK : W.heap[D]? = some (.deferred (some []))) (hE : W.heap[E]? = some (.deferred (some []))) (hne : E ≠ D)
    (hr : (results fn tmps).run P ((W.putObj D (.deferred none)).putObj E (.deferred none)) = .ok v ((W.putObj D (.deferred none)).putObj E (.deferred none)))
    (hR : R (.returned v) ((W.putObj D (.deferred none)).putObj E (.deferred none))) : LeavesInM Fence.wide 0 P fn tmps R [{ target := .collected D, args := #[] }, { target := .collected E, args := #[] }] .returning W :=
  ⟨by simp, .inl ⟨_, _, rfl, run_takeDeferred hK, leaves_one ((World.putObj_heap_other hne).trans hE) hr hR⟩⟩
theorem blk_put {W : World} {g r : Nat} {T : TypeId} {cs : Array Value} (h : Blk W g T cs) (hne : g ≠ r) (o : Obj) : Blk (W.putObj r o) g T cs := (World.putObj_heap_other hne).trans h
theorem below_put {B r : Nat} {a W : World} (h : Below B a W) (hr : B ≤ r) (o : Obj) : Below B a (W.putObj r o) :=
  h.trans ⟨rfl, rfl, rfl, by simp, fun k hk => World.putObj_heap_other (by omega)⟩
theorem put_set {W : World} {D : Nat} {o : Obj} {p : Addr} (h : W.heap[D]? = some o) (hne : D ≠ p.block) (v : Value) : (W.setCell p v).heap[D]? = some o := (Below.heap_setCell W p v D hne).trans h
theorem gb_new {a b c : World} {g : Nat} (h : a.grownBy b none) (k : b.grownBy c (some g)) (hg : a.heap.size ≤ g) : a.grownBy c none :=
  ⟨k.os.trans h.os, k.tape.trans h.tape, k.output.trans h.output, Nat.le_trans h.size k.size, fun i hi hne => (k.block i (Nat.lt_of_lt_of_le hi h.size) (fun e => by injection e; omega)).trans (h.block i hi hne)⟩
theorem own_put {W : World} {base : Nat} {T : TypeId} {size : Nat} {v : Value} {n : Nat} {xs : List Value} (h : W.ownsRow base T size v n xs) {r : Nat} (hne : v.ownBlock ≠ some r) (o : Obj) : (W.putObj r o).ownsRow base T size v n xs :=
  h.kept (grownBy_putObj' W r o) (.inr hne)
theorem no_prefix {α : Type} {pre : List α} {x : α} (h : pre ++ [x] <+: []) : False := by
  have := List.prefix_nil.1 h
  simp at this

theorem leaves_none {P : Program} {fn : Func} {tmps : Array Value} {R : Ending → World → Prop} {W : World} {v : Value} (hr : (results fn tmps).run P W = .ok v W)
    (hR : R (.returned v) W) : LeavesInM Fence.wide 0 P fn tmps R [] .returning W := ⟨_, hr, hR⟩
theorem below_of_gb {a b : World} (h : a.grownBy b none) : Below a.heap.size a b := ⟨h.os, h.tape, h.output, h.size, fun k hk => h.block k hk (by simp)⟩
end Go.Proofs.Ytoaggmegmgdgbaa
