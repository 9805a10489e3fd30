/- filigreelaw21.AngleOrbits: the walk. -/
import Derived.Test.YtbddlbhanpjdnaaDoorOrbA
import Derived.Test.YtbddlbhanpjdnaaDoorOrbB
namespace Go.Proofs.YtbddlbhanpjdnaaDoor
open Go.RowKit Go.Sort

/-- A function is not nil. -/
theorem eql_func_nil {P : Program} (w : World) {t : TypeId} {a b : Array TypeId} {c : Bool} (h : P.underlying t = some (.func a b c)) (f : Fn) (ts lb : Array Value) :
    (binOp .eql t (.func f ts lb) .nilFunc).run P w = .ok (.bool false) w := by
  have hh : ∀ d : Nat, (Op.equalIn (d + 1) t (.func f ts lb) .nilFunc).run P w = .ok false w := fun d => by
    simp [Op.equalIn, run_underlying h]
  simp only [binOp]
  simp [Op.equal, Op.maxDepth, hh 9999]

/-- What Orbit hands back. -/
def RetIt (ng : Bool) (nu de : ByteArray) (d : Int) (w : World) (e : Ending) (w' : World) : Prop :=
  ∃ gA gD, e = .returned (.func (.func 50) #[] #[.pointer (some ⟨gA, 0, none⟩), .pointer (some ⟨gD, 0, none⟩)]) ∧ Blk w' gA 25 #[.bool ng, .string nu, .string de] ∧ Blk w' gD 3 #[.int .i64 d] ∧ Below w.heap.size w w'

set_option maxRecDepth 100000 in
/-- angle.Orbit -/
theorem orbit_any (ng : Bool) (nu de : ByteArray) (d : Int) (w : World) :
    Calls Tryd.prog 29 #[.agg #[.bool ng, .string nu, .string de], .int .i64 d] w (RetIt ng nu de d w) := by
  have k1 := (Blk.new w 25 #[.bool ng, .string nu, .string de]).alloc (.cells #[.int .i64 d] 3)
  have k2 := Blk.new (w.alloc (.cells #[.bool ng, .string nu, .string de] 25)) 3 #[.int .i64 d]
  have hb : Below w.heap.size w ((w.alloc (.cells #[.bool ng, .string nu, .string de] 25)).alloc (.cells #[.int .i64 d] 3)) := ((Below.refl _ w).alloc (Nat.le_refl _) _).alloc (by simp) _
  replace k1 := Lib.hid k1
  replace k2 := Lib.hid k2
  replace hb := Lib.hid hb
  go_enter Tryd.func29, Tryd.ntmps29
  go_wp2_with fail
  go_ret
  exact ⟨_, _, rfl, k1.out, by simpa using k2.out, hb.out⟩

theorem gb_out {a A B : World} {r : Option Nat} {hi : Nat} (h : a.grownBy A r) (ho : OutB a.heap.size hi A B) : a.grownBy B r :=
  ⟨ho.os.trans h.os, ho.tape.trans h.tape, ho.output.trans h.output, Nat.le_trans h.size ho.size, fun k hk hne => (ho.block k (Nat.lt_of_lt_of_le hk h.size) (by omega)).trans (h.block k hk hne)⟩
theorem blk_out {A B : World} {g lo hi : Nat} {T : TypeId} {cs : Array Value} (h : Blk A g T cs) (hg : g < lo) (ho : OutB lo hi A B) : Blk B g T cs := (ho.block g h.lt (by omega)).trans h

/-- A function's way out, past one mark, past two. -/
theorem leaves_one {P : Program} {fn : Func} {tmps : Array Value} {R : Ending → World → Prop} {W : World} {v : Value} {D : Nat} (hK : W.heap[D]? = some (.deferred (some []))) (hr : (results fn tmps).run P (W.putObj D (.deferred none)) = .ok v (W.putObj D (.deferred none)))
    (hR : R (.returned v) (W.putObj D (.deferred none))) : LeavesInM Fence.wide 0 P fn tmps R [{ target := .collected D, args := #[] }] .returning W :=
  ⟨by simp, .inl ⟨_, _, rfl, run_takeDeferred hK, ⟨_, hr, hR⟩⟩⟩
theorem leaves_two {P : Program} {fn : Func} {tmps : Array Value} {R : Ending → World → Prop} {W : World} {v : Value} {D E : Nat} (hK : W.heap[D]? = some (.deferred (some []))) (hE : W.heap[E]? = some (.deferred (some []))) (hne : E ≠ D)
    (hr : (results fn tmps).run P ((W.putObj D (.deferred none)).putObj E (.deferred none)) = .ok v ((W.putObj D (.deferred none)).putObj E (.deferred none)))
    (hR : R (.returned v) ((W.putObj D (.deferred none)).putObj E (.deferred none))) : LeavesInM Fence.wide 0 P fn tmps R [{ target := .collected D, args := #[] }, { target := .collected E, args := #[] }] .returning W :=
  ⟨by simp, .inl ⟨_, _, rfl, run_takeDeferred hK, leaves_one ((World.putObj_heap_other hne).trans hE) hr hR⟩⟩
theorem blk_put {W : World} {g r : Nat} {T : TypeId} {cs : Array Value} (h : Blk W g T cs) (hne : g ≠ r) (o : Obj) : Blk (W.putObj r o) g T cs := (World.putObj_heap_other hne).trans h
theorem below_put {B r : Nat} {a W : World} (h : Below B a W) (hr : B ≤ r) (o : Obj) : Below B a (W.putObj r o) :=
  h.trans ⟨rfl, rfl, rfl, by simp, fun k hk => World.putObj_heap_other (by omega)⟩
theorem put_set {W : World} {D : Nat} {o : Obj} {p : Addr} (h : W.heap[D]? = some o) (hne : D ≠ p.block) (v : Value) : (W.setCell p v).heap[D]? = some o := (Below.heap_setCell W p v D hne).trans h
theorem gb_new {a b c : World} {g : Nat} (h : a.grownBy b none) (k : b.grownBy c (some g)) (hg : a.heap.size ≤ g) : a.grownBy c none :=
  ⟨k.os.trans h.os, k.tape.trans h.tape, k.output.trans h.output, Nat.le_trans h.size k.size, fun i hi hne => (k.block i (Nat.lt_of_lt_of_le hi h.size) (fun e => by injection e; omega)).trans (h.block i hi hne)⟩
theorem own_put {W : World} {base : Nat} {T : TypeId} {size : Nat} {v : Value} {n : Nat} {xs : List Value} (h : W.ownsRow base T size v n xs) {r : Nat} (hne : v.ownBlock ≠ some r) (o : Obj) : (W.putObj r o).ownsRow base T size v n xs :=
  h.kept (grownBy_putObj' W r o) (.inr hne)
theorem no_prefix {α : Type} {pre : List α} {x : α} (h : pre ++ [x] <+: []) : False := by
  have := List.prefix_nil.1 h
  simp at this

attribute [local go_sem] Oper.semAt_some
end Go.Proofs.YtbddlbhanpjdnaaDoor
