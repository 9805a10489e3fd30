import Derived.Test.YtoaggmegmgdgbaaGreatInsB
import Derived.Test.YtoaggmegmgdgbaaGreatLamP
import Derived.Test.YtoaggmegmgdgbaaGreatLamK
namespace Go.Proofs.YtoaggmegmgdgbaaGreat
open Go.RowKit Go.Sort
structure LamS (w : World) (B x : Nat) (v : Value) (L : List Lf) : Prop where
  lam : Lam w B x v L
  ok : LOk L
  len : L.length ≤ 4096
theorem LamS.below {w w' : World} {B x : Nat} {v : Value} {L : List Lf} (h : LamS w B x v L) (hb : Below w.heap.size w w') : LamS w' B x v L := ⟨h.lam.below hb, h.ok, h.len⟩
theorem LamS.alloc {w : World} {B x : Nat} {v : Value} {L : List Lf} (h : LamS w B x v L) (o : Obj) : LamS (w.alloc o) B x v L := ⟨h.lam.alloc o, h.ok, h.len⟩
theorem LamS.base {w : World} {B x : Nat} {v : Value} {L : List Lf} (h : LamS w B x v L) : B ≤ w.heap.size := Nat.le_of_lt (Nat.lt_of_le_of_lt h.lam.base h.lam.blk.lt)
theorem Lam.apart {w : World} {B x : Nat} {v : Value} {L : List Lf} (h : Lam w B x v L) : v.ownBlock ≠ some x := fun e => by
  rcases h.row.2 with ⟨rfl, -⟩ | ⟨g, cap, cur, rfl, -, hg, -⟩
  · cases e
  · have e : some g = some x := e
    injection e with e
    subst e
    have h1 := (show w.heap[g]? = _ from h.blk).symm.trans hg
    injection h1 with h1
    injection h1 with h1 h2 h3
    exact absurd h2 (by decide)
theorem Lam.old {w : World} {B x : Nat} {v : Value} {L : List Lf} (h : Lam w B x v L) : ∀ k, k = x ∨ v.ownBlock = some k → B ≤ k ∧ k < w.heap.size := fun k hk => by
  rcases hk with rfl | hk
  · exact ⟨h.base, h.blk.lt⟩
  · exact World.ownsRow.lt h.row k hk
theorem noCross_iff {L : List Lf} {l : Lf} : noCross l L ↔ L.any (crossP l) = false := by
  rw [Bool.eq_false_iff]
  constructor
  · intro h e
    obtain ⟨m, hm, e⟩ := List.any_eq_true.1 e
    obtain ⟨i, hi, rfl⟩ := List.mem_iff_getElem.1 hm
    have := h i hi
    rw [getElem!_pos L i hi] at this
    unfold crossP at e
    rw [this] at e
    cases e
  · intro h t ht
    rcases hp : partsP l L[t]!.1 L[t]!.2 with _ | _
    · rfl
    · exact absurd (List.any_eq_true.2 ⟨L[t]!, getBang_mem ht, hp⟩) h
theorem addL_putL {L : List Lf} {l : Lf} (h1 : l ∉ L) (h2 : ¬ L.any (crossP l) = true) (h3 : ¬ 4096 ≤ L.length) : addL L l = (putL L l (plcL L l), 0) := by
  unfold addL; rw [if_neg h1, if_neg h2, if_neg h3]
def hasR (L : List Lf) (n1 : Bool) (a1 d1 : ByteArray) (n2 : Bool) (a2 d2 : ByteArray) : Bool :=
  decide (chkLf n1 a1 d1 n2 a2 d2 = 0 ∧ ((be (sl a1), be (sl d1)), (be (sl a2), be (sl d2))) ∈ L)
theorem lHas_all (B x : Nat) (v : Value) (L : List Lf) (n1 : Bool) (a1 d1 : ByteArray) (n2 : Bool) (a2 d2 : ByteArray) (w : World) (hS : LamS w B x v L) (z1 : a1.size ≤ 9223372036854775807) (y1 : d1.size ≤ 9223372036854775807) (z2 : a2.size ≤ 9223372036854775807) (y2 : d2.size ≤ 9223372036854775807) :
    Calls Tryz.prog 42 #[.pointer (some ⟨x, 0, none⟩), .agg #[.bool n1, .string a1, .string d1, .bool n2, .string a2, .string d2]] w (RetVal (.bool (hasR L n1 a1 d1 n2 a2 d2)) w) := by
  by_cases h : chkLf n1 a1 d1 n2 a2 d2 = 0
  · have hz := h
    obtain ⟨l, k1, k2, rfl, rfl, rfl, rfl, rfl, rfl⟩ := chkLf_zero h
    have hP := Plc.of_up hS.ok.ang k1 hS.ok.up
    have h1 := lHas_any B x _ v L l w hS.lam k1 k2 hS.ok.ang hP hS.len
    have e : hasR L false (natS l.1.1) (natS l.1.2) false (natS l.2.1) (natS l.2.2) = decide (plcL L l < L.length ∧ L[plcL L l]! = l) := by
      unfold hasR
      rw [be_natS, be_natS, be_natS, be_natS]
      exact decide_eq_decide.2 (⟨fun h => (hP.has hS.ok.ang hS.ok.up).2 h.2, fun h => ⟨hz, (hP.has hS.ok.ang hS.ok.up).1 h⟩⟩)
    rw [e]
    exact h1
  · have h1 := lHas_bad n1 a1 d1 n2 a2 d2 w x v hS.lam.blk z1 y1 z2 y2 h
    have e : hasR L n1 a1 d1 n2 a2 d2 = false := decide_eq_false (fun k => h k.1)
    rw [e]
    exact h1
theorem row_monoL {w : World} {B B' : Nat} {v : Value} {L : List Lf} (h : LRow w B v L) (hb : B' ≤ B) : LRow w B' v L := by
  refine ⟨h.1, h.2.imp id ?_⟩
  rintro ⟨g, cap, cur, rfl, h1, rest⟩
  exact ⟨g, cap, cur, rfl, Nat.le_trans hb h1, rest⟩
open Go.RowKit Go.Sort
def RdK {α : Type} [Inhabited α] (k : Nat) (enc : α → List Value) (w : World) (v : Value) (Ls : List α) : Prop :=
  ∃ A c, v = .slice A Ls.length c ∧ (0 < Ls.length → ∃ g o, A = some ⟨g, o, none⟩ ∧ ∀ i, i < Ls.length → ∀ (j : Nat) (u : Value), (enc Ls[i]!)[j]? = some u → w.cell? ⟨g, o + i * k + j, none⟩ = some u)
theorem RdK.below {α : Type} [Inhabited α] {k : Nat} {enc : α → List Value} {w w' : World} {v : Value} {Ls : List α} (h : RdK k enc w v Ls) (hb : Below w.heap.size w w') : RdK k enc w' v Ls := by
  obtain ⟨A, c, rfl, h⟩ := h
  refine ⟨A, c, rfl, fun h0 => ?_⟩
  obtain ⟨g, o, e, h2⟩ := h h0
  refine ⟨g, o, e, fun i hi j u hu => ?_⟩
  have h1 := h2 i hi j u hu
  rw [hb.cell (block_lt_of_cell h1)]
  exact h1
theorem lLenS (B x : Nat) (v : Value) (L : List Lf) (w : World) (hS : LamS w B x v L) : Calls Tryz.prog 29 #[.pointer (some ⟨x, 0, none⟩)] w (RetVal (.int .i64 (L.length : Int)) w) := by
  obtain ⟨A, c, rfl, -⟩ := LRow.form hS.lam.row
  exact lLen_any x true A L.length c w hS.lam.blk
end Go.Proofs.YtoaggmegmgdgbaaGreat
