/- Package lamin: Open, Close. · Package lamin: Close. -/
import Derived.Test.YtoaggmegmgdgbaaLamR
import Derived.Test.YtoaggmegmgdgbaaLamK
import Derived.Deep.CutBlock
import Derived.Deep.CutRange
namespace Go.Proofs.Ytoaggmegmgdgbaa
open Go.RowKit Go.Sort

/-- What Open's closure tells. -/
def open1 (L : List Lf) (l : Lf) (d : Int) : Bool × Int := if roundB d then (opensL L d.toNat l, 0) else (false, 2)
theorem leafV_cells (l : Lf) : leafV l = .agg #[.bool false, .string (natS l.1.1), .string (natS l.1.2), .bool false, .string (natS l.2.1), .string (natS l.2.2)] := rfl

def fq : Option Lf → Bool × ByteArray × ByteArray × ByteArray × ByteArray
  | some l => (true, natS l.1.1, natS l.1.2, natS l.2.1, natS l.2.2)
  | none => (false, ⟨#[]⟩, ⟨#[]⟩, ⟨#[]⟩, ⟨#[]⟩)
section
variable {A B : World} {r : Nat → Prop} {g : Nat} {T : TypeId} {cs : Array Value} {base x : Nat} {v : Value} {L : List Lf}
theorem Blk.but (h : Blk A g T cs) (hb : But r A B) (hr : ¬ r g) : Blk B g T cs := (hb.block g h.lt hr).trans h
theorem LRow.but (h : LRow A base v L) (hb : But r A B) (hr : ∀ k, v.ownBlock = some k → ¬ r k) : LRow B base v L := by
  obtain ⟨h1, h2⟩ := h
  refine ⟨h1, h2.imp id ?_⟩
  rintro ⟨g, cap, cur, rfl, hbs, hg, rest⟩
  have hlt : g < A.heap.size := by
    rcases Nat.lt_or_ge g A.heap.size with h | h
    · exact h
    · rw [Array.getElem?_eq_none h] at hg; cases hg
  exact ⟨g, cap, cur, rfl, hbs, (hb.block g hlt (hr g rfl)).trans hg, rest⟩
theorem LamS.but (h : LamS A base x v L) (hb : But r A B) (hx : ¬ r x) (hr : ∀ k, v.ownBlock = some k → ¬ r k) : LamS B base x v L := ⟨⟨Blk.but h.lam.blk hb hx, LRow.but h.lam.row hb hr, h.lam.base⟩, h.ok, h.len⟩
theorem But.set6 (A : World) (g : Nat) (v0 v1 v2 v3 v4 v5 : Value) : But (fun k => k = g) A ((((((A.setCell ⟨g, 0, none⟩ v0).setCell ⟨g, 1, none⟩ v1).setCell ⟨g, 2, none⟩ v2).setCell ⟨g, 3, none⟩ v3).setCell ⟨g, 4, none⟩ v4).setCell ⟨g, 5, none⟩ v5) := by
  have q : But (fun k => k = g) A A := But.refl _ A
  have q0 := q.setCell (p := ⟨g, 0, none⟩) (Or.inl (rfl : g = g)) v0
  have q1 := q0.setCell (p := ⟨g, 1, none⟩) (Or.inl (rfl : g = g)) v1
  have q2 := q1.setCell (p := ⟨g, 2, none⟩) (Or.inl (rfl : g = g)) v2
  have q3 := q2.setCell (p := ⟨g, 3, none⟩) (Or.inl (rfl : g = g)) v3
  have q4 := q3.setCell (p := ⟨g, 4, none⟩) (Or.inl (rfl : g = g)) v4
  exact q4.setCell (p := ⟨g, 5, none⟩) (Or.inl (rfl : g = g)) v5
theorem But.toBelow' {n : Nat} (h : But r A B) (hn : n ≤ A.heap.size) (hr : ∀ k, r k → n ≤ k) : Below n A B := h.toBelow hn (fun k hk e => by have := hr k e; omega)
end
theorem openV_step {L : List Lf} {d : Int} (h0 : L ≠ []) (h1 : roundB d = true) : openV L d = match L.find? (opensL L d.toNat) with | some l => (leafV l, true, 0) | none => (leaf0, false, 0) := by
  unfold openV openL
  rw [if_neg h0, h1, if_pos rfl]
  rcases L.find? (opensL L d.toNat) with _ | _ <;> rfl

end Go.Proofs.Ytoaggmegmgdgbaa

namespace Go.Proofs.Ytoaggmegmgdgbaa
open Go.RowKit Go.Sort

/-- Turned leaves are added until none is lacking: k rounds are left. -/
def closeS (d : Int) (k : Nat) (L : List Lf) : List Lf × Int := if L = [] then (L, 0) else if roundB d then closeL d.toNat k L else (L, 2)
/-- What Close makes of a lamination. -/
def closeR (L : List Lf) (d : Int) : List Lf × Int := if (closeS d 4097 L).2 = 0 then closeS d 4097 L else (L, (closeS d 4097 L).2)
theorem openV_cases (L : List Lf) (d : Int) (hL : ∀ l, l ∈ L → AngL l) : (openV L d = (leaf0, false, 2) ∧ L ≠ [] ∧ roundB d = false) ∨ (openV L d = (leaf0, false, 0) ∧ (L = [] ∨ (L ≠ [] ∧ roundB d = true ∧ openL L d.toNat = none))) ∨
    (∃ l m, openV L d = (leafV l, true, 0) ∧ L ≠ [] ∧ roundB d = true ∧ openL L d.toNat = some l ∧ turnP d.toNat l = some m ∧ m ∉ L ∧ AngL l ∧ Lfp m ∧ turnLf l d = (leafV m, true, 0)) := by
  by_cases h0 : L = []
  · exact .inr (.inl ⟨by rw [openV, if_pos h0], .inl h0⟩)
  cases h1 : roundB d
  · exact .inl ⟨by rw [openV, if_neg h0, h1]; rfl, h0, rfl⟩
  rcases ho : openL L d.toNat with _ | l
  · exact .inr (.inl ⟨by rw [openV, if_neg h0, h1, if_pos rfl, ho], .inr ⟨h0, rfl, rfl⟩⟩)
  · obtain ⟨k1, m, k2, k3⟩ := openL_some ho
    refine .inr (.inr ⟨l, m, by rw [openV, if_neg h0, h1, if_pos rfl, ho], h0, rfl, rfl, k2, k3, hL l k1, turnP_lfp (hL l k1) k2, ?_⟩)
    rw [turnLf_turnP h1, k2]
theorem closeS_stop {d : Int} {k : Nat} {L : List Lf} (h : L = [] ∨ (L ≠ [] ∧ roundB d = true ∧ openL L d.toNat = none)) : closeS d k L = (L, 0) := by
  unfold closeS
  rcases h with h | ⟨h0, h1, h2⟩
  · rw [if_pos h]
  · rw [if_neg h0, h1, if_pos rfl, closeL_done h2]
theorem closeS_step {d : Int} {k : Nat} {L : List Lf} {l m : Lf} (h0 : L ≠ []) (h1 : roundB d = true) (h2 : openL L d.toNat = some l) (h3 : turnP d.toNat l = some m) :
    closeS d (k + 1) L = if (addL L m).2 = 0 then closeS d k (addL L m).1 else (L, (addL L m).2) := by
  unfold closeS
  rw [if_neg h0, h1, if_pos rfl, closeL, h2]
  simp only [h3]
  split
  · rw [if_neg (fun e => by have := addL_has (L := L) (l := m) ‹_›; rw [e] at this; cases this)]; simp
  · rfl
section
variable {A B : World} {base x : Nat} {v : Value} {L : List Lf}
theorem LamS.old {n : Nat} (h : LamS A base x v L) (hb : Below n A B) (hn : A.heap.size ≤ n) : LamS B base x v L := h.below ⟨hb.os, hb.tape, hb.output, hb.size, fun k hk => hb.block k (by omega)⟩
/-- The row of one lamination becomes another's. -/
theorem LamS.take {y : Nat} {vy : Value} {M : List Lf} {base2 : Nat} (h : LamS A base x v L) (k : LamS A base2 y vy M) (hb : base ≤ base2) : LamS (A.setCell ⟨x, 1, none⟩ vy) base x vy M :=
  ⟨⟨Blk.set_ h.lam.blk 1 vy, by
    have h1 := row_monoL k.lam.row hb
    have h2 := LRow.set (x := x) (j := 1) (u := vy) h1 h.lam.blk
    exact h2, h.lam.base⟩, k.ok, k.len⟩
end

end Go.Proofs.Ytoaggmegmgdgbaa
