import Derived.Test.YtoaggmegmgdgbaaGreatROpen
import Derived.Test.YtoaggmegmgdgbaaGreatGapC
import Derived.Test.YtoaggmegmgdgbaaGreatLamO
namespace Go.Proofs.YtoaggmegmgdgbaaGreat
open Go.RowKit Go.Sort Go.Maps
theorem NestP.pushR {α : Type} {B : Nat} {e oe : TypeId} {size : Nat} {enc : α → List Value} {vs : List Value} {out : List (List α)} {v v' u : Value} {w w' : World} {X : List It} {xs : List α}
    (h : NestP w B oe e size enc (X ++ [itRow B e size u xs.length (xs.flatMap enc)]) v vs out) (hg : w.grownBy w' v.ownBlock) (hrow : w'.ownsRow B oe 1 v' (vs.length + 1) (vs ++ [u])) (hloc : v'.ownBlock = v.ownBlock ∨ v'.ownBlock = some w.heap.size) : NestP w' B oe e size enc X v' (vs ++ [u]) (out ++ [xs]) := by
  obtain ⟨h1, h2⟩ := h
  have h3 := h2.upd (a' := itRow B oe 1 v' (vs ++ [u]).length (vs ++ [u])) hg (by rw [List.length_append]; exact hrow) (fun k hk => by
    have hk : v'.ownBlock = some k := hk
    show v.ownBlock = some k ∨ _
    rcases hloc with e1 | e1
    · exact .inl (by rw [← e1]; exact hk)
    · right; rw [e1] at hk; injection hk with hk; omega)
  refine ⟨by simp [h1], ?_⟩
  rw [inIts_snoc h1]
  refine h3.perm ?_
  rw [List.append_assoc]
  refine List.Perm.append_left X ?_
  refine (List.perm_append_comm (l₁ := [itRow B e size u xs.length (xs.flatMap enc)])).trans ?_
  rw [List.cons_append]
theorem gb_of_but {A B : World} {g : Nat} (h : But (fun k => k = g) A B) : A.grownBy B (some g) := ⟨h.os, h.tape, h.output, h.size, fun k hk hn => h.block k hk (fun e => hn (by rw [e]))⟩
theorem But.set1 (A : World) (g j : Nat) (v : Value) : But (fun k => k = g) A (A.setCell ⟨g, j, none⟩ v) := by
  have q : But (fun k => k = g) A A := But.refl _ A
  exact q.setCell (p := ⟨g, j, none⟩) (Or.inl (rfl : g = g)) v
theorem gb_bel {A B : World} (h : Below A.heap.size A B) : A.grownBy B none := ⟨h.os, h.tape, h.output, h.size, fun k hk _ => h.block k hk⟩
theorem grpG_ilen {α β : Type} [DecidableEq α] {κ : Nat → α} {arc : Nat → β} (k : Nat) : ∀ x, x ∈ grpG κ arc k → x.length ≤ k := fun x hx => by
  obtain ⟨r, -, rfl⟩ := List.mem_map.1 hx
  rw [List.length_map]
  have := List.length_filter_le (fun j => decide (κ j = κ r)) (List.range k)
  rw [List.length_range] at this
  exact this
end Go.Proofs.YtoaggmegmgdgbaaGreat
