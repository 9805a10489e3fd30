import Derived.Test.YtoaggmegmgdgbaaGreatLamR
import Derived.Test.YtoaggmegmgdgbaaGreatLamK
import Derived.Deep.CutBlock
import Derived.Deep.CutRange
namespace Go.Proofs.YtoaggmegmgdgbaaGreat
open Go.RowKit Go.Sort
section
variable {A B : World} {r : Nat → Prop} {g : Nat} {T : TypeId} {cs : Array Value} {base x : Nat} {v : Value} {L : List Lf}
theorem Blk.but (h : Blk A g T cs) (hb : But r A B) (hr : ¬ r g) : Blk B g T cs := (hb.block g h.lt hr).trans h
theorem LRow.but (h : LRow A base v L) (hb : But r A B) (hr : ∀ k, v.ownBlock = some k → ¬ r k) : LRow B base v L := by
  obtain ⟨h1, h2⟩ := h
  refine ⟨h1, h2.imp id ?_⟩
  rintro ⟨g, cap, cur, rfl, hbs, hg, rest⟩
  have hlt : g < A.heap.size := by
    rcases Nat.lt_or_ge g A.heap.size with h | h
    · exact h
    · rw [Array.getElem?_eq_none h] at hg; cases hg
  exact ⟨g, cap, cur, rfl, hbs, (hb.block g hlt (hr g rfl)).trans hg, rest⟩
theorem LamS.but (h : LamS A base x v L) (hb : But r A B) (hx : ¬ r x) (hr : ∀ k, v.ownBlock = some k → ¬ r k) : LamS B base x v L := ⟨⟨Blk.but h.lam.blk hb hx, LRow.but h.lam.row hb hr, h.lam.base⟩, h.ok, h.len⟩
end
open Go.RowKit Go.Sort
section
variable {A B : World} {base x : Nat} {v : Value} {L : List Lf}
end
end Go.Proofs.YtoaggmegmgdgbaaGreat
