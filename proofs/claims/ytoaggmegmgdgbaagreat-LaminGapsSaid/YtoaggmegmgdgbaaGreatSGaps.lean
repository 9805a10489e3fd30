import Derived.Test.YtoaggmegmgdgbaaGreatRGaps
namespace Go.Proofs.YtoaggmegmgdgbaaGreat
open Go.RowKit Go.Sort Go.Maps
section
variable {α : Type} {B B2 : Nat} {e oe : TypeId} {size : Nat} {enc : α → List Value} {us vs : List Value} {out out2 : List (List α)} {u v : Value} {w w' : World} {X : List It}
end
theorem row_cell6 {w : World} {B g n cap : Nat} {T : TypeId} {x : List Lf} (h : w.ownsRow B T 6 (.slice (some ⟨g, 0, none⟩) n cap) n (x.flatMap leafE)) {i : Nat} (hi : i < x.length) (hn : n = x.length) : ∀ (j : Nat) (u : Value), (leafE x[i]!)[j]? = some u → w.cell? ⟨g, i * 6 + j, none⟩ = some u := fun j u hu => by
  subst hn
  have hj : j < 6 := (List.getElem?_eq_some_iff.1 hu).1
  have e := flatMap_get leafE 6 (fun _ => rfl) x i j hi hj
  rw [← getElem!_pos x i hi, hu] at e
  rw [World.ownsRow.cellAt h _ (by omega)]
  exact e
end Go.Proofs.YtoaggmegmgdgbaaGreat
