import Derived.Test.YtoaggmegmgdgbaaGreatLiftF
import Derived.Test.YtoaggmegmgdgbaaGreatPlay0
namespace Go.Proofs.YtoaggmegmgdgbaaGreat
open Go.ChangeShapes Go.WideShapes Go.ChangeAt Go.RowKit Go.Deep
set_option maxRecDepth 100000 in
theorem step_cells {H : Type} {enc : TypeId × Value → H} {w : World} {base : Nat} {sp : Nat → Bool} {held : Bool} {n : Nat} {cs : List Value} {x : DataW H × List MemPlace} (h : DataW.trod enc Tryz.prog w base sp held n 91 cs = some x) :
    ∃ r : RawS, cs = encT r ∧ szT r := by
  obtain ⟨xs, k, hk, hxy, hlen, hxl, hf⟩ := DataW.trod_struct Tryz.underlying91 h
  rw [show Tryz.prog.cellsOf 91 = 8 by kernel_rfl] at hlen
  have c0 : Tryz.prog.cellsOf 3 = 1 := by kernel_rfl
  have c1 : Tryz.prog.cellsOf 38 = 6 := by kernel_rfl
  match cs, hlen with
  | [v0, v1, v2, v3, v4, v5, v6, v7], _ =>
    match xs, hxl with
    | [y0, y1, y2], _ =>
      have g0 := hf 0 _ rfl
      have g1 := hf 1 _ rfl
      have g2 := hf 2 _ rfl
      simp [c0, c1] at g0 g1 g2
      obtain ⟨a, e0, -⟩ := DataW.trod_int Tryz.underlying3 g0
      obtain ⟨r, e1, hr⟩ := leaf_cells g1
      obtain ⟨b, e2, -⟩ := DataW.trod_int Tryz.underlying3 g2
      simp only [List.cons.injEq, and_true] at e0 e2
      simp only [encR, List.cons.injEq, and_true] at e1
      obtain ⟨q1, q2, q3, q4, q5, q6⟩ := e1
      rw [e0, e2, q1, q2, q3, q4, q5, q6]
      exact ⟨(a, r, b), rfl, hr⟩
set_option maxRecDepth 100000 in
theorem steps_open {H : Type} {enc : TypeId × Value → H} {W : World} {base : Nat} {v : Value} {d : DataW H} {ps : List MemPlace}
    (hv : Value.okWide Tryz.prog W .any base 89 v) (h : DataW.Trod enc Tryz.prog W 0 (fun _ => true) true 89 v d ps) : ∃ Ls : List RawS, RdK 8 encT W v Ls ∧ (∀ r, r ∈ Ls → szT r) :=
  rows_open Tryz.underlying89 (by kernel_rfl) (by decide) (okWide_slice Tryz.underlying89 hv) (fun h => step_cells h) h
end Go.Proofs.YtoaggmegmgdgbaaGreat
