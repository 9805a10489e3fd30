import Derived.Test.YtoaggmegmgdgbaaGreatRows
import Derived.ProofKit
import Derived.Lib.SmallJoins
import Derived.Test.YtoaggmegmgdgbaaGreatMem
import Derived.ChangeSlices
import Derived.SizedLaws
namespace Go.Proofs.YtoaggmegmgdgbaaGreat
open Go.ChangeShapes Go.WideShapes Go.ChangeAt Go.RowKit
theorem own_none : ownKnob Tryz.prog.godebug = none := by kernel_rfl
theorem laid_out : laidOutB Tryz.prog = true := by kernel_rfl
section
variable {H : Type} {enc : TypeId × Value → H} {P : Program}
theorem args_later (hl : laidOutB P = true) {W W' : World} (hb : Below W.heap.size W W') :
    ∀ {ts : List TypeId} {vs : List Value} {ds : List (DataW H)} {ps : List MemPlace}, (ts.all fun t => P.readableRec t && decide (t < P.types.size)) = true →
      DataW.TrodAll enc P W 0 (fun _ => true) true ts vs ds ps → (∀ x ∈ ps, x.block < W.heap.size) → DataW.TrodAll enc P W' 0 (fun b => decide (b < W.heap.size)) true ts vs ds ps
  | [], [], [], _, _, h, _ => h
  | [], _ :: _, _, _, _, h, _ => h.elim
  | [], [], _ :: _, _, _, h, _ => h.elim
  | _ :: _, [], _, _, _, h, _ => h.elim
  | _ :: _, _ :: _, [], _, _, h, _ => h.elim
  | t :: ts, v :: vs, d :: ds, ps, ht, ⟨p, q, h1, h2, h3⟩, hlt => by
    simp only [List.all_cons, Bool.and_eq_true, decide_eq_true_eq] at ht
    obtain ⟨⟨r1, r2⟩, r3⟩ := ht
    exact ⟨p, q, Below.trod hl r1 r2 h1 hb (fun x hx => hlt x (by rw [h3]; simp [hx])), args_later hl hb (by simpa using r3) h2 (fun x hx => hlt x (by rw [h3]; simp [hx])), h3⟩
theorem post_law {f : Func} {s : ChangeSpec} {apart fresh handsOn : Bool} {W W' : World} {args : Array Value} {v : Value} {ds gs : List (DataW H)} {before : List MemPlace}
    (hl : laidOutB P = true) (hts : (f.params.toList.all fun t => P.readableRec t && decide (t < P.types.size)) = true) (hvs : s.vars = [])
    (hW : DataW.Whole enc P f.params.toList s.vars apart W args.toList ds gs before) (hb : Below W.heap.size W W')
    (hfa : (s.fn H (ds ++ gs)).args = ds) (hfv : (s.fn H (ds ++ gs)).vars = gs)
    (hres : ∀ (b : Nat) (sp : Nat → Bool) (hd : Bool), DataW.TrodAll enc P W' b sp hd f.resultTypes.toList (v.resultList f.resultTypes.size) (s.fn H (ds ++ gs)).results []) :
    s.post enc P f apart fresh handsOn false W args v W' := by
  have hlt : ∀ p ∈ before, p.block < W.heap.size := fun p hp => hW.lt p hp
  obtain ⟨p, q, h1, h2, h3, -, -⟩ := id hW
  refine ⟨ds, gs, before, [], p, q, hW, hres _ _ _, ?_, ?_, hb.frame _, fun h => nomatch h⟩
  · rw [hfa]
    exact args_later hl hb hts h1 (fun x hx => hlt x (by rw [h3]; simp [hx]))
  · rw [hfv]
    rw [hvs] at h2 ⊢
    obtain ⟨rfl, rfl⟩ := trodVars_none h2
    rfl
end
open Go.ChangeShapes Go.WideShapes Go.ChangeAt Go.RowKit
set_option maxRecDepth 100000 in
theorem ratio_open {W : World} {base : Nat} {v : Value} (h : Value.okWide Tryz.prog W .any base 26 v) :
    ∃ (ng : Bool) (nu de : ByteArray), v = .agg #[.bool ng, .string nu, .string de] ∧ nu.size ≤ 9223372036854775807 ∧ de.size ≤ 9223372036854775807 := by
  simp only [Value.okWide, Tryz.underlying26] at h
  obtain ⟨cs, rfl, hs, ts, h1, -, h3⟩ := h
  have e1 : Tryz.prog.cellTypes Tryz.prog.depth 26 = some [4, 24, 24] := by kernel_rfl
  have e2 : Tryz.prog.cellsOf 26 = 3 := by kernel_rfl
  rw [e1] at h1
  injection h1 with h1
  subst h1
  rw [e2] at hs
  obtain ⟨c0, c1, c2, rfl⟩ := Go.Joins.array3 hs
  obtain ⟨u0, hu0, k0⟩ := h3 0 c0 rfl
  obtain ⟨u1, hu1, k1⟩ := h3 1 c1 rfl
  obtain ⟨u2, hu2, k2⟩ := h3 2 c2 rfl
  simp at hu0 hu1 hu2
  subst hu0 hu1 hu2
  simp only [Cell.okWide, Cell.ok, Tryz.underlying4] at k0
  simp only [Cell.okWide, Cell.ok, Tryz.underlying24] at k1 k2
  cases c0 <;> try exact k0.elim
  cases c1 <;> try exact k1.elim
  cases c2 <;> try exact k2.elim
  have mx : IntKind.i64.max = ((9223372036854775807 : Nat) : Int) := by decide
  refine ⟨_, _, _, rfl, Int.ofNat_le.1 ?_, Int.ofNat_le.1 ?_⟩
  · rw [← mx]; exact k1
  · rw [← mx]; exact k2
open Go.ChangeShapes Go.WideShapes Go.ChangeAt Go.RowKit
open Go.ChangeShapes Go.WideShapes Go.ChangeAt Go.RowKit
end Go.Proofs.YtoaggmegmgdgbaaGreat
