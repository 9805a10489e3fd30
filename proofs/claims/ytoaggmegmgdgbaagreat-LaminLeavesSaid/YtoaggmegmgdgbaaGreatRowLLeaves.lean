/- The statement LaminLeaves of filigreelaw23: the call returns true for any two leaves, two ratios and a whole number: Check, Make, Cross and Turn tell what the document says; no condition. -/
import Derived.Test.YtoaggmegmgdgbaaGreatLiftL
import Derived.Test.YtoaggmegmgdgbaaGreatLiftB
import Derived.Test.YtoaggmegmgdgbaaGreatLamN
namespace Go.Proofs.YtoaggmegmgdgbaaGreat
open Go.ChangeShapes Go.WideShapes Go.ChangeAt Go.RowKit

set_option maxRecDepth 100000 in
theorem laminLeaves_lifted (os : Os) (started : os.Started) (H : Type) (enc : TypeId × Value → H) :
    ReturnsInHanded {} Tryz.checked os 4 .any (Rows.laminLeavesSpec.pre6 enc Tryz.prog Tryz.f4 Rows.laminLeavesRow.domain false) (Rows.laminLeavesSpec.post enc Tryz.prog Tryz.f4 false true false false) := by
  refine returnsInHanded_of_change (C := Tryz.checked) own_none started (by kernel_rfl) Tryz.func4
    (ChangeSpec.witness6 (enc := enc) (C := Tryz.checked) false ⟨#[], #[.agg #[.bool false, .string ⟨#[]⟩, .string ⟨#[]⟩, .bool false, .string ⟨#[]⟩, .string ⟨#[]⟩], .agg #[.bool false, .string ⟨#[]⟩, .string ⟨#[]⟩, .bool false, .string ⟨#[]⟩, .string ⟨#[]⟩], .agg #[.bool false, .string ⟨#[]⟩, .string ⟨#[]⟩], .agg #[.bool false, .string ⟨#[]⟩, .string ⟨#[]⟩], .int .i64 0], []⟩ 8 (by kernel_rfl) (by kernel_rfl) (by kernel_rfl) (by kernel_rfl)) ?_
  intro W base args ds gs before hval0 hW _ _
  have hval : ∀ (j : Nat) t v, Tryz.f4.params[j]? = some t → args[j]? = some v → Value.okWide Tryz.prog W .any base t v := hval0
  have hW' := hW
  obtain ⟨p, q, hA0, hV, rfl, _, _⟩ := hW
  have hA : DataW.TrodAll enc Tryz.prog W 0 (fun _ => true) true Tryz.f4.params.toList args.toList ds p := hA0
  rw [Tryz.params4] at hA hval
  obtain ⟨v0, v1, v2, v3, v4, d0, d1, d2, d3, d4, p0, p1, p2, p3, p4, rfl, rfl, rfl, h0, h1, h2, h3, h4⟩ := trodAll_five hA
  obtain ⟨rfl, rfl⟩ := trodVars_none hV
  obtain ⟨n0, a0, e0, m0, b0, g0, rfl, z0, y0, x0, t0⟩ := leaf_open (hval 0 _ v0 rfl rfl)
  obtain ⟨n1, a1, e1, m1, b1, g1, rfl, z1, y1, x1, t1⟩ := leaf_open (hval 1 _ v1 rfl rfl)
  obtain ⟨n2, a2, e2, rfl, z2, y2⟩ := ratio_open (hval 2 _ v2 rfl rfl)
  obtain ⟨n3, a3, e3, rfl, z3, y3⟩ := ratio_open (hval 3 _ v3 rfl rfl)
  obtain ⟨x4, rfl, rfl, rfl, w4⟩ := open_int Tryz.underlying3 (hval 4 _ v4 rfl rfl) h4
  refine (laminLeaves_any n0 a0 e0 m0 b0 g0 n1 a1 e1 m1 b1 g1 n2 a2 e2 n3 a3 e3 x4 W z0 y0 x0 t0 z1 y1 x1 t1 z2 y2 z3 y3).mono fun e W' ⟨he, hb⟩ => ?_
  subst he
  exact ⟨_, rfl, post_law laid_out (by kernel_rfl) rfl hW' hb rfl rfl (fun _ _ _ => trodAll_mk1 (shut_bool Tryz.underlying4 _))⟩

theorem laminLeaves_holds : Rows.LaminLeavesSaid :=
  OpenClaim.holds_of_wide 4 Tryz.f4 rfl rfl rfl rfl rfl rfl rfl ⟨rfl, rfl, rfl, rfl, rfl⟩ rfl rfl rfl rfl rfl (by kernel_rfl) Tryz.func4 (by kernel_rfl)
    (of_decide_eq_true (by kernel_rfl)) (by unfold Func.isWrapper; first | (rw [if_pos (by decide +kernel)]; kernel_rfl) | (rw [if_neg (by decide +kernel)]; exact ⟨rfl, rfl⟩))
    (fun os started H enc _ => laminLeaves_lifted os started H enc)
#print axioms laminLeaves_holds
end Go.Proofs.YtoaggmegmgdgbaaGreat
