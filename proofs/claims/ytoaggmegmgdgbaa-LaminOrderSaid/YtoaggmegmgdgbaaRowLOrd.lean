/- The statement LaminOrder of filigreelaw23: the call returns true for any leaves, two leaves and ratio: leaves in another order, crossing the other way round, and moved round the circle; no condition. -/
import Derived.Test.YtoaggmegmgdgbaaLiftF
import Derived.Test.YtoaggmegmgdgbaaLiftL
import Derived.Test.YtoaggmegmgdgbaaLOrd
namespace Go.Proofs.Ytoaggmegmgdgbaa
open Go.ChangeShapes Go.WideShapes Go.ChangeAt Go.RowKit

set_option maxRecDepth 100000 in
theorem laminOrder_lifted (os : Os) (started : os.Started) (H : Type) (enc : TypeId × Value → H) :
    ReturnsInHanded {} Try.checked os 3 .any (Rows.laminOrderSpec.pre6 enc Try.prog Try.f3 Rows.laminOrderRow.domain false) (Rows.laminOrderSpec.post enc Try.prog Try.f3 false true false false) := by
  refine returnsInHanded_of_change (C := Try.checked) own_none started (by kernel_rfl) Try.func3
    (ChangeSpec.witness6 (enc := enc) (C := Try.checked) false ⟨#[], #[.slice none 0 0, .agg #[.bool false, .string ⟨#[]⟩, .string ⟨#[]⟩, .bool false, .string ⟨#[]⟩, .string ⟨#[]⟩], .agg #[.bool false, .string ⟨#[]⟩, .string ⟨#[]⟩, .bool false, .string ⟨#[]⟩, .string ⟨#[]⟩], .agg #[.bool false, .string ⟨#[]⟩, .string ⟨#[]⟩]], []⟩ 8 (by kernel_rfl) (by kernel_rfl) (by kernel_rfl) (by kernel_rfl)) ?_
  intro W base args ds gs before hval0 hW _ _
  have hval : ∀ (j : Nat) t v, Try.f3.params[j]? = some t → args[j]? = some v → Value.okWide Try.prog W .any base t v := hval0
  have hW' := hW
  obtain ⟨p, q, hA0, hV, rfl, _, _⟩ := hW
  have hA : DataW.TrodAll enc Try.prog W 0 (fun _ => true) true Try.f3.params.toList args.toList ds p := hA0
  rw [Try.params3] at hA hval
  obtain ⟨v0, v1, v2, v3, d0, d1, d2, d3, p0, p1, p2, p3, rfl, rfl, rfl, h0, h1, h2, h3⟩ := trodAll_four hA
  obtain ⟨rfl, rfl⟩ := trodVars_none hV
  obtain ⟨L0, r0, s0⟩ := leaves_open (hval 0 _ v0 rfl rfl) h0
  obtain ⟨n1, a1, e1, m1, b1, g1, rfl, z1, y1, x1, t1⟩ := leaf_open (hval 1 _ v1 rfl rfl)
  obtain ⟨n2, a2, e2, m2, b2, g2, rfl, z2, y2, x2, t2⟩ := leaf_open (hval 2 _ v2 rfl rfl)
  obtain ⟨n3, a3, e3, rfl, z3, y3⟩ := ratio_open (hval 3 _ v3 rfl rfl)
  refine (laminOrder_any v0 L0 n1 a1 e1 m1 b1 g1 n2 a2 e2 m2 b2 g2 n3 a3 e3 W r0 s0 z1 y1 x1 t1 z2 y2 x2 t2 z3 y3).mono fun e W' ⟨he, hb⟩ => ?_
  subst he
  exact ⟨_, rfl, post_law laid_out (by kernel_rfl) rfl hW' hb rfl rfl (fun _ _ _ => trodAll_mk1 (shut_bool Try.underlying4 _))⟩

theorem laminOrder_holds : Rows.LaminOrderSaid :=
  OpenClaim.holds_of_wide 3 Try.f3 rfl rfl rfl rfl rfl rfl rfl ⟨rfl, rfl, rfl, rfl, rfl⟩ rfl rfl rfl rfl rfl (by kernel_rfl) Try.func3 (by kernel_rfl)
    (of_decide_eq_true (by kernel_rfl)) (by unfold Func.isWrapper; first | (rw [if_pos (by decide +kernel)]; kernel_rfl) | (rw [if_neg (by decide +kernel)]; exact ⟨rfl, rfl⟩))
    (fun os started H enc _ => laminOrder_lifted os started H enc)
#print axioms laminOrder_holds
end Go.Proofs.Ytoaggmegmgdgbaa
