import Derived.Test.YtoaggmegmgdgbaaGreatLiftF
import Derived.Test.YtoaggmegmgdgbaaGreatLiftL
import Derived.Test.YtoaggmegmgdgbaaGreatLGrp
namespace Go.Proofs.YtoaggmegmgdgbaaGreat
open Go.ChangeShapes Go.WideShapes Go.ChangeAt Go.RowKit
set_option maxRecDepth 100000 in
theorem nil_slice {H : Type} {enc : TypeId × Value → H} {W : World} {v : Value} {d : DataW H} {ps : List MemPlace} {t e : TypeId}
    (ht : Tryz.prog.underlying t = some (.slice e)) (hv : ∃ a0 len cap, v = .slice a0 len cap)
    (h : DataW.Trod enc Tryz.prog W 0 (fun _ => true) true t v d ps) : ∀ n c, v = .slice none n c → c = 0 := by
  obtain ⟨a0, len, cap, rfl⟩ := hv
  obtain ⟨fuel, hf⟩ := h
  intro n c e
  rcases Go.Deep.open_slice ht hf with ⟨hcs, -⟩ | ⟨a, len', cap', m, n', D, Pl, hcs, -⟩
  · simp [Value.cells] at hcs
    obtain ⟨rfl, rfl, rfl⟩ := hcs
    cases e; rfl
  · simp [Value.cells] at hcs
    obtain ⟨rfl, rfl, rfl⟩ := hcs
    cases e
set_option maxRecDepth 100000 in
theorem laminGroups_lifted (os : Os) (started : os.Started) (H : Type) (enc : TypeId × Value → H) :
    ReturnsInHanded {} Tryz.checked os 9 .any (Rows.laminGroupsSpec.pre6 enc Tryz.prog Tryz.f9 Rows.laminGroupsRow.domain false) (Rows.laminGroupsSpec.post enc Tryz.prog Tryz.f9 false true false false) := by
  refine returnsInHanded_of_change (C := Tryz.checked) own_none started (by kernel_rfl) Tryz.func9
    (ChangeSpec.witness6 (enc := enc) (C := Tryz.checked) false ⟨#[], #[.agg #[.bool false, .string ⟨#[]⟩, .string ⟨#[]⟩], .int .i64 0, .slice none 0 0], []⟩ 8 (by kernel_rfl) (by kernel_rfl) (by kernel_rfl) (by kernel_rfl)) ?_
  intro W base args ds gs before hval0 hW _ _
  have hval : ∀ (j : Nat) t v, Tryz.f9.params[j]? = some t → args[j]? = some v → Value.okWide Tryz.prog W .any base t v := hval0
  have hW' := hW
  obtain ⟨p, q, hA0, hV, rfl, _, _⟩ := hW
  have hA : DataW.TrodAll enc Tryz.prog W 0 (fun _ => true) true Tryz.f9.params.toList args.toList ds p := hA0
  rw [Tryz.params9] at hA hval
  obtain ⟨v0, v1, v2, d0, d1, d2, p0, p1, p2, rfl, rfl, rfl, h0, h1, h2⟩ := trodAll_three hA
  obtain ⟨rfl, rfl⟩ := trodVars_none hV
  obtain ⟨n0, a0, e0, rfl, z0, y0⟩ := ratio_open (hval 0 _ v0 rfl rfl)
  obtain ⟨x1, rfl, rfl, rfl, w1⟩ := open_int Tryz.underlying3 (hval 1 _ v1 rfl rfl) h1
  obtain ⟨L2, r2, s2⟩ := ratios_open (hval 2 _ v2 rfl rfl) h2
  refine (laminGroups_any n0 a0 e0 x1 v2 L2 W z0 y0 r2 s2 (nil_slice Tryz.underlying22 (okWide_slice Tryz.underlying22 (hval 2 _ v2 rfl rfl)) h2)).mono fun e W' ⟨he, hb⟩ => ?_
  subst he
  exact ⟨_, rfl, post_law laid_out (by kernel_rfl) rfl hW' hb rfl rfl (fun _ _ _ => trodAll_mk1 (shut_bool Tryz.underlying4 _))⟩
theorem laminGroups_holds : Rows.LaminGroupsSaid :=
  OpenClaim.holds_of_wide 9 Tryz.f9 rfl rfl rfl rfl rfl rfl rfl ⟨rfl, rfl, rfl, rfl, rfl⟩ rfl rfl rfl rfl rfl (by kernel_rfl) Tryz.func9 (by kernel_rfl)
    (of_decide_eq_true (by kernel_rfl)) (by unfold Func.isWrapper; first | (rw [if_pos (by decide +kernel)]; kernel_rfl) | (rw [if_neg (by decide +kernel)]; exact ⟨rfl, rfl⟩))
    (fun os started H enc _ => laminGroups_lifted os started H enc)
#print axioms laminGroups_holds
end Go.Proofs.YtoaggmegmgdgbaaGreat
