/- filigreelaw11.LangFront holds: of every two texts. No condition. -/
import Derived.Test.YtnaadajcehfmiaaDoorLCd
import Derived.Test.YtnaadajcehfmiaaDoorLFront
namespace Go.Proofs.YtnaadajcehfmiaaDoor
open Go.ChangeShapes Go.WideShapes Go.ChangeAt Go.RowKit

set_option maxRecDepth 100000 in
theorem langFront_lifted (os : Os) (started : os.Started) (H : Type) (enc : TypeId × Value → H) :
    ReturnsInHanded {} Tryd.checked os 4 .any (fun w args => (Rows.langFrontSpec.pre enc Tryd.prog Tryd.f4 Rows.langFrontRow.domain false w args ∧ laidMetH Tryd.prog Rows.langFrontRow.laid w) ∧ sizedMet enc Tryd.prog Tryd.f4 (OpenSpec.ofChange Rows.langFrontSpec) false w args)
      (Rows.langFrontSpec.post enc Tryd.prog Tryd.f4 false true false false) := by
  refine returnsInHanded_of_change_and (C := Tryd.checked) (X := fun w _ => laidMetH Tryd.prog Rows.langFrontRow.laid w) (fun _ _ _ hh h => h.of_heap hh) own_none started (by kernel_rfl) Tryd.func4
    (ChangeSpec.witness_shaped (enc := enc) (C := Tryd.checked) (os := os) (X := fun w _ => laidMetH Tryd.prog Rows.langFrontRow.laid w) false (World.laidAll Tryd.prog os Rows.langFrontRow.laid) #[.string ⟨#[]⟩, .string ⟨#[]⟩] 8 (World.laidAll_os _ _ _)
      (World.shaped_of_ZipB (by kernel_rfl) (by kernel_rfl)) (by kernel_rfl) (by kernel_rfl) (by kernel_rfl)
      (by rw [MakeChecks.laidMetH_plain _ _ _ (by kernel_rfl)]; exact laidMet_laidAll _ (by kernel_rfl) (by kernel_rfl))) ?_
  intro W base args ds gs before hval0 hW hc hsz hL _
  have hval : ∀ (j : Nat) t v, Tryd.f4.params[j]? = some t → args[j]? = some v → Value.okWide Tryd.prog W .any base t v := hval0
  have hW' := hW
  obtain ⟨p, q, hA0, hV, rfl, _, _⟩ := hW
  have hA : DataW.TrodAll enc Tryd.prog W 0 (fun _ => true) true Tryd.f4.params.toList args.toList ds p := hA0
  rw [Tryd.params4] at hA hval
  obtain ⟨v0, v1, d0, d1, p0, p1, rfl, rfl, rfl, h0, h1⟩ := trodAll_two hA
  obtain ⟨rfl, rfl⟩ := trodVars_none hV
  obtain ⟨s0, rfl, z0⟩ := lgtext_open (j := 0) (hval 0 _ v0 rfl rfl) h0 hsz rfl rfl
  obtain ⟨s1, rfl, z1⟩ := lgtext_open (j := 1) (hval 1 _ v1 rfl rfl) h1 hsz rfl rfl
  have hEnv : EnvL W := env_laid (l := Rows.langFrontRow.laid) (by rw [← MakeChecks.laidMetH_plain _ _ _ (by kernel_rfl)]; exact hL) (List.mem_of_getElem? (i := 7) (by kernel_rfl)) (List.mem_of_getElem? (i := 5) rfl) (List.mem_of_getElem? (i := 4) rfl)
  refine (langFront_any z0 z1 hEnv).mono fun e W' ⟨he, hb⟩ => ?_
  subst he
  exact ⟨_, rfl, post_law laid_out (by kernel_rfl) rfl hW' hb rfl rfl (fun _ _ _ => trodAll_mk1 (shut_bool Tryd.underlying4 _))⟩

theorem langFront_holds : Rows.LangFrontSaid :=
  OpenClaim.holds_of_wide 4 Tryd.f4 rfl rfl rfl rfl rfl rfl rfl ⟨rfl, rfl, rfl, rfl, rfl⟩ rfl rfl rfl rfl rfl (by kernel_rfl) Tryd.func4 (by kernel_rfl)
    (of_decide_eq_true (by kernel_rfl)) (by unfold Func.isWrapper; first | (rw [if_pos (by decide +kernel)]; kernel_rfl) | (rw [if_neg (by decide +kernel)]; exact ⟨rfl, rfl⟩))
    (fun os started H enc _ => langFront_lifted os started H enc)

theorem langFront_card : Rows.LangFrontCardSaid :=
  Claim7.holds_tied_plain_at .later [] Rows.langFrontCard.laidKinds true Rows.langFrontCard.stood.harness Rows.langFrontCard.stood.looks langFront_holds (fun _ h => by cases h) (by kernel_rfl) (fun _ h => by cases h) langFront_row_tie rfl ⟨rfl, rfl⟩ (by kernel_rfl) rfl
    (fun f fn hf hfn => by
      obtain rfl : f = 4 := Option.some.inj ((show Tryd.prog.funcNamed Tryd.f4.name = some 4 by kernel_rfl).symm.trans hf) |>.symm
      obtain rfl : fn = Tryd.f4 := (Option.some.inj (Tryd.func4.symm.trans hfn)).symm
      exact ⟨by kernel_rfl, fun j t ht => by
        rw [Tryd.params4] at ht
        have hm : t ∈ [9, 9] := by simpa using Array.mem_of_getElem? ht
        have hall : ([9, 9].all fun u => !Tryd.prog.wantsStandIn u) = true := by kernel_rfl
        exact (show Tryd.prog.wantsStandIn t = false by simpa using List.all_eq_true.1 hall t hm)⟩)
    (by kernel_rfl)
#print axioms langFront_card
end Go.Proofs.YtnaadajcehfmiaaDoor
