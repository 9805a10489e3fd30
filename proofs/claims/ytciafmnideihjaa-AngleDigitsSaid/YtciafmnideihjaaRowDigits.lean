/- the call returns true for any ratio, any two ints, any two slices of bytes, and they read as they did; no condition -/
import Derived.Test.YtciafmnideihjaaLiftB
import Derived.Test.YtciafmnideihjaaDigL
namespace Go.Proofs.Ytciafmnideihjaa
open Go.ChangeShapes Go.WideShapes Go.ChangeAt Go.RowKit

set_option maxRecDepth 100000 in
theorem angleDigits_lifted (os : Os) (started : os.Started) (H : Type) (enc : TypeId × Value → H) :
    ReturnsInHanded {} Try.checked os 12 .any (Rows.angleDigitsSpec.pre6 enc Try.prog Try.f12 Rows.angleDigitsRow.domain false) (Rows.angleDigitsSpec.post enc Try.prog Try.f12 false true false false) := by
  refine returnsInHanded_of_change_sized (C := Try.checked) own_none started (by kernel_rfl) Try.func12
    (ChangeSpec.witness6 (enc := enc) (C := Try.checked) false ⟨#[], #[.agg #[.bool false, .string ⟨#[]⟩, .string ⟨#[]⟩], .int .i64 0, .int .i64 0, .slice none 0 0, .slice none 0 0], []⟩ 8 (by kernel_rfl) (by kernel_rfl) (by kernel_rfl) (by kernel_rfl)) ?_
  intro W base args ds gs before hval0 hW _ hsz _
  have hval : ∀ (j : Nat) t v, Try.f12.params[j]? = some t → args[j]? = some v → Value.okWide Try.prog W .any base t v := hval0
  have hW' := hW
  obtain ⟨p, q, hA0, hV, rfl, _, _⟩ := hW
  have hA : DataW.TrodAll enc Try.prog W 0 (fun _ => true) true Try.f12.params.toList args.toList ds p := hA0
  rw [Try.params12] at hA hval
  obtain ⟨v0, v1, v2, v3, v4, d0, d1, d2, d3, d4, p0, p1, p2, p3, p4, rfl, rfl, rfl, h0, h1, h2, h3, h4⟩ := trodAll_five hA
  obtain ⟨rfl, rfl⟩ := trodVars_none hV
  obtain ⟨n0, a0, e0, rfl, z0, y0⟩ := ratio_open (hval 0 _ v0 rfl rfl)
  obtain ⟨x1, rfl, rfl, rfl, w1⟩ := open_int Try.underlying3 (hval 1 _ v1 rfl rfl) h1
  obtain ⟨x2, rfl, rfl, rfl, w2⟩ := open_int Try.underlying3 (hval 2 _ v2 rfl rfl) h2
  obtain ⟨A3, L3, c3, T3, l3, rfl, r3, s3, g3⟩ := bytes_open (hval 3 _ v3 rfl rfl) h3
  have q3 : l3.length ≤ 140737488351232 := by
    rcases g3 with rfl | ⟨es, sp, rfl, he⟩
    · simp
    · have := sized_slice hsz (j := 3) (t := 81) rfl rfl Try.underlying81
      rw [show Try.checked.prog.bytesOf 5 = 1 from bytes_bytes, show reachBytes = 140737488351232 from rfl] at this
      omega
  obtain ⟨A4, L4, c4, T4, l4, rfl, r4, s4, g4⟩ := bytes_open (hval 4 _ v4 rfl rfl) h4
  have q4 : l4.length ≤ 140737488351232 := by
    rcases g4 with rfl | ⟨es, sp, rfl, he⟩
    · simp
    · have := sized_slice hsz (j := 4) (t := 81) rfl rfl Try.underlying81
      rw [show Try.checked.prog.bytesOf 5 = 1 from bytes_bytes, show reachBytes = 140737488351232 from rfl] at this
      omega
  refine (angleDigits_any n0 a0 e0 x1 x2 A3 c3 L3 l3 A4 c4 L4 l4 W z0 y0 r3 r4 s3 s4 q3 q4).mono fun e W' ⟨he, hb⟩ => ?_
  subst he
  exact ⟨_, rfl, post_law laid_out (by kernel_rfl) rfl hW' hb rfl rfl (fun _ _ _ => trodAll_mk1 (shut_bool Try.underlying4 _))⟩

theorem angleDigits_holds : Rows.AngleDigitsSaid :=
  OpenClaim.holds_of_wide 12 Try.f12 rfl rfl rfl rfl rfl rfl rfl ⟨rfl, rfl, rfl, rfl, rfl⟩ rfl rfl rfl rfl rfl (by kernel_rfl) Try.func12 (by kernel_rfl)
    (of_decide_eq_true (by kernel_rfl)) (by unfold Func.isWrapper; first | (rw [if_pos (by decide +kernel)]; kernel_rfl) | (rw [if_neg (by decide +kernel)]; exact ⟨rfl, rfl⟩))
    (fun os started H enc _ => angleDigits_lifted os started H enc)
#print axioms angleDigits_holds
end Go.Proofs.Ytciafmnideihjaa
