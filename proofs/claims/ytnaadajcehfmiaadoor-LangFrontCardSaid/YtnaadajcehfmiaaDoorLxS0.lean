/- lang, filigreeref11: digit, letter. -/
import Derived.Test.YtnaadajcehfmiaaDoorLxA
import Derived.Test.YtnaadajcehfmiaaDoorLxJ
namespace Go.Proofs.YtnaadajcehfmiaaDoor
open Go.RowKit

theorem digit_any (b : Nat) (w : World) : Calls Tryd.prog 37 #[.int .u8 (b : Int)] w (fun e w' => e = .returned (.bool (digB b)) ∧ w' = w) := by
  by_cases h1 : (48 : Int) ≤ (b : Int)
  · by_cases h2 : (b : Int) ≤ 57
    · have h : digB b = true := by unfold digB; exact decide_eq_true (by omega)
      rw [h]
      go_enter Tryd.func37, Tryd.ntmps37
      go_wp2_with fail
      go_ret
      exact ⟨rfl, rfl⟩
    · have h : digB b = false := by unfold digB; exact decide_eq_false (by omega)
      rw [h]
      go_enter Tryd.func37, Tryd.ntmps37
      go_wp2_with fail
      go_ret
      exact ⟨rfl, rfl⟩
  · have h : digB b = false := by unfold digB; exact decide_eq_false (by omega)
    rw [h]
    go_enter Tryd.func37, Tryd.ntmps37
    go_wp2_with fail
    go_ret
    exact ⟨rfl, rfl⟩
theorem letter_any (b : Nat) (w : World) : Calls Tryd.prog 38 #[.int .u8 (b : Int)] w (fun e w' => e = .returned (.bool (letB b)) ∧ w' = w) := by
  by_cases h1 : (97 : Int) ≤ (b : Int)
  · by_cases h2 : (b : Int) ≤ 122
    · have h : letB b = true := by unfold letB; exact decide_eq_true (by omega)
      rw [h]
      go_enter Tryd.func38, Tryd.ntmps38
      go_wp2_with fail
      go_ret
      exact ⟨rfl, rfl⟩
    · have h : letB b = false := by unfold letB; exact decide_eq_false (by omega)
      rw [h]
      go_enter Tryd.func38, Tryd.ntmps38
      go_wp2_with fail
      go_ret
      exact ⟨rfl, rfl⟩
  · have h : letB b = false := by unfold letB; exact decide_eq_false (by omega)
    rw [h]
    go_enter Tryd.func38, Tryd.ntmps38
    go_wp2_with fail
    go_ret
    exact ⟨rfl, rfl⟩
end Go.Proofs.YtnaadajcehfmiaaDoor
