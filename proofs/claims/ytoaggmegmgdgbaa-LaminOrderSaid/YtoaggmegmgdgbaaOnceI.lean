/- slices.SortFunc, slices.Compact of nothing. -/
import Derived.Test.YtoaggmegmgdgbaaOnceH
namespace Go.Proofs.Ytoaggmegmgdgbaa
open Go.Shelf Go.RowKit Go.Lib Go.Sort

set_option maxRecDepth 100000 in
set_option maxHeartbeats 1000000 in
theorem lins_nilA (c : Nat) (u : Value) (w : World) : Calls Try.prog 74 #[.slice none 0 c, .int .i64 0, .int .i64 0, u] w fun e w' => e = .returned (.tuple #[]) ∧ Below w.heap.size w w' := by
  go_enter Try.func74, Try.ntmps74
  go_wp2_with fail
  refine wp_loop_rounds 1 ?_
  rw [rounds_succ]
  go_wp2_with fail
  go_end0
  exact ⟨rfl, Below.refl _ _⟩
set_option maxRecDepth 100000 in
set_option maxHeartbeats 1000000 in
theorem lpdq_nilA (c : Nat) (x : Int) (u : Value) (w : World) : Calls Try.prog 63 #[.slice none 0 c, .int .i64 0, .int .i64 0, .int .i64 x, u] w fun e w' => e = .returned (.tuple #[]) ∧ Below w.heap.size w w' := by
  go_enter Try.func63, Try.ntmps63
  go_wp2_with fail
  refine wp_loop_rounds 1 ?_
  rw [rounds_succ]
  go_wp2_with fail
  refine (lins_nilA c u w).mono ?_
  rintro e w1 ⟨rfl, hb⟩
  go_wp2_with fail
  refine bodyPost_ret (results_none rfl _ _ _) rfl ?_
  exact ⟨rfl, hb⟩
set_option maxRecDepth 100000 in
set_option maxHeartbeats 1000000 in
/-- slices.SortFunc of nothing. -/
theorem lsort_nilA (c : Nat) (u : Value) (w : World) : Calls Try.prog 46 #[.slice none 0 c, u] w fun e w' => e = .returned (.tuple #[]) ∧ Below w.heap.size w w' := by
  go_enter Try.func46, Try.ntmps46
  go_wp2_with fail
  refine (Try.bits_Len 0 _ (by decide) (by decide)).mono ?_
  rintro e w1 ⟨rfl, rfl⟩
  go_wp2_with fail
  refine (lpdq_nilA c _ u _).mono ?_
  rintro e w1 ⟨rfl, hb⟩
  go_wp2_with fail
  go_end0
  exact ⟨rfl, hb⟩
set_option maxRecDepth 100000 in
set_option maxHeartbeats 1000000 in
/-- slices.Compact of nothing. -/
theorem lcompact_nilA (c : Nat) (w : World) : Calls Try.prog 47 #[.slice none 0 c] w (RetVal (.slice none 0 c) w) := by
  go_enter Try.func47, Try.ntmps47
  go_wp2_with fail
  go_ret
  exact ⟨rfl, Below.refl _ _⟩
end Go.Proofs.Ytoaggmegmgdgbaa
