/- Package angle: compare, Between, Cmp. -/
import Derived.Test.YtciafmnideihjaaAngK
import Derived.BigQuiet
namespace Go.Proofs.Ytciafmnideihjaa
open Go.RowKit

def cmpN (x y : Nat) : Int := if x < y then -1 else if y < x then 1 else 0

set_option maxRecDepth 100000 in
set_option maxHeartbeats 400000 in
/-- angle.compare -/
theorem compare_any (a b c d x y : Nat) (w : World) (hx : Hid (x = a * d)) (hy : Hid (y = c * b)) (hxs : x < 18446744073709551616) (hys : y < 18446744073709551616) :
    Calls Try.prog 63 #[.agg #[.int .u64 (a : Int), .int .u64 (b : Int)], .agg #[.int .u64 (c : Int), .int .u64 (d : Int)]] w (RetVal (.int .i64 (cmpN x y)) w) := by
  have hxi : (a : Int) * (d : Int) = (x : Int) := by rw [hx.out]; push_cast; rfl
  have hyi : (c : Int) * (b : Int) = (y : Int) := by rw [hy.out]; push_cast; rfl
  have w1 : IntKind.u64.wrap (x : Int) = (x : Int) := by rw [IntKind.wrap_u64]; omega
  have w2 : IntKind.u64.wrap (y : Int) = (y : Int) := by rw [IntKind.wrap_u64]; omega
  have hBW : Hid (Below w.heap.size w ((w.alloc (.cells #[.int .u64 (a : Int), .int .u64 (b : Int)] 91)).alloc (.cells #[.int .u64 (c : Int), .int .u64 (d : Int)] 91))) := Lib.hid (((Below.refl _ w).alloc (Nat.le_refl _) _).alloc (by simp) _)
  by_cases h1 : x < y
  · have hv : Hid (cmpN x y = -1) := Lib.hid (by simp [cmpN, h1])
    have h1I : (x : Int) < (y : Int) := by omega
    go_enter Try.func63, Try.ntmps63
    go_wp2_with fail
    go_quiet (fail)
    go_wp2_with fail
    go_ret
    exact ⟨by rw [hv.out]; rfl, by first | exact hBW.out | exact below_drewN hBW.out _⟩
  · by_cases h2 : y < x
    · have hv : Hid (cmpN x y = 1) := Lib.hid (by simp [cmpN, h1, h2])
      have h1I : ¬ (x : Int) < (y : Int) := by omega
      have h2I : (y : Int) < (x : Int) := by omega
      go_enter Try.func63, Try.ntmps63
      go_wp2_with fail
      go_quiet (fail)
      go_wp2_with fail
      go_ret
      exact ⟨by rw [hv.out]; rfl, by first | exact hBW.out | exact below_drewN hBW.out _⟩
    · have hv : Hid (cmpN x y = 0) := Lib.hid (by simp [cmpN, h1, h2])
      have h1I : ¬ (x : Int) < (y : Int) := by omega
      have h2I : ¬ (y : Int) < (x : Int) := by omega
      go_enter Try.func63, Try.ntmps63
      go_wp2_with fail
      go_quiet (fail)
      go_wp2_with fail
      go_ret
      exact ⟨by rw [hv.out]; rfl, by first | exact hBW.out | exact below_drewN hBW.out _⟩
end Go.Proofs.Ytciafmnideihjaa
