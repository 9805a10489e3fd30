/- Package wide: the greatest common divisor of digits; numbers (Int): where they lie, laid, SetUint64, NewInt, GCD, Sign, Cmp. -/
import Derived.Test.YtciafmnideihjaaWideE5
import Derived.StillTailTactics
import Derived.Deep.LoopGhost
namespace Go.Proofs.Ytciafmnideihjaa
open Go.RowKit

set_option maxHeartbeats 400000 in
/-- wide.common: the greatest common divisor. -/
theorem common_any (va vb : Value) (a b : Nat) (w : World) (ha : Dg w va a) (hb : Dg w vb b) (hla : (dg a).length ≤ 1073741823) (hlb : (dg b).length ≤ 1073741823) :
    Calls Try.prog 107 #[va, vb] w (RetDg (Nat.gcd a b) w) := by
  have ha := Lib.hid ha
  have hb := Lib.hid hb
  go_enter Try.func107, Try.ntmps107
  go_wp2
  go_loopg [0, 1] b (fun y va vb wr => ∃ x : Nat, Dg wr va x ∧ Dg wr vb y ∧ Nat.gcd x y = Nat.gcd a b ∧ (dg x).length ≤ 1073741823 ∧ (dg y).length ≤ 1073741823 ∧ Below w.heap.size w wr)
  case atStart => exact ⟨a, ha.out, hb.out, rfl, hla, hlb, Below.refl _ _⟩
  case round =>
    obtain ⟨x, hx, hy, hg, hlx, hly, hB⟩ := hrel
    obtain ⟨Ay, cy, rfl, hy1, hy2, hy3⟩ := id hy
    have hy3 := Lib.hid hy3
    have hy := Lib.hid hy
    have hx := Lib.hid hx
    have hg := Lib.hid hg
    have hB := Lib.hid hB
    by_cases h0 : gk = 0
    · subst h0
      simp only [dg_zero, List.length_nil]
      go_wp2
      go_ret
      exact ⟨_, rfl, by have := hx.out; rw [← hg.out, Nat.gcd_zero_right]; exact this, hB.out⟩
    · have hl := dg_len_pos (show 0 < gk by omega)
      have hyo : Dg wr (.slice Ay (dg gk).length cy) gk := hy.out
      have hyo := Lib.hid hyo
      obtain ⟨L, hL⟩ : ∃ L, L = (dg gk).length := ⟨_, rfl⟩
      rw [← hL] at hl hyo hy1 ⊢
      have hlI : (0 : Int) < (L : Int) := by omega
      clear hL hy
      go_wp2_with fail
      refine (over_any _ _ x gk _ hx.out hyo.out (by omega) hlx).mono ?_
      rintro e w1 ⟨q, r, rfl, -, hr, hb1⟩
      have hr := Lib.hid hr
      have hb1 := Lib.hid hb1
      go_wp2_with fail
      go_roundg (x % gk)
      case measure => exact Nat.mod_lt _ (by omega)
      case rel => exact ⟨gk, hyo.out.below hb1.out, hr.out, by rw [← hg.out, Nat.gcd_comm gk, ← Nat.gcd_rec, Nat.gcd_comm], hly, by have := dg_len_mono (Nat.le_of_lt (Nat.mod_lt x (show 0 < gk by omega))); omega, hB.out.trans (hb1.out.mono hB.out.size)⟩
end Go.Proofs.Ytciafmnideihjaa
