/- Package wide: GCD, SetBytes. -/
import Derived.Test.YtciafmnideihjaaBig
import Derived.Deep.RegionWith
namespace Go.Proofs.Ytciafmnideihjaa
open Go.RowKit

set_option maxRecDepth 100000 in
set_option maxHeartbeats 400000 in
/-- GCD of two numbers from 0 on. -/
theorem gcdBig_any (p o pa oa pb ob x y : Nat) (w : World) (h : BS w p o) (hx : Big w pa oa (x : Int)) (hy : Big w pb ob (y : Int)) (hlx : (dg x).length ≤ 1073741823) (hly : (dg y).length ≤ 1073741823) :
    Calls Try.prog 77 #[.pointer (some ⟨p, o, none⟩), .pointer none, .pointer none, .pointer (some ⟨pa, oa, none⟩), .pointer (some ⟨pb, ob, none⟩)] w (RetBig ((Nat.gcd x y : Nat) : Int) p o w) := by
  obtain ⟨v, hc1, hc2, hv⟩ := hx.cells
  obtain ⟨v', hc1', hc2', hv'⟩ := hy.cells
  rw [Int.natAbs_natCast] at hv hv'
  clear hc1 hc1'
  have hx := Lib.hid hx
  have hy := Lib.hid hy
  have hv := Lib.hid hv
  have hv' := Lib.hid hv'
  have h := Lib.hid h
  go_enter Try.func77, Try.ntmps77
  go_wp2_with fail
  go_region_with (first | (go_at_call 107; refine (common_any v v' x y _ (hv.out.drewN 1) (hv'.out.drewN 1) hlx hly).mono ?_; rintro e w1 ⟨u, rfl, hu, hb⟩; have hu := Lib.hid hu; have hb := Lib.hid hb) | (go_at_call 102; refine (laid_any p o _ false _ _ ((h.out.drewN 1).below (by have := hb.out; exact this)) hu.out).mono ?_; rintro e w2 ⟨rfl, hb2, hg⟩; have hb2 := Lib.hid hb2; have hg := Lib.hid hg))
  all_goals
    go_wp2
    go_ret
    exact ⟨rfl, hb2.out, gb_trans (gb_of_below ((below_drewN (Below.refl _ _) 1).trans hb.out)) hg.out⟩

end Go.Proofs.Ytciafmnideihjaa
