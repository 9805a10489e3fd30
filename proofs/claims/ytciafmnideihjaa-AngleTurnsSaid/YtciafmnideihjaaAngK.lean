/- Package angle: Kind. -/
import Derived.Test.YtciafmnideihjaaAngJ
namespace Go.Proofs.Ytciafmnideihjaa
open Go.RowKit

/-- What Kind tells. -/
def kindV (neg : Bool) (num den : ByteArray) (d : Int) : Value :=
  if okA neg num den then
    if roundB d then .tuple #[.int .i64 ((kindN (be (sl den)) d.toNat).1 : Int), .int .i64 ((kindN (be (sl den)) d.toNat).2 : Int), .int .i64 0]
    else .tuple #[.int .i64 0, .int .i64 0, .int .i64 2]
  else .tuple #[.int .i64 0, .int .i64 0, .int .i64 210]

set_option maxRecDepth 100000 in
set_option maxHeartbeats 1000000 in
/-- angle.Kind -/
theorem kindW_any (neg : Bool) (num den : ByteArray) (d : Int) (w : World) (z1 : num.size ≤ 9223372036854775807) (z2 : den.size ≤ 9223372036854775807) :
    Calls Try.prog 16 #[.agg #[.bool neg, .string num, .string den], .int .i64 d] w (RetVal (kindV neg num den d) w) := by
  have hBW : Below w.heap.size w (w.alloc (.cells #[.bool neg, .string num, .string den] 24)) := (Below.refl _ w).alloc (Nat.le_refl _) _
  replace hBW := Lib.hid hBW
  cases hok : okA neg num den
  · have hv : Hid (kindV neg num den d = .tuple #[.int .i64 0, .int .i64 0, .int .i64 210]) := Lib.hid (by simp [kindV, hok])
    have hsv := smallV_no hok
    replace hsv := Lib.hid hsv
    clear hok
    go_enter Try.func16, Try.ntmps16
    go_wp2_with fail
    refine (small_any neg num den _ z1 z2).mono ?_
    rintro e w1 ⟨rfl, hb⟩
    rw [hsv.out]
    have hB1 := hBW.out.trans (hb.mono (by simp))
    have hz := hB1.size
    replace hB1 := hB1.alloc hz (.cells #[.int .u64 0, .int .u64 0] 91)
    replace hB1 := Lib.hid hB1
    clear hb
    go_wp2_with fail
    refine bodyPost_ret (v := .tuple #[.int .i64 0, .int .i64 0, .int .i64 210]) (by simp [results, Try.results16, go_sem]) rfl ⟨by rw [hv.out], hB1.out⟩
  obtain ⟨x, hx⟩ : ∃ x, x = be (sl num) := ⟨_, rfl⟩
  obtain ⟨y, hy⟩ : ∃ y, y = be (sl den) := ⟨_, rfl⟩
  obtain ⟨rfl, -, -, hgc, hxy, hyd⟩ := okA_spec hok
  have hsv := smallV_yes hok
  rw [← hx, ← hy] at hsv hxy
  rw [← hy] at hyd
  replace hsv := Lib.hid hsv
  cases hr : roundB d
  · have hv : Hid (kindV false num den d = .tuple #[.int .i64 0, .int .i64 0, .int .i64 2]) := Lib.hid (by simp [kindV, hok, hr])
    replace hr := Lib.hid hr
    clear hok hx hy hgc
    go_enter Try.func16, Try.ntmps16
    go_wp2_with fail
    refine (small_any false num den _ z1 z2).mono ?_
    rintro e w1 ⟨rfl, hb⟩
    rw [hsv.out]
    have hB1 := hBW.out.trans (hb.mono (by simp))
    have hz := hB1.size
    replace hB1 := hB1.alloc hz (.cells #[.int .u64 (x : Int), .int .u64 (y : Int)] 91)
    replace hB1 := Lib.hid hB1
    clear hb
    go_wp2_with fail
    refine (aturns_any d _).mono ?_
    rintro e w3 ⟨rfl, rfl⟩
    rw [hr.out]
    go_wp2_with fail
    refine bodyPost_ret (v := .tuple #[.int .i64 0, .int .i64 0, .int .i64 2]) (by simp [results, Try.results16, go_sem]) rfl ⟨by rw [hv.out], hB1.out⟩
  · have hd := roundB_iff.1 hr
    obtain ⟨dn, rfl⟩ := Int.eq_ofNat_of_zero_le (show 0 ≤ d by omega)
    obtain ⟨A, hA⟩ : ∃ A, A = (kindN y dn).1 := ⟨_, rfl⟩
    obtain ⟨B, hBB⟩ : ∃ B, B = (kindN y dn).2 := ⟨_, rfl⟩
    have hk : Hid (kindN y dn = (A, B)) := Lib.hid (by rw [hA, hBB])
    have hv : Hid (kindV false num den (dn : Int) = .tuple #[.int .i64 (A : Int), .int .i64 (B : Int), .int .i64 0]) := Lib.hid (by
      rw [hA, hBB, hy]
      simp [kindV, hok, hr])
    replace hr := Lib.hid hr
    have hwd : IntKind.u64.wrap (dn : Int) = (dn : Int) := by rw [IntKind.wrap_u64]; omega
    clear hok hx hy hgc hA hBB
    go_enter Try.func16, Try.ntmps16
    go_wp2_with fail
    refine (small_any false num den _ z1 z2).mono ?_
    rintro e w1 ⟨rfl, hb⟩
    rw [hsv.out]
    have hB1 := hBW.out.trans (hb.mono (by simp))
    have hz := hB1.size
    replace hB1 := hB1.alloc hz (.cells #[.int .u64 (x : Int), .int .u64 (y : Int)] 91)
    replace hB1 := Lib.hid hB1
    clear hb
    go_wp2_with fail
    refine (aturns_any dn _).mono ?_
    rintro e w3 ⟨rfl, rfl⟩
    rw [hr.out]
    go_wp2_with fail
    refine (kind_any y dn A B _ (by omega) (by omega) (by omega) hk).mono ?_
    rintro e w4 ⟨rfl, hb4⟩
    have hB4 := Lib.hid (hB1.out.trans (hb4.mono hB1.out.size))
    clear hb4
    go_wp2_with fail
    refine bodyPost_ret (v := .tuple #[.int .i64 (A : Int), .int .i64 (B : Int), .int .i64 0]) (by simp [results, Try.results16, go_sem]) rfl ⟨by rw [hv.out], hB4.out⟩
end Go.Proofs.Ytciafmnideihjaa
