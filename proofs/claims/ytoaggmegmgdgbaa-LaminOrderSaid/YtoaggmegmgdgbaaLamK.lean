/- Package lamin: no lamination. -/
import Derived.Test.YtoaggmegmgdgbaaLamJ
namespace Go.Proofs.Ytoaggmegmgdgbaa
open Go.RowKit Go.Sort

set_option maxRecDepth 100000 in
set_option maxHeartbeats 2000000 in
/-- lamin.Gaps: nil -/
theorem lGaps_nil (w : World) :
    Calls Try.prog 15 #[.pointer none] w (RetVal (.slice none 0 0) w) := by
  have hN := Lib.hid (fun W (_ : Below w.heap.size w W) => lnone_nil W)
  have hB := Lib.hid (Below.refl w.heap.size w)
  go_enter Try.func15, Try.ntmps15
  go_wp2_with fail
  refine (hN.out _ hB.out).mono ?_
  rintro en w2 ⟨rfl, hb⟩
  replace hB := Lib.hid (hB.out.trans (hb.mono hB.out.size))
  clear hb hN
  go_wp2_with fail
  go_ret
  exact ⟨rfl, hB.out⟩

set_option maxRecDepth 100000 in
set_option maxHeartbeats 2000000 in
/-- lamin.Gaps: not -/
theorem lGaps_not (w : World) (x : Nat) (v : Value) (hx : Blk w x 52 #[.bool false, v]) :
    Calls Try.prog 15 #[.pointer (some ⟨x, 0, none⟩)] w (RetVal (.slice none 0 0) w) := by
  have hN := Lib.hid (fun W (h : Below w.heap.size w W) => lnone_any x false v W (Blk.below hx h))
  clear hx
  have hB := Lib.hid (Below.refl w.heap.size w)
  go_enter Try.func15, Try.ntmps15
  go_wp2_with fail
  refine (hN.out _ hB.out).mono ?_
  rintro en w2 ⟨rfl, hb⟩
  replace hB := Lib.hid (hB.out.trans (hb.mono hB.out.size))
  clear hb hN
  go_wp2_with fail
  go_ret
  exact ⟨rfl, hB.out⟩

end Go.Proofs.Ytoaggmegmgdgbaa
