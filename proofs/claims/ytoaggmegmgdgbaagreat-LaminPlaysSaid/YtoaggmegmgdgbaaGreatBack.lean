import Derived.Test.YtoaggmegmgdgbaaGreatRefA
import Derived.Deep.CutBlock
import Derived.Test.YtoaggmegmgdgbaaGreatAngN
namespace Go.Proofs.YtoaggmegmgdgbaaGreat
open Go.RowKit
theorem rround_any (d : Int) (w : World) : Calls Tryz.prog 70 #[.int .i64 d] w fun e w' => e = .returned (.bool (roundB d)) ∧ w = w' := by
  by_cases h : 2 ≤ d
  · by_cases h2 : d ≤ 64
    · have HB : Hid (roundB d = true) := Lib.hid (roundB_iff.2 ⟨h, h2⟩)
      go_enter Tryz.func70, Tryz.ntmps70
      go_wp2
      go_ret
      exact ⟨by rw [HB.out]; rfl, rfl⟩
    · have HB : Hid (roundB d = false) := Lib.hid (by simp [roundB]; omega)
      have h2' : decide (d ≤ 64) = false := by simp; omega
      go_enter Tryz.func70, Tryz.ntmps70
      go_wp2
      go_ret
      exact ⟨by rw [HB.out]; rfl, rfl⟩
  · have HB : Hid (roundB d = false) := Lib.hid (by simp [roundB]; omega)
    have h' : decide (2 ≤ d) = false := by simp; omega
    go_enter Tryz.func70, Tryz.ntmps70
    go_wp2
    go_ret
    exact ⟨by rw [HB.out]; rfl, rfl⟩
set_option maxRecDepth 100000 in
set_option maxHeartbeats 1000000 in
theorem rturn_any (x y d X N D : Nat) (w : World) (k : x ≤ 2147483647) (l0 : 0 < y) (l : y ≤ 2147483647) (hd : d ≤ 64) (hX : Hid (X = x * d % y)) (hN : Hid (N = X / Nat.gcd X y)) (hD : Hid (D = y / Nat.gcd X y)) :
    Calls Tryz.prog 71 #[.agg #[.int .u64 (x : Int), .int .u64 (y : Int)], .int .i64 (d : Int)] w (RetPart N D w) := by
  obtain ⟨S, hS⟩ : ∃ S, S = x * d := ⟨_, rfl⟩
  have hSs : S ≤ 2147483647 * 64 := by rw [hS]; exact Nat.mul_le_mul k hd
  have hSi : (x : Int) * (d : Int) = (S : Int) := by rw [hS]; push_cast; rfl
  have hX2 : Hid (X = S % y) := Lib.hid (by rw [hX.out, hS])
  have b1 : Hid (S < 18446744073709551616) := Lib.hid (by omega)
  have b2 : Hid (y < 18446744073709551616) := Lib.hid (by omega)
  have b0 : Hid (0 < y) := Lib.hid l0
  have wd : IntKind.u64.wrap (d : Int) = (d : Int) := by rw [IntKind.wrap_u64]; omega
  have ws : IntKind.u64.wrap (S : Int) = (S : Int) := by rw [IntKind.wrap_u64]; omega
  have hK2 := Blk.new (w.alloc (.cells #[.int .u64 (x : Int), .int .u64 (y : Int)] 42)) 42 #[.int .u64 0, .int .u64 0]
  have hBW : Below w.heap.size w ((w.alloc (.cells #[.int .u64 (x : Int), .int .u64 (y : Int)] 42)).alloc (.cells #[.int .u64 0, .int .u64 0] 42)) := ((Below.refl _ w).alloc (Nat.le_refl _) _).alloc (by simp) _
  rw [show (w.alloc (.cells #[.int .u64 (x : Int), .int .u64 (y : Int)] 42)).heap.size = w.heap.size + 1 by simp] at hK2
  replace hK2 := Lib.hid hK2
  replace hBW := Lib.hid hBW
  clear hS
  go_enter Tryz.func71, Tryz.ntmps71
  go_wp2_with fail
  refine (low_any S y X N D _ b1.out b2.out b0.out hX2 hN hD).mono ?_
  rintro e w1 ⟨rfl, hb⟩
  have r2 := Blk.below hK2.out hb
  have hB1 := Lib.hid (hBW.out.trans (hb.mono (by simp; omega)))
  have k0 : w1.cell? ⟨w.heap.size + 1, 0, none⟩ = some (.int .u64 0) := r2.cell 0
  have k1 : w1.cell? ⟨w.heap.size + 1, 1, none⟩ = some (.int .u64 0) := r2.cell 1
  have f0 := r2.frozen 0
  have f1 := r2.frozen 1
  clear hb hK2 hBW r2
  go_wp2
  refine bodyPost_ret (v := .agg #[.int .u64 (N : Int), .int .u64 (D : Int)]) (by simp [results, Tryz.results71, go_sem, k0, k1]) rfl ⟨rfl, ?_⟩
  exact (hB1.out.setCell (p := ⟨w.heap.size + 1, 0, none⟩) (by simp) _).setCell (p := ⟨w.heap.size + 1, 1, none⟩) (by simp) _
open Go.RowKit
open Go.RowKit
open Go.RowKit Go.Sort
end Go.Proofs.YtoaggmegmgdgbaaGreat
