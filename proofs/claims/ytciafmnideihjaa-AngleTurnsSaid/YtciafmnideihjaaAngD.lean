/- Package angle: ratioOf, told. -/
import Derived.Test.YtciafmnideihjaaAngC
namespace Go.Proofs.Ytciafmnideihjaa
open Go.RowKit

/-- An angle's ratio. -/
def ratV (n d : Nat) : Value := .agg #[.bool false, .string (natS n), .string (natS d)]
/-- No ratio. -/
def rat0 : Value := .agg #[.bool false, .string ⟨#[]⟩, .string ⟨#[]⟩]

set_option maxRecDepth 100000 in
set_option maxHeartbeats 400000 in
/-- angle.ratioOf -/
theorem ratioOf_any (n d : Nat) (w : World) (hn : n < 18446744073709551616) (hd : d < 18446744073709551616) :
    Calls Try.prog 56 #[.agg #[.int .u64 (n : Int), .int .u64 (d : Int)]] w (RetVal (ratV n d) w) := by
  go_enter Try.func56, Try.ntmps56
  go_wp2_with fail
  have hK1 := (Blk.new w 91 #[.int .u64 (n : Int), .int .u64 (d : Int)]).alloc (.cells #[.bool false, .string ⟨#[]⟩, .string ⟨#[]⟩] 24)
  have hK2 := Blk.new (w.alloc (.cells #[.int .u64 (n : Int), .int .u64 (d : Int)] 91)) 24 #[.bool false, .string ⟨#[]⟩, .string ⟨#[]⟩]
  have hBW : Below w.heap.size w ((w.alloc (.cells #[.int .u64 (n : Int), .int .u64 (d : Int)] 91)).alloc (.cells #[.bool false, .string ⟨#[]⟩, .string ⟨#[]⟩] 24)) := ((Below.refl _ w).alloc (Nat.le_refl _) _).alloc (by simp) _
  have hsz : (w.alloc (.cells #[.int .u64 (n : Int), .int .u64 (d : Int)] 91)).heap.size = w.heap.size + 1 := by simp
  rw [hsz] at hK2
  replace hK1 := Lib.hid hK1
  replace hK2 := Lib.hid hK2
  replace hBW := Lib.hid hBW
  clear hsz
  go_region_held3 (fun w' => w'.cell? ⟨w.heap.size, 0, none⟩ = some (.int .u64 (n : Int)) ∧ w'.cell? ⟨w.heap.size, 1, none⟩ = some (.int .u64 (d : Int))) (go_keep)
    (first
      | (go_at_call_of 90 (Value.int .u64 (n : Int)); refine (natOf_any n _ hn).mono ?_; rintro e w3 ⟨rfl, hB⟩; have q1 := Blk.below (Blk.drew hK1.out) hB; have q2 := Blk.below (Blk.drew hK2.out) hB; have hBw : Below w.heap.size w w3 := hBW.out.drew.trans (hB.mono (by simp; omega)); have k1 : w3.cell? ⟨w.heap.size, 0, none⟩ = some (.int .u64 (n : Int)) := q1.cell 0; have k2 : w3.cell? ⟨w.heap.size, 1, none⟩ = some (.int .u64 (d : Int)) := q1.cell 1; replace hBw := Lib.hid hBw; replace q1 := Lib.hid q1; replace q2 := Lib.hid q2; clear hB)
      | (go_at_call_of 90 (Value.int .u64 (d : Int)); refine (natOf_any d _ hd).mono ?_; rintro e w4 ⟨rfl, hB⟩; have r1 := Blk.below q1.out hB; have r2 := Blk.below q2.out hB; have hBx : Below w.heap.size w w4 := hBw.out.trans (hB.mono hBw.out.size); have j1 : w4.cell? ⟨w.heap.size, 0, none⟩ = some (.int .u64 (n : Int)) := r1.cell 0; have j2 : w4.cell? ⟨w.heap.size, 1, none⟩ = some (.int .u64 (d : Int)) := r1.cell 1; have i0 : w4.cell? ⟨w.heap.size + 1, 0, none⟩ = some (.bool false) := r2.cell 0; have i1 : w4.cell? ⟨w.heap.size + 1, 1, none⟩ = some (.string ⟨#[]⟩) := r2.cell 1; have i2 : w4.cell? ⟨w.heap.size + 1, 2, none⟩ = some (.string ⟨#[]⟩) := r2.cell 2; have f0 := r2.frozen 0; have f1 := r2.frozen 1; have f2 := r2.frozen 2; replace hBx := Lib.hid hBx; clear r1 r2 hB))
  all_goals
    go_wp2
    refine bodyPost_ret (v := .agg #[.bool false, .string (natS n), .string (natS d)]) (by simp [results, Try.results56, go_sem, i0, i1, i2]) rfl ⟨rfl, ?_⟩
    exact ((hBx.out.setCell (p := ⟨w.heap.size + 1, 0, none⟩) (by simp) _).setCell (p := ⟨w.heap.size + 1, 1, none⟩) (by simp) _).setCell (p := ⟨w.heap.size + 1, 2, none⟩) (by simp) _
end Go.Proofs.Ytciafmnideihjaa
