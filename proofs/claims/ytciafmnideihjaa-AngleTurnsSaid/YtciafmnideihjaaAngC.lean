/- Package angle: Rem64 of small numbers, turn, ratioOf, told. -/
import Derived.Test.YtciafmnideihjaaAngB
namespace Go.Proofs.Ytciafmnideihjaa
open Go.RowKit

set_option maxHeartbeats 400000 in
/-- bits.Div64, nothing in the high word. -/
theorem div64_any (lo y : Nat) (w : World) (hlo : lo < 18446744073709551616) (hy : y < 18446744073709551616) (h0 : 0 < y) :
    Calls Try.prog 119 #[.int .u64 0, .int .u64 (lo : Int), .int .u64 (y : Int)] w fun e w' => e = .returned (.tuple #[.int .u64 ((lo / y : Nat) : Int), .int .u64 ((lo % y : Nat) : Int)]) ∧ Dr w w' := by
  have t1 : ((y : Int) == 0) = false := by simp; omega
  have t2 : ¬ (y : Int) ≤ 0 := by omega
  obtain ⟨q, hq⟩ : ∃ q, q = lo / y := ⟨_, rfl⟩
  obtain ⟨r, hr⟩ : ∃ r, r = lo % y := ⟨_, rfl⟩
  rw [← hq, ← hr]
  have e1 : (lo : Int) / (y : Int) = (q : Int) := by rw [hq]; rfl
  have e2 : (lo : Int) % (y : Int) = (r : Int) := by rw [hr]; rfl
  have hqs : q < 18446744073709551616 := by rw [hq]; exact Nat.lt_of_le_of_lt (Nat.div_le_self _ _) hlo
  clear hq hr
  go_enter Try.func119, Try.ntmps119
  go_wp2
  go_region
  go_wp2
  go_ret2
  exact ⟨by simp; exact e2, (Dr.refl _).drewN 1⟩

set_option maxHeartbeats 400000 in
/-- bits.Rem64, nothing in the high word. -/
theorem rem64_any (lo y : Nat) (w : World) (hlo : lo < 18446744073709551616) (hy : y < 18446744073709551616) (h0 : 0 < y) :
    Calls Try.prog 92 #[.int .u64 0, .int .u64 (lo : Int), .int .u64 (y : Int)] w (RetW (lo % y) w) := by
  have hyI : (1 : Int) ≤ (y : Int) := by omega
  obtain ⟨q, hq⟩ : ∃ q, q = lo / y := ⟨_, rfl⟩
  obtain ⟨r, hr⟩ : ∃ r, r = lo % y := ⟨_, rfl⟩
  replace hq := Lib.hid hq
  replace hr := Lib.hid hr
  go_enter Try.func92, Try.ntmps92
  go_wp2_with fail
  refine (div64_any lo y _ hlo hy h0).mono ?_
  rintro e w1 ⟨rfl, n1, rfl⟩
  rw [← hq.out, ← hr.out]
  go_wp2
  go_ret
  exact ⟨by rw [← hr.out]; rfl, (Dr.refl _).drewN n1⟩

/-- bits.Mul64, nothing in the high word. -/
theorem mul64_any (x y S : Nat) (hS : Hid (S = x * y)) (hx : x < 18446744073709551616) (hy : y < 18446744073709551616) (hs : S < 18446744073709551616) (w : World) :
    Calls Try.prog 91 #[.int .u64 (x : Int), .int .u64 (y : Int)] w fun e w' => e = .returned (.tuple #[.int .u64 0, .int .u64 (S : Int)]) ∧ w = w' := by
  refine (Try.bits_Mul64 x y hx hy w).mono ?_
  rintro e w' ⟨rfl, rfl⟩
  rw [← hS.out, Nat.div_eq_of_lt hs, Nat.mod_eq_of_lt hs]
  exact ⟨rfl, rfl⟩

set_option maxRecDepth 100000 in
set_option maxHeartbeats 400000 in
/-- angle.turn -/
theorem turn_any (a b y x n d : Nat) (w : World) (hb0 : 0 < b) (ha : a < 4294967296) (hb : b < 4294967296) (hy : y < 4294967296) (hx : Hid (x = a * y % b)) (hn : Hid (n = x / Nat.gcd x b)) (hd : Hid (d = b / Nat.gcd x b)) :
    Calls Try.prog 57 #[.agg #[.int .u64 (a : Int), .int .u64 (b : Int)], .int .u64 (y : Int)] w (RetPart n d w) := by
  obtain ⟨S, hS⟩ : ∃ S, S = a * y := ⟨_, rfl⟩
  have hSs : S < 18446744073709551616 := by rw [hS]; exact Nat.lt_of_le_of_lt (Nat.mul_le_mul (show a ≤ 4294967295 by omega) (show y ≤ 4294967295 by omega)) (by omega)
  replace hS := Lib.hid hS
  have hxS : Hid (S % b = x) := Lib.hid (by rw [hS.out, hx.out])
  have hxb : x < b := by rw [← hxS.out]; exact Nat.mod_lt _ hb0
  go_enter Try.func57, Try.ntmps57
  go_wp2_with fail
  refine (mul64_any a y S hS (by omega) (by omega) hSs _).mono ?_
  rintro e w1 ⟨rfl, rfl⟩
  go_wp2_with fail
  have hK1 := (Blk.new w 91 #[.int .u64 (a : Int), .int .u64 (b : Int)]).alloc (.cells #[.int .u64 0, .int .u64 0] 91)
  have hK2 := Blk.new (w.alloc (.cells #[.int .u64 (a : Int), .int .u64 (b : Int)] 91)) 91 #[.int .u64 0, .int .u64 0]
  have hBW : Below w.heap.size w ((w.alloc (.cells #[.int .u64 (a : Int), .int .u64 (b : Int)] 91)).alloc (.cells #[.int .u64 0, .int .u64 0] 91)) := ((Below.refl _ w).alloc (Nat.le_refl _) _).alloc (by simp) _
  have hsz : (w.alloc (.cells #[.int .u64 (a : Int), .int .u64 (b : Int)] 91)).heap.size = w.heap.size + 1 := by simp
  rw [hsz] at hK2
  replace hK1 := Lib.hid hK1
  replace hK2 := Lib.hid hK2
  replace hBW := Lib.hid hBW
  clear hsz
  go_region_held3 (fun w' => w'.cell? ⟨w.heap.size, 1, none⟩ = some (.int .u64 (b : Int))) (go_keep)
    (first
      | (go_at_call 92; refine (rem64_any S b _ hSs (by omega) hb0).mono ?_; rintro e w2 ⟨rfl, n2, rfl⟩; rw [hxS.out])
      | (go_at_call 61; refine (lowest_any x b n d _ (by omega) (by omega) hb0 hn hd).mono ?_; rintro e w3 ⟨rfl, hB⟩; have q1 := Blk.below (Blk.drewN hK1.out _) hB; have q2 := Blk.below (Blk.drewN hK2.out _) hB; have hBw : Below w.heap.size w w3 := (below_drewN hBW.out _).trans (hB.mono (by simp; omega)); have k1 : w3.cell? ⟨w.heap.size, 1, none⟩ = some (.int .u64 (b : Int)) := q1.cell 1; have k2 : w3.cell? ⟨w.heap.size + 1, 0, none⟩ = some (.int .u64 0) := q2.cell 0; have k3 : w3.cell? ⟨w.heap.size + 1, 1, none⟩ = some (.int .u64 0) := q2.cell 1; have k4 := q2.frozen 0; have k5 := q2.frozen 1; replace hBw := Lib.hid hBw; clear q1 q2 hB))
  go_wp2
  refine bodyPost_ret (v := .agg #[.int .u64 (n : Int), .int .u64 (d : Int)]) (by simp [results, Try.results57, go_sem, k2, k3]) rfl ⟨rfl, ?_⟩
  exact (hBw.out.setCell (p := ⟨w.heap.size + 1, 0, none⟩) (by simp) _).setCell (p := ⟨w.heap.size + 1, 1, none⟩) (by simp) _
end Go.Proofs.Ytciafmnideihjaa
