/- Package angle: compare, Between, Cmp. · Package angle: Between. · Package angle: Add. · Package angle: Check, Cmp. · What a turned angle's kind is: plain law. · filigreelaw21.AngleDen: the walk. -/
import Derived.Test.YtoaggmegmgdgbaaAngH
import Derived.BigQuiet
import Derived.Deep.CutBlock
import Derived.Lib.QuietBelow
import Derived.Test.YtoaggmegmgdgbaaAwakeA
namespace Go.Proofs.Ytoaggmegmgdgbaa
open Go.RowKit

def cmpN (x y : Nat) : Int := if x < y then -1 else if y < x then 1 else 0

set_option maxRecDepth 100000 in
set_option maxHeartbeats 400000 in
/-- angle.compare -/
theorem compare_any (a b c d x y : Nat) (w : World) (hx : Hid (x = a * d)) (hy : Hid (y = c * b)) (hxs : x < 18446744073709551616) (hys : y < 18446744073709551616) :
    Calls Try.prog 65 #[.agg #[.int .u64 (a : Int), .int .u64 (b : Int)], .agg #[.int .u64 (c : Int), .int .u64 (d : Int)]] w (RetVal (.int .i64 (cmpN x y)) w) := by
  have hxi : (a : Int) * (d : Int) = (x : Int) := by rw [hx.out]; push_cast; rfl
  have hyi : (c : Int) * (b : Int) = (y : Int) := by rw [hy.out]; push_cast; rfl
  have w1 : IntKind.u64.wrap (x : Int) = (x : Int) := by rw [IntKind.wrap_u64]; omega
  have w2 : IntKind.u64.wrap (y : Int) = (y : Int) := by rw [IntKind.wrap_u64]; omega
  have hBW : Hid (Below w.heap.size w ((w.alloc (.cells #[.int .u64 (a : Int), .int .u64 (b : Int)] 60)).alloc (.cells #[.int .u64 (c : Int), .int .u64 (d : Int)] 60))) := Lib.hid (((Below.refl _ w).alloc (Nat.le_refl _) _).alloc (by simp) _)
  by_cases h1 : x < y
  · have hv : Hid (cmpN x y = -1) := Lib.hid (by simp [cmpN, h1])
    have h1I : (x : Int) < (y : Int) := by omega
    go_enter Try.func65, Try.ntmps65
    go_wp2_with fail
    go_quiet (fail)
    go_wp2_with fail
    go_ret
    exact ⟨by rw [hv.out]; rfl, by first | exact hBW.out | exact below_drewN hBW.out _⟩
  · by_cases h2 : y < x
    · have hv : Hid (cmpN x y = 1) := Lib.hid (by simp [cmpN, h1, h2])
      have h1I : ¬ (x : Int) < (y : Int) := by omega
      have h2I : (y : Int) < (x : Int) := by omega
      go_enter Try.func65, Try.ntmps65
      go_wp2_with fail
      go_quiet (fail)
      go_wp2_with fail
      go_ret
      exact ⟨by rw [hv.out]; rfl, by first | exact hBW.out | exact below_drewN hBW.out _⟩
    · have hv : Hid (cmpN x y = 0) := Lib.hid (by simp [cmpN, h1, h2])
      have h1I : ¬ (x : Int) < (y : Int) := by omega
      have h2I : ¬ (y : Int) < (x : Int) := by omega
      go_enter Try.func65, Try.ntmps65
      go_wp2_with fail
      go_quiet (fail)
      go_wp2_with fail
      go_ret
      exact ⟨by rw [hv.out]; rfl, by first | exact hBW.out | exact below_drewN hBW.out _⟩
end Go.Proofs.Ytoaggmegmgdgbaa

namespace Go.Proofs.Ytoaggmegmgdgbaa
open Go.RowKit Go.Sort

theorem cmpN_neg {x y : Nat} : cmpN x y < 0 ↔ x < y := by unfold cmpN; split <;> (try split) <;> omega
theorem cmpN_pos {x y : Nat} : 0 < cmpN x y ↔ y < x := by unfold cmpN; split <;> (try split) <;> omega
theorem cmpN_zero {x y : Nat} : cmpN x y = 0 ↔ x = y := by unfold cmpN; split <;> (try split) <;> omega

theorem smallV_form (neg : Bool) (num den : ByteArray) : ∃ x y : Nat, smallV neg num den = .tuple #[.agg #[.int .u64 (x : Int), .int .u64 (y : Int)], .bool (okA neg num den)] ∧ (okA neg num den = true → x = be (sl num) ∧ y = be (sl den) ∧ x < y ∧ y ≤ 2147483647) := by
  cases h : okA neg num den
  · exact ⟨0, 0, smallV_no h, fun h => by simp at h⟩
  · obtain ⟨-, -, -, -, h1, h2⟩ := okA_spec h
    exact ⟨_, _, smallV_yes h, fun _ => ⟨rfl, rfl, h1, h2⟩⟩

/-- Is the second met on the way from the first to the third? -/
def betw (x1 y1 x2 y2 x3 y3 : Nat) : Bool :=
  if x1 * y3 < x3 * y1 then decide (x1 * y2 < x2 * y1) && decide (x2 * y3 < x3 * y2)
  else if x3 * y1 < x1 * y3 then decide (x1 * y2 < x2 * y1) || decide (x2 * y3 < x3 * y2)
  else !decide (x1 * y2 = x2 * y1)
/-- What Between tells. -/
def betweenV (n1 : Bool) (a1 d1 : ByteArray) (n2 : Bool) (a2 d2 : ByteArray) (n3 : Bool) (a3 d3 : ByteArray) : Value :=
  if okA n1 a1 d1 && okA n2 a2 d2 && okA n3 a3 d3 then .tuple #[.bool (betw (be (sl a1)) (be (sl d1)) (be (sl a2)) (be (sl d2)) (be (sl a3)) (be (sl d3))), .int .i64 0]
  else .tuple #[.bool false, .int .i64 210]

end Go.Proofs.Ytoaggmegmgdgbaa

namespace Go.Proofs.Ytoaggmegmgdgbaa
open Go.RowKit

def addX (x1 y1 x2 y2 : Nat) : Nat := (x1 * y2 + x2 * y1) % (y1 * y2)
/-- What Add tells. -/
def addV (n1 : Bool) (a1 d1 : ByteArray) (n2 : Bool) (a2 d2 : ByteArray) : Value :=
  if okA n1 a1 d1 && okA n2 a2 d2 then
    toldV (addX (be (sl a1)) (be (sl d1)) (be (sl a2)) (be (sl d2)) / Nat.gcd (addX (be (sl a1)) (be (sl d1)) (be (sl a2)) (be (sl d2))) (be (sl d1) * be (sl d2)))
      (be (sl d1) * be (sl d2) / Nat.gcd (addX (be (sl a1)) (be (sl d1)) (be (sl a2)) (be (sl d2))) (be (sl d1) * be (sl d2)))
  else .tuple #[rat0, .int .i64 210]

theorem toldV_form (n d : Nat) : ∃ s1 s2 e, toldV n d = .tuple #[.agg #[.bool false, .string s1, .string s2], .int .i64 e] := by
  unfold toldV ratV rat0
  split
  · exact ⟨_, _, _, rfl⟩
  · exact ⟨_, _, _, rfl⟩

set_option maxRecDepth 100000 in
set_option maxHeartbeats 2000000 in
/-- angle.Add -/
theorem add_any (n1 : Bool) (a1 d1 : ByteArray) (n2 : Bool) (a2 d2 : ByteArray) (w : World)
    (z1 : a1.size ≤ 9223372036854775807) (z2 : d1.size ≤ 9223372036854775807) (z3 : a2.size ≤ 9223372036854775807) (z4 : d2.size ≤ 9223372036854775807) :
    Calls Try.prog 11 #[.agg #[.bool n1, .string a1, .string d1], .agg #[.bool n2, .string a2, .string d2]] w (RetVal (addV n1 a1 d1 n2 a2 d2) w) := by
  obtain ⟨x1, y1, hs1, hq1⟩ := smallV_form n1 a1 d1
  obtain ⟨x2, y2, hs2, hq2⟩ := smallV_form n2 a2 d2
  have hK2 := (Blk.new (w.alloc (.cells #[.bool n1, .string a1, .string d1] 25)) 25 #[.bool n2, .string a2, .string d2]).alloc (.cells #[.bool false, .string ⟨#[]⟩, .string ⟨#[]⟩] 25)
  have hK3 := Blk.new ((w.alloc (.cells #[.bool n1, .string a1, .string d1] 25)).alloc (.cells #[.bool n2, .string a2, .string d2] 25)) 25 #[.bool false, .string ⟨#[]⟩, .string ⟨#[]⟩]
  have hBW : Below w.heap.size w (((w.alloc (.cells #[.bool n1, .string a1, .string d1] 25)).alloc (.cells #[.bool n2, .string a2, .string d2] 25)).alloc (.cells #[.bool false, .string ⟨#[]⟩, .string ⟨#[]⟩] 25)) := (((Below.refl _ w).alloc (Nat.le_refl _) _).alloc (by simp) _).alloc (by simp; omega) _
  rw [show (w.alloc (.cells #[.bool n1, .string a1, .string d1] 25)).heap.size = w.heap.size + 1 by simp] at hK2
  rw [show ((w.alloc (.cells #[.bool n1, .string a1, .string d1] 25)).alloc (.cells #[.bool n2, .string a2, .string d2] 25)).heap.size = w.heap.size + 2 by simp] at hK3
  replace hK2 := Lib.hid hK2
  replace hK3 := Lib.hid hK3
  replace hBW := Lib.hid hBW
  replace hs1 := Lib.hid hs1
  replace hs2 := Lib.hid hs2
  replace hq1 := Lib.hid hq1
  replace hq2 := Lib.hid hq2
  go_enter Try.func11, Try.ntmps11
  go_wp2_with fail
  refine (small_any n1 a1 d1 _ z1 z2).mono ?_
  rintro en v1 ⟨rfl, hb⟩
  rw [hs1.out]
  have k2 := (Blk.below hK2.out hb).alloc (.cells #[.int .u64 (x1 : Int), .int .u64 (y1 : Int)] 60)
  have k3 := (Blk.below hK3.out hb).alloc (.cells #[.int .u64 (x1 : Int), .int .u64 (y1 : Int)] 60)
  have p1 := Blk.new v1 60 #[.int .u64 (x1 : Int), .int .u64 (y1 : Int)]
  have hB1 := hBW.out.trans (hb.mono (by simp; omega))
  replace hB1 := hB1.alloc hB1.size (.cells #[.int .u64 (x1 : Int), .int .u64 (y1 : Int)] 60)
  have hz : w.heap.size + 2 ≠ v1.heap.size := by have := hb.size; simp at this; omega
  clear hb hK2 hK3 hBW
  go_upto_region 2 with fail
  generalize hv1 : v1.alloc (.cells #[.int .u64 (x1 : Int), .int .u64 (y1 : Int)] 60) = u1 at k2 k3 p1 hB1 ⊢
  generalize hg1 : v1.heap.size = g1 at *
  have c0 : u1.cell? ⟨w.heap.size + 1, 0, none⟩ = some (.bool n2) := k2.cell 0
  have c1 : u1.cell? ⟨w.heap.size + 1, 1, none⟩ = some (.string a2) := k2.cell 1
  have c2 : u1.cell? ⟨w.heap.size + 1, 2, none⟩ = some (.string d2) := k2.cell 2
  replace k3 := Lib.hid k3
  replace p1 := Lib.hid p1
  replace hB1 := Lib.hid hB1
  clear hv1 hg1 k2
  go_wp2_with fail
  refine (small_any n2 a2 d2 _ z3 z4).mono ?_
  rintro en v2 ⟨rfl, hb⟩
  rw [hs2.out]
  have k3' := (Blk.below k3.out hb).alloc (.cells #[.int .u64 (x2 : Int), .int .u64 (y2 : Int)] 60)
  have p1' := (Blk.below p1.out hb).alloc (.cells #[.int .u64 (x2 : Int), .int .u64 (y2 : Int)] 60)
  have p2 := Blk.new v2 60 #[.int .u64 (x2 : Int), .int .u64 (y2 : Int)]
  have hB2 := hB1.out.trans (hb.mono hB1.out.size)
  replace hB2 := hB2.alloc hB2.size (.cells #[.int .u64 (x2 : Int), .int .u64 (y2 : Int)] 60)
  clear hb k3 p1 hB1 c0 c1 c2
  go_upto_region 3 with fail
  generalize hv2 : v2.alloc (.cells #[.int .u64 (x2 : Int), .int .u64 (y2 : Int)] 60) = u2 at k3' p1' p2 hB2 ⊢
  generalize hg2 : v2.heap.size = g2 at *
  have r0 : u2.cell? ⟨w.heap.size + 2, 0, none⟩ = some (.bool false) := k3'.cell 0
  have r1 : u2.cell? ⟨w.heap.size + 2, 1, none⟩ = some (.string ⟨#[]⟩) := k3'.cell 1
  have r2 : u2.cell? ⟨w.heap.size + 2, 2, none⟩ = some (.string ⟨#[]⟩) := k3'.cell 2
  have f0 := k3'.frozen 0
  have f1 := k3'.frozen 1
  have f2 := k3'.frozen 2
  replace k3' := Lib.hid k3'
  replace p1' := Lib.hid p1'
  replace p2 := Lib.hid p2
  replace hB2 := Lib.hid hB2
  clear hv2 hg2
  cases h1 : okA n1 a1 d1
  · have hv : Hid (addV n1 a1 d1 n2 a2 d2 = .tuple #[.agg #[.bool false, .string ⟨#[]⟩, .string ⟨#[]⟩], .int .i64 210]) := Lib.hid (by simp [addV, h1, rat0])
    clear h1
    go_wp2_with fail
    refine bodyPost_ret (v := .tuple #[.agg #[.bool false, .string ⟨#[]⟩, .string ⟨#[]⟩], .int .i64 210]) (by simp [results, Try.results11, go_sem, r0, r1, r2]) rfl ⟨by rw [hv.out], ?_⟩
    exact ((hB2.out.setCell (p := ⟨w.heap.size + 2, 0, none⟩) (by simp) _).setCell (p := ⟨w.heap.size + 2, 1, none⟩) (by simp) _).setCell (p := ⟨w.heap.size + 2, 2, none⟩) (by simp) _
  cases h2 : okA n2 a2 d2
  · have hv : Hid (addV n1 a1 d1 n2 a2 d2 = .tuple #[.agg #[.bool false, .string ⟨#[]⟩, .string ⟨#[]⟩], .int .i64 210]) := Lib.hid (by simp [addV, h2, rat0])
    clear h1 h2
    go_wp2_with fail
    refine bodyPost_ret (v := .tuple #[.agg #[.bool false, .string ⟨#[]⟩, .string ⟨#[]⟩], .int .i64 210]) (by simp [results, Try.results11, go_sem, r0, r1, r2]) rfl ⟨by rw [hv.out], ?_⟩
    exact ((hB2.out.setCell (p := ⟨w.heap.size + 2, 0, none⟩) (by simp) _).setCell (p := ⟨w.heap.size + 2, 1, none⟩) (by simp) _).setCell (p := ⟨w.heap.size + 2, 2, none⟩) (by simp) _
  obtain ⟨ex1, ey1, k1, l1⟩ := hq1.out h1
  obtain ⟨ex2, ey2, k2, l2⟩ := hq2.out h2
  have b1 : x1 ≤ 2147483647 := by omega
  have b2 : x2 ≤ 2147483647 := by omega
  have m1 : x1 * y2 ≤ 4611686014132420609 := Nat.mul_le_mul b1 l2
  have m2 : x2 * y1 ≤ 4611686014132420609 := Nat.mul_le_mul b2 l1
  have m3 : y1 * y2 ≤ 4611686014132420609 := Nat.mul_le_mul l1 l2
  have m4 : 0 < y1 * y2 := Nat.mul_pos (by omega) (by omega)
  obtain ⟨S1, hS1⟩ : ∃ S, S = x1 * y2 := ⟨_, rfl⟩
  obtain ⟨S2, hS2⟩ : ∃ S, S = x2 * y1 := ⟨_, rfl⟩
  obtain ⟨Y, hY⟩ : ∃ S, S = y1 * y2 := ⟨_, rfl⟩
  obtain ⟨X, hX⟩ : ∃ S, S = (S1 + S2) % Y := ⟨_, rfl⟩
  obtain ⟨N, hN⟩ : ∃ S, S = X / Nat.gcd X Y := ⟨_, rfl⟩
  obtain ⟨D, hD⟩ : ∃ S, S = Y / Nat.gcd X Y := ⟨_, rfl⟩
  have hv : addV n1 a1 d1 n2 a2 d2 = toldV N D := by
    have e : addX (be (sl a1)) (be (sl d1)) (be (sl a2)) (be (sl d2)) = X := by rw [hX, hS1, hS2, hY, ex1, ey1, ex2, ey2]; rfl
    simp only [addV, h1, h2, Bool.and_self, if_true, e]
    rw [hN, hD, hY, ey1, ey2]
  obtain ⟨s1, s2, c, hT⟩ := toldV_form N D
  rw [← hS1] at m1
  rw [← hS2] at m2
  rw [← hY] at m3 m4
  have i1 : (x1 : Int) * (y2 : Int) = (S1 : Int) := by rw [hS1]; push_cast; rfl
  have i2 : (x2 : Int) * (y1 : Int) = (S2 : Int) := by rw [hS2]; push_cast; rfl
  have i3 : (y1 : Int) * (y2 : Int) = (Y : Int) := by rw [hY]; push_cast; rfl
  have i4 : ((S1 : Int) + (S2 : Int)) % (Y : Int) = (X : Int) := by rw [hX]; push_cast; rfl
  have w1 : IntKind.u64.wrap (S1 : Int) = (S1 : Int) := by rw [IntKind.wrap_u64]; omega
  have w2 : IntKind.u64.wrap (S2 : Int) = (S2 : Int) := by rw [IntKind.wrap_u64]; omega
  have w3 : IntKind.u64.wrap (Y : Int) = (Y : Int) := by rw [IntKind.wrap_u64]; omega
  have w4 : IntKind.u64.wrap ((S1 : Int) + (S2 : Int)) = (S1 : Int) + (S2 : Int) := by rw [IntKind.wrap_u64]; omega
  have hXY : X < Y := by rw [hX]; exact Nat.mod_lt _ m4
  have hN1 : N ≤ X := by rw [hN]; exact Nat.div_le_self _ _
  have hD1 : D ≤ Y := by rw [hD]; exact Nat.div_le_self _ _
  have hXs : Hid (X < 18446744073709551616) := Lib.hid (by omega)
  have hYs : Hid (Y < 18446744073709551616) := Lib.hid (by omega)
  have hNs : Hid (N < 18446744073709551616) := Lib.hid (by omega)
  have hDs : Hid (D < 18446744073709551616) := Lib.hid (by omega)
  have hY0 : ¬ (Y : Int) = 0 := by omega
  replace m4 := Lib.hid m4
  replace hN := Lib.hid hN
  replace hD := Lib.hid hD
  replace hv := Lib.hid hv
  replace hT := Lib.hid hT
  clear hS1 hS2 hY hX hXY hN1 hD1 ex1 ey1 ex2 ey2 k1 k2 l1 l2 b1 b2 m1 m2 m3 h1 h2
  have c1a : u2.cell? ⟨g1, 0, none⟩ = some (.int .u64 (x1 : Int)) := Blk.cell p1'.out 0
  have c1b : u2.cell? ⟨g1, 1, none⟩ = some (.int .u64 (y1 : Int)) := Blk.cell p1'.out 1
  have c2a : u2.cell? ⟨g2, 0, none⟩ = some (.int .u64 (x2 : Int)) := Blk.cell p2.out 0
  have c2b : u2.cell? ⟨g2, 1, none⟩ = some (.int .u64 (y2 : Int)) := Blk.cell p2.out 1
  go_wp2_with fail
  refine (lowest_any X Y N D _ hXs.out hYs.out m4.out hN hD).mono ?_
  rintro en u3 ⟨rfl, hb⟩
  have q3 := Blk.below k3'.out hb
  have hB3 := Lib.hid (hB2.out.trans (hb.mono hB2.out.size))
  replace q3 := Lib.hid q3
  clear hb hB2 p1' p2 k3' r0 r1 r2 f0 f1 f2 c1a c1b c2a c2b
  go_wp2_with fail
  refine (told_any N D _ hNs.out hDs.out).mono ?_
  rintro en u4 ⟨rfl, hb⟩
  rw [hT.out]
  have q4 := Blk.below q3.out hb
  have hB4 := Lib.hid (hB3.out.trans (hb.mono hB3.out.size))
  have r0 : u4.cell? ⟨w.heap.size + 2, 0, none⟩ = some (.bool false) := q4.cell 0
  have r1 : u4.cell? ⟨w.heap.size + 2, 1, none⟩ = some (.string ⟨#[]⟩) := q4.cell 1
  have r2 : u4.cell? ⟨w.heap.size + 2, 2, none⟩ = some (.string ⟨#[]⟩) := q4.cell 2
  have f0 := q4.frozen 0
  have f1 := q4.frozen 1
  have f2 := q4.frozen 2
  clear hb hB3 q3 q4
  go_wp2_with fail
  refine bodyPost_ret (v := .tuple #[.agg #[.bool false, .string s1, .string s2], .int .i64 c]) (by simp [results, Try.results11, go_sem, r0, r1, r2]) rfl ⟨by rw [hv.out, hT.out], ?_⟩
  exact ((hB4.out.setCell (p := ⟨w.heap.size + 2, 0, none⟩) (by simp) _).setCell (p := ⟨w.heap.size + 2, 1, none⟩) (by simp) _).setCell (p := ⟨w.heap.size + 2, 2, none⟩) (by simp) _
end Go.Proofs.Ytoaggmegmgdgbaa

namespace Go.Proofs.Ytoaggmegmgdgbaa
open Go.RowKit

set_option maxRecDepth 100000 in
set_option maxHeartbeats 400000 in
/-- angle.Check -/
theorem check_any (n1 : Bool) (a1 d1 : ByteArray) (w : World) (z1 : a1.size ≤ 9223372036854775807) (z2 : d1.size ≤ 9223372036854775807) :
    Calls Try.prog 26 #[.agg #[.bool n1, .string a1, .string d1]] w (RetVal (.int .i64 (if okA n1 a1 d1 then 0 else 210)) w) := by
  obtain ⟨r, hr⟩ : ∃ r : Value, r = .int .i64 (if okA n1 a1 d1 then 0 else 210) := ⟨_, rfl⟩
  rw [← hr]
  replace hr := Lib.hid hr
  obtain ⟨x1, y1, hs1, -⟩ := smallV_form n1 a1 d1
  have hBW : Below w.heap.size w (w.alloc (.cells #[.bool n1, .string a1, .string d1] 25)) := (Below.refl _ w).alloc (Nat.le_refl _) _
  replace hBW := Lib.hid hBW
  replace hs1 := Lib.hid hs1
  go_enter Try.func26, Try.ntmps26
  go_wp2_with fail
  refine (small_any n1 a1 d1 _ z1 z2).mono ?_
  rintro en v1 ⟨rfl, hb⟩
  rw [hs1.out]
  have hB1 := hBW.out.trans (hb.mono (by simp))
  replace hB1 := hB1.alloc hB1.size (.cells #[.int .u64 (x1 : Int), .int .u64 (y1 : Int)] 60)
  clear hb hBW
  go_upto_region 2 with fail
  generalize hv1 : v1.alloc (.cells #[.int .u64 (x1 : Int), .int .u64 (y1 : Int)] 60) = u1 at hB1 ⊢
  replace hB1 := Lib.hid hB1
  clear hv1
  cases h1 : okA n1 a1 d1
  · have hv : Hid (r = .int .i64 210) := Lib.hid (by rw [hr.out, h1]; rfl)
    go_wp2_with fail
    go_ret
    exact ⟨by rw [hv.out]; rfl, hB1.out⟩
  · have hv : Hid (r = .int .i64 0) := Lib.hid (by rw [hr.out, h1]; rfl)
    go_wp2_with fail
    go_ret
    exact ⟨by rw [hv.out]; rfl, hB1.out⟩

/-- What Cmp tells. -/
def acmpV (n1 : Bool) (a1 d1 : ByteArray) (n2 : Bool) (a2 d2 : ByteArray) : Value :=
  if okA n1 a1 d1 && okA n2 a2 d2 then .tuple #[.int .i64 (cmpN (be (sl a1) * be (sl d2)) (be (sl a2) * be (sl d1))), .int .i64 0]
  else .tuple #[.int .i64 0, .int .i64 210]

set_option maxRecDepth 100000 in
set_option maxHeartbeats 2000000 in
/-- angle.Cmp -/
theorem acmp_any (n1 : Bool) (a1 d1 : ByteArray) (n2 : Bool) (a2 d2 : ByteArray) (w : World)
    (z1 : a1.size ≤ 9223372036854775807) (z2 : d1.size ≤ 9223372036854775807) (z3 : a2.size ≤ 9223372036854775807) (z4 : d2.size ≤ 9223372036854775807) :
    Calls Try.prog 48 #[.agg #[.bool n1, .string a1, .string d1], .agg #[.bool n2, .string a2, .string d2]] w (RetVal (acmpV n1 a1 d1 n2 a2 d2) w) := by
  obtain ⟨x1, y1, hs1, hq1⟩ := smallV_form n1 a1 d1
  obtain ⟨x2, y2, hs2, hq2⟩ := smallV_form n2 a2 d2
  have hK2 := Blk.new (w.alloc (.cells #[.bool n1, .string a1, .string d1] 25)) 25 #[.bool n2, .string a2, .string d2]
  have hBW : Below w.heap.size w ((w.alloc (.cells #[.bool n1, .string a1, .string d1] 25)).alloc (.cells #[.bool n2, .string a2, .string d2] 25)) := ((Below.refl _ w).alloc (Nat.le_refl _) _).alloc (by simp) _
  rw [show (w.alloc (.cells #[.bool n1, .string a1, .string d1] 25)).heap.size = w.heap.size + 1 by simp] at hK2
  replace hK2 := Lib.hid hK2
  replace hBW := Lib.hid hBW
  replace hs1 := Lib.hid hs1
  replace hs2 := Lib.hid hs2
  replace hq1 := Lib.hid hq1
  replace hq2 := Lib.hid hq2
  go_enter Try.func48, Try.ntmps48
  go_wp2_with fail
  refine (small_any n1 a1 d1 _ z1 z2).mono ?_
  rintro en v1 ⟨rfl, hb⟩
  rw [hs1.out]
  have k2 := (Blk.below hK2.out hb).alloc (.cells #[.int .u64 (x1 : Int), .int .u64 (y1 : Int)] 60)
  have p1 := Blk.new v1 60 #[.int .u64 (x1 : Int), .int .u64 (y1 : Int)]
  have hB1 := hBW.out.trans (hb.mono (by simp; omega))
  replace hB1 := hB1.alloc hB1.size (.cells #[.int .u64 (x1 : Int), .int .u64 (y1 : Int)] 60)
  clear hb hK2 hBW
  go_upto_region 2 with fail
  generalize hv1 : v1.alloc (.cells #[.int .u64 (x1 : Int), .int .u64 (y1 : Int)] 60) = u1 at k2 p1 hB1 ⊢
  generalize hg1 : v1.heap.size = g1 at *
  have c0 : u1.cell? ⟨w.heap.size + 1, 0, none⟩ = some (.bool n2) := k2.cell 0
  have c1 : u1.cell? ⟨w.heap.size + 1, 1, none⟩ = some (.string a2) := k2.cell 1
  have c2 : u1.cell? ⟨w.heap.size + 1, 2, none⟩ = some (.string d2) := k2.cell 2
  replace p1 := Lib.hid p1
  replace hB1 := Lib.hid hB1
  clear hv1 hg1 k2
  go_wp2_with fail
  refine (small_any n2 a2 d2 _ z3 z4).mono ?_
  rintro en v2 ⟨rfl, hb⟩
  rw [hs2.out]
  have p1' := (Blk.below p1.out hb).alloc (.cells #[.int .u64 (x2 : Int), .int .u64 (y2 : Int)] 60)
  have p2 := Blk.new v2 60 #[.int .u64 (x2 : Int), .int .u64 (y2 : Int)]
  have hB2 := hB1.out.trans (hb.mono hB1.out.size)
  replace hB2 := hB2.alloc hB2.size (.cells #[.int .u64 (x2 : Int), .int .u64 (y2 : Int)] 60)
  clear hb p1 hB1 c0 c1 c2
  go_upto_region 3 with fail
  generalize hv2 : v2.alloc (.cells #[.int .u64 (x2 : Int), .int .u64 (y2 : Int)] 60) = u2 at p1' p2 hB2 ⊢
  generalize hg2 : v2.heap.size = g2 at *
  have d1a : u2.cell? ⟨g1, 0, none⟩ = some (.int .u64 (x1 : Int)) := p1'.cell 0
  have d1b : u2.cell? ⟨g1, 1, none⟩ = some (.int .u64 (y1 : Int)) := p1'.cell 1
  have d2a : u2.cell? ⟨g2, 0, none⟩ = some (.int .u64 (x2 : Int)) := p2.cell 0
  have d2b : u2.cell? ⟨g2, 1, none⟩ = some (.int .u64 (y2 : Int)) := p2.cell 1
  replace hB2 := Lib.hid hB2
  clear hv2 hg2 p1' p2
  cases h1 : okA n1 a1 d1
  · have hv : Hid (acmpV n1 a1 d1 n2 a2 d2 = .tuple #[.int .i64 0, .int .i64 210]) := Lib.hid (by simp [acmpV, h1])
    clear h1
    go_wp2_with fail
    go_ret2
    exact ⟨by rw [hv.out]; rfl, hB2.out⟩
  cases h2 : okA n2 a2 d2
  · have hv : Hid (acmpV n1 a1 d1 n2 a2 d2 = .tuple #[.int .i64 0, .int .i64 210]) := Lib.hid (by simp [acmpV, h2])
    clear h1 h2
    go_wp2_with fail
    go_ret2
    exact ⟨by rw [hv.out]; rfl, hB2.out⟩
  obtain ⟨ex1, ey1, k1, l1⟩ := hq1.out h1
  obtain ⟨ex2, ey2, k2, l2⟩ := hq2.out h2
  obtain ⟨X12, H12⟩ : ∃ X, X = x1 * y2 := ⟨_, rfl⟩
  have L12 : X12 < 18446744073709551616 := by rw [H12]; exact Nat.lt_of_le_of_lt (Nat.mul_le_mul (show x1 ≤ 2147483647 by omega) l2) (by omega)
  obtain ⟨X21, H21⟩ : ∃ X, X = x2 * y1 := ⟨_, rfl⟩
  have L21 : X21 < 18446744073709551616 := by rw [H21]; exact Nat.lt_of_le_of_lt (Nat.mul_le_mul (show x2 ≤ 2147483647 by omega) l1) (by omega)
  have hv : Hid (acmpV n1 a1 d1 n2 a2 d2 = .tuple #[.int .i64 (cmpN X12 X21), .int .i64 0]) := Lib.hid (by
    rw [H12, H21, ex1, ey1, ex2, ey2]; simp [acmpV, h1, h2])
  replace H12 := Lib.hid H12
  replace H21 := Lib.hid H21
  clear ex1 ey1 ex2 ey2 h1 h2
  go_wp2_with fail
  refine (compare_any x1 y1 x2 y2 X12 X21 _ H12 H21 L12 L21).mono ?_
  rintro en u3 ⟨rfl, hb⟩
  have hB3 := Lib.hid (hB2.out.trans (hb.mono hB2.out.size))
  clear hb d1a d1b d2a d2b
  go_wp2_with fail
  go_ret2
  exact ⟨by rw [hv.out]; rfl, hB3.out⟩
end Go.Proofs.Ytoaggmegmgdgbaa

namespace Go.Proofs.Ytoaggmegmgdgbaa

theorem nb_small {n k : Nat} (h : n < 256 ^ k) : (nb n).length ≤ k := by
  rcases Nat.eq_zero_or_pos n with rfl | h0
  · simp [nb_zero]
  · have hb := (nb_bounds h0).1
    rcases Nat.lt_or_ge k (nb n).length with hlt | hge
    · exfalso
      have : 256 ^ k ≤ 256 ^ ((nb n).length - 1) := Nat.pow_le_pow_right (by omega) (by omega)
      omega
    · exact hge

theorem okA_natS {n d : Nat} (hg : Nat.gcd n d = 1) (hlt : n < d) (hd : d ≤ 2147483647) : okA false (natS n) (natS d) = true := by
  have e1 : (nb n).length ≤ 8 := nb_small (by omega)
  have e2 : (nb d).length ≤ 8 := nb_small (by omega)
  have m1 := mayB_natS (n := n) (by omega)
  have m2 := mayB_natS (n := d) (by omega)
  simp [okA, ratioMay, smallB, m1, m2, be_natS, hg, hlt, hd, natS_size, e1, e2]
  omega

theorem kindF_add : ∀ (f n d c : Nat), 0 < n → n ≤ f → kindF f n d c = ((kindN n d).1 + c, (kindN n d).2) := by
  intro f
  induction f using Nat.strongRecOn with
  | ind f ih =>
    intro n d c h0 hf
    by_cases h1 : Nat.gcd n d = 1
    · rw [kindF_end h1, kindN, kindF_end h1]
      simp
    · obtain ⟨f', rfl⟩ : ∃ f', f = f' + 1 := ⟨f - 1, by omega⟩
      obtain ⟨n', hn'⟩ : ∃ n', n = n' + 1 := ⟨n - 1, by omega⟩
      have hg0 : 0 < Nat.gcd n d := Nat.gcd_pos_of_pos_left _ h0
      have hq : n / Nat.gcd n d < n := Nat.div_lt_self h0 (by omega)
      have hq0 : 0 < n / Nat.gcd n d := Nat.div_pos (Nat.gcd_le_left _ h0) hg0
      have hN : kindN n d = ((kindN (n / Nat.gcd n d) d).1 + 1, (kindN (n / Nat.gcd n d) d).2) := by
        have e : kindN n d = kindF (n' + 1) n d 0 := by rw [kindN]; congr 1
        rw [e, kindF_go h1]
        exact ih n' (by omega) _ d _ hq0 (by omega)
      rw [kindF_go h1, ih f' (by omega) _ d _ hq0 (by omega), hN]
      simp [Nat.add_assoc, Nat.add_comm]

theorem kindN_pos {n d : Nat} (h0 : 0 < n) : 1 ≤ (kindN n d).2 := by
  have : ∀ (f n c : Nat), 0 < n → 1 ≤ (kindF f n d c).2 := by
    intro f
    induction f with
    | zero => intro n c h; simp only [kindF]; exact (ordG_le h).1
    | succ f ih =>
      intro n c h
      simp only [kindF]
      split
      · exact (ordG_le h).1
      · exact ih _ _ (Nat.div_pos (Nat.gcd_le_left _ h) (Nat.gcd_pos_of_pos_left _ h))
  exact this n n 0 h0

/-- Turned once: the period stays, the preperiod is one less. -/
theorem kindN_turn {n d : Nat} (h0 : 0 < n) : kindN (n / Nat.gcd n d) d = ((kindN n d).1 - 1, (kindN n d).2) := by
  by_cases h1 : Nat.gcd n d = 1
  · have e : kindN n d = (0, ordG n d) := kindF_end h1
    rw [h1, Nat.div_one, e]
    rfl
  · have hg0 : 0 < Nat.gcd n d := Nat.gcd_pos_of_pos_left _ h0
    have hq : n / Nat.gcd n d < n := Nat.div_lt_self h0 (by omega)
    have hq0 : 0 < n / Nat.gcd n d := Nat.div_pos (Nat.gcd_le_left _ h0) hg0
    obtain ⟨n', hn'⟩ : ∃ n', n = n' + 1 := ⟨n - 1, by omega⟩
    have hN : kindN n d = ((kindN (n / Nat.gcd n d) d).1 + 1, (kindN (n / Nat.gcd n d) d).2) := by
      have e : kindN n d = kindF (n' + 1) n d 0 := by rw [kindN]; congr 1
      rw [e, kindF_go h1]
      exact kindF_add n' _ d _ hq0 (by omega)
    rw [hN]
    simp

/-- The denominator of the turned angle. -/
theorem turn_den {x y d : Nat} (hg : Nat.gcd x y = 1) : Nat.gcd (turnX x y d 1) y = Nat.gcd y d := by
  unfold turnX
  rw [Nat.pow_one, Nat.mul_mod, Nat.mod_mod, ← Nat.mul_mod]
  rw [← Nat.gcd_rec, Nat.gcd_comm y, Nat.gcd_comm y]
  exact Nat.Coprime.gcd_mul_left_cancel d hg

end Go.Proofs.Ytoaggmegmgdgbaa

namespace Go.Proofs.Ytoaggmegmgdgbaa
open Go.RowKit

theorem kindV_form (neg : Bool) (num den : ByteArray) (d : Int) : ∃ p n e : Int, kindV neg num den d = .tuple #[.int .i64 p, .int .i64 n, .int .i64 e] ∧ (e = 0 → okA neg num den = true ∧ roundB d = true ∧ p = ((kindN (be (sl den)) d.toNat).1 : Int) ∧ n = ((kindN (be (sl den)) d.toNat).2 : Int)) := by
  unfold kindV
  cases okA neg num den
  · exact ⟨_, _, _, rfl, fun h => by simp at h⟩
  · cases roundB d
    · exact ⟨_, _, _, rfl, fun h => by simp at h⟩
    · exact ⟨_, _, _, rfl, fun _ => ⟨rfl, rfl, rfl, rfl⟩⟩

/-- The turned angle and its kind. -/
theorem turned {neg : Bool} {num den : ByteArray} {d : Int} (ha : okA neg num den = true) (hr : roundB d = true) (h0 : 0 < be (sl den)) :
    ∃ s1 s2 : ByteArray, turnsV neg num den d 1 = .tuple #[.agg #[.bool false, .string s1, .string s2], .int .i64 0] ∧ s1.size ≤ 9223372036854775807 ∧ s2.size ≤ 9223372036854775807 ∧
      kindV false s1 s2 d = .tuple #[.int .i64 (((kindN (be (sl den)) d.toNat).1 - 1 : Nat) : Int), .int .i64 ((kindN (be (sl den)) d.toNat).2 : Int), .int .i64 0] := by
  obtain ⟨-, -, -, hg, hlt, hd⟩ := okA_spec ha
  obtain ⟨x, hx⟩ : ∃ x, x = be (sl num) := ⟨_, rfl⟩
  obtain ⟨y, hy⟩ : ∃ y, y = be (sl den) := ⟨_, rfl⟩
  rw [← hx, ← hy] at hg hlt
  rw [← hy] at hd h0
  obtain ⟨X, hX⟩ : ∃ X, X = turnX x y d.toNat 1 := ⟨_, rfl⟩
  have hgd : Nat.gcd X y = Nat.gcd y d.toNat := by rw [hX]; exact turn_den hg
  have hXy : X < y := by rw [hX]; exact Nat.mod_lt _ h0
  obtain ⟨g, hgg⟩ : ∃ g, g = Nat.gcd X y := ⟨_, rfl⟩
  have hg0 : 0 < g := by rw [hgg]; exact Nat.gcd_pos_of_pos_right _ h0
  have c1 : Nat.gcd (X / g) (y / g) = 1 := by
    rw [Nat.gcd_div (by rw [hgg]; exact Nat.gcd_dvd_left _ _) (by rw [hgg]; exact Nat.gcd_dvd_right _ _), ← hgg]
    exact Nat.div_self hg0
  have c2 : X / g < y / g := Nat.div_lt_div_of_lt_of_dvd (by rw [hgg]; exact Nat.gcd_dvd_right _ _) hXy
  have c3 : y / g ≤ 2147483647 := Nat.le_trans (Nat.div_le_self _ _) hd
  have hok := okA_natS c1 c2 c3
  have z : ∀ n, n ≤ 2147483647 → (natS n).size ≤ 9223372036854775807 := fun n hn => by
    rw [natS_size]
    have := nb_small (n := n) (k := 8) (by omega)
    omega
  refine ⟨natS (X / g), natS (y / g), ?_, z _ (by omega), z _ c3, ?_⟩
  · unfold turnsV
    rw [ha, hr, ← hx, ← hy, show (1 : Int).toNat = 1 from rfl, ← hX, ← hgg]
    rfl
  · unfold kindV
    rw [hok, hr, be_natS, hgg, hgd, kindN_turn h0, ← hy]
    rfl

theorem kindF_cnt : ∀ (f n d c : Nat), (kindF f n d c).1 ≤ c + f := by
  intro f
  induction f with
  | zero => intro n d c; simp [kindF]
  | succ f ih =>
    intro n d c
    simp only [kindF]
    split
    · simp
    · have := ih (n / Nat.gcd n d) d (c + 1); omega

theorem max_pre {A : Nat} (h : A ≤ 2147483647) : (((A - 1 : Nat) : Int) == max 0 (wrap64 ((A : Int) - 1))) = true := by
  have hw : wrap64 ((A : Int) - 1) = (A : Int) - 1 := by unfold wrap64; omega
  rw [hw]
  simp
  omega

end Go.Proofs.Ytoaggmegmgdgbaa
