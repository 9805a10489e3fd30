/- Package angle: Add. -/
import Derived.Test.YtciafmnideihjaaAngO
namespace Go.Proofs.Ytciafmnideihjaa
open Go.RowKit

def addX (x1 y1 x2 y2 : Nat) : Nat := (x1 * y2 + x2 * y1) % (y1 * y2)
/-- What Add tells. -/
def addV (n1 : Bool) (a1 d1 : ByteArray) (n2 : Bool) (a2 d2 : ByteArray) : Value :=
  if okA n1 a1 d1 && okA n2 a2 d2 then
    toldV (addX (be (sl a1)) (be (sl d1)) (be (sl a2)) (be (sl d2)) / Nat.gcd (addX (be (sl a1)) (be (sl d1)) (be (sl a2)) (be (sl d2))) (be (sl d1) * be (sl d2)))
      (be (sl d1) * be (sl d2) / Nat.gcd (addX (be (sl a1)) (be (sl d1)) (be (sl a2)) (be (sl d2))) (be (sl d1) * be (sl d2)))
  else .tuple #[rat0, .int .i64 210]

theorem toldV_form (n d : Nat) : ∃ s1 s2 e, toldV n d = .tuple #[.agg #[.bool false, .string s1, .string s2], .int .i64 e] := by
  unfold toldV ratV rat0
  split
  · exact ⟨_, _, _, rfl⟩
  · exact ⟨_, _, _, rfl⟩

set_option maxRecDepth 100000 in
set_option maxHeartbeats 2000000 in
/-- angle.Add -/
theorem add_any (n1 : Bool) (a1 d1 : ByteArray) (n2 : Bool) (a2 d2 : ByteArray) (w : World)
    (z1 : a1.size ≤ 9223372036854775807) (z2 : d1.size ≤ 9223372036854775807) (z3 : a2.size ≤ 9223372036854775807) (z4 : d2.size ≤ 9223372036854775807) :
    Calls Try.prog 38 #[.agg #[.bool n1, .string a1, .string d1], .agg #[.bool n2, .string a2, .string d2]] w (RetVal (addV n1 a1 d1 n2 a2 d2) w) := by
  obtain ⟨x1, y1, hs1, hq1⟩ := smallV_form n1 a1 d1
  obtain ⟨x2, y2, hs2, hq2⟩ := smallV_form n2 a2 d2
  have hK2 := (Blk.new (w.alloc (.cells #[.bool n1, .string a1, .string d1] 24)) 24 #[.bool n2, .string a2, .string d2]).alloc (.cells #[.bool false, .string ⟨#[]⟩, .string ⟨#[]⟩] 24)
  have hK3 := Blk.new ((w.alloc (.cells #[.bool n1, .string a1, .string d1] 24)).alloc (.cells #[.bool n2, .string a2, .string d2] 24)) 24 #[.bool false, .string ⟨#[]⟩, .string ⟨#[]⟩]
  have hBW : Below w.heap.size w (((w.alloc (.cells #[.bool n1, .string a1, .string d1] 24)).alloc (.cells #[.bool n2, .string a2, .string d2] 24)).alloc (.cells #[.bool false, .string ⟨#[]⟩, .string ⟨#[]⟩] 24)) := (((Below.refl _ w).alloc (Nat.le_refl _) _).alloc (by simp) _).alloc (by simp; omega) _
  rw [show (w.alloc (.cells #[.bool n1, .string a1, .string d1] 24)).heap.size = w.heap.size + 1 by simp] at hK2
  rw [show ((w.alloc (.cells #[.bool n1, .string a1, .string d1] 24)).alloc (.cells #[.bool n2, .string a2, .string d2] 24)).heap.size = w.heap.size + 2 by simp] at hK3
  replace hK2 := Lib.hid hK2
  replace hK3 := Lib.hid hK3
  replace hBW := Lib.hid hBW
  replace hs1 := Lib.hid hs1
  replace hs2 := Lib.hid hs2
  replace hq1 := Lib.hid hq1
  replace hq2 := Lib.hid hq2
  go_enter Try.func38, Try.ntmps38
  go_wp2_with fail
  refine (small_any n1 a1 d1 _ z1 z2).mono ?_
  rintro en v1 ⟨rfl, hb⟩
  rw [hs1.out]
  have k2 := (Blk.below hK2.out hb).alloc (.cells #[.int .u64 (x1 : Int), .int .u64 (y1 : Int)] 91)
  have k3 := (Blk.below hK3.out hb).alloc (.cells #[.int .u64 (x1 : Int), .int .u64 (y1 : Int)] 91)
  have p1 := Blk.new v1 91 #[.int .u64 (x1 : Int), .int .u64 (y1 : Int)]
  have hB1 := hBW.out.trans (hb.mono (by simp; omega))
  replace hB1 := hB1.alloc hB1.size (.cells #[.int .u64 (x1 : Int), .int .u64 (y1 : Int)] 91)
  have hz : w.heap.size + 2 ≠ v1.heap.size := by have := hb.size; simp at this; omega
  clear hb hK2 hK3 hBW
  go_upto_region 2 with fail
  generalize hv1 : v1.alloc (.cells #[.int .u64 (x1 : Int), .int .u64 (y1 : Int)] 91) = u1 at k2 k3 p1 hB1 ⊢
  generalize hg1 : v1.heap.size = g1 at *
  have c0 : u1.cell? ⟨w.heap.size + 1, 0, none⟩ = some (.bool n2) := k2.cell 0
  have c1 : u1.cell? ⟨w.heap.size + 1, 1, none⟩ = some (.string a2) := k2.cell 1
  have c2 : u1.cell? ⟨w.heap.size + 1, 2, none⟩ = some (.string d2) := k2.cell 2
  replace k3 := Lib.hid k3
  replace p1 := Lib.hid p1
  replace hB1 := Lib.hid hB1
  clear hv1 hg1 k2
  go_wp2_with fail
  refine (small_any n2 a2 d2 _ z3 z4).mono ?_
  rintro en v2 ⟨rfl, hb⟩
  rw [hs2.out]
  have k3' := (Blk.below k3.out hb).alloc (.cells #[.int .u64 (x2 : Int), .int .u64 (y2 : Int)] 91)
  have p1' := (Blk.below p1.out hb).alloc (.cells #[.int .u64 (x2 : Int), .int .u64 (y2 : Int)] 91)
  have p2 := Blk.new v2 91 #[.int .u64 (x2 : Int), .int .u64 (y2 : Int)]
  have hB2 := hB1.out.trans (hb.mono hB1.out.size)
  replace hB2 := hB2.alloc hB2.size (.cells #[.int .u64 (x2 : Int), .int .u64 (y2 : Int)] 91)
  clear hb k3 p1 hB1 c0 c1 c2
  go_upto_region 3 with fail
  generalize hv2 : v2.alloc (.cells #[.int .u64 (x2 : Int), .int .u64 (y2 : Int)] 91) = u2 at k3' p1' p2 hB2 ⊢
  generalize hg2 : v2.heap.size = g2 at *
  have r0 : u2.cell? ⟨w.heap.size + 2, 0, none⟩ = some (.bool false) := k3'.cell 0
  have r1 : u2.cell? ⟨w.heap.size + 2, 1, none⟩ = some (.string ⟨#[]⟩) := k3'.cell 1
  have r2 : u2.cell? ⟨w.heap.size + 2, 2, none⟩ = some (.string ⟨#[]⟩) := k3'.cell 2
  have f0 := k3'.frozen 0
  have f1 := k3'.frozen 1
  have f2 := k3'.frozen 2
  replace k3' := Lib.hid k3'
  replace p1' := Lib.hid p1'
  replace p2 := Lib.hid p2
  replace hB2 := Lib.hid hB2
  clear hv2 hg2
  cases h1 : okA n1 a1 d1
  · have hv : Hid (addV n1 a1 d1 n2 a2 d2 = .tuple #[.agg #[.bool false, .string ⟨#[]⟩, .string ⟨#[]⟩], .int .i64 210]) := Lib.hid (by simp [addV, h1, rat0])
    clear h1
    go_wp2_with fail
    refine bodyPost_ret (v := .tuple #[.agg #[.bool false, .string ⟨#[]⟩, .string ⟨#[]⟩], .int .i64 210]) (by simp [results, Try.results38, go_sem, r0, r1, r2]) rfl ⟨by rw [hv.out], ?_⟩
    exact ((hB2.out.setCell (p := ⟨w.heap.size + 2, 0, none⟩) (by simp) _).setCell (p := ⟨w.heap.size + 2, 1, none⟩) (by simp) _).setCell (p := ⟨w.heap.size + 2, 2, none⟩) (by simp) _
  cases h2 : okA n2 a2 d2
  · have hv : Hid (addV n1 a1 d1 n2 a2 d2 = .tuple #[.agg #[.bool false, .string ⟨#[]⟩, .string ⟨#[]⟩], .int .i64 210]) := Lib.hid (by simp [addV, h2, rat0])
    clear h1 h2
    go_wp2_with fail
    refine bodyPost_ret (v := .tuple #[.agg #[.bool false, .string ⟨#[]⟩, .string ⟨#[]⟩], .int .i64 210]) (by simp [results, Try.results38, go_sem, r0, r1, r2]) rfl ⟨by rw [hv.out], ?_⟩
    exact ((hB2.out.setCell (p := ⟨w.heap.size + 2, 0, none⟩) (by simp) _).setCell (p := ⟨w.heap.size + 2, 1, none⟩) (by simp) _).setCell (p := ⟨w.heap.size + 2, 2, none⟩) (by simp) _
  obtain ⟨ex1, ey1, k1, l1⟩ := hq1.out h1
  obtain ⟨ex2, ey2, k2, l2⟩ := hq2.out h2
  have b1 : x1 ≤ 2147483647 := by omega
  have b2 : x2 ≤ 2147483647 := by omega
  have m1 : x1 * y2 ≤ 4611686014132420609 := Nat.mul_le_mul b1 l2
  have m2 : x2 * y1 ≤ 4611686014132420609 := Nat.mul_le_mul b2 l1
  have m3 : y1 * y2 ≤ 4611686014132420609 := Nat.mul_le_mul l1 l2
  have m4 : 0 < y1 * y2 := Nat.mul_pos (by omega) (by omega)
  obtain ⟨S1, hS1⟩ : ∃ S, S = x1 * y2 := ⟨_, rfl⟩
  obtain ⟨S2, hS2⟩ : ∃ S, S = x2 * y1 := ⟨_, rfl⟩
  obtain ⟨Y, hY⟩ : ∃ S, S = y1 * y2 := ⟨_, rfl⟩
  obtain ⟨X, hX⟩ : ∃ S, S = (S1 + S2) % Y := ⟨_, rfl⟩
  obtain ⟨N, hN⟩ : ∃ S, S = X / Nat.gcd X Y := ⟨_, rfl⟩
  obtain ⟨D, hD⟩ : ∃ S, S = Y / Nat.gcd X Y := ⟨_, rfl⟩
  have hv : addV n1 a1 d1 n2 a2 d2 = toldV N D := by
    have e : addX (be (sl a1)) (be (sl d1)) (be (sl a2)) (be (sl d2)) = X := by rw [hX, hS1, hS2, hY, ex1, ey1, ex2, ey2]; rfl
    simp only [addV, h1, h2, Bool.and_self, if_true, e]
    rw [hN, hD, hY, ey1, ey2]
  obtain ⟨s1, s2, c, hT⟩ := toldV_form N D
  rw [← hS1] at m1
  rw [← hS2] at m2
  rw [← hY] at m3 m4
  have i1 : (x1 : Int) * (y2 : Int) = (S1 : Int) := by rw [hS1]; push_cast; rfl
  have i2 : (x2 : Int) * (y1 : Int) = (S2 : Int) := by rw [hS2]; push_cast; rfl
  have i3 : (y1 : Int) * (y2 : Int) = (Y : Int) := by rw [hY]; push_cast; rfl
  have i4 : ((S1 : Int) + (S2 : Int)) % (Y : Int) = (X : Int) := by rw [hX]; push_cast; rfl
  have w1 : IntKind.u64.wrap (S1 : Int) = (S1 : Int) := by rw [IntKind.wrap_u64]; omega
  have w2 : IntKind.u64.wrap (S2 : Int) = (S2 : Int) := by rw [IntKind.wrap_u64]; omega
  have w3 : IntKind.u64.wrap (Y : Int) = (Y : Int) := by rw [IntKind.wrap_u64]; omega
  have w4 : IntKind.u64.wrap ((S1 : Int) + (S2 : Int)) = (S1 : Int) + (S2 : Int) := by rw [IntKind.wrap_u64]; omega
  have hXY : X < Y := by rw [hX]; exact Nat.mod_lt _ m4
  have hN1 : N ≤ X := by rw [hN]; exact Nat.div_le_self _ _
  have hD1 : D ≤ Y := by rw [hD]; exact Nat.div_le_self _ _
  have hXs : Hid (X < 18446744073709551616) := Lib.hid (by omega)
  have hYs : Hid (Y < 18446744073709551616) := Lib.hid (by omega)
  have hNs : Hid (N < 18446744073709551616) := Lib.hid (by omega)
  have hDs : Hid (D < 18446744073709551616) := Lib.hid (by omega)
  have hY0 : ¬ (Y : Int) = 0 := by omega
  replace m4 := Lib.hid m4
  replace hN := Lib.hid hN
  replace hD := Lib.hid hD
  replace hv := Lib.hid hv
  replace hT := Lib.hid hT
  clear hS1 hS2 hY hX hXY hN1 hD1 ex1 ey1 ex2 ey2 k1 k2 l1 l2 b1 b2 m1 m2 m3 h1 h2
  have c1a : u2.cell? ⟨g1, 0, none⟩ = some (.int .u64 (x1 : Int)) := Blk.cell p1'.out 0
  have c1b : u2.cell? ⟨g1, 1, none⟩ = some (.int .u64 (y1 : Int)) := Blk.cell p1'.out 1
  have c2a : u2.cell? ⟨g2, 0, none⟩ = some (.int .u64 (x2 : Int)) := Blk.cell p2.out 0
  have c2b : u2.cell? ⟨g2, 1, none⟩ = some (.int .u64 (y2 : Int)) := Blk.cell p2.out 1
  go_wp2_with fail
  refine (lowest_any X Y N D _ hXs.out hYs.out m4.out hN hD).mono ?_
  rintro en u3 ⟨rfl, hb⟩
  have q3 := Blk.below k3'.out hb
  have hB3 := Lib.hid (hB2.out.trans (hb.mono hB2.out.size))
  replace q3 := Lib.hid q3
  clear hb hB2 p1' p2 k3' r0 r1 r2 f0 f1 f2 c1a c1b c2a c2b
  go_wp2_with fail
  refine (told_any N D _ hNs.out hDs.out).mono ?_
  rintro en u4 ⟨rfl, hb⟩
  rw [hT.out]
  have q4 := Blk.below q3.out hb
  have hB4 := Lib.hid (hB3.out.trans (hb.mono hB3.out.size))
  have r0 : u4.cell? ⟨w.heap.size + 2, 0, none⟩ = some (.bool false) := q4.cell 0
  have r1 : u4.cell? ⟨w.heap.size + 2, 1, none⟩ = some (.string ⟨#[]⟩) := q4.cell 1
  have r2 : u4.cell? ⟨w.heap.size + 2, 2, none⟩ = some (.string ⟨#[]⟩) := q4.cell 2
  have f0 := q4.frozen 0
  have f1 := q4.frozen 1
  have f2 := q4.frozen 2
  clear hb hB3 q3 q4
  go_wp2_with fail
  refine bodyPost_ret (v := .tuple #[.agg #[.bool false, .string s1, .string s2], .int .i64 c]) (by simp [results, Try.results38, go_sem, r0, r1, r2]) rfl ⟨by rw [hv.out, hT.out], ?_⟩
  exact ((hB4.out.setCell (p := ⟨w.heap.size + 2, 0, none⟩) (by simp) _).setCell (p := ⟨w.heap.size + 2, 1, none⟩) (by simp) _).setCell (p := ⟨w.heap.size + 2, 2, none⟩) (by simp) _
end Go.Proofs.Ytciafmnideihjaa
