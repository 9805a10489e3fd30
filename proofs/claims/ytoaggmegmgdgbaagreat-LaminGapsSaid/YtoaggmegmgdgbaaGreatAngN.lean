import Derived.Test.YtoaggmegmgdgbaaGreatAngH
import Derived.BigQuiet
import Derived.Deep.CutBlock
import Derived.Lib.QuietBelow
import Derived.Test.YtoaggmegmgdgbaaGreatAwakeA
namespace Go.Proofs.YtoaggmegmgdgbaaGreat
open Go.RowKit
def cmpN (x y : Nat) : Int := if x < y then -1 else if y < x then 1 else 0
set_option maxRecDepth 100000 in
set_option maxHeartbeats 400000 in
theorem compare_any (a b c d x y : Nat) (w : World) (hx : Hid (x = a * d)) (hy : Hid (y = c * b)) (hxs : x < 18446744073709551616) (hys : y < 18446744073709551616) :
    Calls Tryz.prog 134 #[.agg #[.int .u64 (a : Int), .int .u64 (b : Int)], .agg #[.int .u64 (c : Int), .int .u64 (d : Int)]] w (RetVal (.int .i64 (cmpN x y)) w) := by
  have hxi : (a : Int) * (d : Int) = (x : Int) := by rw [hx.out]; push_cast; rfl
  have hyi : (c : Int) * (b : Int) = (y : Int) := by rw [hy.out]; push_cast; rfl
  have w1 : IntKind.u64.wrap (x : Int) = (x : Int) := by rw [IntKind.wrap_u64]; omega
  have w2 : IntKind.u64.wrap (y : Int) = (y : Int) := by rw [IntKind.wrap_u64]; omega
  have hBW : Hid (Below w.heap.size w ((w.alloc (.cells #[.int .u64 (a : Int), .int .u64 (b : Int)] 144)).alloc (.cells #[.int .u64 (c : Int), .int .u64 (d : Int)] 144))) := Lib.hid (((Below.refl _ w).alloc (Nat.le_refl _) _).alloc (by simp) _)
  by_cases h1 : x < y
  · have hv : Hid (cmpN x y = -1) := Lib.hid (by simp [cmpN, h1])
    have h1I : (x : Int) < (y : Int) := by omega
    go_enter Tryz.func134, Tryz.ntmps134
    go_wp2_with fail
    go_quiet (fail)
    go_wp2_with fail
    go_ret
    exact ⟨by rw [hv.out]; rfl, by first | exact hBW.out | exact below_drewN hBW.out _⟩
  · by_cases h2 : y < x
    · have hv : Hid (cmpN x y = 1) := Lib.hid (by simp [cmpN, h1, h2])
      have h1I : ¬ (x : Int) < (y : Int) := by omega
      have h2I : (y : Int) < (x : Int) := by omega
      go_enter Tryz.func134, Tryz.ntmps134
      go_wp2_with fail
      go_quiet (fail)
      go_wp2_with fail
      go_ret
      exact ⟨by rw [hv.out]; rfl, by first | exact hBW.out | exact below_drewN hBW.out _⟩
    · have hv : Hid (cmpN x y = 0) := Lib.hid (by simp [cmpN, h1, h2])
      have h1I : ¬ (x : Int) < (y : Int) := by omega
      have h2I : ¬ (y : Int) < (x : Int) := by omega
      go_enter Tryz.func134, Tryz.ntmps134
      go_wp2_with fail
      go_quiet (fail)
      go_wp2_with fail
      go_ret
      exact ⟨by rw [hv.out]; rfl, by first | exact hBW.out | exact below_drewN hBW.out _⟩
open Go.RowKit Go.Sort
theorem cmpN_neg {x y : Nat} : cmpN x y < 0 ↔ x < y := by unfold cmpN; split <;> (try split) <;> omega
theorem cmpN_pos {x y : Nat} : 0 < cmpN x y ↔ y < x := by unfold cmpN; split <;> (try split) <;> omega
theorem cmpN_zero {x y : Nat} : cmpN x y = 0 ↔ x = y := by unfold cmpN; split <;> (try split) <;> omega
theorem smallV_form (neg : Bool) (num den : ByteArray) : ∃ x y : Nat, smallV neg num den = .tuple #[.agg #[.int .u64 (x : Int), .int .u64 (y : Int)], .bool (okA neg num den)] ∧ (okA neg num den = true → x = be (sl num) ∧ y = be (sl den) ∧ x < y ∧ y ≤ 2147483647) := by
  cases h : okA neg num den
  · exact ⟨0, 0, smallV_no h, fun h => by simp at h⟩
  · obtain ⟨-, -, -, -, h1, h2⟩ := okA_spec h
    exact ⟨_, _, smallV_yes h, fun _ => ⟨rfl, rfl, h1, h2⟩⟩
def betw (x1 y1 x2 y2 x3 y3 : Nat) : Bool :=
  if x1 * y3 < x3 * y1 then decide (x1 * y2 < x2 * y1) && decide (x2 * y3 < x3 * y2)
  else if x3 * y1 < x1 * y3 then decide (x1 * y2 < x2 * y1) || decide (x2 * y3 < x3 * y2)
  else !decide (x1 * y2 = x2 * y1)
def betweenV (n1 : Bool) (a1 d1 : ByteArray) (n2 : Bool) (a2 d2 : ByteArray) (n3 : Bool) (a3 d3 : ByteArray) : Value :=
  if okA n1 a1 d1 && okA n2 a2 d2 && okA n3 a3 d3 then .tuple #[.bool (betw (be (sl a1)) (be (sl d1)) (be (sl a2)) (be (sl d2)) (be (sl a3)) (be (sl d3))), .int .i64 0]
  else .tuple #[.bool false, .int .i64 210]
set_option maxRecDepth 100000 in
set_option maxHeartbeats 2000000 in
theorem between_any (n1 : Bool) (a1 d1 : ByteArray) (n2 : Bool) (a2 d2 : ByteArray) (n3 : Bool) (a3 d3 : ByteArray) (w : World)
    (z1 : a1.size ≤ 9223372036854775807) (z2 : d1.size ≤ 9223372036854775807) (z3 : a2.size ≤ 9223372036854775807) (z4 : d2.size ≤ 9223372036854775807) (z5 : a3.size ≤ 9223372036854775807) (z6 : d3.size ≤ 9223372036854775807) :
    Calls Tryz.prog 88 #[.agg #[.bool n1, .string a1, .string d1], .agg #[.bool n2, .string a2, .string d2], .agg #[.bool n3, .string a3, .string d3]] w (RetVal (betweenV n1 a1 d1 n2 a2 d2 n3 a3 d3) w) := by
  obtain ⟨x1, y1, hs1, hq1⟩ := smallV_form n1 a1 d1
  obtain ⟨x2, y2, hs2, hq2⟩ := smallV_form n2 a2 d2
  obtain ⟨x3, y3, hs3, hq3⟩ := smallV_form n3 a3 d3
  have hK2 := (Blk.new (w.alloc (.cells #[.bool n1, .string a1, .string d1] 26)) 26 #[.bool n2, .string a2, .string d2]).alloc (.cells #[.bool n3, .string a3, .string d3] 26)
  have hK3 := Blk.new ((w.alloc (.cells #[.bool n1, .string a1, .string d1] 26)).alloc (.cells #[.bool n2, .string a2, .string d2] 26)) 26 #[.bool n3, .string a3, .string d3]
  have hBW : Below w.heap.size w (((w.alloc (.cells #[.bool n1, .string a1, .string d1] 26)).alloc (.cells #[.bool n2, .string a2, .string d2] 26)).alloc (.cells #[.bool n3, .string a3, .string d3] 26)) := (((Below.refl _ w).alloc (Nat.le_refl _) _).alloc (by simp) _).alloc (by simp; omega) _
  rw [show (w.alloc (.cells #[.bool n1, .string a1, .string d1] 26)).heap.size = w.heap.size + 1 by simp] at hK2
  rw [show ((w.alloc (.cells #[.bool n1, .string a1, .string d1] 26)).alloc (.cells #[.bool n2, .string a2, .string d2] 26)).heap.size = w.heap.size + 2 by simp] at hK3
  replace hK2 := Lib.hid hK2
  replace hK3 := Lib.hid hK3
  replace hBW := Lib.hid hBW
  replace hs1 := Lib.hid hs1
  replace hs2 := Lib.hid hs2
  replace hs3 := Lib.hid hs3
  replace hq1 := Lib.hid hq1
  replace hq2 := Lib.hid hq2
  replace hq3 := Lib.hid hq3
  go_enter Tryz.func88, Tryz.ntmps88
  go_wp2_with fail
  refine (small_any n1 a1 d1 _ z1 z2).mono ?_
  rintro en v1 ⟨rfl, hb⟩
  rw [hs1.out]
  have k2 := (Blk.below hK2.out hb).alloc (.cells #[.int .u64 (x1 : Int), .int .u64 (y1 : Int)] 144)
  have k3 := (Blk.below hK3.out hb).alloc (.cells #[.int .u64 (x1 : Int), .int .u64 (y1 : Int)] 144)
  have p1 := Blk.new v1 144 #[.int .u64 (x1 : Int), .int .u64 (y1 : Int)]
  have hB1 := hBW.out.trans (hb.mono (by simp; omega))
  replace hB1 := hB1.alloc hB1.size (.cells #[.int .u64 (x1 : Int), .int .u64 (y1 : Int)] 144)
  clear hb hK2 hK3 hBW
  go_upto_region 2 with fail
  generalize hv1 : v1.alloc (.cells #[.int .u64 (x1 : Int), .int .u64 (y1 : Int)] 144) = u1 at k2 k3 p1 hB1 ⊢
  generalize hg1 : v1.heap.size = g1 at *
  have c0 : u1.cell? ⟨w.heap.size + 1, 0, none⟩ = some (.bool n2) := k2.cell 0
  have c1 : u1.cell? ⟨w.heap.size + 1, 1, none⟩ = some (.string a2) := k2.cell 1
  have c2 : u1.cell? ⟨w.heap.size + 1, 2, none⟩ = some (.string d2) := k2.cell 2
  replace k3 := Lib.hid k3
  replace p1 := Lib.hid p1
  replace hB1 := Lib.hid hB1
  clear hv1 hg1 k2
  go_wp2_with fail
  refine (small_any n2 a2 d2 _ z3 z4).mono ?_
  rintro en v2 ⟨rfl, hb⟩
  rw [hs2.out]
  have k3' := (Blk.below k3.out hb).alloc (.cells #[.int .u64 (x2 : Int), .int .u64 (y2 : Int)] 144)
  have p1' := (Blk.below p1.out hb).alloc (.cells #[.int .u64 (x2 : Int), .int .u64 (y2 : Int)] 144)
  have p2 := Blk.new v2 144 #[.int .u64 (x2 : Int), .int .u64 (y2 : Int)]
  have hB2 := hB1.out.trans (hb.mono hB1.out.size)
  replace hB2 := hB2.alloc hB2.size (.cells #[.int .u64 (x2 : Int), .int .u64 (y2 : Int)] 144)
  clear hb k3 p1 hB1 c0 c1 c2
  go_upto_region 3 with fail
  generalize hv2 : v2.alloc (.cells #[.int .u64 (x2 : Int), .int .u64 (y2 : Int)] 144) = u2 at k3' p1' p2 hB2 ⊢
  generalize hg2 : v2.heap.size = g2 at *
  have c0 : u2.cell? ⟨w.heap.size + 2, 0, none⟩ = some (.bool n3) := k3'.cell 0
  have c1 : u2.cell? ⟨w.heap.size + 2, 1, none⟩ = some (.string a3) := k3'.cell 1
  have c2 : u2.cell? ⟨w.heap.size + 2, 2, none⟩ = some (.string d3) := k3'.cell 2
  replace p1' := Lib.hid p1'
  replace p2 := Lib.hid p2
  replace hB2 := Lib.hid hB2
  clear hv2 hg2 k3'
  go_wp2_with fail
  refine (small_any n3 a3 d3 _ z5 z6).mono ?_
  rintro en v3 ⟨rfl, hb⟩
  rw [hs3.out]
  have q1 := (Blk.below p1'.out hb).alloc (.cells #[.int .u64 (x3 : Int), .int .u64 (y3 : Int)] 144)
  have q2 := (Blk.below p2.out hb).alloc (.cells #[.int .u64 (x3 : Int), .int .u64 (y3 : Int)] 144)
  have q3 := Blk.new v3 144 #[.int .u64 (x3 : Int), .int .u64 (y3 : Int)]
  have hB3 := hB2.out.trans (hb.mono hB2.out.size)
  replace hB3 := hB3.alloc hB3.size (.cells #[.int .u64 (x3 : Int), .int .u64 (y3 : Int)] 144)
  clear hb p1' p2 hB2 c0 c1 c2
  go_upto_region 4 with fail
  generalize hv3 : v3.alloc (.cells #[.int .u64 (x3 : Int), .int .u64 (y3 : Int)] 144) = u3 at q1 q2 q3 hB3 ⊢
  generalize hg3 : v3.heap.size = g3 at *
  replace q1 := Lib.hid q1
  replace q2 := Lib.hid q2
  replace q3 := Lib.hid q3
  replace hB3 := Lib.hid hB3
  clear hv3 hg3
  cases h1 : okA n1 a1 d1
  · have hv : Hid (betweenV n1 a1 d1 n2 a2 d2 n3 a3 d3 = .tuple #[.bool false, .int .i64 210]) := Lib.hid (by simp [betweenV, h1])
    clear h1
    go_wp2_with fail
    go_ret2
    exact ⟨by rw [hv.out]; rfl, hB3.out⟩
  cases h2 : okA n2 a2 d2
  · have hv : Hid (betweenV n1 a1 d1 n2 a2 d2 n3 a3 d3 = .tuple #[.bool false, .int .i64 210]) := Lib.hid (by simp [betweenV, h2])
    clear h1 h2
    go_wp2_with fail
    go_ret2
    exact ⟨by rw [hv.out]; rfl, hB3.out⟩
  cases h3 : okA n3 a3 d3
  · have hv : Hid (betweenV n1 a1 d1 n2 a2 d2 n3 a3 d3 = .tuple #[.bool false, .int .i64 210]) := Lib.hid (by simp [betweenV, h3])
    clear h1 h2 h3
    go_wp2_with fail
    go_ret2
    exact ⟨by rw [hv.out]; rfl, hB3.out⟩
  obtain ⟨ex1, ey1, k1, l1⟩ := hq1.out h1
  obtain ⟨ex2, ey2, k2, l2⟩ := hq2.out h2
  obtain ⟨ex3, ey3, k3, l3⟩ := hq3.out h3
  obtain ⟨X12, H12⟩ : ∃ X, X = x1 * y2 := ⟨_, rfl⟩
  have L12 : X12 < 18446744073709551616 := by rw [H12]; exact Nat.lt_of_le_of_lt (Nat.mul_le_mul (show x1 ≤ 2147483647 by omega) l2) (by omega)
  obtain ⟨X21, H21⟩ : ∃ X, X = x2 * y1 := ⟨_, rfl⟩
  have L21 : X21 < 18446744073709551616 := by rw [H21]; exact Nat.lt_of_le_of_lt (Nat.mul_le_mul (show x2 ≤ 2147483647 by omega) l1) (by omega)
  obtain ⟨X23, H23⟩ : ∃ X, X = x2 * y3 := ⟨_, rfl⟩
  have L23 : X23 < 18446744073709551616 := by rw [H23]; exact Nat.lt_of_le_of_lt (Nat.mul_le_mul (show x2 ≤ 2147483647 by omega) l3) (by omega)
  obtain ⟨X32, H32⟩ : ∃ X, X = x3 * y2 := ⟨_, rfl⟩
  have L32 : X32 < 18446744073709551616 := by rw [H32]; exact Nat.lt_of_le_of_lt (Nat.mul_le_mul (show x3 ≤ 2147483647 by omega) l2) (by omega)
  obtain ⟨X13, H13⟩ : ∃ X, X = x1 * y3 := ⟨_, rfl⟩
  have L13 : X13 < 18446744073709551616 := by rw [H13]; exact Nat.lt_of_le_of_lt (Nat.mul_le_mul (show x1 ≤ 2147483647 by omega) l3) (by omega)
  obtain ⟨X31, H31⟩ : ∃ X, X = x3 * y1 := ⟨_, rfl⟩
  have L31 : X31 < 18446744073709551616 := by rw [H31]; exact Nat.lt_of_le_of_lt (Nat.mul_le_mul (show x3 ≤ 2147483647 by omega) l1) (by omega)
  obtain ⟨R, hR⟩ : ∃ R, R = betw x1 y1 x2 y2 x3 y3 := ⟨_, rfl⟩
  have hv : Hid (betweenV n1 a1 d1 n2 a2 d2 n3 a3 d3 = .tuple #[.bool R, .int .i64 0]) := Lib.hid (by
    rw [hR, ex1, ey1, ex2, ey2, ex3, ey3]
    simp [betweenV, h1, h2, h3])
  simp only [betw, ← H12, ← H21, ← H23, ← H32, ← H13, ← H31, ← cmpN_neg (x := X12), ← cmpN_neg (x := X23), ← cmpN_neg (x := X13), ← cmpN_pos (x := X13), ← cmpN_zero (x := X12)] at hR
  obtain ⟨C12, hC12⟩ : ∃ C, C = cmpN X12 X21 := ⟨_, rfl⟩
  obtain ⟨C23, hC23⟩ : ∃ C, C = cmpN X23 X32 := ⟨_, rfl⟩
  obtain ⟨C13, hC13⟩ : ∃ C, C = cmpN X13 X31 := ⟨_, rfl⟩
  simp only [← hC12, ← hC23, ← hC13] at hR
  replace H12 := Lib.hid H12
  replace H21 := Lib.hid H21
  replace H23 := Lib.hid H23
  replace H32 := Lib.hid H32
  replace H13 := Lib.hid H13
  replace H31 := Lib.hid H31
  clear ex1 ey1 ex2 ey2 ex3 ey3 h1 h2 h3
  replace hR := Lib.hid hR
  have r1a : ∀ d os, (grow (redrawn u3 d) os).cell? ⟨g1, 0, none⟩ = some (.int .u64 (x1 : Int)) := cell_regrown (Blk.cell q1.out 0)
  have r1b : ∀ d os, (grow (redrawn u3 d) os).cell? ⟨g1, 1, none⟩ = some (.int .u64 (y1 : Int)) := cell_regrown (Blk.cell q1.out 1)
  have r2a : ∀ d os, (grow (redrawn u3 d) os).cell? ⟨g2, 0, none⟩ = some (.int .u64 (x2 : Int)) := cell_regrown (Blk.cell q2.out 0)
  have r2b : ∀ d os, (grow (redrawn u3 d) os).cell? ⟨g2, 1, none⟩ = some (.int .u64 (y2 : Int)) := cell_regrown (Blk.cell q2.out 1)
  have r3a : ∀ d os, (grow (redrawn u3 d) os).cell? ⟨g3, 0, none⟩ = some (.int .u64 (x3 : Int)) := cell_regrown (Blk.cell q3.out 0)
  have r3b : ∀ d os, (grow (redrawn u3 d) os).cell? ⟨g3, 1, none⟩ = some (.int .u64 (y3 : Int)) := cell_regrown (Blk.cell q3.out 1)
  have cc12 : ∀ d os, Calls Tryz.prog 134 #[.agg #[.int .u64 (x1 : Int), .int .u64 (y1 : Int)], .agg #[.int .u64 (x2 : Int), .int .u64 (y2 : Int)]] (grow (redrawn u3 d) os) fun e w'' => e = .returned (.int .i64 C12) ∧ ∃ p : Regrown, w'' = grow (redrawn u3 p.d) p.os :=
    fun d os => Calls.regrown_of (by rw [hC12]; exact compare_any x1 y1 x2 y2 X12 X21 _ H12 H21 L12 L21)
  have cc23 : ∀ d os, Calls Tryz.prog 134 #[.agg #[.int .u64 (x2 : Int), .int .u64 (y2 : Int)], .agg #[.int .u64 (x3 : Int), .int .u64 (y3 : Int)]] (grow (redrawn u3 d) os) fun e w'' => e = .returned (.int .i64 C23) ∧ ∃ p : Regrown, w'' = grow (redrawn u3 p.d) p.os :=
    fun d os => Calls.regrown_of (by rw [hC23]; exact compare_any x2 y2 x3 y3 X23 X32 _ H23 H32 L23 L32)
  replace hC13 := Lib.hid hC13
  replace hC12 := Lib.hid hC12
  clear hC23
  go_wp2_with fail
  refine wp_region_quiet_below (by kernel_rfl) (by kernel_rfl) ?_
  iterate 2 (quiet_step (fail))
  quiet_step (exact cc12 _ _)
  iterate 3 (quiet_step (fail))
  quiet_step (exact cc23 _ _)
  iterate 3 (quiet_step (fail))
  refine wpQuiet_nil ?_
  intro u4 hw'
  have hb : Below u3.heap.size u3 u4 := by
    obtain ⟨p, rfl⟩ := hw'
    exact below_regrown u3 p.d p.os
  clear hw' cc12 cc23 r1a r1b r2a r2b r3a r3b
  have hB4 := hB3.out.trans (hb.mono hB3.out.size)
  have t1 := Blk.below q1.out hb
  have t2 := Blk.below q2.out hb
  have t3 := Blk.below q3.out hb
  clear hb hB3 q1 q2 q3
  have c1a : u4.cell? ⟨g1, 0, none⟩ = some (.int .u64 (x1 : Int)) := t1.cell 0
  have c1b : u4.cell? ⟨g1, 1, none⟩ = some (.int .u64 (y1 : Int)) := t1.cell 1
  have c3a : u4.cell? ⟨g3, 0, none⟩ = some (.int .u64 (x3 : Int)) := t3.cell 0
  have c3b : u4.cell? ⟨g3, 1, none⟩ = some (.int .u64 (y3 : Int)) := t3.cell 1
  replace t1 := Lib.hid t1
  replace t2 := Lib.hid t2
  replace hB4 := Lib.hid hB4
  clear t3
  go_wp2_with fail
  refine (compare_any x1 y1 x3 y3 X13 X31 _ H13 H31 L13 L31).mono ?_
  rintro en u5 ⟨rfl, hb⟩
  rw [← hC13.out]
  have hB5 := hB4.out.trans (hb.mono hB4.out.size)
  have s1 := Blk.below t1.out hb
  have s2 := Blk.below t2.out hb
  clear hb hB4 t1 t2 c1a c1b c3a c3b
  have c1a : u5.cell? ⟨g1, 0, none⟩ = some (.int .u64 (x1 : Int)) := s1.cell 0
  have c1b : u5.cell? ⟨g1, 1, none⟩ = some (.int .u64 (y1 : Int)) := s1.cell 1
  have c2a : u5.cell? ⟨g2, 0, none⟩ = some (.int .u64 (x2 : Int)) := s2.cell 0
  have c2b : u5.cell? ⟨g2, 1, none⟩ = some (.int .u64 (y2 : Int)) := s2.cell 1
  replace hB5 := Lib.hid hB5
  clear s1 s2
  by_cases o1 : C13 < 0
  · have hv' : Hid (betweenV n1 a1 d1 n2 a2 d2 n3 a3 d3 = .tuple #[.bool (decide (C12 < 0) && decide (C23 < 0)), .int .i64 0]) := Lib.hid (by rw [hv.out, hR.out]; simp [o1])
    clear hR hv hC12 hC13
    by_cases o2 : C12 < 0
    · go_wp2_with fail
      go_ret2
      exact ⟨by rw [hv'.out]; simp; try omega, hB5.out⟩
    · go_wp2_with fail
      go_ret2
      exact ⟨by rw [hv'.out]; simp; try omega, hB5.out⟩
  · by_cases o3 : 0 < C13
    · have hv' : Hid (betweenV n1 a1 d1 n2 a2 d2 n3 a3 d3 = .tuple #[.bool (decide (C12 < 0) || decide (C23 < 0)), .int .i64 0]) := Lib.hid (by rw [hv.out, hR.out]; simp [o1, o3])
      clear hR hv hC12 hC13
      by_cases o2 : C12 < 0
      · go_wp2_with fail
        go_ret2
        exact ⟨by rw [hv'.out]; simp; try omega, hB5.out⟩
      · go_wp2_with fail
        go_ret2
        exact ⟨by rw [hv'.out]; simp; try omega, hB5.out⟩
    · have hv' : Hid (betweenV n1 a1 d1 n2 a2 d2 n3 a3 d3 = .tuple #[.bool (!decide (C12 = 0)), .int .i64 0]) := Lib.hid (by rw [hv.out, hR.out]; simp [o1, o3])
      clear hR hv hC13
      go_wp2_with fail
      refine (compare_any x1 y1 x2 y2 X12 X21 _ H12 H21 L12 L21).mono ?_
      rintro en u6 ⟨rfl, hb⟩
      rw [← hC12.out]
      have hB6 := Lib.hid (hB5.out.trans (hb.mono hB5.out.size))
      clear hb
      go_wp2_with fail
      go_ret2
      exact ⟨by rw [hv'.out]; simp; rfl, hB6.out⟩
open Go.RowKit
open Go.RowKit
set_option maxRecDepth 100000 in
set_option maxHeartbeats 400000 in
theorem check_any (n1 : Bool) (a1 d1 : ByteArray) (w : World) (z1 : a1.size ≤ 9223372036854775807) (z2 : d1.size ≤ 9223372036854775807) :
    Calls Tryz.prog 35 #[.agg #[.bool n1, .string a1, .string d1]] w (RetVal (.int .i64 (if okA n1 a1 d1 then 0 else 210)) w) := by
  obtain ⟨r, hr⟩ : ∃ r : Value, r = .int .i64 (if okA n1 a1 d1 then 0 else 210) := ⟨_, rfl⟩
  rw [← hr]
  replace hr := Lib.hid hr
  obtain ⟨x1, y1, hs1, -⟩ := smallV_form n1 a1 d1
  have hBW : Below w.heap.size w (w.alloc (.cells #[.bool n1, .string a1, .string d1] 26)) := (Below.refl _ w).alloc (Nat.le_refl _) _
  replace hBW := Lib.hid hBW
  replace hs1 := Lib.hid hs1
  go_enter Tryz.func35, Tryz.ntmps35
  go_wp2_with fail
  refine (small_any n1 a1 d1 _ z1 z2).mono ?_
  rintro en v1 ⟨rfl, hb⟩
  rw [hs1.out]
  have hB1 := hBW.out.trans (hb.mono (by simp))
  replace hB1 := hB1.alloc hB1.size (.cells #[.int .u64 (x1 : Int), .int .u64 (y1 : Int)] 144)
  clear hb hBW
  go_upto_region 2 with fail
  generalize hv1 : v1.alloc (.cells #[.int .u64 (x1 : Int), .int .u64 (y1 : Int)] 144) = u1 at hB1 ⊢
  replace hB1 := Lib.hid hB1
  clear hv1
  cases h1 : okA n1 a1 d1
  · have hv : Hid (r = .int .i64 210) := Lib.hid (by rw [hr.out, h1]; rfl)
    go_wp2_with fail
    go_ret
    exact ⟨by rw [hv.out]; rfl, hB1.out⟩
  · have hv : Hid (r = .int .i64 0) := Lib.hid (by rw [hr.out, h1]; rfl)
    go_wp2_with fail
    go_ret
    exact ⟨by rw [hv.out]; rfl, hB1.out⟩
def acmpV (n1 : Bool) (a1 d1 : ByteArray) (n2 : Bool) (a2 d2 : ByteArray) : Value :=
  if okA n1 a1 d1 && okA n2 a2 d2 then .tuple #[.int .i64 (cmpN (be (sl a1) * be (sl d2)) (be (sl a2) * be (sl d1))), .int .i64 0]
  else .tuple #[.int .i64 0, .int .i64 210]
set_option maxRecDepth 100000 in
set_option maxHeartbeats 2000000 in
theorem acmp_any (n1 : Bool) (a1 d1 : ByteArray) (n2 : Bool) (a2 d2 : ByteArray) (w : World)
    (z1 : a1.size ≤ 9223372036854775807) (z2 : d1.size ≤ 9223372036854775807) (z3 : a2.size ≤ 9223372036854775807) (z4 : d2.size ≤ 9223372036854775807) :
    Calls Tryz.prog 109 #[.agg #[.bool n1, .string a1, .string d1], .agg #[.bool n2, .string a2, .string d2]] w (RetVal (acmpV n1 a1 d1 n2 a2 d2) w) := by
  obtain ⟨x1, y1, hs1, hq1⟩ := smallV_form n1 a1 d1
  obtain ⟨x2, y2, hs2, hq2⟩ := smallV_form n2 a2 d2
  have hK2 := Blk.new (w.alloc (.cells #[.bool n1, .string a1, .string d1] 26)) 26 #[.bool n2, .string a2, .string d2]
  have hBW : Below w.heap.size w ((w.alloc (.cells #[.bool n1, .string a1, .string d1] 26)).alloc (.cells #[.bool n2, .string a2, .string d2] 26)) := ((Below.refl _ w).alloc (Nat.le_refl _) _).alloc (by simp) _
  rw [show (w.alloc (.cells #[.bool n1, .string a1, .string d1] 26)).heap.size = w.heap.size + 1 by simp] at hK2
  replace hK2 := Lib.hid hK2
  replace hBW := Lib.hid hBW
  replace hs1 := Lib.hid hs1
  replace hs2 := Lib.hid hs2
  replace hq1 := Lib.hid hq1
  replace hq2 := Lib.hid hq2
  go_enter Tryz.func109, Tryz.ntmps109
  go_wp2_with fail
  refine (small_any n1 a1 d1 _ z1 z2).mono ?_
  rintro en v1 ⟨rfl, hb⟩
  rw [hs1.out]
  have k2 := (Blk.below hK2.out hb).alloc (.cells #[.int .u64 (x1 : Int), .int .u64 (y1 : Int)] 144)
  have p1 := Blk.new v1 144 #[.int .u64 (x1 : Int), .int .u64 (y1 : Int)]
  have hB1 := hBW.out.trans (hb.mono (by simp; omega))
  replace hB1 := hB1.alloc hB1.size (.cells #[.int .u64 (x1 : Int), .int .u64 (y1 : Int)] 144)
  clear hb hK2 hBW
  go_upto_region 2 with fail
  generalize hv1 : v1.alloc (.cells #[.int .u64 (x1 : Int), .int .u64 (y1 : Int)] 144) = u1 at k2 p1 hB1 ⊢
  generalize hg1 : v1.heap.size = g1 at *
  have c0 : u1.cell? ⟨w.heap.size + 1, 0, none⟩ = some (.bool n2) := k2.cell 0
  have c1 : u1.cell? ⟨w.heap.size + 1, 1, none⟩ = some (.string a2) := k2.cell 1
  have c2 : u1.cell? ⟨w.heap.size + 1, 2, none⟩ = some (.string d2) := k2.cell 2
  replace p1 := Lib.hid p1
  replace hB1 := Lib.hid hB1
  clear hv1 hg1 k2
  go_wp2_with fail
  refine (small_any n2 a2 d2 _ z3 z4).mono ?_
  rintro en v2 ⟨rfl, hb⟩
  rw [hs2.out]
  have p1' := (Blk.below p1.out hb).alloc (.cells #[.int .u64 (x2 : Int), .int .u64 (y2 : Int)] 144)
  have p2 := Blk.new v2 144 #[.int .u64 (x2 : Int), .int .u64 (y2 : Int)]
  have hB2 := hB1.out.trans (hb.mono hB1.out.size)
  replace hB2 := hB2.alloc hB2.size (.cells #[.int .u64 (x2 : Int), .int .u64 (y2 : Int)] 144)
  clear hb p1 hB1 c0 c1 c2
  go_upto_region 3 with fail
  generalize hv2 : v2.alloc (.cells #[.int .u64 (x2 : Int), .int .u64 (y2 : Int)] 144) = u2 at p1' p2 hB2 ⊢
  generalize hg2 : v2.heap.size = g2 at *
  have d1a : u2.cell? ⟨g1, 0, none⟩ = some (.int .u64 (x1 : Int)) := p1'.cell 0
  have d1b : u2.cell? ⟨g1, 1, none⟩ = some (.int .u64 (y1 : Int)) := p1'.cell 1
  have d2a : u2.cell? ⟨g2, 0, none⟩ = some (.int .u64 (x2 : Int)) := p2.cell 0
  have d2b : u2.cell? ⟨g2, 1, none⟩ = some (.int .u64 (y2 : Int)) := p2.cell 1
  replace hB2 := Lib.hid hB2
  clear hv2 hg2 p1' p2
  cases h1 : okA n1 a1 d1
  · have hv : Hid (acmpV n1 a1 d1 n2 a2 d2 = .tuple #[.int .i64 0, .int .i64 210]) := Lib.hid (by simp [acmpV, h1])
    clear h1
    go_wp2_with fail
    go_ret2
    exact ⟨by rw [hv.out]; rfl, hB2.out⟩
  cases h2 : okA n2 a2 d2
  · have hv : Hid (acmpV n1 a1 d1 n2 a2 d2 = .tuple #[.int .i64 0, .int .i64 210]) := Lib.hid (by simp [acmpV, h2])
    clear h1 h2
    go_wp2_with fail
    go_ret2
    exact ⟨by rw [hv.out]; rfl, hB2.out⟩
  obtain ⟨ex1, ey1, k1, l1⟩ := hq1.out h1
  obtain ⟨ex2, ey2, k2, l2⟩ := hq2.out h2
  obtain ⟨X12, H12⟩ : ∃ X, X = x1 * y2 := ⟨_, rfl⟩
  have L12 : X12 < 18446744073709551616 := by rw [H12]; exact Nat.lt_of_le_of_lt (Nat.mul_le_mul (show x1 ≤ 2147483647 by omega) l2) (by omega)
  obtain ⟨X21, H21⟩ : ∃ X, X = x2 * y1 := ⟨_, rfl⟩
  have L21 : X21 < 18446744073709551616 := by rw [H21]; exact Nat.lt_of_le_of_lt (Nat.mul_le_mul (show x2 ≤ 2147483647 by omega) l1) (by omega)
  have hv : Hid (acmpV n1 a1 d1 n2 a2 d2 = .tuple #[.int .i64 (cmpN X12 X21), .int .i64 0]) := Lib.hid (by
    rw [H12, H21, ex1, ey1, ex2, ey2]; simp [acmpV, h1, h2])
  replace H12 := Lib.hid H12
  replace H21 := Lib.hid H21
  clear ex1 ey1 ex2 ey2 h1 h2
  go_wp2_with fail
  refine (compare_any x1 y1 x2 y2 X12 X21 _ H12 H21 L12 L21).mono ?_
  rintro en u3 ⟨rfl, hb⟩
  have hB3 := Lib.hid (hB2.out.trans (hb.mono hB2.out.size))
  clear hb d1a d1b d2a d2b
  go_wp2_with fail
  go_ret2
  exact ⟨by rw [hv.out]; rfl, hB3.out⟩
theorem nb_small {n k : Nat} (h : n < 256 ^ k) : (nb n).length ≤ k := by
  rcases Nat.eq_zero_or_pos n with rfl | h0
  · simp [nb_zero]
  · have hb := (nb_bounds h0).1
    rcases Nat.lt_or_ge k (nb n).length with hlt | hge
    · exfalso
      have : 256 ^ k ≤ 256 ^ ((nb n).length - 1) := Nat.pow_le_pow_right (by omega) (by omega)
      omega
    · exact hge
theorem okA_natS {n d : Nat} (hg : Nat.gcd n d = 1) (hlt : n < d) (hd : d ≤ 2147483647) : okA false (natS n) (natS d) = true := by
  have e1 : (nb n).length ≤ 8 := nb_small (by omega)
  have e2 : (nb d).length ≤ 8 := nb_small (by omega)
  have m1 := mayB_natS (n := n) (by omega)
  have m2 := mayB_natS (n := d) (by omega)
  simp [okA, ratioMay, smallB, m1, m2, be_natS, hg, hlt, hd, natS_size, e1, e2]
  omega
open Go.RowKit
end Go.Proofs.YtoaggmegmgdgbaaGreat
