/- The document's answer: filigreeref21.Between. -/
import Derived.Test.YtciafmnideihjaaRefB
import Derived.Test.YtciafmnideihjaaRnd
import Derived.Deep.CutRange
namespace Go.Proofs.Ytciafmnideihjaa
open Go.RowKit Go.Sort

theorem okA_cross {n n' : Bool} {a d a' d' : ByteArray} (h : okA n a d = true) (h' : okA n' a' d' = true) : be (sl a) * be (sl d') = be (sl a') * be (sl d) ↔ (be (sl a) = be (sl a') ∧ be (sl d) = be (sl d')) := by
  constructor
  · intro e
    obtain ⟨-, e1, e2⟩ := okA_inj h h' e
    rw [e1, e2]
    exact ⟨rfl, rfl⟩
  · rintro ⟨e1, e2⟩
    rw [e1, e2]

set_option maxRecDepth 100000 in
set_option maxHeartbeats 2000000 in
/-- filigreeref21.Between -/
theorem rbetween_any (x1 y1 x2 y2 x3 y3 : Nat) (w : World) (k1 : x1 ≤ 2147483647) (l1 : y1 ≤ 2147483647) (k2 : x2 ≤ 2147483647) (l2 : y2 ≤ 2147483647) (k3 : x3 ≤ 2147483647) (l3 : y3 ≤ 2147483647)
    (e13 : x1 * y3 = x3 * y1 ↔ x1 = x3 ∧ y1 = y3) (e12 : x1 * y2 = x2 * y1 ↔ x1 = x2 ∧ y1 = y2) :
    Calls Try.prog 33 #[.agg #[.int .u64 (x1 : Int), .int .u64 (y1 : Int)], .agg #[.int .u64 (x2 : Int), .int .u64 (y2 : Int)], .agg #[.int .u64 (x3 : Int), .int .u64 (y3 : Int)]] w (RetVal (.bool (betw x1 y1 x2 y2 x3 y3)) w) := by
  have hBW : Below w.heap.size w (((w.alloc (.cells #[.int .u64 (x1 : Int), .int .u64 (y1 : Int)] 34)).alloc (.cells #[.int .u64 (x2 : Int), .int .u64 (y2 : Int)] 34)).alloc (.cells #[.int .u64 (x3 : Int), .int .u64 (y3 : Int)] 34)) := (((Below.refl _ w).alloc (Nat.le_refl _) _).alloc (by simp) _).alloc (by simp; omega) _
  by_cases hE : x1 = x3 ∧ y1 = y3
  · obtain ⟨rfl, rfl⟩ := hE
    have hv : Hid (betw x1 y1 x2 y2 x1 y1 = !decide (x1 = x2 ∧ y1 = y2)) := Lib.hid (by
      unfold betw
      rw [if_neg (by omega), if_neg (by omega)]
      simp only [e12])
    replace hBW := Lib.hid hBW
    clear e12 e13
    by_cases f1 : x1 = x2
    · by_cases f2 : y1 = y2
      · have hr : Hid ((!decide (x1 = x2 ∧ y1 = y2)) = false) := Lib.hid (by simp [f1, f2])
        subst f1 f2
        go_enter Try.func33, Try.ntmps33
        go_wp2_with fail
        go_ret
        exact ⟨by rw [hv.out, hr.out]; simp, hBW.out⟩
      · have hr : Hid ((!decide (x1 = x2 ∧ y1 = y2)) = true) := Lib.hid (by simp [f1, f2])
        have g2 : ¬ (y2 : Int) = (y1 : Int) := by omega
        subst f1
        go_enter Try.func33, Try.ntmps33
        go_wp2_with fail
        go_ret
        exact ⟨by rw [hv.out, hr.out]; simp; try omega, hBW.out⟩
    · have hr : Hid ((!decide (x1 = x2 ∧ y1 = y2)) = true) := Lib.hid (by simp [f1])
      have g2 : ¬ (x2 : Int) = (x1 : Int) := by omega
      go_enter Try.func33, Try.ntmps33
      go_wp2_with fail
      go_ret
      exact ⟨by rw [hv.out, hr.out]; simp; try omega, hBW.out⟩
  have c1a := (((Blk.new w 34 #[.int .u64 (x1 : Int), .int .u64 (y1 : Int)]).alloc (.cells #[.int .u64 (x2 : Int), .int .u64 (y2 : Int)] 34)).alloc (.cells #[.int .u64 (x3 : Int), .int .u64 (y3 : Int)] 34))
  have c2a := ((Blk.new (w.alloc (.cells #[.int .u64 (x1 : Int), .int .u64 (y1 : Int)] 34)) 34 #[.int .u64 (x2 : Int), .int .u64 (y2 : Int)]).alloc (.cells #[.int .u64 (x3 : Int), .int .u64 (y3 : Int)] 34))
  have c3a := Blk.new ((w.alloc (.cells #[.int .u64 (x1 : Int), .int .u64 (y1 : Int)] 34)).alloc (.cells #[.int .u64 (x2 : Int), .int .u64 (y2 : Int)] 34)) 34 #[.int .u64 (x3 : Int), .int .u64 (y3 : Int)]
  rw [show (w.alloc (.cells #[.int .u64 (x1 : Int), .int .u64 (y1 : Int)] 34)).heap.size = w.heap.size + 1 by simp] at c2a
  rw [show ((w.alloc (.cells #[.int .u64 (x1 : Int), .int .u64 (y1 : Int)] 34)).alloc (.cells #[.int .u64 (x2 : Int), .int .u64 (y2 : Int)] 34)).heap.size = w.heap.size + 2 by simp] at c3a
  obtain ⟨X12, H12⟩ : ∃ X, X = x1 * y2 := ⟨_, rfl⟩
  have L12 : X12 < 18446744073709551616 := by rw [H12]; exact Nat.lt_of_le_of_lt (Nat.mul_le_mul k1 l2) (by omega)
  obtain ⟨X21, H21⟩ : ∃ X, X = x2 * y1 := ⟨_, rfl⟩
  have L21 : X21 < 18446744073709551616 := by rw [H21]; exact Nat.lt_of_le_of_lt (Nat.mul_le_mul k2 l1) (by omega)
  obtain ⟨X23, H23⟩ : ∃ X, X = x2 * y3 := ⟨_, rfl⟩
  have L23 : X23 < 18446744073709551616 := by rw [H23]; exact Nat.lt_of_le_of_lt (Nat.mul_le_mul k2 l3) (by omega)
  obtain ⟨X32, H32⟩ : ∃ X, X = x3 * y2 := ⟨_, rfl⟩
  have L32 : X32 < 18446744073709551616 := by rw [H32]; exact Nat.lt_of_le_of_lt (Nat.mul_le_mul k3 l2) (by omega)
  obtain ⟨X13, H13⟩ : ∃ X, X = x1 * y3 := ⟨_, rfl⟩
  have L13 : X13 < 18446744073709551616 := by rw [H13]; exact Nat.lt_of_le_of_lt (Nat.mul_le_mul k1 l3) (by omega)
  obtain ⟨X31, H31⟩ : ∃ X, X = x3 * y1 := ⟨_, rfl⟩
  have L31 : X31 < 18446744073709551616 := by rw [H31]; exact Nat.lt_of_le_of_lt (Nat.mul_le_mul k3 l1) (by omega)
  have hne : ¬ X13 = X31 := fun h => hE (e13.1 (by rw [← H13, ← H31, h]))
  obtain ⟨C12, hC12⟩ : ∃ C, C = cmpN X12 X21 := ⟨_, rfl⟩
  obtain ⟨C23, hC23⟩ : ∃ C, C = cmpN X23 X32 := ⟨_, rfl⟩
  obtain ⟨C13, hC13⟩ : ∃ C, C = cmpN X13 X31 := ⟨_, rfl⟩
  have hv : betw x1 y1 x2 y2 x3 y3 = if C13 < 0 then decide (C12 < 0) && decide (C23 < 0) else decide (C12 < 0) || decide (C23 < 0) := by
    unfold betw
    simp only [← H12, ← H21, ← H23, ← H32, ← H13, ← H31, hC12, hC23, hC13, cmpN_neg]
    by_cases h : X13 < X31
    · rw [if_pos h, if_pos h]
    · rw [if_neg h, if_neg h, if_pos (by omega)]
  obtain ⟨R, hR⟩ : ∃ R, R = betw x1 y1 x2 y2 x3 y3 := ⟨_, rfl⟩
  rw [← hR] at hv ⊢
  replace H12 := Lib.hid H12
  replace H21 := Lib.hid H21
  replace H23 := Lib.hid H23
  replace H32 := Lib.hid H32
  replace H13 := Lib.hid H13
  replace H31 := Lib.hid H31
  replace hv := Lib.hid hv
  replace hE := Lib.hid hE
  replace c1a := Lib.hid c1a
  replace c2a := Lib.hid c2a
  replace c3a := Lib.hid c3a
  replace hBW := Lib.hid hBW
  clear hR hne e12 e13
  go_enter Try.func33, Try.ntmps33
  go_upto_region 1 with fail
  obtain ⟨u3, hu3⟩ : ∃ u3, u3 = (((w.alloc (.cells #[.int .u64 (x1 : Int), .int .u64 (y1 : Int)] 34)).alloc (.cells #[.int .u64 (x2 : Int), .int .u64 (y2 : Int)] 34)).alloc (.cells #[.int .u64 (x3 : Int), .int .u64 (y3 : Int)] 34)) := ⟨_, rfl⟩
  rw [← hu3] at c1a c2a c3a hBW ⊢
  have d1a : u3.cell? ⟨w.heap.size, 0, none⟩ = some (.int .u64 (x1 : Int)) := Blk.cell c1a.out 0
  have d1b : u3.cell? ⟨w.heap.size, 1, none⟩ = some (.int .u64 (y1 : Int)) := Blk.cell c1a.out 1
  have d3a : u3.cell? ⟨w.heap.size + 2, 0, none⟩ = some (.int .u64 (x3 : Int)) := Blk.cell c3a.out 0
  have d3b : u3.cell? ⟨w.heap.size + 2, 1, none⟩ = some (.int .u64 (y3 : Int)) := Blk.cell c3a.out 1
  clear hu3
  go_cut [11] from 9 to 11 (fun c wx => c = .bool false ∧ wx = u3)
  case first =>
    have hE' : Hid (((x1 : Int) == (x3 : Int) && (y1 : Int) == (y3 : Int)) = false) := Lib.hid (by simpa [Int.natCast_inj] using hE.out)
    by_cases f1 : x1 = x3
    · have f2 : ¬ (y1 : Int) = (y3 : Int) := fun h => hE.out ⟨f1, by omega⟩
      subst f1
      go_wp2_with fail
      all_goals
        go_meet
        case rel => exact ⟨by simp; try omega, rfl⟩
    · have f2 : ¬ (x1 : Int) = (x3 : Int) := by omega
      go_wp2_with fail
      all_goals
        go_meet
        case rel => exact ⟨by simp; try omega, rfl⟩
  case rest =>
    obtain ⟨rfl, rfl⟩ := hcut
    clear d1a d1b d3a d3b
    have r1a : ∀ d os, (grow (redrawn wc d) os).cell? ⟨w.heap.size, 0, none⟩ = some (.int .u64 (x1 : Int)) := cell_regrown (Blk.cell c1a.out 0)
    have r1b : ∀ d os, (grow (redrawn wc d) os).cell? ⟨w.heap.size, 1, none⟩ = some (.int .u64 (y1 : Int)) := cell_regrown (Blk.cell c1a.out 1)
    have r2a : ∀ d os, (grow (redrawn wc d) os).cell? ⟨w.heap.size + 1, 0, none⟩ = some (.int .u64 (x2 : Int)) := cell_regrown (Blk.cell c2a.out 0)
    have r2b : ∀ d os, (grow (redrawn wc d) os).cell? ⟨w.heap.size + 1, 1, none⟩ = some (.int .u64 (y2 : Int)) := cell_regrown (Blk.cell c2a.out 1)
    have r3a : ∀ d os, (grow (redrawn wc d) os).cell? ⟨w.heap.size + 2, 0, none⟩ = some (.int .u64 (x3 : Int)) := cell_regrown (Blk.cell c3a.out 0)
    have r3b : ∀ d os, (grow (redrawn wc d) os).cell? ⟨w.heap.size + 2, 1, none⟩ = some (.int .u64 (y3 : Int)) := cell_regrown (Blk.cell c3a.out 1)
    have cc12 : ∀ d os, Calls Try.prog 40 #[.agg #[.int .u64 (x1 : Int), .int .u64 (y1 : Int)], .agg #[.int .u64 (x2 : Int), .int .u64 (y2 : Int)]] (grow (redrawn wc d) os) fun e w'' => e = .returned (.int .i64 C12) ∧ ∃ p : Regrown, w'' = grow (redrawn wc p.d) p.os :=
      fun d os => Calls.regrown_of (by rw [hC12]; exact rcmp_any x1 y1 x2 y2 X12 X21 _ H12 H21 L12 L21)
    have cc23 : ∀ d os, Calls Try.prog 40 #[.agg #[.int .u64 (x2 : Int), .int .u64 (y2 : Int)], .agg #[.int .u64 (x3 : Int), .int .u64 (y3 : Int)]] (grow (redrawn wc d) os) fun e w'' => e = .returned (.int .i64 C23) ∧ ∃ p : Regrown, w'' = grow (redrawn wc p.d) p.os :=
      fun d os => Calls.regrown_of (by rw [hC23]; exact rcmp_any x2 y2 x3 y3 X23 X32 _ H23 H32 L23 L32)
    replace hC13 := Lib.hid hC13
    clear hC12 hC23
    go_wp2_with fail
    refine wp_region_quiet_below (by kernel_rfl) (by kernel_rfl) ?_
    iterate 2 (quiet_step (fail))
    quiet_step (exact cc12 _ _)
    iterate 2 (quiet_step (fail))
    quiet_step (exact cc23 _ _)
    iterate 2 (quiet_step (fail))
    refine wpQuiet_nil ?_
    intro u4 hw'
    have hb : Below wc.heap.size wc u4 := by
      obtain ⟨p, rfl⟩ := hw'
      exact below_regrown wc p.d p.os
    clear hw' cc12 cc23 r1a r1b r2a r2b r3a r3b
    have hB4 := hBW.out.trans (hb.mono hBW.out.size)
    have t1 := Blk.below c1a.out hb
    have t3 := Blk.below c3a.out hb
    clear hb hBW c1a c2a c3a
    have d1a : u4.cell? ⟨w.heap.size, 0, none⟩ = some (.int .u64 (x1 : Int)) := t1.cell 0
    have d1b : u4.cell? ⟨w.heap.size, 1, none⟩ = some (.int .u64 (y1 : Int)) := t1.cell 1
    have d3a : u4.cell? ⟨w.heap.size + 2, 0, none⟩ = some (.int .u64 (x3 : Int)) := t3.cell 0
    have d3b : u4.cell? ⟨w.heap.size + 2, 1, none⟩ = some (.int .u64 (y3 : Int)) := t3.cell 1
    replace hB4 := Lib.hid hB4
    clear t1 t3
    go_wp2_with fail
    refine (rcmp_any x1 y1 x3 y3 X13 X31 _ H13 H31 L13 L31).mono ?_
    rintro en u5 ⟨rfl, hb⟩
    rw [← hC13.out]
    have hB5 := Lib.hid (hB4.out.trans (hb.mono hB4.out.size))
    clear hb hB4 d1a d1b d3a d3b
    by_cases o1 : C13 < 0
    · have hv' : Hid (R = (decide (C12 < 0) && decide (C23 < 0))) := Lib.hid (by rw [hv.out, if_pos o1])
      clear hv hC13
      by_cases o2 : C12 < 0
      · go_wp2_with fail
        go_ret
        exact ⟨by rw [hv'.out]; simp; try omega, hB5.out⟩
      · go_wp2_with fail
        go_ret
        exact ⟨by rw [hv'.out]; simp; try omega, hB5.out⟩
    · have hv' : Hid (R = (decide (C12 < 0) || decide (C23 < 0))) := Lib.hid (by rw [hv.out, if_neg o1])
      clear hv hC13
      by_cases o2 : C12 < 0
      · go_wp2_with fail
        go_ret
        exact ⟨by rw [hv'.out]; simp; try omega, hB5.out⟩
      · go_wp2_with fail
        go_ret
        exact ⟨by rw [hv'.out]; simp; try omega, hB5.out⟩
end Go.Proofs.Ytciafmnideihjaa
