/- Package wide: Exp. -/
import Derived.Test.YtciafmnideihjaaWideI
import Derived.Deep.CutRange
namespace Go.Proofs.Ytciafmnideihjaa
open Go.RowKit Go.Sort

theorem one_le_pow' {b m : Nat} (h : 1 ≤ b) : 1 ≤ b ^ m := Nat.one_le_iff_ne_zero.2 (Nat.ne_of_gt (Nat.pow_pos h))

set_option maxRecDepth 100000 in
set_option maxHeartbeats 2000000 in
/-- Exp, of a base from 1 on. -/
theorem expBig_any (p o pa oa pb ob x n : Nat) (w : World) (h : BS w p o) (hx : Big w pa oa (x : Int)) (hy : Big w pb ob (n : Int)) (hn : n < 18446744073709551616) (hx1 : 1 ≤ x) (hlx : (dg (x ^ n)).length ≤ 1073741823) (u : Value) :
    Calls Try.prog 71 #[.pointer (some ⟨p, o, none⟩), .pointer (some ⟨pa, oa, none⟩), .pointer (some ⟨pb, ob, none⟩), u] w (RetBig ((x ^ n : Nat) : Int) p o w) := by
  obtain ⟨v, hc1, hc2, hv⟩ := hx.cells
  rw [Int.natAbs_natCast] at hv
  have hd : decide ((x : Int) < 0) = false := by simp
  rw [hd] at hc1
  have hpa := hx.slot.lt
  obtain ⟨R, hR⟩ : ∃ R, R = x ^ n := ⟨_, rfl⟩
  rw [← hR] at hlx ⊢
  have hR1 : 1 ≤ R := by rw [hR]; exact one_le_pow' hx1
  replace hR := Lib.hid hR
  replace h := Lib.hid h
  replace hv := Lib.hid hv
  replace hy := Lib.hid hy
  replace hpa := Lib.hid hpa
  replace hx1 := Lib.hid hx1
  replace hlx := Lib.hid hlx
  replace hR1 := Lib.hid hR1
  clear hx hd
  go_enter Try.func71, Try.ntmps71
  go_wp2_with fail
  have hc2a : ∀ o : Obj, (w.alloc o).cell? ⟨pa, oa + 1, none⟩ = some v := fun o => (World.cell?_of_block (w := w) (Below.heap_alloc w o pa hpa.out)).trans hc2
  go_cut [9, 10] from 12 to 16 (fun out by_ wx => Dg wx out 1 ∧ by_ = v ∧ Below w.heap.size w wx)
  case first =>
    have hA := Arr.new w .u32 143 [1]
    have hR1' : Dg (w.alloc (.cells (ivs .u32 [1]).toArray 143)) (.slice (some ⟨w.heap.size, 0, none⟩) 1 1) 1 := by
      unfold Dg
      rw [dg_one (by omega) (by omega)]
      exact Rd.whole hA (by unfold maxLen; simp)
    have hB1 : Below w.heap.size w (w.alloc (.cells (ivs .u32 [1]).toArray 143)) := (Below.refl _ w).alloc (Nat.le_refl _) _
    replace hR1' := Lib.hid hR1'
    replace hB1 := Lib.hid hB1
    clear hA
    go_region
    all_goals
      go_wp2_with fail
      go_meet
      case rel => exact ⟨hR1'.out, rfl, by first | exact hB1.out | exact hB1.out.drew⟩
  case rest =>
    obtain ⟨h1, rfl, hB⟩ := hcut
    have hy1 := Lib.hid (hy.out.below (hB.mono (Nat.le_refl _)))
    have hv1 := Lib.hid (hv.out.below hB)
    have hS1 := Lib.hid (h.out.below hB)
    have hc1' : wc.cell? ⟨pa, oa, none⟩ = some (.bool false) := (hB.cell hpa.out).trans hc1
    replace h1 := Lib.hid h1
    replace hB := Lib.hid hB
    clear hc1 hc2 hc2a
    go_wp2_with fail
    refine (uint64Big_any pb ob n wc hy1.out).mono ?_
    rintro e w1 ⟨rfl, rfl⟩
    rw [Nat.mod_eq_of_lt hn]
    go_wp2_with fail
    go_loopw [9, 10, 11] (fun out by_ nn wr => ∃ (O B m : Nat), nn = .int .u64 (m : Int) ∧ m ≤ n ∧ Dg wr out O ∧ Dg wr by_ B ∧ 1 ≤ O ∧ 1 ≤ B ∧ O * B ^ m = R ∧ Below wc.heap.size wc wr) (fun _ _ nn _ => (intOf nn).toNat)
    case atStart => exact ⟨1, x, n, rfl, Nat.le_refl _, h1.out, hv1.out, Nat.le_refl _, hx1.out, by rw [Nat.one_mul, hR.out], Below.refl _ _⟩
    case round =>
      obtain ⟨O, B, m, rfl, hm, hO, hBv, hO1, hB1, hOB, hBr⟩ := hrel
      have hms : m < 18446744073709551616 := by omega
      by_cases m0 : 0 < m
      · have hm0I : (0 : Int) < (m : Int) := by omega
        have hOR : O ≤ R := by
          rw [← hOB]
          exact Nat.le_mul_of_pos_right _ (Nat.pow_pos hB1)
        have hBR : B ≤ R := by
          rw [← hOB]
          refine Nat.le_trans ?_ (Nat.le_mul_of_pos_left _ hO1)
          obtain ⟨k, rfl⟩ : ∃ k, m = k + 1 := ⟨m - 1, by omega⟩
          rw [Nat.pow_succ]
          exact Nat.le_mul_of_pos_left _ (Nat.pow_pos hB1)
        have lO : Hid ((dg O).length ≤ 1073741824) := Lib.hid (by have h1 := dg_len_mono hOR; have h2 := hlx.out; omega)
        have lB : Hid ((dg B).length ≤ 1073741824) := Lib.hid (by have h1 := dg_len_mono hBR; have h2 := hlx.out; omega)
        obtain ⟨k, hk⟩ : ∃ k, k = m / 2 := ⟨_, rfl⟩
        have hki : (m : Int) / 2 = (k : Int) := by omega
        have hand := and_one_u64 m hms
        have hkm : k < m := by omega
        replace hO := Lib.hid hO
        replace hBv := Lib.hid hBv
        replace hBr := Lib.hid hBr
        clear hOR hBR
        rcases Nat.mod_two_eq_zero_or_one m with hpar | hpar
        · rw [hpar] at hand
          have hand : bits .and .u64 (m : Int) 1 = 0 := hand
          have hN : Hid (O * (B * B) ^ k = R) := Lib.hid (by
            rw [← hOB, ← Nat.pow_two, ← Nat.pow_mul, show 2 * k = m by omega])
          have hm1I : (1 : Int) < (m : Int) := by omega
          have hB2 : Hid (1 ≤ B * B) := Lib.hid (Nat.mul_pos hB1 hB1)
          clear hOB hk hpar
          go_wp2_with fail
          refine (times_wide _ _ B B _ hBv.out hBv.out lB.out lB.out).mono ?_
          rintro e w2 ⟨q, rfl, hq, hb⟩
          have hO2 := Lib.hid (hO.out.below hb)
          have hBr2 := Lib.hid (hBr.out.trans (hb.mono hBr.out.size))
          replace hq := Lib.hid hq
          clear hb
          go_wp2_with fail
          go_roundw
          case rel => exact ⟨O, B * B, k, rfl, by omega, hO2.out, hq.out, hO1, hB2.out, hN.out, hBr2.out⟩
          case measure => simp only [intOf]; omega
        · rw [hpar] at hand
          have hand : bits .and .u64 (m : Int) 1 = 1 := hand
          have hO2p : Hid (1 ≤ O * B) := Lib.hid (Nat.mul_pos hO1 hB1)
          by_cases m1 : 1 < m
          · have hm1I : (1 : Int) < (m : Int) := by omega
            have hN : Hid ((O * B) * (B * B) ^ k = R) := Lib.hid (by
              rw [← hOB, ← Nat.pow_two, ← Nat.pow_mul, show m = 2 * k + 1 by omega, Nat.pow_succ, Nat.mul_assoc, Nat.mul_comm B])
            have hB2 : Hid (1 ≤ B * B) := Lib.hid (Nat.mul_pos hB1 hB1)
            clear hOB hk hpar
            go_wp2_with fail
            refine (times_wide _ _ O B _ hO.out hBv.out lO.out lB.out).mono ?_
            rintro e w2 ⟨q, rfl, hq, hb⟩
            have hBv2 := Lib.hid (hBv.out.below hb)
            have hBr2 := Lib.hid (hBr.out.trans (hb.mono hBr.out.size))
            replace hq := Lib.hid hq
            clear hb
            go_wp2_with fail
            refine (times_wide _ _ B B _ hBv2.out hBv2.out lB.out lB.out).mono ?_
            rintro e w3 ⟨q2, rfl, hq2, hb⟩
            have hq' := Lib.hid (hq.out.below hb)
            have hBr3 := Lib.hid (hBr2.out.trans (hb.mono hBr2.out.size))
            replace hq2 := Lib.hid hq2
            clear hb
            go_wp2_with fail
            go_roundw
            case rel => exact ⟨O * B, B * B, k, rfl, by omega, hq'.out, hq2.out, hO2p.out, hB2.out, hN.out, hBr3.out⟩
            case measure => simp only [intOf]; omega
          · have hm1I : ¬ (1 : Int) < (m : Int) := by omega
            have hme : m = 1 := by omega
            have hk0 : k = 0 := by omega
            have hN : Hid ((O * B) * B ^ k = R) := Lib.hid (by
              rw [← hOB, hk0, hme]; simp)
            clear hOB hk hpar hme hk0
            go_wp2_with fail
            refine (times_wide _ _ O B _ hO.out hBv.out lO.out lB.out).mono ?_
            rintro e w2 ⟨q, rfl, hq, hb⟩
            have hBv2 := Lib.hid (hBv.out.below hb)
            have hBr2 := Lib.hid (hBr.out.trans (hb.mono hBr.out.size))
            replace hq := Lib.hid hq
            clear hb
            go_wp2_with fail
            go_roundw
            case rel => exact ⟨O * B, B, k, rfl, by omega, hq.out, hBv2.out, hO2p.out, hB1, hN.out, hBr2.out⟩
            case measure => simp only [intOf]; omega
      · have hm0 : m = 0 := by omega
        subst hm0
        have hOR : O = R := by rw [← hOB]; simp
        have hc2' : wr.cell? ⟨pa, oa, none⟩ = some (.bool false) := (hBr.cell (block_lt_of_cell hc1')).trans hc1'
        have hS2 := Lib.hid (hS1.out.below hBr)
        rw [hOR] at hO
        replace hO := Lib.hid hO
        replace hBr := Lib.hid hBr
        clear hOR hOB hc1' hBv
        go_wp2_with fail
        refine (laid_any p o R false _ _ hS2.out hO.out).mono ?_
        rintro e w2 ⟨rfl, hb3, hg⟩
        replace hb3 := Lib.hid hb3
        replace hg := Lib.hid hg
        go_wp2_with fail
        go_ret
        exact ⟨rfl, hb3.out, gb_trans (gb_of_below (hB.out.trans (hBr.out.mono hB.out.size))) hg.out⟩
end Go.Proofs.Ytciafmnideihjaa
