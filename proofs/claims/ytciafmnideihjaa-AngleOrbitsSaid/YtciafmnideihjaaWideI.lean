/- Package wide: Quo, Mod, Uint64, Exp, of numbers from 0 on. · Package wide: Exp. -/
import Derived.Test.YtciafmnideihjaaWideH
import Derived.Test.YtciafmnideihjaaNatC
import Derived.Test.YtciafmnideihjaaAngA
import Derived.Deep.CutRange
namespace Go.Proofs.Ytciafmnideihjaa
open Go.RowKit Go.Sort

set_option maxRecDepth 100000 in
set_option maxHeartbeats 1000000 in
/-- Quo -/
theorem quoBig_any (p o pa oa pb ob x y : Nat) (w : World) (h : BS w p o) (hx : Big w pa oa (x : Int)) (hy : Big w pb ob (y : Int)) (h0 : 0 < y) (hlx : (dg x).length ≤ 1073741823) :
    Calls Try.prog 78 #[.pointer (some ⟨p, o, none⟩), .pointer (some ⟨pa, oa, none⟩), .pointer (some ⟨pb, ob, none⟩)] w (RetBig ((x / y : Nat) : Int) p o w) := by
  obtain ⟨v, hc1, hc2, hv⟩ := hx.cells
  obtain ⟨v', hc1', hc2', hv'⟩ := hy.cells
  rw [Int.natAbs_natCast] at hv hv'
  have hd : decide ((x : Int) < 0) = false := by simp
  have hd' : decide ((y : Int) < 0) = false := by simp
  rw [hd] at hc1
  rw [hd'] at hc1'
  have ht2 := Lib.hid (over_any v v' x y (w.drewN 1) (hv.drewN 1) (hv'.drewN 1) h0 hlx)
  replace h := Lib.hid h
  clear hd hd' hv hv' hx hy h0 hlx
  go_enter Try.func78, Try.ntmps78
  go_wp2_with fail
  go_region_with (first | (go_at_call 106; refine ht2.out.mono ?_; rintro e w1 ⟨q, r, rfl, hq, hr, hbu⟩; have kS := Lib.hid (bs_after h.out hbu); have kB := Lib.hid (below_after (Nat.le_refl _) hbu); have k1 : w1.cell? ⟨pa, oa, none⟩ = some (.bool false) := (hbu.cell (block_lt_of_cell hc1)).trans hc1; have k2 : w1.cell? ⟨pb, ob, none⟩ = some (.bool false) := (hbu.cell (block_lt_of_cell hc1')).trans hc1'; have hq := Lib.hid hq; clear hbu))
  all_goals
    have m1 : ∀ d os, (grow (redrawn w1 d) os).cell? ⟨pa, oa, none⟩ = some (.bool false) := cell_regrown k1
    have m2 : ∀ d os, (grow (redrawn w1 d) os).cell? ⟨pb, ob, none⟩ = some (.bool false) := cell_regrown k2
    go_wp2_with fail
    refine wp_region_tail_below 11 (by kernel_rfl) (by kernel_rfl) ?_
    simp only [List.take_succ_cons, List.take_zero, List.drop_succ_cons, List.drop_zero]
    iterate 11 (quiet_step (fail))
    refine wpQuiet_nil ?_
    intro w2 hb2
    have hS2 := kS.out.below hb2
    have hq2 := hq.out.below hb2
    have hB2 := kB.out.trans (hb2.mono kB.out.size)
    replace hS2 := Lib.hid hS2
    replace hq2 := Lib.hid hq2
    replace hB2 := Lib.hid hB2
    clear hb2 m1 m2 k1 k2 hc1 hc2 hc1' hc2'
    go_wp2_with fail
    refine (laid_any p o (x / y) false _ _ hS2.out hq2.out).mono ?_
    rintro e w3 ⟨rfl, hb3, hg⟩
    replace hb3 := Lib.hid hb3
    replace hg := Lib.hid hg
    go_wp2_with fail
    go_ret
    exact ⟨rfl, hb3.out, gb_trans (gb_of_below hB2.out) hg.out⟩

set_option maxRecDepth 100000 in
set_option maxHeartbeats 1000000 in
/-- Mod -/
theorem modBig_any (p o pa oa pb ob x y : Nat) (w : World) (h : BS w p o) (hx : Big w pa oa (x : Int)) (hy : Big w pb ob (y : Int)) (h0 : 0 < y) (hlx : (dg x).length ≤ 1073741823) :
    Calls Try.prog 76 #[.pointer (some ⟨p, o, none⟩), .pointer (some ⟨pa, oa, none⟩), .pointer (some ⟨pb, ob, none⟩)] w (RetBig ((x % y : Nat) : Int) p o w) := by
  obtain ⟨v, hc1, hc2, hv⟩ := hx.cells
  obtain ⟨v', hc1', hc2', hv'⟩ := hy.cells
  rw [Int.natAbs_natCast] at hv hv'
  have hd : decide ((x : Int) < 0) = false := by simp
  rw [hd] at hc1
  have ht2 := Lib.hid (over_any v v' x y (w.drewN 1) (hv.drewN 1) (hv'.drewN 1) h0 hlx)
  replace h := Lib.hid h
  clear hd hv hv' hx hy h0 hlx hc1'
  go_enter Try.func76, Try.ntmps76
  go_wp2_with fail
  go_region_with (first | (go_at_call 106; refine ht2.out.mono ?_; rintro e w1 ⟨q, r, rfl, hq, hr, hbu⟩; have kS := Lib.hid (bs_after h.out hbu); have kB := Lib.hid (below_after (Nat.le_refl _) hbu); have k1 : w1.cell? ⟨pa, oa, none⟩ = some (.bool false) := (hbu.cell (block_lt_of_cell hc1)).trans hc1; have hr := Lib.hid hr; clear hbu))
  all_goals
    go_wp2_with fail
    refine (laid_any p o (x % y) false _ _ kS.out hr.out).mono ?_
    rintro e w3 ⟨rfl, hb3, hg⟩
    replace hb3 := Lib.hid hb3
    replace hg := Lib.hid hg
    go_wp2_with fail
    go_ret
    exact ⟨rfl, hb3.out, gb_trans (gb_of_below kB.out) hg.out⟩

theorem and_one_u64 (n : Nat) (h : n < 18446744073709551616) : bits .and .u64 (n : Int) 1 = ((n % 2 : Nat) : Int) := by
  have e1 : (BitVec.ofInt 64 (n : Int)).toNat = n := by
    rw [BitVec.ofInt_natCast, BitVec.toNat_ofNat]
    exact Nat.mod_eq_of_lt (by omega)
  show IntKind.u64.wrap ((BitVec.ofInt 64 (n : Int) &&& BitVec.ofInt 64 1).toNat : Int) = _
  rw [BitVec.toNat_and, e1, show (BitVec.ofInt 64 1).toNat = 1 by decide, Nat.and_one_is_mod, IntKind.wrap_u64]
  omega

set_option maxRecDepth 100000 in
set_option maxHeartbeats 1000000 in
/-- Uint64 -/
theorem uint64Big_any (p o x : Nat) (w : World) (hx : Big w p o (x : Int)) :
    Calls Try.prog 79 #[.pointer (some ⟨p, o, none⟩)] w fun e w' => e = .returned (.int .u64 ((x % 18446744073709551616 : Nat) : Int)) ∧ w = w' := by
  obtain ⟨v, hc1, hc2, hv⟩ := hx.cells
  rw [Int.natAbs_natCast] at hv
  obtain ⟨A, c, rfl, h1, h2, h3⟩ := id hv
  obtain ⟨L, hL⟩ : ∃ L, L = (dg x).length := ⟨_, rfl⟩
  obtain ⟨X, hX⟩ : ∃ X, X = x % 18446744073709551616 := ⟨_, rfl⟩
  have hxL : x < 4294967296 ^ L := by rw [hL]; exact dg_lt x
  rw [← hL] at h1 hc2
  rw [← hX]
  obtain ⟨K, hK⟩ : ∃ K, K = min L 2 := ⟨_, rfl⟩
  have hKi : min (L : Int) 2 = (K : Int) := by omega
  have hstart : (K = 0 ∧ 0 = X) ∨ (K = 1 ∧ 0 = X / 4294967296) ∨ (K = 2 ∧ (0 : Nat) = 0) := by
    rcases Nat.lt_or_ge L 2 with h | h
    · rcases Nat.eq_zero_or_pos L with h0 | h0
      · rw [h0] at hxL; simp at hxL; left; omega
      · rw [show L = 1 by omega] at hxL; simp at hxL; right; left; omega
    · right; right; omega
  have hKL : K ≤ L := by omega
  have hK2 : K ≤ 2 := by omega
  replace hv := Lib.hid hv
  replace hL := Lib.hid hL
  replace hX := Lib.hid hX
  replace hstart := Lib.hid hstart
  clear hc1 hxL hK h3 hx
  go_enter Try.func79, Try.ntmps79
  go_wp2_with fail
  clear hKi
  go_loop [3, 4] (fun n i => ∃ k m : Nat, i = .int .i64 ((k : Int) - 1) ∧ n = .int .u64 (m : Int) ∧ k ≤ K ∧ ((k = 0 ∧ m = X) ∨ (k = 1 ∧ m = X / 4294967296) ∨ (k = 2 ∧ m = 0))) (fun _ i => ((intOf i) + 1).toNat)
  case atStart => exact ⟨K, 0, rfl, rfl, Nat.le_refl _, by rcases hstart.out with h | h | h; exact Or.inl h; exact Or.inr (Or.inl h); exact Or.inr (Or.inr ⟨h.1, rfl⟩)⟩
  case round =>
    obtain ⟨k, m, rfl, rfl, hk, hm⟩ := hrel
    by_cases h0 : 0 < k
    · obtain ⟨j, hj⟩ : ∃ j, k = j + 1 := ⟨k - 1, by omega⟩
      have hji : (k : Int) - 1 = (j : Int) := by omega
      have hjL : j < L := by omega
      have hjI : (j : Int) < (L : Int) := by omega
      obtain ⟨d, hd⟩ : ∃ d, (dg x)[j]? = some d := ⟨_, List.getElem?_eq_getElem (by rw [← hL.out]; exact hjL)⟩
      have hds : d < 4294967296 := getElem?_dg hd
      have hdv := digit_val (sm_dg x) hd
      rw [val_dg] at hdv
      obtain ⟨ga, oa, ca, La, ea, -, -, hAa, hLa⟩ := hv.out.open_ (fun e => by have := hL.out; rw [e] at this; simp at this; omega)
      injection ea with ea1 _ ea2
      subst ea1 ea2
      have hcd : w.cell? ⟨ga, oa + j, none⟩ = some (.int .u32 (d : Int)) := hAa.cell (hLa _ _ hd)
      have hXo := hX.out
      have hnext : m < 4294967296 ∧ ((j = 0 ∧ m * 4294967296 + d = X) ∨ (j = 1 ∧ m * 4294967296 + d = X / 4294967296) ∨ (j = 2 ∧ m * 4294967296 + d = 0)) := by
        rcases hm with ⟨h, h'⟩ | ⟨h, h'⟩ | ⟨h, h'⟩
        · omega
        · have : j = 0 := by omega
          subst this
          simp at hdv
          omega
        · have : j = 1 := by omega
          subst this
          simp at hdv
          omega
      have hm32 : m < 4294967296 := hnext.1
      have hor : bits .or .u64 ((m : Int) * 4294967296) (d : Int) = ((m * 4294967296 + d : Nat) : Int) := by
        have := u64_or_nat (m * 4294967296) d (by omega) (by omega)
        rw [or_hi m d hds] at this
        rw [← this, Int.natCast_mul]
        rfl
      obtain ⟨m', hm'⟩ : ∃ m', m' = m * 4294967296 + d := ⟨_, rfl⟩
      rw [← hm'] at hor hnext
      have hn2 := Lib.hid hnext.2
      clear hnext hd hdv hm hXo hm'
      go_wp2_with fail
      go_round
      case rel => exact ⟨j, m', rfl, rfl, by omega, hn2.out⟩
      case measure => simp only [intOf]; omega
    · have hk0 : k = 0 := by omega
      subst hk0
      have hmX : Hid (m = X) := Lib.hid (by rcases hm with ⟨h, h'⟩ | ⟨h, h'⟩ | ⟨h, h'⟩ <;> omega)
      clear hm
      go_wp2_with fail
      go_ret
      exact ⟨by rw [← hmX.out]; rfl, rfl⟩
end Go.Proofs.Ytciafmnideihjaa

namespace Go.Proofs.Ytciafmnideihjaa
open Go.RowKit Go.Sort

theorem one_le_pow' {b m : Nat} (h : 1 ≤ b) : 1 ≤ b ^ m := Nat.one_le_iff_ne_zero.2 (Nat.ne_of_gt (Nat.pow_pos h))

set_option maxRecDepth 100000 in
set_option maxHeartbeats 2000000 in
/-- Exp, of a base from 1 on. -/
theorem expBig_any (p o pa oa pb ob x n : Nat) (w : World) (h : BS w p o) (hx : Big w pa oa (x : Int)) (hy : Big w pb ob (n : Int)) (hn : n < 18446744073709551616) (hx1 : 1 ≤ x) (hlx : (dg (x ^ n)).length ≤ 1073741823) (u : Value) :
    Calls Try.prog 71 #[.pointer (some ⟨p, o, none⟩), .pointer (some ⟨pa, oa, none⟩), .pointer (some ⟨pb, ob, none⟩), u] w (RetBig ((x ^ n : Nat) : Int) p o w) := by
  obtain ⟨v, hc1, hc2, hv⟩ := hx.cells
  rw [Int.natAbs_natCast] at hv
  have hd : decide ((x : Int) < 0) = false := by simp
  rw [hd] at hc1
  have hpa := hx.slot.lt
  obtain ⟨R, hR⟩ : ∃ R, R = x ^ n := ⟨_, rfl⟩
  rw [← hR] at hlx ⊢
  have hR1 : 1 ≤ R := by rw [hR]; exact one_le_pow' hx1
  replace hR := Lib.hid hR
  replace h := Lib.hid h
  replace hv := Lib.hid hv
  replace hy := Lib.hid hy
  replace hpa := Lib.hid hpa
  replace hx1 := Lib.hid hx1
  replace hlx := Lib.hid hlx
  replace hR1 := Lib.hid hR1
  clear hx hd
  go_enter Try.func71, Try.ntmps71
  go_wp2_with fail
  have hc2a : ∀ o : Obj, (w.alloc o).cell? ⟨pa, oa + 1, none⟩ = some v := fun o => (World.cell?_of_block (w := w) (Below.heap_alloc w o pa hpa.out)).trans hc2
  go_cut [9, 10] from 12 to 16 (fun out by_ wx => Dg wx out 1 ∧ by_ = v ∧ Below w.heap.size w wx)
  case first =>
    have hA := Arr.new w .u32 143 [1]
    have hR1' : Dg (w.alloc (.cells (ivs .u32 [1]).toArray 143)) (.slice (some ⟨w.heap.size, 0, none⟩) 1 1) 1 := by
      unfold Dg
      rw [dg_one (by omega) (by omega)]
      exact Rd.whole hA (by unfold maxLen; simp)
    have hB1 : Below w.heap.size w (w.alloc (.cells (ivs .u32 [1]).toArray 143)) := (Below.refl _ w).alloc (Nat.le_refl _) _
    replace hR1' := Lib.hid hR1'
    replace hB1 := Lib.hid hB1
    clear hA
    go_region
    all_goals
      go_wp2_with fail
      go_meet
      case rel => exact ⟨hR1'.out, rfl, by first | exact hB1.out | exact hB1.out.drew⟩
  case rest =>
    obtain ⟨h1, rfl, hB⟩ := hcut
    have hy1 := Lib.hid (hy.out.below (hB.mono (Nat.le_refl _)))
    have hv1 := Lib.hid (hv.out.below hB)
    have hS1 := Lib.hid (h.out.below hB)
    have hc1' : wc.cell? ⟨pa, oa, none⟩ = some (.bool false) := (hB.cell hpa.out).trans hc1
    replace h1 := Lib.hid h1
    replace hB := Lib.hid hB
    clear hc1 hc2 hc2a
    go_wp2_with fail
    refine (uint64Big_any pb ob n wc hy1.out).mono ?_
    rintro e w1 ⟨rfl, rfl⟩
    rw [Nat.mod_eq_of_lt hn]
    go_wp2_with fail
    go_loopw [9, 10, 11] (fun out by_ nn wr => ∃ (O B m : Nat), nn = .int .u64 (m : Int) ∧ m ≤ n ∧ Dg wr out O ∧ Dg wr by_ B ∧ 1 ≤ O ∧ 1 ≤ B ∧ O * B ^ m = R ∧ Below wc.heap.size wc wr) (fun _ _ nn _ => (intOf nn).toNat)
    case atStart => exact ⟨1, x, n, rfl, Nat.le_refl _, h1.out, hv1.out, Nat.le_refl _, hx1.out, by rw [Nat.one_mul, hR.out], Below.refl _ _⟩
    case round =>
      obtain ⟨O, B, m, rfl, hm, hO, hBv, hO1, hB1, hOB, hBr⟩ := hrel
      have hms : m < 18446744073709551616 := by omega
      by_cases m0 : 0 < m
      · have hm0I : (0 : Int) < (m : Int) := by omega
        have hOR : O ≤ R := by
          rw [← hOB]
          exact Nat.le_mul_of_pos_right _ (Nat.pow_pos hB1)
        have hBR : B ≤ R := by
          rw [← hOB]
          refine Nat.le_trans ?_ (Nat.le_mul_of_pos_left _ hO1)
          obtain ⟨k, rfl⟩ : ∃ k, m = k + 1 := ⟨m - 1, by omega⟩
          rw [Nat.pow_succ]
          exact Nat.le_mul_of_pos_left _ (Nat.pow_pos hB1)
        have lO : Hid ((dg O).length ≤ 1073741824) := Lib.hid (by have h1 := dg_len_mono hOR; have h2 := hlx.out; omega)
        have lB : Hid ((dg B).length ≤ 1073741824) := Lib.hid (by have h1 := dg_len_mono hBR; have h2 := hlx.out; omega)
        obtain ⟨k, hk⟩ : ∃ k, k = m / 2 := ⟨_, rfl⟩
        have hki : (m : Int) / 2 = (k : Int) := by omega
        have hand := and_one_u64 m hms
        have hkm : k < m := by omega
        replace hO := Lib.hid hO
        replace hBv := Lib.hid hBv
        replace hBr := Lib.hid hBr
        clear hOR hBR
        rcases Nat.mod_two_eq_zero_or_one m with hpar | hpar
        · rw [hpar] at hand
          have hand : bits .and .u64 (m : Int) 1 = 0 := hand
          have hN : Hid (O * (B * B) ^ k = R) := Lib.hid (by
            rw [← hOB, ← Nat.pow_two, ← Nat.pow_mul, show 2 * k = m by omega])
          have hm1I : (1 : Int) < (m : Int) := by omega
          have hB2 : Hid (1 ≤ B * B) := Lib.hid (Nat.mul_pos hB1 hB1)
          clear hOB hk hpar
          go_wp2_with fail
          refine (times_wide _ _ B B _ hBv.out hBv.out lB.out lB.out).mono ?_
          rintro e w2 ⟨q, rfl, hq, hb⟩
          have hO2 := Lib.hid (hO.out.below hb)
          have hBr2 := Lib.hid (hBr.out.trans (hb.mono hBr.out.size))
          replace hq := Lib.hid hq
          clear hb
          go_wp2_with fail
          go_roundw
          case rel => exact ⟨O, B * B, k, rfl, by omega, hO2.out, hq.out, hO1, hB2.out, hN.out, hBr2.out⟩
          case measure => simp only [intOf]; omega
        · rw [hpar] at hand
          have hand : bits .and .u64 (m : Int) 1 = 1 := hand
          have hO2p : Hid (1 ≤ O * B) := Lib.hid (Nat.mul_pos hO1 hB1)
          by_cases m1 : 1 < m
          · have hm1I : (1 : Int) < (m : Int) := by omega
            have hN : Hid ((O * B) * (B * B) ^ k = R) := Lib.hid (by
              rw [← hOB, ← Nat.pow_two, ← Nat.pow_mul, show m = 2 * k + 1 by omega, Nat.pow_succ, Nat.mul_assoc, Nat.mul_comm B])
            have hB2 : Hid (1 ≤ B * B) := Lib.hid (Nat.mul_pos hB1 hB1)
            clear hOB hk hpar
            go_wp2_with fail
            refine (times_wide _ _ O B _ hO.out hBv.out lO.out lB.out).mono ?_
            rintro e w2 ⟨q, rfl, hq, hb⟩
            have hBv2 := Lib.hid (hBv.out.below hb)
            have hBr2 := Lib.hid (hBr.out.trans (hb.mono hBr.out.size))
            replace hq := Lib.hid hq
            clear hb
            go_wp2_with fail
            refine (times_wide _ _ B B _ hBv2.out hBv2.out lB.out lB.out).mono ?_
            rintro e w3 ⟨q2, rfl, hq2, hb⟩
            have hq' := Lib.hid (hq.out.below hb)
            have hBr3 := Lib.hid (hBr2.out.trans (hb.mono hBr2.out.size))
            replace hq2 := Lib.hid hq2
            clear hb
            go_wp2_with fail
            go_roundw
            case rel => exact ⟨O * B, B * B, k, rfl, by omega, hq'.out, hq2.out, hO2p.out, hB2.out, hN.out, hBr3.out⟩
            case measure => simp only [intOf]; omega
          · have hm1I : ¬ (1 : Int) < (m : Int) := by omega
            have hme : m = 1 := by omega
            have hk0 : k = 0 := by omega
            have hN : Hid ((O * B) * B ^ k = R) := Lib.hid (by
              rw [← hOB, hk0, hme]; simp)
            clear hOB hk hpar hme hk0
            go_wp2_with fail
            refine (times_wide _ _ O B _ hO.out hBv.out lO.out lB.out).mono ?_
            rintro e w2 ⟨q, rfl, hq, hb⟩
            have hBv2 := Lib.hid (hBv.out.below hb)
            have hBr2 := Lib.hid (hBr.out.trans (hb.mono hBr.out.size))
            replace hq := Lib.hid hq
            clear hb
            go_wp2_with fail
            go_roundw
            case rel => exact ⟨O * B, B, k, rfl, by omega, hq.out, hBv2.out, hO2p.out, hB1, hN.out, hBr2.out⟩
            case measure => simp only [intOf]; omega
      · have hm0 : m = 0 := by omega
        subst hm0
        have hOR : O = R := by rw [← hOB]; simp
        have hc2' : wr.cell? ⟨pa, oa, none⟩ = some (.bool false) := (hBr.cell (block_lt_of_cell hc1')).trans hc1'
        have hS2 := Lib.hid (hS1.out.below hBr)
        rw [hOR] at hO
        replace hO := Lib.hid hO
        replace hBr := Lib.hid hBr
        clear hOR hOB hc1' hBv
        go_wp2_with fail
        refine (laid_any p o R false _ _ hS2.out hO.out).mono ?_
        rintro e w2 ⟨rfl, hb3, hg⟩
        replace hb3 := Lib.hid hb3
        replace hg := Lib.hid hg
        go_wp2_with fail
        go_ret
        exact ⟨rfl, hb3.out, gb_trans (gb_of_below (hB.out.trans (hBr.out.mono hB.out.size))) hg.out⟩
end Go.Proofs.Ytciafmnideihjaa
