/- Package wide: Quo, Mod, Uint64, Exp, of numbers from 0 on. -/
import Derived.Test.YtciafmnideihjaaWideH
import Derived.Test.YtciafmnideihjaaNatC
import Derived.Test.YtciafmnideihjaaAngA
namespace Go.Proofs.Ytciafmnideihjaa
open Go.RowKit Go.Sort

set_option maxRecDepth 100000 in
set_option maxHeartbeats 1000000 in
/-- Quo -/
theorem quoBig_any (p o pa oa pb ob x y : Nat) (w : World) (h : BS w p o) (hx : Big w pa oa (x : Int)) (hy : Big w pb ob (y : Int)) (h0 : 0 < y) (hlx : (dg x).length ≤ 1073741823) :
    Calls Try.prog 78 #[.pointer (some ⟨p, o, none⟩), .pointer (some ⟨pa, oa, none⟩), .pointer (some ⟨pb, ob, none⟩)] w (RetBig ((x / y : Nat) : Int) p o w) := by
  obtain ⟨v, hc1, hc2, hv⟩ := hx.cells
  obtain ⟨v', hc1', hc2', hv'⟩ := hy.cells
  rw [Int.natAbs_natCast] at hv hv'
  have hd : decide ((x : Int) < 0) = false := by simp
  have hd' : decide ((y : Int) < 0) = false := by simp
  rw [hd] at hc1
  rw [hd'] at hc1'
  have ht2 := Lib.hid (over_any v v' x y (w.drewN 1) (hv.drewN 1) (hv'.drewN 1) h0 hlx)
  replace h := Lib.hid h
  clear hd hd' hv hv' hx hy h0 hlx
  go_enter Try.func78, Try.ntmps78
  go_wp2_with fail
  go_region_with (first | (go_at_call 106; refine ht2.out.mono ?_; rintro e w1 ⟨q, r, rfl, hq, hr, hbu⟩; have kS := Lib.hid (bs_after h.out hbu); have kB := Lib.hid (below_after (Nat.le_refl _) hbu); have k1 : w1.cell? ⟨pa, oa, none⟩ = some (.bool false) := (hbu.cell (block_lt_of_cell hc1)).trans hc1; have k2 : w1.cell? ⟨pb, ob, none⟩ = some (.bool false) := (hbu.cell (block_lt_of_cell hc1')).trans hc1'; have hq := Lib.hid hq; clear hbu))
  all_goals
    have m1 : ∀ d os, (grow (redrawn w1 d) os).cell? ⟨pa, oa, none⟩ = some (.bool false) := cell_regrown k1
    have m2 : ∀ d os, (grow (redrawn w1 d) os).cell? ⟨pb, ob, none⟩ = some (.bool false) := cell_regrown k2
    go_wp2_with fail
    refine wp_region_tail_below 11 (by kernel_rfl) (by kernel_rfl) ?_
    simp only [List.take_succ_cons, List.take_zero, List.drop_succ_cons, List.drop_zero]
    iterate 11 (quiet_step (fail))
    refine wpQuiet_nil ?_
    intro w2 hb2
    have hS2 := kS.out.below hb2
    have hq2 := hq.out.below hb2
    have hB2 := kB.out.trans (hb2.mono kB.out.size)
    replace hS2 := Lib.hid hS2
    replace hq2 := Lib.hid hq2
    replace hB2 := Lib.hid hB2
    clear hb2 m1 m2 k1 k2 hc1 hc2 hc1' hc2'
    go_wp2_with fail
    refine (laid_any p o (x / y) false _ _ hS2.out hq2.out).mono ?_
    rintro e w3 ⟨rfl, hb3, hg⟩
    replace hb3 := Lib.hid hb3
    replace hg := Lib.hid hg
    go_wp2_with fail
    go_ret
    exact ⟨rfl, hb3.out, gb_trans (gb_of_below hB2.out) hg.out⟩

set_option maxRecDepth 100000 in
set_option maxHeartbeats 1000000 in
/-- Mod -/
theorem modBig_any (p o pa oa pb ob x y : Nat) (w : World) (h : BS w p o) (hx : Big w pa oa (x : Int)) (hy : Big w pb ob (y : Int)) (h0 : 0 < y) (hlx : (dg x).length ≤ 1073741823) :
    Calls Try.prog 76 #[.pointer (some ⟨p, o, none⟩), .pointer (some ⟨pa, oa, none⟩), .pointer (some ⟨pb, ob, none⟩)] w (RetBig ((x % y : Nat) : Int) p o w) := by
  obtain ⟨v, hc1, hc2, hv⟩ := hx.cells
  obtain ⟨v', hc1', hc2', hv'⟩ := hy.cells
  rw [Int.natAbs_natCast] at hv hv'
  have hd : decide ((x : Int) < 0) = false := by simp
  rw [hd] at hc1
  have ht2 := Lib.hid (over_any v v' x y (w.drewN 1) (hv.drewN 1) (hv'.drewN 1) h0 hlx)
  replace h := Lib.hid h
  clear hd hv hv' hx hy h0 hlx hc1'
  go_enter Try.func76, Try.ntmps76
  go_wp2_with fail
  go_region_with (first | (go_at_call 106; refine ht2.out.mono ?_; rintro e w1 ⟨q, r, rfl, hq, hr, hbu⟩; have kS := Lib.hid (bs_after h.out hbu); have kB := Lib.hid (below_after (Nat.le_refl _) hbu); have k1 : w1.cell? ⟨pa, oa, none⟩ = some (.bool false) := (hbu.cell (block_lt_of_cell hc1)).trans hc1; have hr := Lib.hid hr; clear hbu))
  all_goals
    go_wp2_with fail
    refine (laid_any p o (x % y) false _ _ kS.out hr.out).mono ?_
    rintro e w3 ⟨rfl, hb3, hg⟩
    replace hb3 := Lib.hid hb3
    replace hg := Lib.hid hg
    go_wp2_with fail
    go_ret
    exact ⟨rfl, hb3.out, gb_trans (gb_of_below kB.out) hg.out⟩

theorem and_one_u64 (n : Nat) (h : n < 18446744073709551616) : bits .and .u64 (n : Int) 1 = ((n % 2 : Nat) : Int) := by
  have e1 : (BitVec.ofInt 64 (n : Int)).toNat = n := by
    rw [BitVec.ofInt_natCast, BitVec.toNat_ofNat]
    exact Nat.mod_eq_of_lt (by omega)
  show IntKind.u64.wrap ((BitVec.ofInt 64 (n : Int) &&& BitVec.ofInt 64 1).toNat : Int) = _
  rw [BitVec.toNat_and, e1, show (BitVec.ofInt 64 1).toNat = 1 by decide, Nat.and_one_is_mod, IntKind.wrap_u64]
  omega

set_option maxRecDepth 100000 in
set_option maxHeartbeats 1000000 in
/-- Uint64 -/
theorem uint64Big_any (p o x : Nat) (w : World) (hx : Big w p o (x : Int)) :
    Calls Try.prog 79 #[.pointer (some ⟨p, o, none⟩)] w fun e w' => e = .returned (.int .u64 ((x % 18446744073709551616 : Nat) : Int)) ∧ w = w' := by
  obtain ⟨v, hc1, hc2, hv⟩ := hx.cells
  rw [Int.natAbs_natCast] at hv
  obtain ⟨A, c, rfl, h1, h2, h3⟩ := id hv
  obtain ⟨L, hL⟩ : ∃ L, L = (dg x).length := ⟨_, rfl⟩
  obtain ⟨X, hX⟩ : ∃ X, X = x % 18446744073709551616 := ⟨_, rfl⟩
  have hxL : x < 4294967296 ^ L := by rw [hL]; exact dg_lt x
  rw [← hL] at h1 hc2
  rw [← hX]
  obtain ⟨K, hK⟩ : ∃ K, K = min L 2 := ⟨_, rfl⟩
  have hKi : min (L : Int) 2 = (K : Int) := by omega
  have hstart : (K = 0 ∧ 0 = X) ∨ (K = 1 ∧ 0 = X / 4294967296) ∨ (K = 2 ∧ (0 : Nat) = 0) := by
    rcases Nat.lt_or_ge L 2 with h | h
    · rcases Nat.eq_zero_or_pos L with h0 | h0
      · rw [h0] at hxL; simp at hxL; left; omega
      · rw [show L = 1 by omega] at hxL; simp at hxL; right; left; omega
    · right; right; omega
  have hKL : K ≤ L := by omega
  have hK2 : K ≤ 2 := by omega
  replace hv := Lib.hid hv
  replace hL := Lib.hid hL
  replace hX := Lib.hid hX
  replace hstart := Lib.hid hstart
  clear hc1 hxL hK h3 hx
  go_enter Try.func79, Try.ntmps79
  go_wp2_with fail
  clear hKi
  go_loop [3, 4] (fun n i => ∃ k m : Nat, i = .int .i64 ((k : Int) - 1) ∧ n = .int .u64 (m : Int) ∧ k ≤ K ∧ ((k = 0 ∧ m = X) ∨ (k = 1 ∧ m = X / 4294967296) ∨ (k = 2 ∧ m = 0))) (fun _ i => ((intOf i) + 1).toNat)
  case atStart => exact ⟨K, 0, rfl, rfl, Nat.le_refl _, by rcases hstart.out with h | h | h; exact Or.inl h; exact Or.inr (Or.inl h); exact Or.inr (Or.inr ⟨h.1, rfl⟩)⟩
  case round =>
    obtain ⟨k, m, rfl, rfl, hk, hm⟩ := hrel
    by_cases h0 : 0 < k
    · obtain ⟨j, hj⟩ : ∃ j, k = j + 1 := ⟨k - 1, by omega⟩
      have hji : (k : Int) - 1 = (j : Int) := by omega
      have hjL : j < L := by omega
      have hjI : (j : Int) < (L : Int) := by omega
      obtain ⟨d, hd⟩ : ∃ d, (dg x)[j]? = some d := ⟨_, List.getElem?_eq_getElem (by rw [← hL.out]; exact hjL)⟩
      have hds : d < 4294967296 := getElem?_dg hd
      have hdv := digit_val (sm_dg x) hd
      rw [val_dg] at hdv
      obtain ⟨ga, oa, ca, La, ea, -, -, hAa, hLa⟩ := hv.out.open_ (fun e => by have := hL.out; rw [e] at this; simp at this; omega)
      injection ea with ea1 _ ea2
      subst ea1 ea2
      have hcd : w.cell? ⟨ga, oa + j, none⟩ = some (.int .u32 (d : Int)) := hAa.cell (hLa _ _ hd)
      have hXo := hX.out
      have hnext : m < 4294967296 ∧ ((j = 0 ∧ m * 4294967296 + d = X) ∨ (j = 1 ∧ m * 4294967296 + d = X / 4294967296) ∨ (j = 2 ∧ m * 4294967296 + d = 0)) := by
        rcases hm with ⟨h, h'⟩ | ⟨h, h'⟩ | ⟨h, h'⟩
        · omega
        · have : j = 0 := by omega
          subst this
          simp at hdv
          omega
        · have : j = 1 := by omega
          subst this
          simp at hdv
          omega
      have hm32 : m < 4294967296 := hnext.1
      have hor : bits .or .u64 ((m : Int) * 4294967296) (d : Int) = ((m * 4294967296 + d : Nat) : Int) := by
        have := u64_or_nat (m * 4294967296) d (by omega) (by omega)
        rw [or_hi m d hds] at this
        rw [← this, Int.natCast_mul]
        rfl
      obtain ⟨m', hm'⟩ : ∃ m', m' = m * 4294967296 + d := ⟨_, rfl⟩
      rw [← hm'] at hor hnext
      have hn2 := Lib.hid hnext.2
      clear hnext hd hdv hm hXo hm'
      go_wp2_with fail
      go_round
      case rel => exact ⟨j, m', rfl, rfl, by omega, hn2.out⟩
      case measure => simp only [intOf]; omega
    · have hk0 : k = 0 := by omega
      subst hk0
      have hmX : Hid (m = X) := Lib.hid (by rcases hm with ⟨h, h'⟩ | ⟨h, h'⟩ | ⟨h, h'⟩ <;> omega)
      clear hm
      go_wp2_with fail
      go_ret
      exact ⟨by rw [← hmX.out]; rfl, rfl⟩
end Go.Proofs.Ytciafmnideihjaa
