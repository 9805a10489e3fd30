/- The document's answer: filigreeref21.low, Make, Add. -/
import Derived.Test.YtciafmnideihjaaRefE
import Derived.Test.YtciafmnideihjaaAngP
import Derived.Test.YtciafmnideihjaaRefA
namespace Go.Proofs.Ytciafmnideihjaa
open Go.RowKit

set_option maxRecDepth 100000 in
set_option maxHeartbeats 400000 in
/-- filigreeref21.low -/
theorem low_any (a b X n d : Nat) (w : World) (ha : a < 18446744073709551616) (hb : b < 18446744073709551616) (h0 : 0 < b) (hX : Hid (X = a % b)) (hn : Hid (n = X / Nat.gcd X b)) (hd : Hid (d = b / Nat.gcd X b)) :
    Calls Try.prog 62 #[.int .u64 a, .int .u64 b] w (RetPart n d w) := by
  have hXb : X < b := by rw [hX.out]; exact Nat.mod_lt _ h0
  have hXi : (a : Int) % (b : Int) = (X : Int) := by rw [hX.out]; rfl
  obtain ⟨g, hg⟩ : ∃ g, g = Nat.gcd X b := ⟨_, rfl⟩
  have hg0 : 0 < g := by rw [hg]; exact Nat.gcd_pos_of_pos_right _ h0
  have hgs : g < 18446744073709551616 := by rw [hg]; exact Nat.lt_of_le_of_lt (Nat.gcd_le_right _ h0) hb
  have e1 : (X : Int) / (g : Int) = (n : Int) := by rw [hn.out, hg]; rfl
  have e2 : (b : Int) / (g : Int) = (d : Int) := by rw [hd.out, hg]; rfl
  have hns : n < 18446744073709551616 := by rw [hn.out]; exact Nat.lt_of_le_of_lt (Nat.div_le_self _ _) (by omega)
  have hds : d < 18446744073709551616 := by rw [hd.out]; exact Nat.lt_of_le_of_lt (Nat.div_le_self _ _) hb
  have hb0 : ¬ (b : Int) = 0 := by omega
  have Hg := Lib.hid hg
  clear hg
  go_enter Try.func62, Try.ntmps62
  go_wp2_with fail
  refine (rgcd_any X b _ (by omega) hb).mono ?_
  rintro e w1 ⟨rfl, hdr⟩
  rw [← Hg.out]
  have hK := Blk.dr hdr (Blk.new w 34 #[.int .u64 0, .int .u64 0])
  have hB := below_dr hdr ((Below.refl w.heap.size w).alloc (Nat.le_refl _) (.cells #[.int .u64 0, .int .u64 0] 34))
  have k0 := hK.cell 0
  have k1 := hK.cell 1
  have f0 := hK.frozen 0
  have f1 := hK.frozen 1
  simp at k0 k1
  have hB := Lib.hid hB
  have hK := Lib.hid hK
  clear hdr
  go_wp2
  go_region
  go_wp2
  refine bodyPost_ret (v := .agg #[.int .u64 (n : Int), .int .u64 (d : Int)]) (by simp [results, Try.results62, go_sem, k0, k1]) rfl ⟨rfl, ?_⟩
  exact ((hB.out.setCell (p := ⟨w.heap.size, 0, none⟩) (Nat.le_refl _) _).setCell (p := ⟨w.heap.size, 1, none⟩) (Nat.le_refl _) _).drew

/-- What the document's Make tells. -/
def rmakeV (num den : Int) : Value :=
  if 1 ≤ den ∧ den ≤ 2147483647 then
    .tuple #[.agg #[.int .u64 (((num % den).toNat / Nat.gcd (num % den).toNat den.toNat : Nat) : Int), .int .u64 ((den.toNat / Nat.gcd (num % den).toNat den.toNat : Nat) : Int)], .int .i64 0]
  else .tuple #[.agg #[.int .u64 0, .int .u64 0], .int .i64 2]

set_option maxRecDepth 100000 in
set_option maxHeartbeats 1000000 in
/-- filigreeref21.Make -/
theorem rmake_any (num den : Int) (w : World) :
    Calls Try.prog 35 #[.int .i64 num, .int .i64 den] w (RetVal (rmakeV num den) w) := by
  by_cases h1 : den < 1
  · have hv : Hid (rmakeV num den = .tuple #[.agg #[.int .u64 0, .int .u64 0], .int .i64 2]) := Lib.hid (by
      have : ¬ (1 ≤ den ∧ den ≤ 2147483647) := by omega
      simp [rmakeV, this])
    go_enter Try.func35, Try.ntmps35
    go_wp2
    refine bodyPost_ret (v := .tuple #[.agg #[.int .u64 0, .int .u64 0], .int .i64 2]) (by simp [results, Try.results35, go_sem]) rfl ⟨by rw [hv.out], ?_⟩
    repeat (first | exact Below.refl _ _ | apply Below.drew | refine Below.setCell ?_ (by simp) _ | refine Below.alloc ?_ (by simp) _)
  by_cases h2 : 2147483647 < den
  · have hv : Hid (rmakeV num den = .tuple #[.agg #[.int .u64 0, .int .u64 0], .int .i64 2]) := Lib.hid (by
      have : ¬ (1 ≤ den ∧ den ≤ 2147483647) := by omega
      simp [rmakeV, this])
    go_enter Try.func35, Try.ntmps35
    go_wp2
    refine bodyPost_ret (v := .tuple #[.agg #[.int .u64 0, .int .u64 0], .int .i64 2]) (by simp [results, Try.results35, go_sem]) rfl ⟨by rw [hv.out], ?_⟩
    repeat (first | exact Below.refl _ _ | apply Below.drew | refine Below.setCell ?_ (by simp) _ | refine Below.alloc ?_ (by simp) _)
  obtain ⟨b, rfl⟩ := Int.eq_ofNat_of_zero_le (show 0 ≤ den by omega)
  have hb1 : 0 < b := by omega
  have hbs : b ≤ 2147483647 := by omega
  have hX0 := Int.emod_nonneg num (by omega : (b : Int) ≠ 0)
  have hXb := Int.emod_lt_of_pos num (show (0 : Int) < (b : Int) by omega)
  obtain ⟨X, hX⟩ := Int.eq_ofNat_of_zero_le hX0
  have hXs : X < b := by omega
  obtain ⟨N, hN⟩ : ∃ N, N = X / Nat.gcd X b := ⟨_, rfl⟩
  obtain ⟨D, hD⟩ : ∃ D, D = b / Nat.gcd X b := ⟨_, rfl⟩
  have hv : Hid (rmakeV num (b : Int) = .tuple #[.agg #[.int .u64 (N : Int), .int .u64 (D : Int)], .int .i64 0]) := Lib.hid (by
    have : (1 : Int) ≤ (b : Int) ∧ (b : Int) ≤ 2147483647 := by omega
    simp only [rmakeV, this, and_self, if_true, hX, Int.toNat_natCast]
    rw [hN, hD])
  have hc := tmod_cases num (b : Int) (by omega)
  rw [hX] at hc
  obtain ⟨R, hR⟩ : ∃ R, R = num.tmod (b : Int) := ⟨_, rfl⟩
  rw [← hR] at hc
  have hRi : num.tmod (b : Int) = R := hR.symm
  have hXX : Hid (X = X % b) := Lib.hid (Nat.mod_eq_of_lt hXs).symm
  replace hN := Lib.hid hN
  replace hD := Lib.hid hD
  have hbI : (1 : Int) ≤ (b : Int) := by omega
  have hbI2 : (b : Int) ≤ 2147483647 := by omega
  have hK2 := Blk.new w 34 #[.int .u64 0, .int .u64 0]
  have hBW : Below w.heap.size w (w.alloc (.cells #[.int .u64 0, .int .u64 0] 34)) := (Below.refl _ w).alloc (Nat.le_refl _) _
  replace hK2 := Lib.hid hK2
  replace hBW := Lib.hid hBW
  clear hX hX0 hXb hR
  rcases hc with ⟨hneg, hsum⟩ | ⟨hpos, hsum⟩
  · go_enter Try.func35, Try.ntmps35
    go_wp2_with fail
    refine (low_any X b X N D _ (by omega) (by omega) hb1 hXX hN hD).mono ?_
    rintro e w1 ⟨rfl, hb⟩
    have r2 := Blk.below hK2.out hb
    have hB1 := Lib.hid (hBW.out.trans (hb.mono (by simp)))
    have k0 : w1.cell? ⟨w.heap.size, 0, none⟩ = some (.int .u64 0) := r2.cell 0
    have k1 : w1.cell? ⟨w.heap.size, 1, none⟩ = some (.int .u64 0) := r2.cell 1
    have f0 := r2.frozen 0
    have f1 := r2.frozen 1
    clear hb hK2 hBW r2
    go_wp2
    refine bodyPost_ret (v := .tuple #[.agg #[.int .u64 (N : Int), .int .u64 (D : Int)], .int .i64 0]) (by simp [results, Try.results35, go_sem, k0, k1]) rfl ⟨by rw [hv.out], ?_⟩
    exact ((hB1.out.setCell (p := ⟨w.heap.size, 0, none⟩) (by simp) _).setCell (p := ⟨w.heap.size, 1, none⟩) (by simp) _)
  · subst hsum
    go_enter Try.func35, Try.ntmps35
    go_wp2_with fail
    refine (low_any X b X N D _ (by omega) (by omega) hb1 hXX hN hD).mono ?_
    rintro e w1 ⟨rfl, hb⟩
    have r2 := Blk.below hK2.out hb
    have hB1 := Lib.hid (hBW.out.trans (hb.mono (by simp)))
    have k0 : w1.cell? ⟨w.heap.size, 0, none⟩ = some (.int .u64 0) := r2.cell 0
    have k1 : w1.cell? ⟨w.heap.size, 1, none⟩ = some (.int .u64 0) := r2.cell 1
    have f0 := r2.frozen 0
    have f1 := r2.frozen 1
    clear hb hK2 hBW r2
    go_wp2
    refine bodyPost_ret (v := .tuple #[.agg #[.int .u64 (N : Int), .int .u64 (D : Int)], .int .i64 0]) (by simp [results, Try.results35, go_sem, k0, k1]) rfl ⟨by rw [hv.out], ?_⟩
    exact ((hB1.out.setCell (p := ⟨w.heap.size, 0, none⟩) (by simp) _).setCell (p := ⟨w.heap.size, 1, none⟩) (by simp) _)
end Go.Proofs.Ytciafmnideihjaa
