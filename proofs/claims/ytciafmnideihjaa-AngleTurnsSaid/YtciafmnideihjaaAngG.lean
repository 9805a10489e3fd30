/- Package angle: Turn, Make. -/
import Derived.Test.YtciafmnideihjaaAngF
namespace Go.Proofs.Ytciafmnideihjaa
open Go.RowKit

theorem turnsV_form (neg : Bool) (num den : ByteArray) (d n : Int) : ∃ s1 s2 e, turnsV neg num den d n = .tuple #[.agg #[.bool false, .string s1, .string s2], .int .i64 e] := by
  unfold turnsV ratV rat0
  split
  · split
    · exact ⟨_, _, _, rfl⟩
    · exact ⟨_, _, _, rfl⟩
  · exact ⟨_, _, _, rfl⟩

set_option maxRecDepth 100000 in
set_option maxHeartbeats 400000 in
/-- angle.Turn -/
theorem turn1_any (neg : Bool) (num den : ByteArray) (d : Int) (w : World) (z1 : num.size ≤ 9223372036854775807) (z2 : den.size ≤ 9223372036854775807) :
    Calls Try.prog 17 #[.agg #[.bool neg, .string num, .string den], .int .i64 d] w (RetVal (turnsV neg num den d 1) w) := by
  obtain ⟨s1, s2, c, hv⟩ := turnsV_form neg num den d 1
  replace hv := Lib.hid hv
  have hK2 := Blk.new (w.alloc (.cells #[.bool neg, .string num, .string den] 24)) 24 #[.bool false, .string ⟨#[]⟩, .string ⟨#[]⟩]
  have hBW : Below w.heap.size w ((w.alloc (.cells #[.bool neg, .string num, .string den] 24)).alloc (.cells #[.bool false, .string ⟨#[]⟩, .string ⟨#[]⟩] 24)) := ((Below.refl _ w).alloc (Nat.le_refl _) _).alloc (by simp) _
  rw [show (w.alloc (.cells #[.bool neg, .string num, .string den] 24)).heap.size = w.heap.size + 1 by simp] at hK2
  replace hK2 := Lib.hid hK2
  replace hBW := Lib.hid hBW
  go_enter Try.func17, Try.ntmps17
  go_wp2_with fail
  refine (turns_any neg num den d 1 _ z1 z2 (by omega)).mono ?_
  rintro e w1 ⟨rfl, hb⟩
  rw [hv.out]
  have r2 := Blk.below hK2.out hb
  have hB1 := hBW.out.trans (hb.mono (by simp; omega))
  have i0 : w1.cell? ⟨w.heap.size + 1, 0, none⟩ = some (.bool false) := r2.cell 0
  have i1 : w1.cell? ⟨w.heap.size + 1, 1, none⟩ = some (.string ⟨#[]⟩) := r2.cell 1
  have i2 : w1.cell? ⟨w.heap.size + 1, 2, none⟩ = some (.string ⟨#[]⟩) := r2.cell 2
  have f0 := r2.frozen 0
  have f1 := r2.frozen 1
  have f2 := r2.frozen 2
  replace hB1 := Lib.hid hB1
  clear hb r2
  go_wp2
  refine bodyPost_ret (v := .tuple #[.agg #[.bool false, .string s1, .string s2], .int .i64 c]) (by simp [results, Try.results17, go_sem, i0, i1, i2]) rfl ⟨by rw [hv.out], ?_⟩
  exact ((hB1.out.setCell (p := ⟨w.heap.size + 1, 0, none⟩) (by simp) _).setCell (p := ⟨w.heap.size + 1, 1, none⟩) (by simp) _).setCell (p := ⟨w.heap.size + 1, 2, none⟩) (by simp) _

/-- What Make tells. -/
def makeV (num den : Int) : Value :=
  if 1 ≤ den ∧ den ≤ 2147483647 then
    .tuple #[ratV ((num % den).toNat / Nat.gcd (num % den).toNat den.toNat) (den.toNat / Nat.gcd (num % den).toNat den.toNat), .int .i64 0]
  else .tuple #[rat0, .int .i64 2]

theorem tmod_cases (num den : Int) (h : 0 < den) : (num.tmod den < 0 ∧ num.tmod den + den = num % den) ∨ (0 ≤ num.tmod den ∧ num.tmod den = num % den) := by
  have h1 := Int.emod_nonneg num (by omega : den ≠ 0)
  have h2 := Int.emod_lt_of_pos num h
  rw [Int.tmod_eq_emod]
  split
  · right; omega
  · rename_i hh
    have h0 : num % den ≠ 0 := fun e => hh (Or.inr (Int.dvd_of_emod_eq_zero e))
    left; omega

set_option maxRecDepth 100000 in
set_option maxHeartbeats 1000000 in
/-- angle.Make -/
theorem make_any (num den : Int) (w : World) :
    Calls Try.prog 34 #[.int .i64 num, .int .i64 den] w (RetVal (makeV num den) w) := by
  by_cases h1 : den < 1
  · have hv : Hid (makeV num den = .tuple #[.agg #[.bool false, .string ⟨#[]⟩, .string ⟨#[]⟩], .int .i64 2]) := Lib.hid (by
      have : ¬ (1 ≤ den ∧ den ≤ 2147483647) := by omega
      simp [makeV, this, rat0])
    go_enter Try.func34, Try.ntmps34
    go_wp2
    refine bodyPost_ret (v := .tuple #[.agg #[.bool false, .string ⟨#[]⟩, .string ⟨#[]⟩], .int .i64 2]) (by simp [results, Try.results34, go_sem]) rfl ⟨by rw [hv.out], ?_⟩
    repeat (first | exact Below.refl _ _ | apply Below.drew | refine Below.setCell ?_ (by simp) _ | refine Below.alloc ?_ (by simp) _)
  by_cases h2 : 2147483647 < den
  · have hv : Hid (makeV num den = .tuple #[.agg #[.bool false, .string ⟨#[]⟩, .string ⟨#[]⟩], .int .i64 2]) := Lib.hid (by
      have : ¬ (1 ≤ den ∧ den ≤ 2147483647) := by omega
      simp [makeV, this, rat0])
    go_enter Try.func34, Try.ntmps34
    go_wp2
    refine bodyPost_ret (v := .tuple #[.agg #[.bool false, .string ⟨#[]⟩, .string ⟨#[]⟩], .int .i64 2]) (by simp [results, Try.results34, go_sem]) rfl ⟨by rw [hv.out], ?_⟩
    repeat (first | exact Below.refl _ _ | apply Below.drew | refine Below.setCell ?_ (by simp) _ | refine Below.alloc ?_ (by simp) _)
  obtain ⟨b, rfl⟩ := Int.eq_ofNat_of_zero_le (show 0 ≤ den by omega)
  have hb1 : 0 < b := by omega
  have hbs : b ≤ 2147483647 := by omega
  have hX0 := Int.emod_nonneg num (by omega : (b : Int) ≠ 0)
  have hXb := Int.emod_lt_of_pos num (show (0 : Int) < (b : Int) by omega)
  obtain ⟨X, hX⟩ := Int.eq_ofNat_of_zero_le hX0
  have hXs : X < b := by omega
  obtain ⟨N, hN⟩ : ∃ N, N = X / Nat.gcd X b := ⟨_, rfl⟩
  obtain ⟨D, hD⟩ : ∃ D, D = b / Nat.gcd X b := ⟨_, rfl⟩
  have hDs : D ≤ 2147483647 := by rw [hD]; exact Nat.le_trans (Nat.div_le_self _ _) hbs
  have hNs : N ≤ 2147483647 := by
    have : N ≤ X := by rw [hN]; exact Nat.div_le_self _ _
    omega
  have hv : Hid (makeV num (b : Int) = .tuple #[.agg #[.bool false, .string (natS N), .string (natS D)], .int .i64 0]) := Lib.hid (by
    have : (1 : Int) ≤ (b : Int) ∧ (b : Int) ≤ 2147483647 := by omega
    simp only [makeV, this, and_self, if_true, hX, Int.toNat_natCast, ratV]
    rw [hN, hD])
  have hT : Hid (toldV N D = .tuple #[.agg #[.bool false, .string (natS N), .string (natS D)], .int .i64 0]) := Lib.hid (by simp [toldV, hDs, ratV])
  have hc := tmod_cases num (b : Int) (by omega)
  rw [hX] at hc
  obtain ⟨R, hR⟩ : ∃ R, R = num.tmod (b : Int) := ⟨_, rfl⟩
  rw [← hR] at hc
  have hRi : num.tmod (b : Int) = R := hR.symm
  replace hN := Lib.hid hN
  replace hD := Lib.hid hD
  have hbI : (1 : Int) ≤ (b : Int) := by omega
  have hbI2 : (b : Int) ≤ 2147483647 := by omega
  have hK2 := Blk.new w 24 #[.bool false, .string ⟨#[]⟩, .string ⟨#[]⟩]
  have hBW : Below w.heap.size w (w.alloc (.cells #[.bool false, .string ⟨#[]⟩, .string ⟨#[]⟩] 24)) := (Below.refl _ w).alloc (Nat.le_refl _) _
  replace hK2 := Lib.hid hK2
  replace hBW := Lib.hid hBW
  clear hX hX0 hXb hR
  rcases hc with ⟨hneg, hsum⟩ | ⟨hpos, hsum⟩
  · skip
    go_enter Try.func34, Try.ntmps34
    go_wp2_with fail
    refine (lowest_any X b N D _ (by omega) (by omega) hb1 hN hD).mono ?_
    rintro e w1 ⟨rfl, hb⟩
    have r2 := Blk.below hK2.out hb
    have hB1 := hBW.out.trans (hb.mono (by simp))
    replace r2 := Lib.hid r2
    replace hB1 := Lib.hid hB1
    clear hb
    go_wp2_with fail
    refine (told_any N D _ (by omega) (by omega)).mono ?_
    rintro e w2 ⟨rfl, hb⟩
    rw [hT.out]
    have r3 := Blk.below r2.out hb
    have hB2 := hB1.out.trans (hb.mono hB1.out.size)
    have i0 : w2.cell? ⟨w.heap.size, 0, none⟩ = some (.bool false) := r3.cell 0
    have i1 : w2.cell? ⟨w.heap.size, 1, none⟩ = some (.string ⟨#[]⟩) := r3.cell 1
    have i2 : w2.cell? ⟨w.heap.size, 2, none⟩ = some (.string ⟨#[]⟩) := r3.cell 2
    have f0 := r3.frozen 0
    have f1 := r3.frozen 1
    have f2 := r3.frozen 2
    replace hB2 := Lib.hid hB2
    clear hb r3
    go_wp2
    refine bodyPost_ret (v := .tuple #[.agg #[.bool false, .string (natS N), .string (natS D)], .int .i64 0]) (by simp [results, Try.results34, go_sem, i0, i1, i2]) rfl ⟨by rw [hv.out], ?_⟩
    exact ((hB2.out.setCell (p := ⟨w.heap.size, 0, none⟩) (by simp) _).setCell (p := ⟨w.heap.size, 1, none⟩) (by simp) _).setCell (p := ⟨w.heap.size, 2, none⟩) (by simp) _
  · subst hsum
    go_enter Try.func34, Try.ntmps34
    go_wp2_with fail
    refine (lowest_any X b N D _ (by omega) (by omega) hb1 hN hD).mono ?_
    rintro e w1 ⟨rfl, hb⟩
    have r2 := Blk.below hK2.out hb
    have hB1 := hBW.out.trans (hb.mono (by simp))
    replace r2 := Lib.hid r2
    replace hB1 := Lib.hid hB1
    clear hb
    go_wp2_with fail
    refine (told_any N D _ (by omega) (by omega)).mono ?_
    rintro e w2 ⟨rfl, hb⟩
    rw [hT.out]
    have r3 := Blk.below r2.out hb
    have hB2 := hB1.out.trans (hb.mono hB1.out.size)
    have i0 : w2.cell? ⟨w.heap.size, 0, none⟩ = some (.bool false) := r3.cell 0
    have i1 : w2.cell? ⟨w.heap.size, 1, none⟩ = some (.string ⟨#[]⟩) := r3.cell 1
    have i2 : w2.cell? ⟨w.heap.size, 2, none⟩ = some (.string ⟨#[]⟩) := r3.cell 2
    have f0 := r3.frozen 0
    have f1 := r3.frozen 1
    have f2 := r3.frozen 2
    replace hB2 := Lib.hid hB2
    clear hb r3
    go_wp2
    refine bodyPost_ret (v := .tuple #[.agg #[.bool false, .string (natS N), .string (natS D)], .int .i64 0]) (by simp [results, Try.results34, go_sem, i0, i1, i2]) rfl ⟨by rw [hv.out], ?_⟩
    exact ((hB2.out.setCell (p := ⟨w.heap.size, 0, none⟩) (by simp) _).setCell (p := ⟨w.heap.size, 1, none⟩) (by simp) _).setCell (p := ⟨w.heap.size, 2, none⟩) (by simp) _
end Go.Proofs.Ytciafmnideihjaa
