/- filigreelaw21.AngleAll: the walk. -/
import Derived.Test.YtciafmnideihjaaR02D
namespace Go.Proofs.Ytciafmnideihjaa
open Go.RowKit Go.Sort

set_option maxRecDepth 100000 in
set_option maxHeartbeats 4000000 in
theorem angleAll_any (d n : Int) (w : World) :
    Calls Try.prog 11 #[.int .i64 d, .int .i64 n] w (RetVal (.bool true) w) := by
  cases hmay : mayN d n
  · have kc : ∀ W, Calls Try.prog 41 #[.int .i64 d, .int .i64 n] W (RetVal (.tuple #[.string ⟨#[]⟩, .int .i64 2]) W) := fun W => by
      have h := Count_any d n W
      rw [CountV, hmay] at h
      exact h
    have ka : ∀ W, Calls Try.prog 42 #[.int .i64 d, .int .i64 n] W (RetRow 24 3 2 0 [] W) := fun W => by
      have h := All_any d n W
      have e1 : allE d n = 2 := by simp [allE, hmay]
      have e2 : allR d n = [] := by simp [allR, hmay]
      rw [e1, e2] at h
      exact h
    have hno : roundB d = false ∨ roundB d = true ∧ n < 1 ∨ roundB d = true ∧ ¬ n < 1 ∧ 1024 < n := by
      cases hr : roundB d
      · exact .inl rfl
      · right
        by_cases h1 : n < 1
        · exact .inl ⟨rfl, h1⟩
        · by_cases h2 : 1024 < n
          · exact .inr ⟨rfl, h1, h2⟩
          · have e1 : 1 ≤ n := by omega
            have e2 : n ≤ 1024 := by omega
            simp [mayN, hr, e1, e2] at hmay
    replace kc := Lib.hid kc
    replace ka := Lib.hid ka
    clear hmay
    go_enter Try.func11, Try.ntmps11
    go_wp2_with fail
    refine (kc.out _).mono ?_
    rintro en v1 ⟨rfl, hb⟩
    have hB := Lib.hid hb
    clear hb
    go_wp2_with fail
    refine (ka.out _).mono ?_
    rintro en v2 ⟨lv, rfl, hl, hb⟩
    have hlf := own_formsB hl
    replace hB := Lib.hid (hB.out.trans (hb.mono hB.out.size))
    clear hb hl
    go_wp2_with fail
    refine (ka.out _).mono ?_
    rintro en v3 ⟨mv, rfl, hm, hb⟩
    replace hB := Lib.hid (hB.out.trans (hb.mono hB.out.size))
    clear hb hm
    go_wp2_with fail
    refine (rround_any d _).mono ?_
    rintro en v4 ⟨rfl, rfl⟩
    rcases hno with h1 | ⟨h1, h2⟩ | ⟨h1, h2, h3⟩
    all_goals
      rw [h1]
      replace h1 := Lib.hid h1
      rcases hlf with ⟨rfl, -⟩ | ⟨gl, capl, rfl⟩
      all_goals
        go_wp2_with fail
        refine (awake_any _).mono ?_
        rintro en v5 ⟨rfl, hb⟩
        replace hB := Lib.hid (hB.out.trans (hb.mono hB.out.size))
        clear hb
        go_wp2_with fail
        go_ret
        exact ⟨rfl, hB.out⟩
  have hmay' : roundB d = true ∧ 1 ≤ n ∧ n ≤ 1024 := by
    simpa [mayN] using hmay
  obtain ⟨hr, hn1, hn2⟩ := hmay'
  have hd := roundB_iff.1 hr
  obtain ⟨dn, rfl⟩ := Int.eq_ofNat_of_zero_le (show 0 ≤ d by omega)
  obtain ⟨nn, rfl⟩ := Int.eq_ofNat_of_zero_le (show 0 ≤ n by omega)
  have hd2 : 2 ≤ dn := by omega
  have hd64 : dn ≤ 64 := by omega
  have hnn1 : 1 ≤ nn := by omega
  have hnn2 : nn ≤ 1024 := by omega
  obtain ⟨E, hE⟩ : ∃ E, E = rallE dn nn := ⟨_, rfl⟩
  obtain ⟨R, hR⟩ : ∃ R, R = rallR dn nn := ⟨_, rfl⟩
  have kc : ∀ W, Calls Try.prog 41 #[.int .i64 (dn : Int), .int .i64 (nn : Int)] W (RetVal (.tuple #[.string (natS (cntN dn nn)), .int .i64 0]) W) := fun W => by
    have h := Count_any (dn : Int) (nn : Int) W
    rw [CountV, hmay] at h
    exact h
  have ka : ∀ W, Calls Try.prog 42 #[.int .i64 (dn : Int), .int .i64 (nn : Int)] W (RetRow 24 3 E R.length (ratC R) W) := fun W => by
    have h := All_any (dn : Int) (nn : Int) W
    have e1 : allE (dn : Int) (nn : Int) = E := by rw [hE]; simp only [allE, hmay, if_true, Int.toNat_natCast, rallE]
    have e2 : allR (dn : Int) (nn : Int) = R := by rw [hR]; simp only [allR, hmay, Bool.true_and, decide_eq_true_eq, Int.toNat_natCast, rallR]
    rw [e1, e2] at h
    exact h
  have kra : ∀ W, Calls Try.prog 43 #[.int .i64 (dn : Int), .int .i64 (nn : Int)] W (RetRow 34 2 E R.length (angC R) W) := fun W => by
    rw [hE, hR]
    exact rall_any dn nn W hd2 hd64 hnn1 hnn2
  have krc : ∀ W, Calls Try.prog 44 #[.int .i64 (dn : Int), .int .i64 (nn : Int)] W (RetVal (.string (natS (cntN dn nn))) W) := fun W => rcount_any dn hd2 hd64 nn W hnn1 hnn2
  have hsm : (∀ p, p ∈ R → p.1 < 18446744073709551616 ∧ p.2 < 18446744073709551616) ∧ R.length ≤ 2147483648 := by
    rw [hR]
    unfold rallR
    split
    · rename_i h
      have hl := cnt_little hd2 hnn1 hnn2 (by rw [cntN_eq hd2 hnn1 hnn2]; omega)
      refine ⟨fun p hp => ?_, ?_⟩
      · obtain ⟨-, h2, h3, -⟩ := allL_mem hd2 hnn1 hl hp
        omega
      · exact Nat.le_trans (allP_len _ _ _) (by omega)
    · exact ⟨fun p hp => (by cases hp), by simp⟩
  obtain ⟨hsm, hln⟩ := hsm
  obtain ⟨s, hs⟩ : ∃ s, s = natS (cntN dn nn) := ⟨_, rfl⟩
  rw [← hs] at kc krc
  replace kc := Lib.hid kc
  replace ka := Lib.hid ka
  replace kra := Lib.hid kra
  replace krc := Lib.hid krc
  replace hsm := Lib.hid hsm
  replace hr := Lib.hid hr
  have hnI : ¬ (nn : Int) < 1 := by omega
  have hnI2 : ¬ (1024 : Int) < (nn : Int) := by omega
  clear hE hR hs hmay hd
  go_enter Try.func11, Try.ntmps11
  go_wp2_with fail
  refine (kc.out _).mono ?_
  rintro en v1 ⟨rfl, hb⟩
  have hB := Lib.hid hb
  clear hb
  go_wp2_with fail
  refine (ka.out _).mono ?_
  rintro en v2 ⟨lv, rfl, hl, hb⟩
  replace hl := Lib.hid (own_le hl hB.out.size)
  replace hB := Lib.hid (hB.out.trans (hb.mono hB.out.size))
  clear hb
  go_wp2_with fail
  refine (ka.out _).mono ?_
  rintro en v3 ⟨mv, rfl, hm, hb⟩
  have hlm : Hid (lv.ownBlock ≠ none → mv.ownBlock ≠ lv.ownBlock) := Lib.hid (fun h0 h => by
    cases hlb : lv.ownBlock with
    | none => exact h0 hlb
    | some g =>
      have h1 := (hl.out.lt g hlb).2
      obtain ⟨-, -, h2⟩ := own_kindD hm (h.trans hlb)
      omega)
  replace hm := Lib.hid (own_le hm hB.out.size)
  replace hl := Lib.hid (own_below hl.out hb)
  replace hB := Lib.hid (hB.out.trans (hb.mono hB.out.size))
  clear hb
  go_wp2_with fail
  refine (rround_any (dn : Int) _).mono ?_
  rintro en v4 ⟨rfl, rfl⟩
  rw [hr.out]
  go_wp2_with fail
  refine (kra.out _).mono ?_
  rintro en v5 ⟨bv, rfl, hbk, hb⟩
  replace hbk := Lib.hid (own_le hbk hB.out.size)
  replace hl := Lib.hid (own_below hl.out hb)
  replace hm := Lib.hid (own_below hm.out hb)
  replace hB := Lib.hid (hB.out.trans (hb.mono hB.out.size))
  clear hb
  go_wp2_with fail
  refine (krc.out _).mono ?_
  rintro en v6 ⟨rfl, hb⟩
  replace hbk := Lib.hid (own_below hbk.out hb)
  replace hl := Lib.hid (own_below hl.out hb)
  replace hm := Lib.hid (own_below hm.out hb)
  replace hB := Lib.hid (hB.out.trans (hb.mono hB.out.size))
  clear hb
  go_wp2_with fail
  refine (same2_any R hsm.out hln lv bv _ _ _ hl.out hbk.out (own_apartD hl.out hbk.out (by decide))).mono ?_
  rintro en y4 ⟨rfl, hg⟩
  have hm4 := Lib.hid (hm.out.kept hg (keep_otherD hlm.out))
  have hb4 := Lib.hid (hbk.out.kept hg (keep_otherD (fun _ e => by
    cases hlb : lv.ownBlock with
    | none => contradiction
    | some g => exact own_apartD hl.out hbk.out (by decide) g hlb (e.trans hlb))))
  replace hB := Lib.hid (hB.out.grown hg hB.out.size (fun k hk => (hl.out.lt k hk).1))
  clear hg hl hm hbk
  go_wp2_with fail
  refine (same2_any R hsm.out hln mv bv _ _ _ hm4.out hb4.out (own_apartD hm4.out hb4.out (by decide))).mono ?_
  rintro en y5 ⟨rfl, hg⟩
  replace hB := Lib.hid (hB.out.grown hg hB.out.size (fun k hk => (hm4.out.lt k hk).1))
  clear hg hm4 hb4
  go_wp2_with fail
  refine (awake_any _).mono ?_
  rintro en y6 ⟨rfl, hb⟩
  replace hB := Lib.hid (hB.out.trans (hb.mono hB.out.size))
  clear hb
  go_wp2_with fail
  go_ret
  exact ⟨rfl, hB.out⟩
end Go.Proofs.Ytciafmnideihjaa
