/- filigreeref11: at, sign, blank, number, end. -/
import Derived.Test.YtnaadajcehfmiaaGreatDoorLxS
import Derived.Test.YtnaadajcehfmiaaGreatDoorLsC
namespace Go.Proofs.YtnaadajcehfmiaaGreatDoor
open Go.RowKit Go.Sort Go.Maps

/-- A byte of a text, 0 behind its end. -/
def atB (l : List Nat) (i : Nat) : Nat := (l[i]?).getD 0
theorem atB_some {l : List Nat} {i b : Nat} (h : l[i]? = some b) : atB l i = b := by unfold atB; rw [h]; rfl
theorem atB_none {l : List Nat} {i : Nat} (h : l.length ≤ i) : atB l i = 0 := by unfold atB; rw [List.getElem?_eq_none h]; rfl
theorem atB_is {l : List Nat} {i c : Nat} (hc : c ≠ 0) : atB l i = c ↔ l[i]? = some c := by
  unfold atB
  rcases h : l[i]? with _ | b
  · simp; exact fun e => hc e.symm
  · simp
theorem atB_lt {l : List Nat} {i : Nat} {p : Nat → Bool} (h0 : p 0 = false) (h : p (atB l i) = true) : ∃ b, l[i]? = some b ∧ p b = true ∧ i < l.length := by
  unfold atB at h
  rcases hb : l[i]? with _ | b
  · rw [hb] at h
    have h : p 0 = true := h
    rw [h0] at h; cases h
  · rw [hb] at h
    exact ⟨b, rfl, h, lt_of_some hb⟩
theorem run_go {l : List Nat} {i : Nat} {p : Nat → Bool} (h0 : p 0 = false) (h : p (atB l i) = true) : runT p l i = runT p l (i + 1) := by
  obtain ⟨b, h1, h2, -⟩ := atB_lt h0 h
  exact runT_step h1 h2
theorem run_no {l : List Nat} {i : Nat} {p : Nat → Bool} (h : p (atB l i) = false) : runT p l i = i := by
  unfold atB at h
  rcases hb : l[i]? with _ | b
  · exact runT_end hb
  · rw [hb] at h
    exact runT_stop hb h
theorem w64_in (n : Int) (h : -9223372036854775808 ≤ n ∧ n ≤ 9223372036854775807) : wrap64 n = n := wr64_in n h
def optI : Option Nat → Int
  | none => -1
  | some k => (k : Int)
set_option maxRecDepth 100000 in
theorem rvAt (s : ByteArray) (i : Nat) (w : World) : Calls Tryz.prog 46 #[.string s, .int .i64 (i : Int)] w (fun e w' => e = .returned (.int .u8 (atB (sl s) i : Int)) ∧ w' = w) := by
  by_cases hlo : i < s.size
  case pos =>
    have hb := sl_get s i hlo
    rw [atB_some hb]
    obtain ⟨c, hc⟩ : ∃ c, c = (s[i]'hlo).toNat := ⟨_, rfl⟩
    have hcx : (((s[i]'hlo).toNat : Nat) : Int) = (c : Int) := by rw [hc]
    rw [← hc]
    have hloI : (i : Int) < (s.size : Int) := by omega
    replace hc := Lib.hid hc
    clear hb
    go_enter Tryz.func46, Tryz.ntmps46
    go_wp2_with fail
    go_ret
    first | exact ⟨rfl, rfl⟩ | exact ⟨by rw [hcx], rfl⟩
  case neg =>
    rw [atB_none (by rw [sl_len]; omega)]
    have hloI : ¬ (i : Int) < (s.size : Int) := by omega
    clear hlo
    go_enter Tryz.func46, Tryz.ntmps46
    go_wp2_with fail
    go_ret
    exact ⟨rfl, rfl⟩
theorem k_eq {a b : Nat} (h : a = b) : ((a : Int) == (b : Int)) = true := by rw [h]; simp
theorem k_ne {a b : Nat} (h : a ≠ b) : ((a : Int) == (b : Int)) = false := by rw [beq_eq_false_iff_ne]; omega
set_option maxRecDepth 100000 in
theorem rvSign (b : Nat) (w : World) : Calls Tryz.prog 47 #[.int .u8 (b : Int)] w (fun e w' => e = .returned (.bool (sgnB b)) ∧ w' = w) := by
  by_cases h : b = 43
  · have e : sgnB b = true := by rw [h]; decide
    have hI43 : ((b : Int) == 43) = true := k_eq h
    rw [e]
    clear h e
    go_enter Tryz.func47, Tryz.ntmps47
    go_wp2_with fail
    go_ret
    exact ⟨rfl, rfl⟩
  have hI43 : ((b : Int) == 43) = false := k_ne (b := 43) h
  have hh43 := Lib.hid h
  clear h
  by_cases h : b = 45
  · have e : sgnB b = true := by rw [h]; decide
    have hI45 : ((b : Int) == 45) = true := k_eq h
    rw [e]
    clear h e
    go_enter Tryz.func47, Tryz.ntmps47
    go_wp2_with fail
    go_ret
    exact ⟨rfl, rfl⟩
  have hI45 : ((b : Int) == 45) = false := k_ne (b := 45) h
  have hh45 := Lib.hid h
  clear h
  by_cases h : b = 42
  · have e : sgnB b = true := by rw [h]; decide
    have hI42 : ((b : Int) == 42) = true := k_eq h
    rw [e]
    clear h e
    go_enter Tryz.func47, Tryz.ntmps47
    go_wp2_with fail
    go_ret
    exact ⟨rfl, rfl⟩
  have hI42 : ((b : Int) == 42) = false := k_ne (b := 42) h
  have hh42 := Lib.hid h
  clear h
  by_cases h : b = 47
  · have e : sgnB b = true := by rw [h]; decide
    have hI47 : ((b : Int) == 47) = true := k_eq h
    rw [e]
    clear h e
    go_enter Tryz.func47, Tryz.ntmps47
    go_wp2_with fail
    go_ret
    exact ⟨rfl, rfl⟩
  have hI47 : ((b : Int) == 47) = false := k_ne (b := 47) h
  have hh47 := Lib.hid h
  clear h
  by_cases h : b = 94
  · have e : sgnB b = true := by rw [h]; decide
    have hI94 : ((b : Int) == 94) = true := k_eq h
    rw [e]
    clear h e
    go_enter Tryz.func47, Tryz.ntmps47
    go_wp2_with fail
    go_ret
    exact ⟨rfl, rfl⟩
  have hI94 : ((b : Int) == 94) = false := k_ne (b := 94) h
  have hh94 := Lib.hid h
  clear h
  by_cases h : b = 40
  · have e : sgnB b = true := by rw [h]; decide
    have hI40 : ((b : Int) == 40) = true := k_eq h
    rw [e]
    clear h e
    go_enter Tryz.func47, Tryz.ntmps47
    go_wp2_with fail
    go_ret
    exact ⟨rfl, rfl⟩
  have hI40 : ((b : Int) == 40) = false := k_ne (b := 40) h
  have hh40 := Lib.hid h
  clear h
  by_cases h : b = 41
  · have e : sgnB b = true := by rw [h]; decide
    have hI41 : ((b : Int) == 41) = true := k_eq h
    rw [e]
    clear h e
    go_enter Tryz.func47, Tryz.ntmps47
    go_wp2_with fail
    go_ret
    exact ⟨rfl, rfl⟩
  have hI41 : ((b : Int) == 41) = false := k_ne (b := 41) h
  have hh41 := Lib.hid h
  clear h
  by_cases h : b = 61
  · have e : sgnB b = true := by rw [h]; decide
    have hI61 : ((b : Int) == 61) = true := k_eq h
    rw [e]
    clear h e
    go_enter Tryz.func47, Tryz.ntmps47
    go_wp2_with fail
    go_ret
    exact ⟨rfl, rfl⟩
  have hI61 : ((b : Int) == 61) = false := k_ne (b := 61) h
  have hh61 := Lib.hid h
  clear h
  by_cases h : b = 59
  · have e : sgnB b = true := by rw [h]; decide
    have hI59 : ((b : Int) == 59) = true := k_eq h
    rw [e]
    clear h e
    go_enter Tryz.func47, Tryz.ntmps47
    go_wp2_with fail
    go_ret
    exact ⟨rfl, rfl⟩
  have hI59 : ((b : Int) == 59) = false := k_ne (b := 59) h
  have hh59 := Lib.hid h
  clear h
  have e : sgnB b = false := by
    unfold sgnB
    simp only [Bool.or_eq_false_iff, beq_eq_false_iff_ne]
    exact ⟨⟨⟨⟨⟨⟨⟨⟨hh43.out, hh45.out⟩, hh42.out⟩, hh47.out⟩, hh94.out⟩, hh40.out⟩, hh41.out⟩, hh61.out⟩, hh59.out⟩
  rw [e]
  clear e
  go_enter Tryz.func47, Tryz.ntmps47
  go_wp2_with fail
  go_ret
  exact ⟨rfl, rfl⟩
set_option maxRecDepth 100000 in
set_option maxHeartbeats 2000000 in
theorem rvBlank (s : ByteArray) (i0 : Nat) (w : World) (hi : i0 ≤ s.size) (hmax : s.size ≤ 1099511627776) : Calls Tryz.prog 26 #[.string s, .int .i64 (i0 : Int)] w (fun e w' => e = .returned (.int .i64 (skipT false (sl s) i0 : Int)) ∧ w' = w) := by
  obtain ⟨R, hR⟩ : ∃ r, r = skipT false (sl s) i0 := ⟨_, rfl⟩
  rw [← hR]
  go_enter Tryz.func26, Tryz.ntmps26
  have hR0 : Hid (skipT false (sl s) i0 = R) := Lib.hid hR.symm
  replace hR := Lib.hid hR
  go_wp2_with fail
  go_loopg [1] (s.size - i0 + 1) (fun g v wr => ∃ j : Nat, v = .int .i64 (j : Int) ∧ w = wr ∧ s.size - j + 1 ≤ g ∧ j ≤ s.size ∧ Hid (skipT false (sl s) j = R))
  case atStart => exact ⟨i0, rfl, rfl, Nat.le_refl _, hi, hR0⟩
  case round =>
    obtain ⟨j, rfl, rfl, hg, hj, hsj⟩ := hrel
    by_cases hlo : j < s.size
    case pos =>
      obtain ⟨c, hc⟩ : ∃ c, c = (s[j]'hlo).toNat := ⟨_, rfl⟩
      have hcx : (((s[j]'hlo).toNat : Nat) : Int) = (c : Int) := by rw [hc]
      have hb : Hid ((sl s)[j]? = some c) := Lib.hid (by rw [sl_get s j hlo, hc])
      have hloI : (j : Int) < (s.size : Int) := by omega
      replace hc := Lib.hid hc
      by_cases h : c = 32
      · have e : blkB c = true := by rw [h]; decide
        have hI32 : ((c : Int) == 32) = true := k_eq h
        have hst := Lib.hid (skipT_blk hb.out e)
        have hw1 : wrap64 ((j : Int) + 1) = (j : Int) + 1 := w64_in _ (by omega)
        clear h e
        go_wp2_with fail
        go_roundg (s.size - (j + 1) + 1)
        case measure => omega
        case rel => exact ⟨j + 1, (by first | rfl | (rw [hw1]; rfl)), rfl, Nat.le_refl _, by omega, Lib.hid (by rw [← hst.out]; exact hsj.out)⟩
      have hI32 : ((c : Int) == 32) = false := k_ne (b := 32) h
      have hh32 := Lib.hid h
      clear h
      by_cases h : c = 9
      · have e : blkB c = true := by rw [h]; decide
        have hI9 : ((c : Int) == 9) = true := k_eq h
        have hst := Lib.hid (skipT_blk hb.out e)
        have hw1 : wrap64 ((j : Int) + 1) = (j : Int) + 1 := w64_in _ (by omega)
        clear h e
        go_wp2_with fail
        go_roundg (s.size - (j + 1) + 1)
        case measure => omega
        case rel => exact ⟨j + 1, (by first | rfl | (rw [hw1]; rfl)), rfl, Nat.le_refl _, by omega, Lib.hid (by rw [← hst.out]; exact hsj.out)⟩
      have hI9 : ((c : Int) == 9) = false := k_ne (b := 9) h
      have hh9 := Lib.hid h
      clear h
      by_cases h : c = 10
      · have e : blkB c = true := by rw [h]; decide
        have hI10 : ((c : Int) == 10) = true := k_eq h
        have hst := Lib.hid (skipT_blk hb.out e)
        have hw1 : wrap64 ((j : Int) + 1) = (j : Int) + 1 := w64_in _ (by omega)
        clear h e
        go_wp2_with fail
        go_roundg (s.size - (j + 1) + 1)
        case measure => omega
        case rel => exact ⟨j + 1, (by first | rfl | (rw [hw1]; rfl)), rfl, Nat.le_refl _, by omega, Lib.hid (by rw [← hst.out]; exact hsj.out)⟩
      have hI10 : ((c : Int) == 10) = false := k_ne (b := 10) h
      have hh10 := Lib.hid h
      clear h
      by_cases h : c = 13
      · have e : blkB c = true := by rw [h]; decide
        have hI13 : ((c : Int) == 13) = true := k_eq h
        have hst := Lib.hid (skipT_blk hb.out e)
        have hw1 : wrap64 ((j : Int) + 1) = (j : Int) + 1 := w64_in _ (by omega)
        clear h e
        go_wp2_with fail
        go_roundg (s.size - (j + 1) + 1)
        case measure => omega
        case rel => exact ⟨j + 1, (by first | rfl | (rw [hw1]; rfl)), rfl, Nat.le_refl _, by omega, Lib.hid (by rw [← hst.out]; exact hsj.out)⟩
      have hI13 : ((c : Int) == 13) = false := k_ne (b := 13) h
      have hh13 := Lib.hid h
      clear h
      have ebk : Hid (blkB c = false) := Lib.hid (by
        unfold blkB
        simp only [Bool.or_eq_false_iff, beq_eq_false_iff_ne]
        exact ⟨⟨⟨hh32.out, hh9.out⟩, hh10.out⟩, hh13.out⟩)
      by_cases h35 : c = 35
      case neg =>
        have hI35 : ((c : Int) == 35) = false := k_ne (b := 35) h35
        have e : R = j := by rw [← hsj.out, skipT_stop hb.out ebk.out h35]
        subst e
        clear h35
        go_wp2_with fail
        go_ret
        exact ⟨rfl, rfl⟩
      case pos =>
        have hI35 : ((c : Int) == 35) = true := k_eq h35
        have hnt : Hid (skipT true (sl s) j = R) := Lib.hid (by rw [← hsj.out, skipT_note (by rw [hb.out, h35])])
        have hjne : Hid ((sl s)[j]? ≠ some 10) := Lib.hid (by rw [hb.out, h35]; decide)
        replace h35 := Lib.hid h35
        replace hcx := Lib.hid hcx
        clear hloI hI32 hI9 hI10 hI13
        have hcx2 : (((s[j]'hlo).toNat : Nat) : Int) = (c : Int) := hcx.out
        have hloI : (j : Int) < (s.size : Int) := by omega
        have hI32 : ((c : Int) == 32) = false := k_ne (b := 32) hh32.out
        have hI9 : ((c : Int) == 9) = false := k_ne (b := 9) hh9.out
        have hI10 : ((c : Int) == 10) = false := k_ne (b := 10) hh10.out
        have hI13 : ((c : Int) == 13) = false := k_ne (b := 13) hh13.out
        go_wp2_with fail
        clear hcx2 hloI hI32 hI9 hI10 hI13 hI35
        go_loopg [1] (s.size - j) (fun g2 v wr => ∃ i : Nat, v = .int .i64 (i : Int) ∧ w = wr ∧ s.size - i ≤ g2 ∧ j ≤ i ∧ i ≤ s.size ∧ Hid (skipT true (sl s) i = R))
        case atStart => exact ⟨j, rfl, rfl, Nat.le_refl _, Nat.le_refl _, hj, hnt⟩
        case round =>
          obtain ⟨i, rfl, rfl, hg2, hji, hin, hsi⟩ := hrel
          by_cases hlo2 : i < s.size
          case pos =>
            obtain ⟨d, hd⟩ : ∃ c, c = (s[i]'hlo2).toNat := ⟨_, rfl⟩
            have hdx : (((s[i]'hlo2).toNat : Nat) : Int) = (d : Int) := by rw [hd]
            have hbd : Hid ((sl s)[i]? = some d) := Lib.hid (by rw [sl_get s i hlo2, hd])
            have hloI : (i : Int) < (s.size : Int) := by omega
            replace hd := Lib.hid hd
            by_cases h10 : d = 10
            case pos =>
              have hI10 : ((d : Int) != 10) = false := by rw [h10]; rfl
              have hnl := Lib.hid (skipT_nl (s := sl s) (i := i) (by rw [hbd.out, h10]))
              have hij : j ≠ i := fun e => by
                have h1 := hjne.out
                rw [e, hbd.out, h10] at h1
                exact h1 rfl
              clear h10
              go_wp2_with fail
              first | done | skip
              go_roundg (s.size - i + 1)
              case measure => omega
              case rel => exact ⟨i, rfl, rfl, Nat.le_refl _, by omega, Lib.hid (by rw [← hnl.out]; exact hsi.out)⟩
            case neg =>
              have hI10 : ((d : Int) != 10) = true := by rw [bne_iff_ne]; omega
              have hst := skipT_in hbd.out h10
              replace hst := Lib.hid hst
              have hw1 : wrap64 ((i : Int) + 1) = (i : Int) + 1 := w64_in _ (by omega)
              clear h10
              replace hg2 := Lib.hid hg2
              go_wp2_with fail
              go_roundg (s.size - (i + 1))
              case measure => have := hg2.out; omega
              case rel => exact ⟨i + 1, (by first | rfl | (rw [hw1]; rfl)), rfl, Nat.le_refl _, by omega, by omega, Lib.hid (by rw [← hst.out]; exact hsi.out)⟩
          case neg =>
            have hie : i = s.size := by omega
            have hloI : ¬ (i : Int) < (s.size : Int) := by omega
            have he := Lib.hid ((skipT_end (nt := true) (s := sl s) (i := i) (by rw [hie]; exact sl_none)).trans (skipT_end (nt := false) (s := sl s) (i := i) (by rw [hie]; exact sl_none)).symm)
            clear hie
            go_wp2_with fail
            go_roundg (s.size - i + 1)
            case measure => omega
            case rel => exact ⟨i, rfl, rfl, Nat.le_refl _, by omega, Lib.hid (by rw [← he.out]; exact hsi.out)⟩
    case neg =>
      have hje : j = s.size := by omega
      have hloI : ¬ (j : Int) < (s.size : Int) := by omega
      have e : R = j := by rw [← hsj.out, skipT_end (by rw [hje]; exact sl_none)]
      subst e
      clear hje
      go_wp2_with fail
      go_ret
      exact ⟨rfl, rfl⟩
set_option maxRecDepth 100000 in
set_option maxHeartbeats 4000000 in
theorem rvNumber (s : ByteArray) (i0 : Nat) (w : World) (hi : i0 ≤ s.size) (hmax : s.size ≤ 1099511627776) : Calls Tryz.prog 44 #[.string s, .int .i64 (i0 : Int)] w (fun e w' => e = .returned (.int .i64 (optI (numT (sl s) i0))) ∧ w' = w) := by
  have cAt := fun (i : Nat) (W : World) => rvAt s i W
  have hlen := Lib.hid (sl_len s)
  obtain ⟨R, hR⟩ : ∃ r, r = optI (numT (sl s) i0) := ⟨_, rfl⟩
  rw [← hR]
  have hR1 : Hid (R = optI ((fracT (sl s) (runT digB (sl s) i0)).bind (expT (sl s)))) := Lib.hid hR
  replace hR := Lib.hid hR
  replace cAt := Lib.hid cAt
  go_enter Tryz.func44, Tryz.ntmps44
  go_wp2_with fail
  go_loopg [1] (s.size - i0) (fun g v wr => ∃ j : Nat, v = .int .i64 (j : Int) ∧ w = wr ∧ s.size - j ≤ g ∧ i0 ≤ j ∧ j ≤ s.size ∧ Hid (runT digB (sl s) j = runT digB (sl s) i0))
  case atStart => exact ⟨i0, rfl, rfl, Nat.le_refl _, Nat.le_refl _, by omega, Lib.hid rfl⟩
  case round =>
    obtain ⟨j, rfl, rfl, hg, hij, hj, hsj⟩ := hrel
    go_wp2_with fail
    refine ((cAt.out (j) _)).mono ?_
    rintro en wq ⟨rfl, rfl⟩
    go_wp2_with fail
    obtain ⟨c, hc⟩ : ∃ c, c = atB (sl s) j := ⟨_, rfl⟩
    rw [← hc]
    replace hc := Lib.hid hc
    refine (rdigit_any _ _).mono ?_
    rintro en wq ⟨rfl, rfl⟩
    by_cases hd : digB c = true
    case pos =>
      have hgo := Lib.hid (run_go (l := sl s) (i := j) (p := digB) (by decide) (by rw [← hc.out]; exact hd))
      have hjl : j < s.size := by
        obtain ⟨b, h1, h2, h3⟩ := atB_lt (l := sl s) (i := j) (p := digB) (by decide) (by rw [← hc.out]; exact hd)
        have := hlen.out
        omega
      have hw1 : wrap64 ((j : Int) + 1) = (j : Int) + 1 := w64_in _ (by omega)
      skip
      rw [hd]
      replace hd := Lib.hid hd
      go_wp2_with fail
      go_roundg (s.size - (j + 1))
      case measure => omega
      case rel => exact ⟨j + 1, (by first | rfl | (rw [hw1]; rfl)), rfl, Nat.le_refl _, by omega, by omega, Lib.hid (by rw [← hgo.out]; exact hsj.out)⟩
    case neg =>
      have hd2 : digB c = false := by simpa using hd
      have hRj : runT digB (sl s) i0 = j := by rw [← hsj.out, run_no (by rw [← hc.out]; exact hd2)]
      rw [hd2]
      replace hd := Lib.hid hd
      replace hd2 := Lib.hid hd2
      replace hRj := Lib.hid hRj
      replace hsj := Lib.hid hsj.out
      go_wp2_with fail
      have hR2 : Hid (R = optI ((fracT (sl s) j).bind (expT (sl s)))) := Lib.hid (by rw [hR1.out, hRj.out])
      have hjz := hj
      replace hsj := hsj.out
      obtain ⟨a, ha⟩ : ∃ a, a = j := ⟨_, rfl⟩
      rw [← ha] at hR2 hj ⊢
      clear hsj hRj hij hg hjz
      replace ha := Lib.hid ha
      refine ((cAt.out a _)).mono ?_
      rintro en wq ⟨rfl, rfl⟩
      obtain ⟨d, hdd⟩ : ∃ c, c = atB (sl s) a := ⟨_, rfl⟩
      rw [← hdd]
      replace hdd := Lib.hid hdd
      by_cases h46 : d = 46
      case pos =>
        have hI46 : ((d : Int) == 46) = true := k_eq h46
        have hs46 : (sl s)[a]? = some 46 := (atB_is (by decide)).1 (by rw [← hdd.out]; exact h46)
        have hal : a < s.size := by have := lt_of_some hs46; have := hlen.out; omega
        have hw1 : wrap64 ((a : Int) + 1) = (a : Int) + 1 := w64_in _ (by omega)
        replace h46 := Lib.hid h46
        replace hs46 := Lib.hid hs46
        go_wp2_with fail
        skip
        have cA1 := cAt.out (a + 1)
        push_cast at cA1
        refine (cA1 _).mono ?_
        rintro en wq ⟨rfl, rfl⟩
        obtain ⟨f, hf⟩ : ∃ c, c = atB (sl s) (a + 1) := ⟨_, rfl⟩
        rw [← hf]
        replace hf := Lib.hid hf
        clear cA1
        go_wp2_with fail
        refine (rdigit_any _ _).mono ?_
        rintro en wq ⟨rfl, rfl⟩
        by_cases hd : digB f = true
        case neg =>
          have hd2 : digB f = false := by simpa using hd
          have e : R = -1 := by
            rw [hR2.out, fracT, if_pos hs46.out, if_pos (run_no (by rw [← hf.out]; exact hd2))]; rfl
          subst e
          rw [hd2]
          replace hd := Lib.hid hd
          replace hd2 := Lib.hid hd2
          go_wp2_with fail
          go_ret
          exact ⟨rfl, rfl⟩
        case pos =>
          have hgo := run_go (l := sl s) (i := a + 1) (p := digB) (by decide) (by rw [← hf.out]; exact hd)
          have hge := runT_ge (p := digB) (s := sl s) (i := a + 1 + 1)
          have hR3 : Hid (R = optI (expT (sl s) (runT digB (sl s) (a + 1)))) := Lib.hid (by
            rw [hR2.out, fracT, if_pos hs46.out, if_neg (by omega)]; rfl)
          have ha1 : a + 1 ≤ s.size := by omega
          rw [hd]
          replace hd := Lib.hid hd
          clear hgo hge
          go_wp2_with fail
          rw [show (a : Int) + 1 = ((a + 1 : Nat) : Int) from rfl]
          obtain ⟨a1, ha1e⟩ : ∃ n, n = a + 1 := ⟨_, rfl⟩
          rw [← ha1e] at hR3 ha1 ⊢
          replace ha1e := Lib.hid ha1e
          clear hw1 hI46 hal hj
          skip
          go_loopg [1] (s.size - a1) (fun g v wr => ∃ j : Nat, v = .int .i64 (j : Int) ∧ wq = wr ∧ s.size - j ≤ g ∧ a1 ≤ j ∧ j ≤ s.size ∧ Hid (runT digB (sl s) j = runT digB (sl s) a1))
          case atStart => exact ⟨a1, rfl, rfl, Nat.le_refl _, Nat.le_refl _, by omega, Lib.hid rfl⟩
          case round =>
            obtain ⟨j, rfl, rfl, hg, hij, hj, hsj⟩ := hrel
            go_wp2_with fail
            refine ((cAt.out (j) _)).mono ?_
            rintro en wq ⟨rfl, rfl⟩
            go_wp2_with fail
            obtain ⟨c, hc⟩ : ∃ c, c = atB (sl s) j := ⟨_, rfl⟩
            rw [← hc]
            replace hc := Lib.hid hc
            refine (rdigit_any _ _).mono ?_
            rintro en wq ⟨rfl, rfl⟩
            by_cases hd : digB c = true
            case pos =>
              have hgo := Lib.hid (run_go (l := sl s) (i := j) (p := digB) (by decide) (by rw [← hc.out]; exact hd))
              have hjl : j < s.size := by
                obtain ⟨b, h1, h2, h3⟩ := atB_lt (l := sl s) (i := j) (p := digB) (by decide) (by rw [← hc.out]; exact hd)
                have := hlen.out
                omega
              have hw1 : wrap64 ((j : Int) + 1) = (j : Int) + 1 := w64_in _ (by omega)
              skip
              rw [hd]
              replace hd := Lib.hid hd
              go_wp2_with fail
              go_roundg (s.size - (j + 1))
              case measure => omega
              case rel => exact ⟨j + 1, (by first | rfl | (rw [hw1]; rfl)), rfl, Nat.le_refl _, by omega, by omega, Lib.hid (by rw [← hgo.out]; exact hsj.out)⟩
            case neg =>
              have hd2 : digB c = false := by simpa using hd
              have hRj : runT digB (sl s) a1 = j := by rw [← hsj.out, run_no (by rw [← hc.out]; exact hd2)]
              rw [hd2]
              replace hd := Lib.hid hd
              replace hd2 := Lib.hid hd2
              replace hRj := Lib.hid hRj
              replace hsj := Lib.hid hsj.out
              go_wp2_with fail
              have hR4 : Hid (R = optI (expT (sl s) j)) := Lib.hid (by rw [hR3.out, hRj.out])
              obtain ⟨b, hb⟩ : ∃ a, a = j := ⟨_, rfl⟩
              rw [← hb] at hR4 hj ⊢
              replace hR3 := hR4
              clear hR4 hsj hRj hij hg
              replace hb := Lib.hid hb
              refine ((cAt.out b _)).mono ?_
              rintro en wq ⟨rfl, rfl⟩
              obtain ⟨q, hq⟩ : ∃ c, c = atB (sl s) b := ⟨_, rfl⟩
              rw [← hq]
              replace hq := Lib.hid hq
              by_cases h101 : q = 101
              case neg =>
                have hI101 : ((q : Int) == 101) = false := k_ne (b := 101) h101
                have e : R = (b : Int) := by
                  rw [hR3.out, expT, if_neg (fun e => h101 (by rw [hq.out]; exact atB_some e))]; rfl
                subst e
                replace h101 := Lib.hid h101
                go_wp2_with fail
                go_ret
                exact ⟨rfl, rfl⟩
              case pos =>
                have hI101 : ((q : Int) == 101) = true := k_eq h101
                have hs101 : (sl s)[b]? = some 101 := (atB_is (by decide)).1 (by rw [← hq.out]; exact h101)
                have hbl : b < s.size := by have := lt_of_some hs101; have := hlen.out; omega
                have hw1 : wrap64 ((b : Int) + 1) = (b : Int) + 1 := w64_in _ (by omega)
                have hR5 : Hid (R = optI (if 1 ≤ runT digB (sl s) (sigT (sl s) (b + 1)) - sigT (sl s) (b + 1) ∧ runT digB (sl s) (sigT (sl s) (b + 1)) - sigT (sl s) (b + 1) ≤ 4 then some (runT digB (sl s) (sigT (sl s) (b + 1))) else none)) := Lib.hid (by
                  rw [hR3.out, expT, if_pos hs101])
                replace h101 := Lib.hid h101
                replace hs101 := Lib.hid hs101
                go_wp2_with fail
                rw [show (b : Int) + 1 = ((b + 1 : Nat) : Int) from rfl]
                obtain ⟨e1, he1⟩ : ∃ n, n = b + 1 := ⟨_, rfl⟩
                have he1l : e1 ≤ s.size := by omega
                rw [← he1] at hR5 ⊢
                replace he1 := Lib.hid he1
                clear hw1 hI101 hbl
                refine ((cAt.out e1 _)).mono ?_
                rintro en wq ⟨rfl, rfl⟩
                obtain ⟨u, hu⟩ : ∃ c, c = atB (sl s) e1 := ⟨_, rfl⟩
                rw [← hu]
                replace hu := Lib.hid hu
                by_cases h43 : u = 43
                case pos =>
                  have hI43 : ((u : Int) == 43) = true := k_eq h43
                  have hsu : (sl s)[e1]? = some 43 := (atB_is (by decide)).1 (by rw [← hu.out]; exact h43)
                  have hel : e1 < s.size := by have := lt_of_some hsu; have := hlen.out; omega
                  have hsg : sigT (sl s) e1 = e1 + 1 := by unfold sigT; rw [if_pos (Or.inl hsu)]
                  have hw1 : wrap64 ((e1 : Int) + 1) = (e1 : Int) + 1 := w64_in _ (by omega)
                  rw [hsg] at hR5
                  replace h43 := Lib.hid h43
                  clear hsu hsg
                  go_wp2_with fail
                  rw [show (e1 : Int) + 1 = ((e1 + 1 : Nat) : Int) from rfl]
                  clear hw1
                  obtain ⟨p, hp⟩ : ∃ p, p = e1 + 1 := ⟨_, rfl⟩
                  have hpl : p ≤ s.size := by omega
                  rw [← hp] at hR5 ⊢
                  replace hp := Lib.hid hp
                  obtain ⟨E, hE⟩ : ∃ r, r = runT digB (sl s) p := ⟨_, rfl⟩
                  rw [← hE] at hR5
                  have hpE : Hid (p ≤ E) := Lib.hid (by rw [hE]; exact runT_ge)
                  have hE0 : Hid (runT digB (sl s) p = E) := Lib.hid hE.symm
                  replace hE := Lib.hid hE
                  go_loopg [1, 5] (s.size - p) (fun g v v5 wr => ∃ j : Nat, v = .int .i64 (j : Int) ∧ v5 = .int .i64 ((j - p : Nat) : Int) ∧ wq = wr ∧ s.size - j ≤ g ∧ p ≤ j ∧ j ≤ s.size ∧ Hid (runT digB (sl s) j = E))
                  case atStart => exact ⟨p, rfl, by rw [Nat.sub_self]; rfl, rfl, Nat.le_refl _, Nat.le_refl _, by omega, hE0⟩
                  case round =>
                    obtain ⟨j, rfl, rfl, rfl, hg, hij, hj, hsj⟩ := hrel
                    go_wp2_with fail
                    refine ((cAt.out (j) _)).mono ?_
                    rintro en wq ⟨rfl, rfl⟩
                    go_wp2_with fail
                    obtain ⟨c, hc⟩ : ∃ c, c = atB (sl s) j := ⟨_, rfl⟩
                    rw [← hc]
                    replace hc := Lib.hid hc
                    refine (rdigit_any _ _).mono ?_
                    rintro en wq ⟨rfl, rfl⟩
                    by_cases hd : digB c = true
                    case pos =>
                      have hgo := Lib.hid (run_go (l := sl s) (i := j) (p := digB) (by decide) (by rw [← hc.out]; exact hd))
                      have hjl : j < s.size := by
                        obtain ⟨b, h1, h2, h3⟩ := atB_lt (l := sl s) (i := j) (p := digB) (by decide) (by rw [← hc.out]; exact hd)
                        have := hlen.out
                        omega
                      have hw1 : wrap64 ((j : Int) + 1) = (j : Int) + 1 := w64_in _ (by omega)
                      have hw2 : wrap64 (((j - p : Nat) : Int) + 1) = ((j - p : Nat) : Int) + 1 := w64_in _ (by omega)
                      rw [hd]
                      replace hd := Lib.hid hd
                      go_wp2_with fail
                      go_roundg (s.size - (j + 1))
                      case measure => omega
                      case rel => exact ⟨j + 1, (by first | rfl | (rw [hw1]; rfl)), (by rw [show j + 1 - p = (j - p) + 1 by omega]; first | rfl | (rw [hw2]; rfl)), rfl, Nat.le_refl _, by omega, by omega, Lib.hid (by rw [← hgo.out]; exact hsj.out)⟩
                    case neg =>
                      have hd2 : digB c = false := by simpa using hd
                      have hRj : E = j := by rw [← hsj.out, run_no (by rw [← hc.out]; exact hd2)]
                      rw [hd2]
                      replace hd := Lib.hid hd
                      replace hd2 := Lib.hid hd2
                      replace hRj := Lib.hid hRj
                      replace hsj := Lib.hid hsj.out
                      have hEj := hRj.out
                      rw [hEj] at hR5
                      clear hEj
                      by_cases hk : 1 ≤ j - p ∧ j - p ≤ 4
                      case pos =>
                        have e : R = (j : Int) := by rw [hR5.out, if_pos hk]; rfl
                        subst e
                        have hk1 : ¬ ((j - p : Nat) : Int) < 1 := by omega
                        have hk2 : ¬ 4 < ((j - p : Nat) : Int) := by omega
                        obtain ⟨m, hm⟩ : ∃ m, m = j - p := ⟨_, rfl⟩
                        rw [← hm] at hk1 hk2 ⊢
                        replace hm := Lib.hid hm
                        replace hk := Lib.hid hk
                        go_wp2_with fail
                        go_ret
                        exact ⟨rfl, rfl⟩
                      case neg =>
                        have e : R = -1 := by rw [hR5.out, if_neg hk]; rfl
                        subst e
                        obtain ⟨m, hm⟩ : ∃ m, m = j - p := ⟨_, rfl⟩
                        rw [← hm] at hk ⊢
                        replace hm := Lib.hid hm
                        by_cases h1 : m < 1
                        · have hk1 : (m : Int) < 1 := by omega
                          replace hk := Lib.hid hk
                          clear h1
                          go_wp2_with fail
                          go_ret
                          exact ⟨rfl, rfl⟩
                        · have hk1 : ¬ (m : Int) < 1 := by omega
                          have hk2 : 4 < (m : Int) := by omega
                          replace hk := Lib.hid hk
                          clear h1
                          go_wp2_with fail
                          go_ret
                          exact ⟨rfl, rfl⟩
                by_cases h45 : u = 45
                case pos =>
                  have hI43 : ((u : Int) == 43) = false := k_ne (b := 43) h43
                  have hI45 : ((u : Int) == 45) = true := k_eq h45
                  have hsu : (sl s)[e1]? = some 45 := (atB_is (by decide)).1 (by rw [← hu.out]; exact h45)
                  have hel : e1 < s.size := by have := lt_of_some hsu; have := hlen.out; omega
                  have hsg : sigT (sl s) e1 = e1 + 1 := by unfold sigT; rw [if_pos (Or.inr hsu)]
                  have hw1 : wrap64 ((e1 : Int) + 1) = (e1 : Int) + 1 := w64_in _ (by omega)
                  rw [hsg] at hR5
                  replace h43 := Lib.hid h43
                  replace h45 := Lib.hid h45
                  clear hsu hsg
                  go_wp2_with fail
                  refine ((cAt.out e1 _)).mono ?_
                  rintro en wq ⟨rfl, rfl⟩
                  rw [← hu.out]
                  go_wp2_with fail
                  rw [show (e1 : Int) + 1 = ((e1 + 1 : Nat) : Int) from rfl]
                  clear hw1
                  obtain ⟨p, hp⟩ : ∃ p, p = e1 + 1 := ⟨_, rfl⟩
                  have hpl : p ≤ s.size := by omega
                  rw [← hp] at hR5 ⊢
                  replace hp := Lib.hid hp
                  obtain ⟨E, hE⟩ : ∃ r, r = runT digB (sl s) p := ⟨_, rfl⟩
                  rw [← hE] at hR5
                  have hpE : Hid (p ≤ E) := Lib.hid (by rw [hE]; exact runT_ge)
                  have hE0 : Hid (runT digB (sl s) p = E) := Lib.hid hE.symm
                  replace hE := Lib.hid hE
                  go_loopg [1, 5] (s.size - p) (fun g v v5 wr => ∃ j : Nat, v = .int .i64 (j : Int) ∧ v5 = .int .i64 ((j - p : Nat) : Int) ∧ wq = wr ∧ s.size - j ≤ g ∧ p ≤ j ∧ j ≤ s.size ∧ Hid (runT digB (sl s) j = E))
                  case atStart => exact ⟨p, rfl, by rw [Nat.sub_self]; rfl, rfl, Nat.le_refl _, Nat.le_refl _, by omega, hE0⟩
                  case round =>
                    obtain ⟨j, rfl, rfl, rfl, hg, hij, hj, hsj⟩ := hrel
                    go_wp2_with fail
                    refine ((cAt.out (j) _)).mono ?_
                    rintro en wq ⟨rfl, rfl⟩
                    go_wp2_with fail
                    obtain ⟨c, hc⟩ : ∃ c, c = atB (sl s) j := ⟨_, rfl⟩
                    rw [← hc]
                    replace hc := Lib.hid hc
                    refine (rdigit_any _ _).mono ?_
                    rintro en wq ⟨rfl, rfl⟩
                    by_cases hd : digB c = true
                    case pos =>
                      have hgo := Lib.hid (run_go (l := sl s) (i := j) (p := digB) (by decide) (by rw [← hc.out]; exact hd))
                      have hjl : j < s.size := by
                        obtain ⟨b, h1, h2, h3⟩ := atB_lt (l := sl s) (i := j) (p := digB) (by decide) (by rw [← hc.out]; exact hd)
                        have := hlen.out
                        omega
                      have hw1 : wrap64 ((j : Int) + 1) = (j : Int) + 1 := w64_in _ (by omega)
                      have hw2 : wrap64 (((j - p : Nat) : Int) + 1) = ((j - p : Nat) : Int) + 1 := w64_in _ (by omega)
                      rw [hd]
                      replace hd := Lib.hid hd
                      go_wp2_with fail
                      go_roundg (s.size - (j + 1))
                      case measure => omega
                      case rel => exact ⟨j + 1, (by first | rfl | (rw [hw1]; rfl)), (by rw [show j + 1 - p = (j - p) + 1 by omega]; first | rfl | (rw [hw2]; rfl)), rfl, Nat.le_refl _, by omega, by omega, Lib.hid (by rw [← hgo.out]; exact hsj.out)⟩
                    case neg =>
                      have hd2 : digB c = false := by simpa using hd
                      have hRj : E = j := by rw [← hsj.out, run_no (by rw [← hc.out]; exact hd2)]
                      rw [hd2]
                      replace hd := Lib.hid hd
                      replace hd2 := Lib.hid hd2
                      replace hRj := Lib.hid hRj
                      replace hsj := Lib.hid hsj.out
                      have hEj := hRj.out
                      rw [hEj] at hR5
                      clear hEj
                      by_cases hk : 1 ≤ j - p ∧ j - p ≤ 4
                      case pos =>
                        have e : R = (j : Int) := by rw [hR5.out, if_pos hk]; rfl
                        subst e
                        have hk1 : ¬ ((j - p : Nat) : Int) < 1 := by omega
                        have hk2 : ¬ 4 < ((j - p : Nat) : Int) := by omega
                        obtain ⟨m, hm⟩ : ∃ m, m = j - p := ⟨_, rfl⟩
                        rw [← hm] at hk1 hk2 ⊢
                        replace hm := Lib.hid hm
                        replace hk := Lib.hid hk
                        go_wp2_with fail
                        go_ret
                        exact ⟨rfl, rfl⟩
                      case neg =>
                        have e : R = -1 := by rw [hR5.out, if_neg hk]; rfl
                        subst e
                        obtain ⟨m, hm⟩ : ∃ m, m = j - p := ⟨_, rfl⟩
                        rw [← hm] at hk ⊢
                        replace hm := Lib.hid hm
                        by_cases h1 : m < 1
                        · have hk1 : (m : Int) < 1 := by omega
                          replace hk := Lib.hid hk
                          clear h1
                          go_wp2_with fail
                          go_ret
                          exact ⟨rfl, rfl⟩
                        · have hk1 : ¬ (m : Int) < 1 := by omega
                          have hk2 : 4 < (m : Int) := by omega
                          replace hk := Lib.hid hk
                          clear h1
                          go_wp2_with fail
                          go_ret
                          exact ⟨rfl, rfl⟩
                case neg =>
                  have hI43 : ((u : Int) == 43) = false := k_ne (b := 43) h43
                  have hI45 : ((u : Int) == 45) = false := k_ne (b := 45) h45
                  have hsg : sigT (sl s) e1 = e1 := by
                    unfold sigT
                    refine if_neg (fun h => ?_)
                    rcases h with h | h
                    · exact h43 (by rw [hu.out]; exact atB_some h)
                    · exact h45 (by rw [hu.out]; exact atB_some h)
                  rw [hsg] at hR5
                  replace h43 := Lib.hid h43
                  replace h45 := Lib.hid h45
                  clear hsg
                  go_wp2_with fail
                  refine ((cAt.out e1 _)).mono ?_
                  rintro en wq ⟨rfl, rfl⟩
                  rw [← hu.out]
                  go_wp2_with fail
                  obtain ⟨p, hp⟩ : ∃ p, p = e1 := ⟨_, rfl⟩
                  have hpl : p ≤ s.size := by omega
                  rw [← hp] at hR5 ⊢
                  replace hp := Lib.hid hp
                  obtain ⟨E, hE⟩ : ∃ r, r = runT digB (sl s) p := ⟨_, rfl⟩
                  rw [← hE] at hR5
                  have hpE : Hid (p ≤ E) := Lib.hid (by rw [hE]; exact runT_ge)
                  have hE0 : Hid (runT digB (sl s) p = E) := Lib.hid hE.symm
                  replace hE := Lib.hid hE
                  go_loopg [1, 5] (s.size - p) (fun g v v5 wr => ∃ j : Nat, v = .int .i64 (j : Int) ∧ v5 = .int .i64 ((j - p : Nat) : Int) ∧ wq = wr ∧ s.size - j ≤ g ∧ p ≤ j ∧ j ≤ s.size ∧ Hid (runT digB (sl s) j = E))
                  case atStart => exact ⟨p, rfl, by rw [Nat.sub_self]; rfl, rfl, Nat.le_refl _, Nat.le_refl _, by omega, hE0⟩
                  case round =>
                    obtain ⟨j, rfl, rfl, rfl, hg, hij, hj, hsj⟩ := hrel
                    go_wp2_with fail
                    refine ((cAt.out (j) _)).mono ?_
                    rintro en wq ⟨rfl, rfl⟩
                    go_wp2_with fail
                    obtain ⟨c, hc⟩ : ∃ c, c = atB (sl s) j := ⟨_, rfl⟩
                    rw [← hc]
                    replace hc := Lib.hid hc
                    refine (rdigit_any _ _).mono ?_
                    rintro en wq ⟨rfl, rfl⟩
                    by_cases hd : digB c = true
                    case pos =>
                      have hgo := Lib.hid (run_go (l := sl s) (i := j) (p := digB) (by decide) (by rw [← hc.out]; exact hd))
                      have hjl : j < s.size := by
                        obtain ⟨b, h1, h2, h3⟩ := atB_lt (l := sl s) (i := j) (p := digB) (by decide) (by rw [← hc.out]; exact hd)
                        have := hlen.out
                        omega
                      have hw1 : wrap64 ((j : Int) + 1) = (j : Int) + 1 := w64_in _ (by omega)
                      have hw2 : wrap64 (((j - p : Nat) : Int) + 1) = ((j - p : Nat) : Int) + 1 := w64_in _ (by omega)
                      rw [hd]
                      replace hd := Lib.hid hd
                      go_wp2_with fail
                      go_roundg (s.size - (j + 1))
                      case measure => omega
                      case rel => exact ⟨j + 1, (by first | rfl | (rw [hw1]; rfl)), (by rw [show j + 1 - p = (j - p) + 1 by omega]; first | rfl | (rw [hw2]; rfl)), rfl, Nat.le_refl _, by omega, by omega, Lib.hid (by rw [← hgo.out]; exact hsj.out)⟩
                    case neg =>
                      have hd2 : digB c = false := by simpa using hd
                      have hRj : E = j := by rw [← hsj.out, run_no (by rw [← hc.out]; exact hd2)]
                      rw [hd2]
                      replace hd := Lib.hid hd
                      replace hd2 := Lib.hid hd2
                      replace hRj := Lib.hid hRj
                      replace hsj := Lib.hid hsj.out
                      have hEj := hRj.out
                      rw [hEj] at hR5
                      clear hEj
                      by_cases hk : 1 ≤ j - p ∧ j - p ≤ 4
                      case pos =>
                        have e : R = (j : Int) := by rw [hR5.out, if_pos hk]; rfl
                        subst e
                        have hk1 : ¬ ((j - p : Nat) : Int) < 1 := by omega
                        have hk2 : ¬ 4 < ((j - p : Nat) : Int) := by omega
                        obtain ⟨m, hm⟩ : ∃ m, m = j - p := ⟨_, rfl⟩
                        rw [← hm] at hk1 hk2 ⊢
                        replace hm := Lib.hid hm
                        replace hk := Lib.hid hk
                        go_wp2_with fail
                        go_ret
                        exact ⟨rfl, rfl⟩
                      case neg =>
                        have e : R = -1 := by rw [hR5.out, if_neg hk]; rfl
                        subst e
                        obtain ⟨m, hm⟩ : ∃ m, m = j - p := ⟨_, rfl⟩
                        rw [← hm] at hk ⊢
                        replace hm := Lib.hid hm
                        by_cases h1 : m < 1
                        · have hk1 : (m : Int) < 1 := by omega
                          replace hk := Lib.hid hk
                          clear h1
                          go_wp2_with fail
                          go_ret
                          exact ⟨rfl, rfl⟩
                        · have hk1 : ¬ (m : Int) < 1 := by omega
                          have hk2 : 4 < (m : Int) := by omega
                          replace hk := Lib.hid hk
                          clear h1
                          go_wp2_with fail
                          go_ret
                          exact ⟨rfl, rfl⟩
      case neg =>
        have hI46 : ((d : Int) == 46) = false := k_ne (b := 46) h46
        have hR3 : Hid (R = optI (expT (sl s) a)) := Lib.hid (by
          rw [hR2.out, fracT, if_neg (fun e => h46 (by rw [hdd.out]; exact atB_some e))]; rfl)
        replace h46 := Lib.hid h46
        go_wp2_with fail
        refine ((cAt.out a _)).mono ?_
        rintro en wq ⟨rfl, rfl⟩
        obtain ⟨q, hq⟩ : ∃ c, c = atB (sl s) a := ⟨_, rfl⟩
        rw [← hq]
        replace hq := Lib.hid hq
        by_cases h101 : q = 101
        case neg =>
          have hI101 : ((q : Int) == 101) = false := k_ne (b := 101) h101
          have e : R = (a : Int) := by
            rw [hR3.out, expT, if_neg (fun e => h101 (by rw [hq.out]; exact atB_some e))]; rfl
          subst e
          replace h101 := Lib.hid h101
          go_wp2_with fail
          go_ret
          exact ⟨rfl, rfl⟩
        case pos =>
          have hI101 : ((q : Int) == 101) = true := k_eq h101
          have hs101 : (sl s)[a]? = some 101 := (atB_is (by decide)).1 (by rw [← hq.out]; exact h101)
          have hbl : a < s.size := by have := lt_of_some hs101; have := hlen.out; omega
          have hw1 : wrap64 ((a : Int) + 1) = (a : Int) + 1 := w64_in _ (by omega)
          have hR5 : Hid (R = optI (if 1 ≤ runT digB (sl s) (sigT (sl s) (a + 1)) - sigT (sl s) (a + 1) ∧ runT digB (sl s) (sigT (sl s) (a + 1)) - sigT (sl s) (a + 1) ≤ 4 then some (runT digB (sl s) (sigT (sl s) (a + 1))) else none)) := Lib.hid (by
            rw [hR3.out, expT, if_pos hs101])
          replace h101 := Lib.hid h101
          replace hs101 := Lib.hid hs101
          go_wp2_with fail
          rw [show (a : Int) + 1 = ((a + 1 : Nat) : Int) from rfl]
          obtain ⟨e1, he1⟩ : ∃ n, n = a + 1 := ⟨_, rfl⟩
          have he1l : e1 ≤ s.size := by omega
          rw [← he1] at hR5 ⊢
          replace he1 := Lib.hid he1
          clear hw1 hI101 hbl
          refine ((cAt.out e1 _)).mono ?_
          rintro en wq ⟨rfl, rfl⟩
          obtain ⟨u, hu⟩ : ∃ c, c = atB (sl s) e1 := ⟨_, rfl⟩
          rw [← hu]
          replace hu := Lib.hid hu
          by_cases h43 : u = 43
          case pos =>
            have hI43 : ((u : Int) == 43) = true := k_eq h43
            have hsu : (sl s)[e1]? = some 43 := (atB_is (by decide)).1 (by rw [← hu.out]; exact h43)
            have hel : e1 < s.size := by have := lt_of_some hsu; have := hlen.out; omega
            have hsg : sigT (sl s) e1 = e1 + 1 := by unfold sigT; rw [if_pos (Or.inl hsu)]
            have hw1 : wrap64 ((e1 : Int) + 1) = (e1 : Int) + 1 := w64_in _ (by omega)
            rw [hsg] at hR5
            replace h43 := Lib.hid h43
            clear hsu hsg
            go_wp2_with fail
            rw [show (e1 : Int) + 1 = ((e1 + 1 : Nat) : Int) from rfl]
            clear hw1
            obtain ⟨p, hp⟩ : ∃ p, p = e1 + 1 := ⟨_, rfl⟩
            have hpl : p ≤ s.size := by omega
            rw [← hp] at hR5 ⊢
            replace hp := Lib.hid hp
            obtain ⟨E, hE⟩ : ∃ r, r = runT digB (sl s) p := ⟨_, rfl⟩
            rw [← hE] at hR5
            have hpE : Hid (p ≤ E) := Lib.hid (by rw [hE]; exact runT_ge)
            have hE0 : Hid (runT digB (sl s) p = E) := Lib.hid hE.symm
            replace hE := Lib.hid hE
            go_loopg [1, 5] (s.size - p) (fun g v v5 wr => ∃ j : Nat, v = .int .i64 (j : Int) ∧ v5 = .int .i64 ((j - p : Nat) : Int) ∧ wq = wr ∧ s.size - j ≤ g ∧ p ≤ j ∧ j ≤ s.size ∧ Hid (runT digB (sl s) j = E))
            case atStart => exact ⟨p, rfl, by rw [Nat.sub_self]; rfl, rfl, Nat.le_refl _, Nat.le_refl _, by omega, hE0⟩
            case round =>
              obtain ⟨j, rfl, rfl, rfl, hg, hij, hj, hsj⟩ := hrel
              go_wp2_with fail
              refine ((cAt.out (j) _)).mono ?_
              rintro en wq ⟨rfl, rfl⟩
              go_wp2_with fail
              obtain ⟨c, hc⟩ : ∃ c, c = atB (sl s) j := ⟨_, rfl⟩
              rw [← hc]
              replace hc := Lib.hid hc
              refine (rdigit_any _ _).mono ?_
              rintro en wq ⟨rfl, rfl⟩
              by_cases hd : digB c = true
              case pos =>
                have hgo := Lib.hid (run_go (l := sl s) (i := j) (p := digB) (by decide) (by rw [← hc.out]; exact hd))
                have hjl : j < s.size := by
                  obtain ⟨b, h1, h2, h3⟩ := atB_lt (l := sl s) (i := j) (p := digB) (by decide) (by rw [← hc.out]; exact hd)
                  have := hlen.out
                  omega
                have hw1 : wrap64 ((j : Int) + 1) = (j : Int) + 1 := w64_in _ (by omega)
                have hw2 : wrap64 (((j - p : Nat) : Int) + 1) = ((j - p : Nat) : Int) + 1 := w64_in _ (by omega)
                rw [hd]
                replace hd := Lib.hid hd
                go_wp2_with fail
                go_roundg (s.size - (j + 1))
                case measure => omega
                case rel => exact ⟨j + 1, (by first | rfl | (rw [hw1]; rfl)), (by rw [show j + 1 - p = (j - p) + 1 by omega]; first | rfl | (rw [hw2]; rfl)), rfl, Nat.le_refl _, by omega, by omega, Lib.hid (by rw [← hgo.out]; exact hsj.out)⟩
              case neg =>
                have hd2 : digB c = false := by simpa using hd
                have hRj : E = j := by rw [← hsj.out, run_no (by rw [← hc.out]; exact hd2)]
                rw [hd2]
                replace hd := Lib.hid hd
                replace hd2 := Lib.hid hd2
                replace hRj := Lib.hid hRj
                replace hsj := Lib.hid hsj.out
                have hEj := hRj.out
                rw [hEj] at hR5
                clear hEj
                by_cases hk : 1 ≤ j - p ∧ j - p ≤ 4
                case pos =>
                  have e : R = (j : Int) := by rw [hR5.out, if_pos hk]; rfl
                  subst e
                  have hk1 : ¬ ((j - p : Nat) : Int) < 1 := by omega
                  have hk2 : ¬ 4 < ((j - p : Nat) : Int) := by omega
                  obtain ⟨m, hm⟩ : ∃ m, m = j - p := ⟨_, rfl⟩
                  rw [← hm] at hk1 hk2 ⊢
                  replace hm := Lib.hid hm
                  replace hk := Lib.hid hk
                  go_wp2_with fail
                  go_ret
                  exact ⟨rfl, rfl⟩
                case neg =>
                  have e : R = -1 := by rw [hR5.out, if_neg hk]; rfl
                  subst e
                  obtain ⟨m, hm⟩ : ∃ m, m = j - p := ⟨_, rfl⟩
                  rw [← hm] at hk ⊢
                  replace hm := Lib.hid hm
                  by_cases h1 : m < 1
                  · have hk1 : (m : Int) < 1 := by omega
                    replace hk := Lib.hid hk
                    clear h1
                    go_wp2_with fail
                    go_ret
                    exact ⟨rfl, rfl⟩
                  · have hk1 : ¬ (m : Int) < 1 := by omega
                    have hk2 : 4 < (m : Int) := by omega
                    replace hk := Lib.hid hk
                    clear h1
                    go_wp2_with fail
                    go_ret
                    exact ⟨rfl, rfl⟩
          by_cases h45 : u = 45
          case pos =>
            have hI43 : ((u : Int) == 43) = false := k_ne (b := 43) h43
            have hI45 : ((u : Int) == 45) = true := k_eq h45
            have hsu : (sl s)[e1]? = some 45 := (atB_is (by decide)).1 (by rw [← hu.out]; exact h45)
            have hel : e1 < s.size := by have := lt_of_some hsu; have := hlen.out; omega
            have hsg : sigT (sl s) e1 = e1 + 1 := by unfold sigT; rw [if_pos (Or.inr hsu)]
            have hw1 : wrap64 ((e1 : Int) + 1) = (e1 : Int) + 1 := w64_in _ (by omega)
            rw [hsg] at hR5
            replace h43 := Lib.hid h43
            replace h45 := Lib.hid h45
            clear hsu hsg
            go_wp2_with fail
            refine ((cAt.out e1 _)).mono ?_
            rintro en wq ⟨rfl, rfl⟩
            rw [← hu.out]
            go_wp2_with fail
            rw [show (e1 : Int) + 1 = ((e1 + 1 : Nat) : Int) from rfl]
            clear hw1
            obtain ⟨p, hp⟩ : ∃ p, p = e1 + 1 := ⟨_, rfl⟩
            have hpl : p ≤ s.size := by omega
            rw [← hp] at hR5 ⊢
            replace hp := Lib.hid hp
            obtain ⟨E, hE⟩ : ∃ r, r = runT digB (sl s) p := ⟨_, rfl⟩
            rw [← hE] at hR5
            have hpE : Hid (p ≤ E) := Lib.hid (by rw [hE]; exact runT_ge)
            have hE0 : Hid (runT digB (sl s) p = E) := Lib.hid hE.symm
            replace hE := Lib.hid hE
            go_loopg [1, 5] (s.size - p) (fun g v v5 wr => ∃ j : Nat, v = .int .i64 (j : Int) ∧ v5 = .int .i64 ((j - p : Nat) : Int) ∧ wq = wr ∧ s.size - j ≤ g ∧ p ≤ j ∧ j ≤ s.size ∧ Hid (runT digB (sl s) j = E))
            case atStart => exact ⟨p, rfl, by rw [Nat.sub_self]; rfl, rfl, Nat.le_refl _, Nat.le_refl _, by omega, hE0⟩
            case round =>
              obtain ⟨j, rfl, rfl, rfl, hg, hij, hj, hsj⟩ := hrel
              go_wp2_with fail
              refine ((cAt.out (j) _)).mono ?_
              rintro en wq ⟨rfl, rfl⟩
              go_wp2_with fail
              obtain ⟨c, hc⟩ : ∃ c, c = atB (sl s) j := ⟨_, rfl⟩
              rw [← hc]
              replace hc := Lib.hid hc
              refine (rdigit_any _ _).mono ?_
              rintro en wq ⟨rfl, rfl⟩
              by_cases hd : digB c = true
              case pos =>
                have hgo := Lib.hid (run_go (l := sl s) (i := j) (p := digB) (by decide) (by rw [← hc.out]; exact hd))
                have hjl : j < s.size := by
                  obtain ⟨b, h1, h2, h3⟩ := atB_lt (l := sl s) (i := j) (p := digB) (by decide) (by rw [← hc.out]; exact hd)
                  have := hlen.out
                  omega
                have hw1 : wrap64 ((j : Int) + 1) = (j : Int) + 1 := w64_in _ (by omega)
                have hw2 : wrap64 (((j - p : Nat) : Int) + 1) = ((j - p : Nat) : Int) + 1 := w64_in _ (by omega)
                rw [hd]
                replace hd := Lib.hid hd
                go_wp2_with fail
                go_roundg (s.size - (j + 1))
                case measure => omega
                case rel => exact ⟨j + 1, (by first | rfl | (rw [hw1]; rfl)), (by rw [show j + 1 - p = (j - p) + 1 by omega]; first | rfl | (rw [hw2]; rfl)), rfl, Nat.le_refl _, by omega, by omega, Lib.hid (by rw [← hgo.out]; exact hsj.out)⟩
              case neg =>
                have hd2 : digB c = false := by simpa using hd
                have hRj : E = j := by rw [← hsj.out, run_no (by rw [← hc.out]; exact hd2)]
                rw [hd2]
                replace hd := Lib.hid hd
                replace hd2 := Lib.hid hd2
                replace hRj := Lib.hid hRj
                replace hsj := Lib.hid hsj.out
                have hEj := hRj.out
                rw [hEj] at hR5
                clear hEj
                by_cases hk : 1 ≤ j - p ∧ j - p ≤ 4
                case pos =>
                  have e : R = (j : Int) := by rw [hR5.out, if_pos hk]; rfl
                  subst e
                  have hk1 : ¬ ((j - p : Nat) : Int) < 1 := by omega
                  have hk2 : ¬ 4 < ((j - p : Nat) : Int) := by omega
                  obtain ⟨m, hm⟩ : ∃ m, m = j - p := ⟨_, rfl⟩
                  rw [← hm] at hk1 hk2 ⊢
                  replace hm := Lib.hid hm
                  replace hk := Lib.hid hk
                  go_wp2_with fail
                  go_ret
                  exact ⟨rfl, rfl⟩
                case neg =>
                  have e : R = -1 := by rw [hR5.out, if_neg hk]; rfl
                  subst e
                  obtain ⟨m, hm⟩ : ∃ m, m = j - p := ⟨_, rfl⟩
                  rw [← hm] at hk ⊢
                  replace hm := Lib.hid hm
                  by_cases h1 : m < 1
                  · have hk1 : (m : Int) < 1 := by omega
                    replace hk := Lib.hid hk
                    clear h1
                    go_wp2_with fail
                    go_ret
                    exact ⟨rfl, rfl⟩
                  · have hk1 : ¬ (m : Int) < 1 := by omega
                    have hk2 : 4 < (m : Int) := by omega
                    replace hk := Lib.hid hk
                    clear h1
                    go_wp2_with fail
                    go_ret
                    exact ⟨rfl, rfl⟩
          case neg =>
            have hI43 : ((u : Int) == 43) = false := k_ne (b := 43) h43
            have hI45 : ((u : Int) == 45) = false := k_ne (b := 45) h45
            have hsg : sigT (sl s) e1 = e1 := by
              unfold sigT
              refine if_neg (fun h => ?_)
              rcases h with h | h
              · exact h43 (by rw [hu.out]; exact atB_some h)
              · exact h45 (by rw [hu.out]; exact atB_some h)
            rw [hsg] at hR5
            replace h43 := Lib.hid h43
            replace h45 := Lib.hid h45
            clear hsg
            go_wp2_with fail
            refine ((cAt.out e1 _)).mono ?_
            rintro en wq ⟨rfl, rfl⟩
            rw [← hu.out]
            go_wp2_with fail
            obtain ⟨p, hp⟩ : ∃ p, p = e1 := ⟨_, rfl⟩
            have hpl : p ≤ s.size := by omega
            rw [← hp] at hR5 ⊢
            replace hp := Lib.hid hp
            obtain ⟨E, hE⟩ : ∃ r, r = runT digB (sl s) p := ⟨_, rfl⟩
            rw [← hE] at hR5
            have hpE : Hid (p ≤ E) := Lib.hid (by rw [hE]; exact runT_ge)
            have hE0 : Hid (runT digB (sl s) p = E) := Lib.hid hE.symm
            replace hE := Lib.hid hE
            go_loopg [1, 5] (s.size - p) (fun g v v5 wr => ∃ j : Nat, v = .int .i64 (j : Int) ∧ v5 = .int .i64 ((j - p : Nat) : Int) ∧ wq = wr ∧ s.size - j ≤ g ∧ p ≤ j ∧ j ≤ s.size ∧ Hid (runT digB (sl s) j = E))
            case atStart => exact ⟨p, rfl, by rw [Nat.sub_self]; rfl, rfl, Nat.le_refl _, Nat.le_refl _, by omega, hE0⟩
            case round =>
              obtain ⟨j, rfl, rfl, rfl, hg, hij, hj, hsj⟩ := hrel
              go_wp2_with fail
              refine ((cAt.out (j) _)).mono ?_
              rintro en wq ⟨rfl, rfl⟩
              go_wp2_with fail
              obtain ⟨c, hc⟩ : ∃ c, c = atB (sl s) j := ⟨_, rfl⟩
              rw [← hc]
              replace hc := Lib.hid hc
              refine (rdigit_any _ _).mono ?_
              rintro en wq ⟨rfl, rfl⟩
              by_cases hd : digB c = true
              case pos =>
                have hgo := Lib.hid (run_go (l := sl s) (i := j) (p := digB) (by decide) (by rw [← hc.out]; exact hd))
                have hjl : j < s.size := by
                  obtain ⟨b, h1, h2, h3⟩ := atB_lt (l := sl s) (i := j) (p := digB) (by decide) (by rw [← hc.out]; exact hd)
                  have := hlen.out
                  omega
                have hw1 : wrap64 ((j : Int) + 1) = (j : Int) + 1 := w64_in _ (by omega)
                have hw2 : wrap64 (((j - p : Nat) : Int) + 1) = ((j - p : Nat) : Int) + 1 := w64_in _ (by omega)
                rw [hd]
                replace hd := Lib.hid hd
                go_wp2_with fail
                go_roundg (s.size - (j + 1))
                case measure => omega
                case rel => exact ⟨j + 1, (by first | rfl | (rw [hw1]; rfl)), (by rw [show j + 1 - p = (j - p) + 1 by omega]; first | rfl | (rw [hw2]; rfl)), rfl, Nat.le_refl _, by omega, by omega, Lib.hid (by rw [← hgo.out]; exact hsj.out)⟩
              case neg =>
                have hd2 : digB c = false := by simpa using hd
                have hRj : E = j := by rw [← hsj.out, run_no (by rw [← hc.out]; exact hd2)]
                rw [hd2]
                replace hd := Lib.hid hd
                replace hd2 := Lib.hid hd2
                replace hRj := Lib.hid hRj
                replace hsj := Lib.hid hsj.out
                have hEj := hRj.out
                rw [hEj] at hR5
                clear hEj
                by_cases hk : 1 ≤ j - p ∧ j - p ≤ 4
                case pos =>
                  have e : R = (j : Int) := by rw [hR5.out, if_pos hk]; rfl
                  subst e
                  have hk1 : ¬ ((j - p : Nat) : Int) < 1 := by omega
                  have hk2 : ¬ 4 < ((j - p : Nat) : Int) := by omega
                  obtain ⟨m, hm⟩ : ∃ m, m = j - p := ⟨_, rfl⟩
                  rw [← hm] at hk1 hk2 ⊢
                  replace hm := Lib.hid hm
                  replace hk := Lib.hid hk
                  go_wp2_with fail
                  go_ret
                  exact ⟨rfl, rfl⟩
                case neg =>
                  have e : R = -1 := by rw [hR5.out, if_neg hk]; rfl
                  subst e
                  obtain ⟨m, hm⟩ : ∃ m, m = j - p := ⟨_, rfl⟩
                  rw [← hm] at hk ⊢
                  replace hm := Lib.hid hm
                  by_cases h1 : m < 1
                  · have hk1 : (m : Int) < 1 := by omega
                    replace hk := Lib.hid hk
                    clear h1
                    go_wp2_with fail
                    go_ret
                    exact ⟨rfl, rfl⟩
                  · have hk1 : ¬ (m : Int) < 1 := by omega
                    have hk2 : 4 < (m : Int) := by omega
                    replace hk := Lib.hid hk
                    clear h1
                    go_wp2_with fail
                    go_ret
                    exact ⟨rfl, rfl⟩
end Go.Proofs.YtnaadajcehfmiaaGreatDoor
