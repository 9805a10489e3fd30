/- filigreeref11: end. -/
import Derived.Test.YtnaadajcehfmiaaGreatDoorLvA
namespace Go.Proofs.YtnaadajcehfmiaaGreatDoor
open Go.RowKit Go.Sort Go.Maps

set_option maxRecDepth 100000 in
set_option maxHeartbeats 4000000 in
theorem rvEnd (s : ByteArray) (i : Nat) (w : World) (hlo : i < s.size) (hmax : s.size ≤ 1099511627776) : Calls Tryz.prog 27 #[.string s, .int .i64 (i : Int)] w (fun e w' => e = .returned (.int .i64 (optI (tokT (sl s) i))) ∧ w' = w) := by
  have cN := rvNumber s i w (Nat.le_of_lt hlo) hmax
  have cAt := Lib.hid (fun (i : Nat) (W : World) => rvAt s i W)
  obtain ⟨c, hc⟩ : ∃ c, c = (s[i]'hlo).toNat := ⟨_, rfl⟩
  have hcx : (((s[i]'hlo).toNat : Nat) : Int) = (c : Int) := by rw [hc]
  have hb : (sl s)[i]? = some c := by rw [sl_get s i hlo, hc]
  have hlen := Lib.hid (sl_len s)
  obtain ⟨R, hR⟩ : ∃ r, r = optI (tokT (sl s) i) := ⟨_, rfl⟩
  rw [← hR]
  have hR1 : R = optI (if digB c then numT (sl s) i else if letB c then (if runT wrdB (sl s) i - i ≤ 16 then some (runT wrdB (sl s) i) else none) else if sgnB c then some (i + 1) else none) := by
    rw [hR, tokT, hb]
  replace hR := Lib.hid hR
  replace hb := Lib.hid hb
  replace hc := Lib.hid hc
  have hloI : (i : Int) < (s.size : Int) := by omega
  by_cases hd : digB c = true
  case pos =>
    rw [if_pos hd] at hR1
    rw [← hR1] at cN
    replace cN := Lib.hid cN
    replace hR1 := Lib.hid hR1
    have hdH := Lib.hid hd
    clear hd
    go_enter Tryz.func27, Tryz.ntmps27
    go_wp2_with fail
    refine (rdigit_any _ _).mono ?_
    rintro en wq ⟨rfl, rfl⟩
    rw [hdH.out]
    go_wp2_with fail
    refine cN.out.mono ?_
    rintro en wq ⟨rfl, rfl⟩
    go_wp2_with fail
    go_ret
    exact ⟨rfl, rfl⟩
  case neg =>
    rw [if_neg hd] at hR1
    have hd2 : digB c = false := by simpa using hd
    replace hd := Lib.hid hd2
    clear hd2 cN
    by_cases hl : letB c = true
    case neg =>
      rw [if_neg hl] at hR1
      have hl2 : letB c = false := by simpa using hl
      replace hl := Lib.hid hl2
      clear hl2
      have hw1 : wrap64 ((i : Int) + 1) = (i : Int) + 1 := w64_in _ (by omega)
      by_cases hs : sgnB c = true
      case' pos => rw [if_pos hs] at hR1
      case' neg =>
        rw [if_neg hs] at hR1
        replace hs : sgnB c = false := by simpa using hs
      all_goals
        subst hR1
        replace hs := Lib.hid hs
        go_enter Tryz.func27, Tryz.ntmps27
        go_wp2_with fail
        refine (rdigit_any _ _).mono ?_
        rintro en wq ⟨rfl, rfl⟩
        rw [hd.out]
        go_wp2_with fail
        refine (rletter_any _ _).mono ?_
        rintro en wq ⟨rfl, rfl⟩
        rw [hl.out]
        go_wp2_with fail
        refine (rvSign _ _).mono ?_
        rintro en wq ⟨rfl, rfl⟩
        rw [hs.out]
        go_wp2_with fail
        go_ret
        exact ⟨rfl, rfl⟩
    case pos =>
      rw [if_pos hl] at hR1
      replace hR1 := Lib.hid hR1
      replace hl := Lib.hid hl
      go_enter Tryz.func27, Tryz.ntmps27
      go_wp2_with fail
      refine (rdigit_any _ _).mono ?_
      rintro en wq ⟨rfl, rfl⟩
      rw [hd.out]
      go_wp2_with fail
      refine (rletter_any _ _).mono ?_
      rintro en wq ⟨rfl, rfl⟩
      rw [hl.out]
      go_wp2_with fail
      clear hloI hcx
      go_loopg [6] (s.size - i) (fun g v wr => ∃ j : Nat, v = .int .i64 (j : Int) ∧ wq = wr ∧ s.size - j ≤ g ∧ i ≤ j ∧ j ≤ s.size ∧ Hid (runT wrdB (sl s) j = runT wrdB (sl s) i))
      case atStart => exact ⟨i, rfl, rfl, Nat.le_refl _, Nat.le_refl _, by omega, Lib.hid rfl⟩
      case round =>
        obtain ⟨j, rfl, rfl, hg, hij, hj, hsj⟩ := hrel
        replace hg := Lib.hid hg
        go_wp2_with fail
        refine ((cAt.out j _)).mono ?_
        rintro en wq ⟨rfl, rfl⟩
        obtain ⟨d, hdd⟩ : ∃ c, c = atB (sl s) j := ⟨_, rfl⟩
        rw [← hdd]
        replace hdd := Lib.hid hdd
        go_wp2_with fail
        refine (rletter_any _ _).mono ?_
        rintro en wq ⟨rfl, rfl⟩
        by_cases h1 : letB d = true
        case pos =>
          have hwr : Hid (wrdB d = true) := Lib.hid (by unfold wrdB; rw [h1]; rfl)
          rw [h1]
          replace h1 := Lib.hid h1
          have hgo := Lib.hid (run_go (l := sl s) (i := j) (p := wrdB) (by decide) (by rw [← hdd.out]; exact hwr.out))
          have hjl : j < s.size := by
            obtain ⟨b, h1, h2, h3⟩ := atB_lt (l := sl s) (i := j) (p := wrdB) (by decide) (by rw [← hdd.out]; exact hwr.out)
            have := hlen.out
            omega
          have hw1 : wrap64 ((j : Int) + 1) = (j : Int) + 1 := w64_in _ (by omega)
          go_wp2_with fail
          go_roundg (s.size - (j + 1))
          case measure => have := hg.out; omega
          case rel => exact ⟨j + 1, (by first | rfl | (rw [hw1]; rfl)), rfl, Nat.le_refl _, by omega, by omega, Lib.hid (by rw [← hgo.out]; exact hsj.out)⟩
        case neg =>
          have h12 : letB d = false := by simpa using h1
          rw [h12]
          replace h1 := Lib.hid h12
          clear h12
          go_wp2_with fail
          refine ((cAt.out j _)).mono ?_
          rintro en wq ⟨rfl, rfl⟩
          rw [← hdd.out]
          go_wp2_with fail
          refine (rdigit_any _ _).mono ?_
          rintro en wq ⟨rfl, rfl⟩
          by_cases h2 : digB d = true
          case pos =>
            have hwr : Hid (wrdB d = true) := Lib.hid (by unfold wrdB; rw [h2]; simp)
            rw [h2]
            replace h2 := Lib.hid h2
            have hgo := Lib.hid (run_go (l := sl s) (i := j) (p := wrdB) (by decide) (by rw [← hdd.out]; exact hwr.out))
            have hjl : j < s.size := by
              obtain ⟨b, h1, h2, h3⟩ := atB_lt (l := sl s) (i := j) (p := wrdB) (by decide) (by rw [← hdd.out]; exact hwr.out)
              have := hlen.out
              omega
            have hw1 : wrap64 ((j : Int) + 1) = (j : Int) + 1 := w64_in _ (by omega)
            go_wp2_with fail
            go_roundg (s.size - (j + 1))
            case measure => have := hg.out; omega
            case rel => exact ⟨j + 1, (by first | rfl | (rw [hw1]; rfl)), rfl, Nat.le_refl _, by omega, by omega, Lib.hid (by rw [← hgo.out]; exact hsj.out)⟩
          case neg =>
            have h22 : digB d = false := by simpa using h2
            have hRj : runT wrdB (sl s) i = j := by rw [← hsj.out, run_no (by rw [← hdd.out]; unfold wrdB; rw [h1.out, h22]; rfl)]
            rw [h22]
            replace h2 := Lib.hid h22
            replace hR1 := hR1.out
            rw [hRj] at hR1
            clear h22 hsj
            have hw1 : wrap64 ((j : Int) - (i : Int)) = (j : Int) - (i : Int) := w64_in _ (by omega)
            by_cases h16 : j - i ≤ 16
            case' pos =>
              rw [if_pos h16] at hR1
              have h16I : ¬ (16 : Int) < (j : Int) - (i : Int) := by omega
            case' neg =>
              rw [if_neg h16] at hR1
              have h16I : (16 : Int) < (j : Int) - (i : Int) := by omega
            all_goals
              subst hR1
              replace h16 := Lib.hid h16
              replace hRj := Lib.hid hRj
              replace hij := Lib.hid hij
              replace hj := Lib.hid hj
              go_wp2_with fail
              go_ret
              exact ⟨rfl, rfl⟩
end Go.Proofs.YtnaadajcehfmiaaGreatDoor
