/- lang: power. -/
import Derived.Test.YtnaadajcehfmiaaGreatDoorLrH
namespace Go.Proofs.YtnaadajcehfmiaaGreatDoor
open Go.RowKit Go.Sort Go.Maps

theorem wpQuiet_skip {P : Program} {ops : Array Oper} {C : World → Prop} {Q : Act → Prop} {a : Act} {o : Oper} {rest : List Oper} (h0 : Region.wanted o (yielded ops a.tmps) = false)
    (h : ∀ K : Act → Prop, (∀ a, wpQuiet P ops C Q rest a → K a) → K (a.put o.dst undef)) : wpQuiet P ops C Q (o :: rest) a :=
  wpQuiet_step (fun K hK => by rw [if_neg (by rw [h0]; exact Bool.false_ne_true)]; exact h K hK)
section
variable {s : ByteArray} {last : Nat} {wrong : Bool} {B p gm o : Nat} {X : List It} {st : PS} {w w' : World}
theorem RdS.errs (h : RdS s last wrong B p gm X o st w) : (itErr 4).P w ∧ (itErr 5).P w ∧ st.tx.length ≤ 16384 := by
  obtain ⟨nx, vN, vL, vH, D, h1, h2, h3, h4⟩ := h
  refine ⟨h1.1 (itErr 4) (by simp), h1.1 (itErr 5) (by simp), ?_⟩
  unfold PS.tx
  rcases hT : st.T with _ | ⟨t, T⟩
  · simp
  · exact (h3.toks t (by rw [hT]; exact List.mem_cons_self ..)).2.1
set_option maxRecDepth 100000 in
set_option maxHeartbeats 8000000 in
/-- power -/
theorem power_rd {inner : Option PF} (hin : InnC s last wrong B p gm o inner) : PartC 77 s last wrong B p gm o (powerP last wrong inner) := by
  intro X st w r h hr
  obtain ⟨r1, hr1⟩ : ∃ r1, atomP last wrong inner st = some r1 := by
    unfold powerP at hr
    rcases hf : atomP last wrong inner st with _ | r1
    · rw [hf] at hr; cases hr
    · exact ⟨r1, rfl⟩
  have c1 := Lib.hid (atom_rd hin X st w r1 h hr1)
  unfold powerP at hr
  rw [hr1] at hr
  replace hr1 := Lib.hid hr1
  clear h hin
  rcases r1 with ⟨a, st1⟩ | ⟨x, y⟩
  case no =>
    have hrr : r = .no x y := (Option.some.inj hr).symm
    subst hrr
    replace hr := Lib.hid hr
    go_enter Tryz.func77, Tryz.ntmps77
    go_wp2_with fail
    refine c1.out.mono ?_
    rintro en w1 ⟨q, rfl, hq⟩
    exact ⟨rfl, q, rfl, hq⟩
  case ok =>
    have hr : powK last wrong a st1 = r := Option.some.inj hr
    replace hr := Lib.hid hr
    go_enter Tryz.func77, Tryz.ntmps77
    go_wp2_with fail
    refine c1.out.mono ?_
    rintro en w1 ⟨rfl, h1, hB1, ha, hN⟩
    have b2 : w1.cell? ⟨p, 2, none⟩ = some (.string (mkS st1.tx)) := h1.token
    have b1 : w1.cell? ⟨p, 1, none⟩ = some (.int .i64 (st1.pl last : Int)) := h1.from_
    have i1 := mkS_is h1.byt [94] (by unfold Byt; simp)
    obtain ⟨tk, htk⟩ : ∃ q, q = mkS st1.tx := ⟨_, rfl⟩
    obtain ⟨pl0, hpl0⟩ : ∃ q, q = st1.pl last := ⟨_, rfl⟩
    rw [← htk] at b2 i1
    rw [← hpl0] at b1
    replace htk := Lib.hid htk
    replace hpl0 := Lib.hid hpl0
    replace h1 := Lib.hid h1
    replace hB1 := Lib.hid hB1
    replace ha := Lib.hid ha
    replace hN := Lib.hid hN
    clear c1
    by_cases hx : st1.tx = [94]
    case neg =>
      have i1' : ¬ tk.toList = [94] := fun e => hx (i1.1 e)
      have k1' : (tk.toList == [94]) = false := beq_eq_false_iff_ne.2 i1'
      have hrr : r = .ok a st1 := by rw [← hr.out, powK, if_neg hx]
      subst hrr
      clear hr i1 hx
      go_wp2_with fail
      go_ret
      exact ⟨rfl, h1.out, hB1.out, ha.out, hN.out⟩
    case pos =>
      have i1' : tk.toList = [94] := i1.2 hx
      have hT1 := tx_T (st := st1) (by rw [hx]; simp)
      have cO := Lib.hid (onS h1.out hT1)
      have hr2 := hr.out
      rw [powK, if_pos hx] at hr2
      have hon : Hid (st1.on.N = st1.N ∧ st1.on.hi a = st1.hi a) := Lib.hid ⟨rfl, rfl⟩
      replace hr := Lib.hid hr2
      clear hr2 i1 hx hT1
      go_wp2_with fail
      refine cO.out.mono ?_
      rintro en w2 ⟨rfl, h2, hB2⟩
      obtain ⟨st2, hst2⟩ : ∃ q, q = st1.on := ⟨_, rfl⟩
      rw [← hst2] at h2 hon
      have hr2 := hr.out
      rw [← hst2] at hr2
      have e2 : w2.cell? ⟨p, 2, none⟩ = some (.string (mkS st2.tx)) := h2.token
      have e1 : w2.cell? ⟨p, 1, none⟩ = some (.int .i64 (st2.pl last : Int)) := h2.from_
      obtain ⟨pl2, hpl2⟩ : ∃ q, q = st2.pl last := ⟨_, rfl⟩
      obtain ⟨tk2, htk2⟩ : ∃ q, q = mkS st2.tx := ⟨_, rfl⟩
      have hbyt := Lib.hid h2.byt
      have hlen := Lib.hid h2.errs.2.2
      rw [← htk2] at e2
      rw [← hpl2] at e1
      replace hst2 := Lib.hid hst2
      replace hpl2 := Lib.hid hpl2
      replace htk2 := Lib.hid htk2
      replace h2 := Lib.hid h2
      replace hB2 := Lib.hid (hB1.out.trans hB2)
      clear cO hB1 h1 b1 b2 i1' hr
      go_upto_region 6 with fail
      rcases hy : st2.tx with _ | ⟨b, l⟩
      case nil =>
        have htk3 : tk2 = ⟨#[]⟩ := by rw [htk2.out, hy]; rfl
        have hnn : ¬ isNum st2.tx = true := by rw [hy]; decide
        rw [if_neg hnn] at hr2
        have cU := Lib.hid (fun a c => unwS (α := Nat) (a := a) (c := c) h2.out)
        subst htk3
        rcases hu : (unwP last wrong st2 : PR Nat) with ⟨v, st3⟩ | ⟨x, y⟩
        case ok => exact (unwP_ok hu).elim
        case no =>
          have cUU := Lib.hid (cU.out x y hu)
          have hrr : r = .no x y := by rw [← hr2]; exact hu
          subst hrr
          clear hy hnn cU hu hr2
          go_wp2_with fail
          refine cUU.out.mono ?_
          rintro en w3 hqq
          obtain ⟨q, rfl, h9⟩ := PanF.pre hqq hB2.out
          exact ⟨rfl, q, rfl, h9⟩
      case cons =>
        have hsz : 0 < tk2.size := by rw [htk2.out, mkS_size, hy]; simp
        have hcx : (((tk2[0]'hsz).toNat : Nat) : Int) = (b : Int) := by
          have q1 := sl_get tk2 0 hsz
          have q3 : sl tk2 = b :: l := by rw [htk2.out, hy]; exact sl_mk _ (by rw [← hy]; exact hbyt.out)
          rw [q3] at q1
          have q2 : b = tk2[0].toNat := Option.some.inj q1
          rw [← q2]
        have hszI : (0 : Int) < (tk2.size : Int) := by omega
        have e0 : ¬ tk2.toList = [] := fun e => by
          have q1 : tk2.data.toList = [] := by rw [← ByteArray.toList_eq]; exact e
          have q2 : tk2.size = 0 := by
            have := congrArg List.length q1
            simpa using this
          omega
        have e00 : tk2.toList.isEmpty = false := by simpa using e0
        have hnum : isNum st2.tx = digB b := by rw [hy]; rfl
        have cD := fun W => digit_any b W
        rw [hnum] at hr2
        have hy2 := Lib.hid (show isNum st2.tx = digB b from hnum)
        have hT2 := Lib.hid (tx_T (st := st2) (by rw [hy]; simp))
        clear hy hnum
        by_cases hdb : digB b = true
        case neg =>
          rw [if_neg hdb] at hr2
          have hdb2 : digB b = false := by simpa using hdb
          rw [hdb2] at cD
          have cU := Lib.hid (fun a c => unwS (α := Nat) (a := a) (c := c) h2.out)
          replace cD := Lib.hid cD
          rcases hu : (unwP last wrong st2 : PR Nat) with ⟨v, st3⟩ | ⟨x, y⟩
          case ok => exact (unwP_ok hu).elim
          case no =>
            have cUU := Lib.hid (cU.out x y hu)
            have hrr : r = .no x y := by rw [← hr2]; exact hu
            subst hrr
            clear cU hu hdb hdb2 hr2
            go_wp2_with fail
            refine (cD.out _).mono ?_
            rintro en w3 ⟨rfl, hw⟩
            obtain rfl := hw.symm
            clear hw cD
            go_wp2_with fail
            refine cUU.out.mono ?_
            rintro en w3 hqq
            obtain ⟨q, rfl, h9⟩ := PanF.pre hqq hB2.out
            exact ⟨rfl, q, rfl, h9⟩
        case pos =>
          rw [if_pos hdb] at hr2
          rw [hdb] at cD hy2
          replace cD := Lib.hid cD
          have cA := atoi_any hbyt.out hlen.out h2.out.errs.1 h2.out.errs.2.1
          rw [← htk2.out] at cA
          replace cA := Lib.hid cA
          replace hr2 := Lib.hid hr2
          clear hdb
          go_wp2_with fail
          refine (cD.out _).mono ?_
          rintro en w3 ⟨rfl, hw⟩
          obtain rfl := hw.symm
          clear hw cD
          go_wp2_with fail
          refine cA.out.mono ?_
          rintro en w4 ⟨hb4, v, er, rfl, hcase⟩
          replace hB2 := Lib.hid (hB2.out.trans (hb4.mono h2.out.lt.2))
          replace h2 := Lib.hid (h2.out.below hb4)
          clear cA hb4 e2 e1
          have q2 : ∀ d os, (grow (redrawn w4 d) os).cell? ⟨p, 2, none⟩ = some (.string tk2) := cell_regrown (by rw [htk2.out]; exact h2.out.token)
          rcases hcase with ⟨hok, rfl⟩ | ⟨hno, q0, rfl⟩
          case inr =>
            have hw : wholeT st2.tx = none := by
              rcases hw : wholeT st2.tx with _ | n
              · rfl
              · obtain ⟨k1, k2⟩ := digL_whole hw
                exact absurd (by rw [k1]; exact atoi_digL k2) (hno n)
            have hrr : r = .no pl2 113 := by
              have e := hr2.out
              rw [hw] at e
              rw [← e, hpl2.out]
            subst hrr
            clear hr2 hno hw
            go_upto_region 9 with fail
            refine wp_region_quiet_below (by kernel_rfl) (by kernel_rfl) ?_
            iterate 3 (quiet_step (fail))
            iterate 2 (generalize haa : Act.mk _ _ = aa; refine wpQuiet_skip ?_ ?_; (· subst haa; simp [Region.wanted, yielded]); subst haa; intro Kq hKq; go_simp; refine hKq _ ?_; clear hKq Kq)
            iterate 2 (quiet_step (fail))
            iterate 7 (generalize haa : Act.mk _ _ = aa; refine wpQuiet_skip ?_ ?_; (· subst haa; simp [Region.wanted, yielded]); subst haa; intro Kq hKq; go_simp; refine hKq _ ?_; clear hKq Kq)
            iterate 1 (quiet_step (fail))
            refine wpQuiet_nil ?_
            intro w5 hw'
            have hE : Below w4.heap.size w4 w5 := by
              obtain ⟨q, rfl⟩ := hw'
              exact below_regrown w4 q.d q.os
            clear hw'
            have e1 : w5.cell? ⟨p, 1, none⟩ = some (.int .i64 (pl2 : Int)) := by rw [hpl2.out]; exact (h2.out.below hE).from_
            have cG := Lib.hid (giveUp_any B pl2 113 w5 (h2.out.below hE).lt.2)
            replace hB2 := Lib.hid (hB2.out.trans (hE.mono h2.out.lt.2))
            clear hE
            go_wp2_with fail
            refine cG.out.mono ?_
            rintro en w6 hqq
            obtain ⟨q, rfl, h9⟩ := PanF.pre hqq hB2.out
            exact ⟨rfl, q, rfl, h9⟩
          case inl =>
            have hv0 := atoi_pos hbyt.out hy2.out hok
            by_cases hv64 : 64 < v
            case pos =>
              have hw : wholeT st2.tx = none := by
                rcases hw : wholeT st2.tx with _ | n
                · rfl
                · obtain ⟨k1, k2⟩ := digL_whole hw
                  rw [k1, atoi_digL k2] at hok
                  injection hok with hok
                  omega
              have hrr : r = .no pl2 113 := by
                have e := hr2.out
                rw [hw] at e
                rw [← e, hpl2.out]
              subst hrr
              clear hr2 hok hw hv0
              go_upto_region 9 with fail
              refine wp_region_quiet_below (by kernel_rfl) (by kernel_rfl) ?_
              iterate 7 (quiet_step (fail))
              iterate 7 (generalize haa : Act.mk _ _ = aa; refine wpQuiet_skip ?_ ?_; (· subst haa; simp [Region.wanted, yielded]); subst haa; intro Kq hKq; go_simp; refine hKq _ ?_; clear hKq Kq)
              iterate 1 (quiet_step (fail))
              refine wpQuiet_nil ?_
              intro w5 hw'
              have hE : Below w4.heap.size w4 w5 := by
                obtain ⟨q, rfl⟩ := hw'
                exact below_regrown w4 q.d q.os
              clear hw'
              have e1 : w5.cell? ⟨p, 1, none⟩ = some (.int .i64 (pl2 : Int)) := by rw [hpl2.out]; exact (h2.out.below hE).from_
              have cG := Lib.hid (giveUp_any B pl2 113 w5 (h2.out.below hE).lt.2)
              replace hB2 := Lib.hid (hB2.out.trans (hE.mono h2.out.lt.2))
              clear hE
              go_wp2_with fail
              refine cG.out.mono ?_
              rintro en w6 hqq
              obtain ⟨q, rfl, h9⟩ := PanF.pre hqq hB2.out
              exact ⟨rfl, q, rfl, h9⟩
            case neg =>
              obtain ⟨n, rfl⟩ : ∃ n : Nat, v = (n : Int) := ⟨v.toNat, by omega⟩
              have hn : n ≤ 64 := by omega
              have cI : ∀ d os, Calls Tryz.prog 70 #[.int .i64 (n : Int)] (grow (redrawn w4 d) os) fun e w'' => e = .returned (.string (mkS (digL n))) ∧ ∃ p : Regrown, w'' = grow (redrawn w4 p.d) p.os := fun d os => (Tryz.strconv_Itoa_small n (by omega) _).mono (fun e w'' h => ⟨by rw [h.1, dec_digL (by omega)]; rfl, ⟨d, os⟩, h.2⟩)
              have hcmp : ((mkS (digL n)).toList == tk2.toList) = decide (digL n = st2.tx) := by rw [htk2.out]; exact mkS_beq (byt_digL (by omega)) hbyt.out
              by_cases hd : digL n = st2.tx
              case neg =>
                rw [decide_eq_false hd] at hcmp
                have hw : wholeT st2.tx = none := by
                  rcases hw : wholeT st2.tx with _ | m
                  · rfl
                  · obtain ⟨k1, k2⟩ := digL_whole hw
                    rw [k1, atoi_digL k2] at hok
                    injection hok with hok
                    exact absurd (by rw [k1]; congr 1; omega) hd
                have hrr : r = .no pl2 113 := by
                  have e := hr2.out
                  rw [hw] at e
                  rw [← e, hpl2.out]
                subst hrr
                clear hr2 hok hw hv0 hd
                go_upto_region 9 with fail
                refine wp_region_quiet_below (by kernel_rfl) (by kernel_rfl) ?_
                iterate 8 (quiet_step (fail))
                quiet_step (exact cI _ _)
                iterate 6 (quiet_step (fail))
                refine wpQuiet_nil ?_
                intro w5 hw'
                have hE : Below w4.heap.size w4 w5 := by
                  obtain ⟨q, rfl⟩ := hw'
                  exact below_regrown w4 q.d q.os
                clear hw'
                have e1 : w5.cell? ⟨p, 1, none⟩ = some (.int .i64 (pl2 : Int)) := by rw [hpl2.out]; exact (h2.out.below hE).from_
                have cG := Lib.hid (giveUp_any B pl2 113 w5 (h2.out.below hE).lt.2)
                replace hB2 := Lib.hid (hB2.out.trans (hE.mono h2.out.lt.2))
                clear hE
                go_wp2_with fail
                refine cG.out.mono ?_
                rintro en w6 hqq
                obtain ⟨q, rfl, h9⟩ := PanF.pre hqq hB2.out
                exact ⟨rfl, q, rfl, h9⟩
              case pos =>
                rw [decide_eq_true hd] at hcmp
                have hw : wholeT st2.tx = some n := by rw [← hd]; exact whole_digL hn
                have hr3 := hr2.out
                rw [hw] at hr3
                replace hd := Lib.hid hd
                clear hr2 hok hw hv0
                go_upto_region 9 with fail
                refine wp_region_quiet_below (by kernel_rfl) (by kernel_rfl) ?_
                iterate 8 (quiet_step (fail))
                quiet_step (exact cI _ _)
                iterate 6 (quiet_step (fail))
                refine wpQuiet_nil ?_
                intro w5 hw'
                have hE : Below w4.heap.size w4 w5 := by
                  obtain ⟨q, rfl⟩ := hw'
                  exact below_regrown w4 q.d q.os
                clear hw' q2 cI
                have cO := Lib.hid (onS (h2.out.below hE) hT2.out)
                replace hB2 := Lib.hid (hB2.out.trans (hE.mono h2.out.lt.2))
                clear hE h2 hcmp
                go_wp2_with fail
                refine cO.out.mono ?_
                rintro en w6 ⟨rfl, h6, hB6⟩
                have hhi : st2.on.hi a = st1.hi a := hon.out.2
                have hNN : st2.on.N.length = st1.N.length := by show st2.N.length = _; rw [hon.out.1]
                have c2 := one_rd ⟨10, [], a, 0, n⟩ pl0 h6 (by rw [hNN]; exact ha.out)
                have hrr : addP ⟨10, [], a, 0, n⟩ (1 + st2.on.hi a) pl0 st2.on = r := by rw [hhi, hpl0.out]; exact hr3
                rw [hrr] at c2
                have e0 : mkS [] = (⟨#[]⟩ : ByteArray) := rfl
                rw [e0] at c2
                replace c2 := Lib.hid c2
                replace hB6 := Lib.hid (hB2.out.trans hB6)
                replace hNN := Lib.hid hNN
                clear h6 cO hB2 hr3 hrr hhi e0
                go_wp2_with fail
                refine c2.out.mono ?_
                rintro en w7 hp7
                replace hp7 := hp7.pre hB6.out
                rcases r with ⟨v, st'⟩ | ⟨x, y⟩
                · obtain ⟨rfl, k1, k2, k3, k4⟩ := hp7
                  replace k1 := Lib.hid k1
                  replace k2 := Lib.hid k2
                  go_wp2_with fail
                  go_ret
                  exact ⟨rfl, k1.out, k2.out, k3, Nat.le_trans hN.out (by rw [← hNN.out]; exact k4)⟩
                · obtain ⟨q, rfl, h9⟩ := hp7
                  exact ⟨rfl, q, rfl, h9⟩
end
end Go.Proofs.YtnaadajcehfmiaaGreatDoor
