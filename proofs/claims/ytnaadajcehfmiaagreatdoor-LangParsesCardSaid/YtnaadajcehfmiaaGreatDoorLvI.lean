/- filigreeref11: behind a fault; power. -/
import Derived.Test.YtnaadajcehfmiaaGreatDoorLvH
namespace Go.Proofs.YtnaadajcehfmiaaGreatDoor
open Go.RowKit Go.Sort Go.Maps

/-- A method that reads a part. -/
def PartV (fn : FuncId) (T0 : List Tok) (last : Nat) (wrong : Bool) (B p o : Nat) (f : PF) : Prop :=
  ∀ (X : List It) (st : PS) (w : World) (r : PR Nat), RvS T0 last wrong B p X o st w → f st = some r → Calls Tryz.prog fn #[.pointer (some ⟨p, 0, none⟩)] w (PostV T0 last wrong B p X o st w r)
/-- What is known of the brackets within. -/
def InnV (T0 : List Tok) (last : Nat) (wrong : Bool) (B p o : Nat) (inner : Option PF) : Prop :=
  match inner with
  | none => o = 64
  | some f => o < 64 ∧ PartV 15 T0 last wrong B p (o + 1) f
section
variable {T0 : List Tok} {last : Nat} {wrong : Bool} {B p i : Nat} {X : List It} {o : Int} {oN : Nat} {N : List Nod} {H : List Nat} {U : List (List Nat × Nat)} {wh cd : Nat} {st : PS} {w w' : World}
theorem num_head {t : List Nat} (ht : Byt t) (hne : t ≠ []) : ∃ (hz : 0 < (mkS t).size) (b : Nat), ((((mkS t)[0]'hz).toNat : Nat) : Int) = (b : Int) ∧ isNum t = digB b := by
  rcases t with _ | ⟨b, l⟩
  · exact absurd rfl hne
  · have hsz : 0 < (mkS (b :: l)).size := by rw [mkS_size]; simp
    refine ⟨hsz, b, ?_, rfl⟩
    have h1 := sl_get (mkS (b :: l)) 0 hsz
    have h3 : sl (mkS (b :: l)) = b :: l := sl_mk _ ht
    rw [h3] at h1
    have h2 : b = (mkS (b :: l))[0].toNat := Option.some.inj h1
    rw [← h2]
theorem str_empty {t : List Nat} (hne : t ≠ []) : ¬ (mkS t).toList = [] ∧ (mkS t).toList.isEmpty = false := by
  have h : ¬ (mkS t).toList = [] := fun e => by
    have h1 : (mkS t).data.toList = [] := by rw [← ByteArray.toList_eq]; exact e
    have h2 : (mkS t).size = 0 := by
      have := congrArg List.length h1
      simpa using this
    rw [mkS_size] at h2
    exact hne (List.length_eq_zero_iff.1 h2)
  exact ⟨h, by simpa using h⟩
theorem num_head' {t : List Nat} {tk : ByteArray} (e : tk = mkS t) (ht : Byt t) (hne : t ≠ []) : ∃ (hz : 0 < tk.size) (b : Nat), (((tk[0]'hz).toNat : Nat) : Int) = (b : Int) ∧ isNum t = digB b := by
  subst e; exact num_head ht hne
theorem str_empty' {t : List Nat} {tk : ByteArray} (e : tk = mkS t) (hne : t ≠ []) : ¬ tk.toList = [] ∧ tk.toList.isEmpty = false := by
  subst e; exact str_empty hne
set_option maxRecDepth 100000 in
set_option maxHeartbeats 8000000 in
/-- power -/
theorem rvPower {f : PF} (hT : TkOk T0 last) (hL : KeepL f) (hat : PartV 79 T0 last wrong B p oN f) : PartV 68 T0 last wrong B p oN (fun st => match f st with | none => none | some (.no x y) => some (.no x y) | some (.ok a st1) => some (powK last wrong a st1)) := by
  intro X st w r h hr
  obtain ⟨r1, hr1⟩ : ∃ r1, f st = some r1 := by
    rcases hf : f st with _ | r1
    · simp only [hf] at hr; cases hr
    · exact ⟨r1, rfl⟩
  simp only [hr1] at hr
  have cA := Lib.hid (hat X st w r1 h hr1)
  have hLL := Lib.hid (fun a st1 (e : r1 = .ok a st1) => hL st a st1 (by rw [hr1, e]))
  replace hr1 := Lib.hid hr1
  clear hat h hL
  have hTl := Lib.hid hT
  rcases r1 with ⟨a, st1⟩ | ⟨x, y⟩
  case no =>
    have hrr : r = .no x y := (Option.some.inj hr).symm
    subst hrr
    clear hr
    go_enter Tryz.func68, Tryz.ntmps68
    go_wp2_with fail
    refine cA.out.mono ?_
    rintro en w1 ⟨⟨z, rfl⟩, ⟨o1, i1, N1, H1, hM⟩, hB1, hy⟩
    obtain ⟨c9, -⟩ := hM.cell_cd
    have hcI : ((y : Int) == 0) = false := k_ne (b := 0) hy
    replace hM := Lib.hid hM
    replace hB1 := Lib.hid hB1
    replace hy := Lib.hid hy
    go_wp2_with fail
    go_ret
    exact ⟨⟨_, rfl⟩, ⟨_, _, _, _, hM.out⟩, hB1.out, hy.out⟩
  case ok =>
    have hrr : r = powK last wrong a st1 := (Option.some.inj hr).symm
    clear hr
    replace hrr := Lib.hid hrr
    go_enter Tryz.func68, Tryz.ntmps68
    go_wp2_with fail
    refine cA.out.mono ?_
    rintro en w1 ⟨rfl, ⟨i, hm, hk⟩, hB1, ha, hN⟩
    obtain ⟨c9, -⟩ := hm.cell_cd
    rw [show ((0 : Nat) : Int) = 0 from rfl] at c9
    have cT := Lib.hid (rvText hTl.out.tl hm)
    have hil := hk.il
    have hT9 := hTl.out.tl
    have hBs := Lib.hid hm.lt.2.1
    replace hB1 := Lib.hid hB1
    replace hN := Lib.hid hN
    have hM1 := Lib.hid (fun (W : World) (hb : Below w1.heap.size w1 W) => hm.below hb)
    have htx := hk.tx
    have hbt := (hTl.out.byt i).1
    have hmi := mkS_is hbt [94] (by unfold Byt; simp)
    replace hm := Lib.hid hm
    clear cA
    by_cases h94 : st1.tx = [94]
    case neg =>
      have hpw : powK last wrong a st1 = .ok a st1 := by unfold powK; rw [if_neg h94]
      have hrr2 : r = .ok a st1 := hrr.out.trans hpw
      subst hrr2
      have e94 : ¬ (mkS (txA T0 i)).toList = [94] := fun e => h94 (by rw [htx]; exact hmi.1 e)
      obtain ⟨tk, htk⟩ : ∃ k, k = mkS (txA T0 i) := ⟨_, rfl⟩
      rw [← htk] at e94 cT
      have k94 : (tk.toList == [94]) = false := beq_eq_false_iff_ne.2 e94
      replace htk := Lib.hid htk
      replace hk := Lib.hid hk
      replace ha := Lib.hid ha
      clear h94 hpw hmi htx hbt
      go_wp2_with fail
      refine cT.out.mono ?_
      rintro en w2 ⟨rfl, hdr⟩
      have hb2 := Lib.hid (hdr.below w1.heap.size)
      clear hdr
      go_wp2_with fail
      go_ret
      exact ⟨rfl, ⟨i, hM1.out _ hb2.out, hk.out⟩, hB1.out.trans (hb2.out.mono hBs.out), ha.out, hN.out⟩
    case pos =>
      have e94 : (mkS (txA T0 i)).toList = [94] := hmi.2 (by rw [← htx]; exact h94)
      obtain ⟨tk, htk⟩ : ∃ k, k = mkS (txA T0 i) := ⟨_, rfl⟩
      rw [← htk] at e94 cT
      have k94 : (tk.toList == [94]) = true := by rw [e94]; rfl
      replace htk := Lib.hid htk
      have hne1 := hk.ne (by rw [h94]; simp)
      have hpl := hk.pl (last := last)
      have hk1 := hk.on hne1
      have htx1 := hk1.tx
      have cP := Lib.hid (fun (W : World) (hb : Below w1.heap.size w1 W) => rvPlace hTl.out.tl (hM1.out W hb))
      obtain ⟨pl, hpl2⟩ : ∃ q, q = plA T0 last i := ⟨_, rfl⟩
      rw [← hpl2] at cP hpl
      replace hpl2 := Lib.hid hpl2
      have hw1 : wrap64 ((i : Int) + 1) = (i : Int) + 1 := w64_in _ (by omega)
      have hrw : Hid (r = (if isNum st1.on.tx = true then (match wholeT st1.on.tx with | none => .no (st1.on.pl last) 113 | some n => addP ⟨10, [], a, 0, n⟩ (1 + st1.hi a) pl st1.on.on) else unwP last wrong st1.on)) := Lib.hid (by rw [hrr.out, powK, if_pos h94, hpl]; rfl)
      have h94H := Lib.hid h94
      replace hk := Lib.hid hk
      replace ha := Lib.hid ha
      clear hmi htx hbt h94 hpl
      go_wp2_with fail
      refine cT.out.mono ?_
      rintro en w2 ⟨rfl, hdr⟩
      have hb2 := Lib.hid (hdr.below w1.heap.size)
      clear hdr
      go_wp2_with fail
      refine (cP.out _ hb2.out).mono ?_
      rintro en w3 ⟨rfl, hdr⟩
      have hb3 := Lib.hid (hb2.out.trans (hdr.below _))
      clear hdr cP hb2 cT
      have hm3 := hM1.out _ hb3.out
      have hB3 := Lib.hid (hB1.out.trans (hb3.out.mono hBs.out))
      obtain ⟨c3, f3⟩ := hm3.cell_i
      have hm4 := Lib.hid (hm3.set_i (i + 1))
      have hB4 := Lib.hid (hB3.out.trans (hm3.setB 3 (.int .i64 ((i + 1 : Nat) : Int))))
      clear hm3 hb3 c9 e94 k94
      go_wp2_with fail
      have hgW : ∀ W : World, W = w3.setCell ⟨p, 3, none⟩ (.int .i64 ((i + 1 : Nat) : Int)) → True := fun _ _ => trivial
      clear hgW
      rw [show (i : Int) + 1 = ((i + 1 : Nat) : Int) from rfl] at hw1 ⊢
      generalize w3.setCell ⟨p, 3, none⟩ (.int .i64 ((i + 1 : Nat) : Int)) = w4 at hm4 hB4 ⊢
      have cT4 := Lib.hid (rvText hTl.out.tl hm4.out)
      have hBs4 := Lib.hid hm4.out.lt.2.1
      have hM4 := Lib.hid (fun (W : World) (hb : Below w4.heap.size w4 W) => hm4.out.below hb)
      have hbt := (hTl.out.byt (i + 1)).1
      have hbl := (hTl.out.byt (i + 1)).2
      obtain ⟨t1, ht1⟩ : ∃ t, t = txA T0 (i + 1) := ⟨_, rfl⟩
      rw [← ht1] at cT4 hbt hbl htx1
      rw [htx1] at hrw
      clear c3 f3 hw1
      refine cT4.out.mono ?_
      rintro en w5 ⟨rfl, hdr⟩
      have hb5 := Lib.hid (hdr.below w4.heap.size)
      clear hdr cT4
      replace hk1 := Lib.hid hk1
      replace ht1 := Lib.hid ht1
      have hk1 := hk1.out
      by_cases hte : t1 = []
      case pos =>
        have hnm : isNum t1 = false := by rw [hte]; rfl
        obtain ⟨x, y, hu⟩ : ∃ x y, (unwP last wrong st1.on : PR Nat) = .no x y := by
          rcases hu : (unwP last wrong st1.on : PR Nat) with ⟨v, st2⟩ | ⟨x, y⟩
          · exact (unwP_ok hu).elim
          · exact ⟨x, y, rfl⟩
        have hrx : r = .no x y := by rw [hrw.out, if_neg (by rw [hnm]; exact Bool.false_ne_true), hu]
        subst hrx
        have cU := Lib.hid (rvWant (st := st1.on) hTl.out (hM4.out _ hb5.out) hk1 hu)
        have hhb := Lib.hid (hB4.out.trans (hb5.out.mono hBs4.out))
        replace hu := Lib.hid hu
        replace hnm := Lib.hid hnm
        clear hrw
        rw [hte, show mkS [] = (⟨#[]⟩ : ByteArray) from rfl]
        replace hte := Lib.hid hte
        replace hk1 := Lib.hid hk1
        go_wp2_with fail
        refine cU.out.mono ?_
        rintro en w6 ⟨rfl, hF6, hB6, hy⟩
        replace hF6 := Lib.hid hF6
        replace hB6 := Lib.hid (hhb.out.trans hB6)
        replace hy := Lib.hid hy
        go_wp2_with fail
        go_ret
        exact ⟨⟨_, rfl⟩, by rw [← hLL.out _ _ rfl]; exact hF6.out, hB6.out, hy.out⟩
      have hwt := Lib.hid (fun W => rvWhole t1 hbt hbl W)
      obtain ⟨tk1, htk1⟩ : ∃ k, k = mkS t1 := ⟨_, rfl⟩
      obtain ⟨hz, b, hbx, hnb⟩ := num_head' htk1 hbt hte
      obtain ⟨e0, e00⟩ := str_empty' htk1 hte
      have hzI : (0 : Int) < (tk1.size : Int) := by omega
      simp only [← htk1] at hwt ⊢
      replace htk1 := Lib.hid htk1
      by_cases hnm : isNum t1 = true
      case neg =>
        have hnm : isNum t1 = false := by simpa using hnm
        have hdg : Hid (digB b = false) := Lib.hid (by rw [← hnb]; exact hnm)
        obtain ⟨x, y, hu⟩ : ∃ x y, (unwP last wrong st1.on : PR Nat) = .no x y := by
          rcases hu : (unwP last wrong st1.on : PR Nat) with ⟨v, st2⟩ | ⟨x, y⟩
          · exact (unwP_ok hu).elim
          · exact ⟨x, y, rfl⟩
        have hrx : r = .no x y := by rw [hrw.out, if_neg (by rw [hnm]; exact Bool.false_ne_true), hu]
        subst hrx
        have cU := Lib.hid (rvWant (st := st1.on) hTl.out (hM4.out _ hb5.out) hk1 hu)
        have hhb := Lib.hid (hB4.out.trans (hb5.out.mono hBs4.out))
        replace hu := Lib.hid hu
        replace hnm := Lib.hid hnm
        clear hrw
        replace hnb := Lib.hid hnb
        replace hk1 := Lib.hid hk1
        go_wp2_with fail
        refine (rdigit_any _ _).mono ?_
        rintro en wq ⟨rfl, rfl⟩
        rw [hdg.out]
        go_wp2_with fail
        refine cU.out.mono ?_
        rintro en w6 ⟨rfl, hF6, hB6, hy⟩
        replace hF6 := Lib.hid hF6
        replace hB6 := Lib.hid (hhb.out.trans hB6)
        replace hy := Lib.hid hy
        go_wp2_with fail
        go_ret
        exact ⟨⟨_, rfl⟩, by rw [← hLL.out _ _ rfl]; exact hF6.out, hB6.out, hy.out⟩
      case pos =>
        have hdg : Hid (digB b = true) := Lib.hid (by rw [← hnb]; exact hnm)
        have hrw2 := hrw.out
        rw [if_pos hnm] at hrw2
        have hne2 := hk1.ne (by rw [htx1]; exact hte)
        replace hnm := Lib.hid hnm
        replace hnb := Lib.hid hnb
        replace hte := Lib.hid hte
        clear hrw
        rcases hwo : wholeT t1 with _ | n
        case none =>
          rw [hwo] at hrw2 hwt
          have hpl1 := hk1.pl (last := last)
          have hrx : r = .no (plA T0 last (i + 1)) 113 := by rw [← hpl1]; exact hrw2
          have cP5 := Lib.hid (rvPlace hTl.out.tl (hM4.out _ hb5.out))
          have cF5 := Lib.hid (fun (W : World) (hb : Below w4.heap.size w4 W) => rvFault (plA T0 last (i + 1)) 113 (hM4.out W hb))
          obtain ⟨q1, hq1⟩ : ∃ q, q = plA T0 last (i + 1) := ⟨_, rfl⟩
          rw [← hq1] at cP5 cF5 hrx
          subst hrx
          replace hq1 := Lib.hid hq1
          replace hk1 := Lib.hid hk1
          replace hwo := Lib.hid hwo
          clear hrw2 hpl1 hne2
          rw [show optI none = -1 from rfl] at hwt
          go_wp2_with fail
          refine (rdigit_any _ _).mono ?_
          rintro en wq ⟨rfl, rfl⟩
          rw [hdg.out]
          go_wp2_with fail
          refine (hwt.out _).mono ?_
          rintro en wq2 ⟨rfl, rfl⟩
          go_wp2_with fail
          refine cP5.out.mono ?_
          rintro en w6 ⟨rfl, hdr⟩
          have hb6 := Lib.hid (hb5.out.trans (hdr.below _))
          clear hdr
          go_wp2_with fail
          refine (cF5.out _ hb6.out).mono ?_
          rintro en w7 ⟨rfl, h7, hB7⟩
          replace h7 := Lib.hid h7
          replace hB7 := Lib.hid ((hB4.out.trans (hb6.out.mono hBs4.out)).trans hB7)
          go_wp2_with fail
          go_ret
          exact ⟨⟨_, rfl⟩, by rw [← hLL.out _ _ rfl]; exact ⟨_, _, _, _, h7.out⟩, hB7.out, by decide⟩
        case some =>
          rw [hwo] at hrw2 hwt
          have hrx : r = addP ⟨10, [], a, 0, n⟩ (1 + st1.hi a) pl st1.on.on := hrw2
          have hk2 := hk1.on hne2
          have hil2 := hk2.il
          have hw1 : wrap64 (((i + 1 : Nat) : Int) + 1) = ((i + 1 : Nat) : Int) + 1 := w64_in _ (by omega)
          have hm5 := hM4.out _ hb5.out
          obtain ⟨c3, f3⟩ := hm5.cell_i
          have hm6 := Lib.hid (hm5.set_i (i + 1 + 1))
          have hB6 := Lib.hid ((hB4.out.trans (hb5.out.mono hBs4.out)).trans (hm5.setB 3 (.int .i64 ((i + 1 + 1 : Nat) : Int))))
          replace hk1 := Lib.hid hk1
          replace hwo := Lib.hid hwo
          clear hrw2 hne2 hm5
          rw [show optI (some n) = (n : Int) from rfl] at hwt
          have hnI : ¬ (n : Int) < 0 := by omega
          go_wp2_with fail
          refine (rdigit_any _ _).mono ?_
          rintro en wq ⟨rfl, rfl⟩
          rw [hdg.out]
          go_wp2_with fail
          refine (hwt.out _).mono ?_
          rintro en wq2 ⟨rfl, rfl⟩
          go_upto_region 15 with fail
          first
            | rw [show (i : Int) + 1 + 1 = ((i + 1 + 1 : Nat) : Int) from rfl]
            | skip
          generalize wq2.setCell ⟨p, 3, none⟩ (.int .i64 ((i + 1 + 1 : Nat) : Int)) = w6 at hm6 hB6 ⊢
          clear c3 f3 hw1
          obtain ⟨g, c, c6, hc, h64⟩ := RvM.high (st := st1.on.on) hm6.out hk2 (show a < st1.on.on.N.length from ha.out)
          have cM := Lib.hid (rvMade ⟨10, [], a, 0, n⟩ (1 + st1.hi a) pl hTl.out (show RvS T0 last wrong B p X oN st1.on.on w6 from ⟨_, hm6.out, hk2⟩) (by have := h64 a; have e : st1.on.on.hi a = st1.hi a := rfl; omega))
          rw [← hrx] at cM
          have e1 := hc a ha.out
          have k1 := h64 a
          have hN9 := hk2.max
          obtain ⟨N0, hN0⟩ : ∃ k, k = st1.on.on.N.length := ⟨_, rfl⟩
          have haN : a < N0 := by rw [hN0]; exact ha.out
          rw [← hN0] at c6 hN9
          obtain ⟨x1, hx1⟩ : ∃ k, k = st1.hi a := ⟨_, rfl⟩
          rw [show st1.on.on.hi a = st1.hi a from rfl, ← hx1] at e1 k1
          rw [← hx1] at cM
          have hwx : IntKind.i64.wrap (1 + (x1 : Int)) = ((1 + x1 : Nat) : Int) := by rw [IntKind.wrap_i64]; omega
          have hnaI : (a : Int) < (N0 : Int) := by omega
          replace hN0 := Lib.hid hN0
          replace hx1 := Lib.hid hx1
          replace hrx := Lib.hid hrx
          replace hk2 := Lib.hid hk2
          clear hc h64 k1 haN
          go_wp2_with fail
          refine cM.out.mono ?_
          rintro en w7 hp
          obtain ⟨z, rfl⟩ := hp.end_
          replace hp := Lib.hid (PostV.pre hp hB6.out)
          go_wp2_with fail
          go_ret
          have hp := hp.out
          rcases r with ⟨v, st'⟩ | ⟨x, y⟩
          · obtain ⟨h1, h2, h3, h4, h5⟩ := hp
            exact ⟨h1, h2, h3, h4, Nat.le_trans hN.out h5⟩
          · obtain ⟨h1, h2, h3, h4⟩ := hp
            exact ⟨h1, by rw [← hLL.out _ _ rfl]; exact h2, h3, h4⟩
end
end Go.Proofs.YtnaadajcehfmiaaGreatDoor
