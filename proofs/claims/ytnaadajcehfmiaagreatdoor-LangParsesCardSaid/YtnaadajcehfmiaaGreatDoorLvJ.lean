/- filigreeref11: atom. -/
import Derived.Test.YtnaadajcehfmiaaGreatDoorLvI
namespace Go.Proofs.YtnaadajcehfmiaaGreatDoor
open Go.RowKit Go.Sort Go.Maps

section
variable {T0 : List Tok} {last : Nat} {wrong : Bool} {B p i : Nat} {X : List It} {o : Int} {oN : Nat} {N : List Nod} {H : List Nat} {U : List (List Nat × Nat)} {wh cd : Nat} {st : PS} {w w' : World}
theorem PostV.pop {a : It} {r : PR Nat} {e : Ending} (h : PostV T0 last wrong B p (X ++ [a]) oN st w r e w') : PostV T0 last wrong B p X oN st w r e w' := by
  cases r with
  | ok v st' =>
    obtain ⟨h1, ⟨i, h2, h2k⟩, h3⟩ := h
    exact ⟨h1, ⟨i, h2.pop, h2k⟩, h3⟩
  | no a c =>
    obtain ⟨h1, ⟨o, i, N, H, h2⟩, h3⟩ := h
    exact ⟨h1, ⟨o, i, N, H, h2.pop⟩, h3⟩
theorem RvM.turn {a a' : It} (h : RvM T0 last wrong B p (X ++ [a]) o i N H U wh cd w) (hg : w.grownBy w' a.own) (hP : a'.P w') (hloc : ∀ k, a'.own = some k → a.own = some k ∨ w.heap.size ≤ k) : RvM T0 last wrong B p (X ++ [a']) o i N H U wh cd w' := by
  obtain ⟨vT, vN, vH, vL, h1, h2⟩ := h
  refine ⟨vT, vN, vH, vL, ?_, h2⟩
  rw [← List.append_assoc] at h1 ⊢
  exact Sep.upd h1 hg hP hloc
theorem addOn_on (n : Nod) (h at_ : Nat) (st : PS) : addOn n h at_ st = addP n h at_ st.on := by
  unfold addOn addP
  by_cases h1 : 4096 ≤ st.N.length
  · rw [if_pos h1, if_pos (show 4096 ≤ st.on.N.length from h1)]
  · rw [if_neg h1, if_neg (show ¬ 4096 ≤ st.on.N.length from h1)]
    by_cases h2 : 64 < h
    · rw [if_pos h2, if_pos h2]
    · rw [if_neg h2, if_neg h2]; rfl
set_option maxRecDepth 100000 in
set_option maxHeartbeats 8000000 in
/-- atom -/
theorem rvAtom {inner : Option PF} (hT : TkOk T0 last) (hin : InnV T0 last wrong B p oN inner) (hLi : ∀ f, inner = some f → KeepL f) : PartV 79 T0 last wrong B p oN (atomP last wrong inner) := by
  intro X st w r h hr
  obtain ⟨i, hm, hk⟩ := h
  have cT := Lib.hid (rvText hT.tl hm)
  have cP := Lib.hid (fun (W : World) (hb : Below w.heap.size w W) => rvPlace hT.tl (hm.below hb))
  have hM1 := Lib.hid (fun (W : World) (hb : Below w.heap.size w W) => hm.below hb)
  have hBs := hm.lt.2.1
  obtain ⟨c9, -⟩ := hm.cell_cd
  rw [show ((0 : Nat) : Int) = 0 from rfl] at c9
  have htx := hk.tx
  have hpl := hk.pl (last := last)
  have hbt := (hT.byt i).1
  have hbl := (hT.byt i).2
  have hil := hk.il
  have hTl := hT.tl
  obtain ⟨t, ht⟩ : ∃ t, t = txA T0 i := ⟨_, rfl⟩
  obtain ⟨pl0, hpl0⟩ : ∃ t, t = plA T0 last i := ⟨_, rfl⟩
  rw [← ht] at cT htx hbt hbl
  rw [← hpl0] at cP hpl
  have m40 := mkS_is hbt [40] (by unfold Byt; simp)
  have m105 := mkS_is hbt [105] (by unfold Byt; simp)
  have m122 := mkS_is hbt [122] (by unfold Byt; simp)
  have hw1 : wrap64 ((i : Int) + 1) = (i : Int) + 1 := w64_in _ (by omega)
  have cNm := Lib.hid (fun W => rvIsName t hbt W)
  obtain ⟨tk, htk⟩ : ∃ k, k = mkS t := ⟨_, rfl⟩
  rw [← htk] at cT m40 m105 m122 cNm
  replace ht := Lib.hid ht
  replace hpl0 := Lib.hid hpl0
  replace htx := Lib.hid htx
  replace hpl := Lib.hid hpl
  replace hT := Lib.hid hT
  replace hin := Lib.hid hin
  replace hk := Lib.hid hk
  replace hm := Lib.hid hm
  by_cases ha : t = [40]
  case pos =>
    have i40 : tk.toList = [40] := m40.2 ha
    replace htk := Lib.hid htk
    have hr2 := hr
    unfold atomP at hr2
    rw [if_pos (by rw [htx.out]; exact ha)] at hr2
    have hne := hk.out.ne (by rw [htx.out, ha]; simp)
    have hk1 := Lib.hid (hk.out.on hne)
    replace hr := Lib.hid hr
    replace hne := Lib.hid hne
    clear m40 m105 m122 ha cNm hbt hbl
    go_enter Tryz.func79, Tryz.ntmps79
    go_wp2_with fail
    refine cT.out.mono ?_
    rintro en w1 ⟨rfl, hdr⟩
    have hb1 := Lib.hid (hdr.below w.heap.size)
    clear hdr
    go_wp2_with fail
    refine (cP.out _ hb1.out).mono ?_
    rintro en w2 ⟨rfl, hdr⟩
    have hb2 := Lib.hid (hb1.out.trans (hdr.below _))
    clear hdr hb1 cT cP
    have hm2 := hM1.out _ hb2.out
    have hB2 := hb2.out.mono hBs
    obtain ⟨a4, f4⟩ := hm2.cell_o
    have hm3 := hm2.set_o ((oN : Int) + 1)
    obtain ⟨a4', -⟩ := hm3.cell_o
    have hB3 := hB2.trans (hm2.setB 4 (.int .i64 ((oN : Int) + 1)))
    rcases inner with _ | f
    case none =>
      have ho : oN = 64 := hin.out
      have hrr : r = .no pl0 114 := by rw [← hpl.out]; exact (Option.some.inj hr2).symm
      subst hrr ho
      have cF := Lib.hid (rvFault pl0 114 hm3)
      have hw4 : wrap64 (((64 : Nat) : Int) + 1) = ((64 : Nat) : Int) + 1 := w64_in _ (by omega)
      have hoI : (64 : Int) < ((64 : Nat) : Int) + 1 := by omega
      replace hB3 := Lib.hid hB3
      clear hm2 hm3 hB2 hr2
      go_wp2_with fail
      refine cF.out.mono ?_
      rintro en w3 ⟨rfl, h3, hB4⟩
      replace h3 := Lib.hid h3
      replace hB4 := Lib.hid (hB3.out.trans hB4)
      go_wp2_with fail
      go_ret
      exact ⟨⟨_, rfl⟩, ⟨_, _, _, _, h3.out⟩, hB4.out, by decide⟩
    case some =>
      obtain ⟨ho, hp⟩ : oN < 64 ∧ PartV 15 T0 last wrong B p (oN + 1) f := hin.out
      have hL := hLi f rfl
      have hw4 : wrap64 ((oN : Int) + 1) = (oN : Int) + 1 := w64_in _ (by omega)
      have hoI : ¬ (64 : Int) < (oN : Int) + 1 := by omega
      obtain ⟨c3, f3⟩ := hm3.cell_i
      have hm4 := hm3.set_i (i + 1)
      have hB4 := hB3.trans (hm3.setB 3 (.int .i64 ((i + 1 : Nat) : Int)))
      replace hB4 := Lib.hid hB4
      replace hm4 := Lib.hid hm4
      replace hp := Lib.hid hp
      replace hL := Lib.hid hL
      replace ho := Lib.hid ho
      replace hr2 := Lib.hid hr2
      clear hm2 hm3 hB2 hB3
      go_wp2_with fail
      rw [show (i : Int) + 1 = ((i + 1 : Nat) : Int) from rfl]
      generalize (w2.setCell ⟨p, 4, none⟩ (.int .i64 ((oN : Int) + 1))).setCell ⟨p, 3, none⟩ (.int .i64 ((i + 1 : Nat) : Int)) = w4 at hm4 hB4 ⊢
      clear a4 a4' f4 c3 f3 hw4 hoI hw1 c9
      obtain ⟨r1, hr1⟩ : ∃ r1, f st.on = some r1 := by
        rcases hf : f st.on with _ | r1
        · have := hr2.out
          simp only [hf] at this
          cases this
        · exact ⟨r1, rfl⟩
      have cS := Lib.hid (hp.out X st.on w4 r1 ⟨_, hm4.out, hk1.out⟩ hr1)
      have hrr := hr2.out
      simp only [hr1] at hrr
      replace hrr := Lib.hid hrr
      have hLL := Lib.hid (fun a st1 (e : r1 = .ok a st1) => (show st1.L = st.L from hL.out st.on a st1 (by rw [hr1, e])))
      replace hr1 := Lib.hid hr1
      clear hr2
      refine cS.out.mono ?_
      clear cS hm4
      have e41 : mkS [41] = (⟨#[41]⟩ : ByteArray) := rfl
      rcases r1 with ⟨v, st1⟩ | ⟨x, y⟩
      case no =>
        have hq0 : r = .no x y := (Option.some.inj hrr.out).symm
        subst hq0
        rintro en w5 ⟨⟨z, rfl⟩, ⟨o1, i1, N1, H1, hM⟩, hB5, hy⟩
        have cK := rvTake1 hT.out hy [41] hM
        rw [e41] at cK
        have hBs5 := Lib.hid hM.lt.2.1
        have hM5 := Lib.hid (fun W (hb : Below w5.heap.size w5 W) => hM.below hb)
        replace cK := Lib.hid cK
        replace hB5 := Lib.hid (hB4.out.trans hB5)
        replace hy := Lib.hid hy
        clear hM e41
        go_wp2_with fail
        refine cK.out.mono ?_
        rintro en w6 ⟨rfl, hb6⟩
        have hM6 := hM5.out _ hb6
        obtain ⟨q4, g4⟩ := hM6.cell_o
        replace hM6 := Lib.hid hM6
        replace hb6 := Lib.hid (hb6.mono hBs5.out)
        go_wp2_with fail
        go_ret
        exact ⟨⟨_, rfl⟩, ⟨_, _, _, _, hM6.out.set_o _⟩, (hB5.out.trans hb6.out).trans (hM6.out.setB 4 _), hy.out⟩
      case ok =>
        rintro en w5 ⟨rfl, h5, hB5, hv5, hN5⟩
        have cK := rvTake hT.out [41] (by unfold Byt; simp) (by simp) h5
        rw [e41] at cK
        obtain ⟨r2, hr2⟩ : ∃ r2, r2 = takeP last wrong [41] st1 := ⟨_, rfl⟩
        rw [← hr2] at cK
        have hrr2 := hrr.out
        simp only [← hr2] at hrr2
        have hst2 := Lib.hid (fun u st2 (e : r2 = .ok u st2) => (show st2.N = st1.N from by rw [(takeP_ok (hr2.symm.trans e)).2]; rfl))
        replace hr2 := Lib.hid hr2
        replace cK := Lib.hid cK
        replace hB5 := Lib.hid (hB4.out.trans hB5)
        replace hv5 := Lib.hid hv5
        replace hN5 := Lib.hid hN5
        clear h5 e41 hrr
        go_wp2_with fail
        refine cK.out.mono ?_
        clear cK
        rcases r2 with ⟨u, st2⟩ | ⟨x, y⟩
        case no =>
          have hq0 : r = .no x y := (Option.some.inj hrr2).symm
          subst hq0
          clear hrr2
          rintro en w6 ⟨rfl, ⟨o1, i1, N1, H1, hM6⟩, hB6, hy⟩
          obtain ⟨q4, g4⟩ := hM6.cell_o
          replace hM6 := Lib.hid hM6
          replace hB6 := Lib.hid (hB5.out.trans hB6)
          replace hy := Lib.hid hy
          go_wp2_with fail
          go_ret
          exact ⟨⟨_, rfl⟩, by rw [← hLL.out _ _ rfl]; exact ⟨_, _, _, _, hM6.out.set_o _⟩, hB6.out.trans (hM6.out.setB 4 _), hy.out⟩
        case ok =>
          have hq0 : r = .ok v st2 := (Option.some.inj hrr2).symm
          subst hq0
          clear hrr2
          rintro en w6 ⟨rfl, ⟨i6, hM6, hk6⟩, hB6⟩
          obtain ⟨q4, g4⟩ := hM6.cell_o
          have ho9 := ho.out
          have hw9 : wrap64 (((oN + 1 : Nat) : Int) - 1) = (oN : Int) := by rw [show ((oN + 1 : Nat) : Int) - 1 = (oN : Int) from by omega]; exact w64_in _ (by omega)
          have hw8 : wrap64 ((oN : Int) + 1 - 1) = (oN : Int) := by rw [show (oN : Int) + 1 - 1 = (oN : Int) from by omega]; exact w64_in _ (by omega)
          have hMf := Lib.hid (hM6.set_o (oN : Int))
          have hBf := Lib.hid ((hB5.out.trans hB6).trans (hM6.setB 4 (.int .i64 (oN : Int))))
          replace hM6 := Lib.hid hM6
          replace hk6 := Lib.hid hk6
          clear ho9 hB6
          go_wp2_with fail
          go_ret
          exact ⟨rfl, ⟨i6, hMf.out, hk6.out⟩, hBf.out, by rw [hst2.out _ _ rfl]; exact hv5.out, by rw [hst2.out _ _ rfl]; exact hN5.out⟩
  case neg =>
    have i40 : ¬ tk.toList = [40] := fun e => ha (m40.1 e)
    have k40 : (tk.toList == [40]) = false := beq_eq_false_iff_ne.2 i40
    have hna : ¬ st.tx = [40] := by rw [htx.out]; exact ha
    have hr2 := hr
    unfold atomP at hr2
    rw [if_neg hna, htx.out, hpl.out] at hr2
    replace hr := Lib.hid hr
    have htkt : Hid (tk = mkS t) := Lib.hid htk
    have hnum := Lib.hid (fun (h0 : t ≠ []) => num_head' htk hbt h0)
    have hstr := Lib.hid (fun (h0 : t ≠ []) => str_empty' htk h0)
    have hnil : Hid (t = [] → tk = ⟨#[]⟩) := Lib.hid (fun e => by rw [htk, e]; rfl)
    clear m40 ha hna
    replace htk := Lib.hid htk
    go_enter Tryz.func79, Tryz.ntmps79
    go_wp2_with fail
    refine cT.out.mono ?_
    rintro en w1 ⟨rfl, hdr⟩
    have hb1 := Lib.hid (hdr.below w.heap.size)
    clear hdr
    go_wp2_with fail
    refine (cP.out _ hb1.out).mono ?_
    rintro en w2 ⟨rfl, hdr⟩
    have hb2 := Lib.hid (hb1.out.trans (hdr.below _))
    clear hdr hb1 cT cP
    have hm2 := hM1.out _ hb2.out
    have hB2 := hb2.out.mono hBs
    go_upto_region 16 with fail
    have hMq := hm2.push (a := itBlk w2.heap.size 52 #[.int .u8 1, .string tk, .int .i64 0, .int .i64 0, .int .i64 0]) (w' := w2.alloc (.cells #[.int .u8 1, .string tk, .int .i64 0, .int .i64 0, .int .i64 0] 52)) (gb_of ((Below.refl w2.heap.size w2).alloc (Nat.le_refl _) _) none) (Blk.new w2 52 #[.int .u8 1, .string tk, .int .i64 0, .int .i64 0, .int .i64 0]) (fun k hk => by injection hk with hk; rw [← hk]; exact Nat.le_refl _)
    have hBq := hB2.alloc hm2.lt.2.1 (.cells #[.int .u8 1, .string tk, .int .i64 0, .int .i64 0, .int .i64 0] 52)
    have hgB : B ≤ w2.heap.size := hm2.lt.2.1
    have hcMq := hMq.cell_cd
    generalize w2.alloc (.cells #[.int .u8 1, .string tk, .int .i64 0, .int .i64 0, .int .i64 0] 52) = wq at hMq hBq hcMq ⊢
    generalize w2.heap.size = gn at hMq hgB ⊢
    replace hcMq := Lib.hid hcMq
    clear c9 hm2 hB2 hb2
    have kn : Blk wq gn 52 #[.int .u8 1, .string tk, .int .i64 0, .int .i64 0, .int .i64 0] := hMq.last_
    have g0 : wq.cell? ⟨gn, 0, none⟩ = some (.int .u8 1) := kn.cell 0
    have gf0 := kn.frozen 0
    have g1 : wq.cell? ⟨gn, 1, none⟩ = some (.string tk) := kn.cell 1
    have gf1 := kn.frozen 1
    have g2 : wq.cell? ⟨gn, 2, none⟩ = some (.int .i64 0) := kn.cell 2
    have gf2 := kn.frozen 2
    have g3 : wq.cell? ⟨gn, 3, none⟩ = some (.int .i64 0) := kn.cell 3
    have gf3 := kn.frozen 3
    have g4 : wq.cell? ⟨gn, 4, none⟩ = some (.int .i64 0) := kn.cell 4
    have gf4 := kn.frozen 4
    replace kn := Lib.hid kn
    replace hMq := Lib.hid hMq
    replace hBq := Lib.hid hBq
    by_cases hb : t = [105]
    case pos =>
      rw [if_pos hb] at hr2
      have i1 : tk.toList = [105] := m105.2 hb
      have k1 : (tk.toList == [105]) = true := by rw [i1]; rfl
      have hne := hk.out.ne (by rw [htx.out, hb]; simp)
      clear m105 m122 cNm hbt hbl hb
      have K0 : Blk (wq.setCell ⟨gn, 0, none⟩ (.int .u8 2)) gn 52 #[.int .u8 2, .string tk, .int .i64 0, .int .i64 0, .int .i64 0] := kn.out.set_ 0 (.int .u8 2)
      have G0 : wq.grownBy (wq.setCell ⟨gn, 0, none⟩ (.int .u8 2)) (some gn) := gb_set (gb_refl wq (some gn)) 0 (.int .u8 2)
      have K1 : Blk ((wq.setCell ⟨gn, 0, none⟩ (.int .u8 2)).setCell ⟨gn, 1, none⟩ (.string ⟨#[]⟩)) gn 52 #[.int .u8 2, .string ⟨#[]⟩, .int .i64 0, .int .i64 0, .int .i64 0] := K0.set_ 1 (.string ⟨#[]⟩)
      have G1 : wq.grownBy ((wq.setCell ⟨gn, 0, none⟩ (.int .u8 2)).setCell ⟨gn, 1, none⟩ (.string ⟨#[]⟩)) (some gn) := gb_set G0 1 (.string ⟨#[]⟩)
      have K2 : Blk (((wq.setCell ⟨gn, 0, none⟩ (.int .u8 2)).setCell ⟨gn, 1, none⟩ (.string ⟨#[]⟩)).setCell ⟨gn, 2, none⟩ (.int .i64 0)) gn 52 #[.int .u8 2, .string ⟨#[]⟩, .int .i64 0, .int .i64 0, .int .i64 0] := K1.set_ 2 (.int .i64 0)
      have G2 : wq.grownBy (((wq.setCell ⟨gn, 0, none⟩ (.int .u8 2)).setCell ⟨gn, 1, none⟩ (.string ⟨#[]⟩)).setCell ⟨gn, 2, none⟩ (.int .i64 0)) (some gn) := gb_set G1 2 (.int .i64 0)
      have K3 : Blk ((((wq.setCell ⟨gn, 0, none⟩ (.int .u8 2)).setCell ⟨gn, 1, none⟩ (.string ⟨#[]⟩)).setCell ⟨gn, 2, none⟩ (.int .i64 0)).setCell ⟨gn, 3, none⟩ (.int .i64 0)) gn 52 #[.int .u8 2, .string ⟨#[]⟩, .int .i64 0, .int .i64 0, .int .i64 0] := K2.set_ 3 (.int .i64 0)
      have G3 : wq.grownBy ((((wq.setCell ⟨gn, 0, none⟩ (.int .u8 2)).setCell ⟨gn, 1, none⟩ (.string ⟨#[]⟩)).setCell ⟨gn, 2, none⟩ (.int .i64 0)).setCell ⟨gn, 3, none⟩ (.int .i64 0)) (some gn) := gb_set G2 3 (.int .i64 0)
      have K4 : Blk (((((wq.setCell ⟨gn, 0, none⟩ (.int .u8 2)).setCell ⟨gn, 1, none⟩ (.string ⟨#[]⟩)).setCell ⟨gn, 2, none⟩ (.int .i64 0)).setCell ⟨gn, 3, none⟩ (.int .i64 0)).setCell ⟨gn, 4, none⟩ (.int .i64 0)) gn 52 #[.int .u8 2, .string ⟨#[]⟩, .int .i64 0, .int .i64 0, .int .i64 0] := K3.set_ 4 (.int .i64 0)
      have G4 : wq.grownBy (((((wq.setCell ⟨gn, 0, none⟩ (.int .u8 2)).setCell ⟨gn, 1, none⟩ (.string ⟨#[]⟩)).setCell ⟨gn, 2, none⟩ (.int .i64 0)).setCell ⟨gn, 3, none⟩ (.int .i64 0)).setCell ⟨gn, 4, none⟩ (.int .i64 0)) (some gn) := gb_set G3 4 (.int .i64 0)
      have hM3 := Lib.hid (hMq.out.turn (a' := itBlk gn 52 #[.int .u8 2, .string ⟨#[]⟩, .int .i64 0, .int .i64 0, .int .i64 0]) G4 K4 (fun k hk => .inl hk))
      have hB3 : Hid (Below B w (((((wq.setCell ⟨gn, 0, none⟩ (.int .u8 2)).setCell ⟨gn, 1, none⟩ (.string ⟨#[]⟩)).setCell ⟨gn, 2, none⟩ (.int .i64 0)).setCell ⟨gn, 3, none⟩ (.int .i64 0)).setCell ⟨gn, 4, none⟩ (.int .i64 0))) := Lib.hid (hBq.out.trans ⟨G4.os, G4.tape, G4.output, G4.size, fun k hk => G4.block k (Nat.lt_of_lt_of_le hk (Nat.le_trans hBs hBq.out.size)) (fun e => by injection e with e; omega)⟩)
      clear K0 G0 K1 G1 K2 G2 K3 G3 K4 G4
      replace hr2 := Lib.hid hr2
      go_upto_region 28 with fail
      generalize (((((wq.setCell ⟨gn, 0, none⟩ (.int .u8 2)).setCell ⟨gn, 1, none⟩ (.string ⟨#[]⟩)).setCell ⟨gn, 2, none⟩ (.int .i64 0)).setCell ⟨gn, 3, none⟩ (.int .i64 0)).setCell ⟨gn, 4, none⟩ (.int .i64 0)) = w3 at hM3 hB3 ⊢
      clear g0 g1 g2 g3 g4 gf0 gf1 gf2 gf3 gf4 kn hMq hBq
      obtain ⟨c3, f3⟩ := hM3.out.cell_i
      have hM4 := Lib.hid (hM3.out.set_i (i + 1))
      have hB4 := Lib.hid (hB3.out.trans (hM3.out.setB 3 (.int .i64 ((i + 1 : Nat) : Int))))
      have hk1 := Lib.hid (hk.out.on hne)
      clear hM3 hB3
      go_upto_region 29 with fail
      rw [show (i : Int) + 1 = ((i + 1 : Nat) : Int) from rfl]
      generalize w3.setCell ⟨p, 3, none⟩ (.int .i64 ((i + 1 : Nat) : Int)) = w4 at hM4 hB4 ⊢
      clear c3 f3 hw1
      have kk : Blk w4 gn 52 #[.int .u8 2, .string ⟨#[]⟩, .int .i64 0, .int .i64 0, .int .i64 0] := hM4.out.last_
      have g0 : w4.cell? ⟨gn, 0, none⟩ = some (.int .u8 2) := kk.cell 0
      have g1 : w4.cell? ⟨gn, 1, none⟩ = some (.string ⟨#[]⟩) := kk.cell 1
      have g2 : w4.cell? ⟨gn, 2, none⟩ = some (.int .i64 0) := kk.cell 2
      have g3 : w4.cell? ⟨gn, 3, none⟩ = some (.int .i64 0) := kk.cell 3
      have g4 : w4.cell? ⟨gn, 4, none⟩ = some (.int .i64 0) := kk.cell 4
      have cM0 := rvMade ⟨2, [], 0, 0, 0⟩ 1 pl0 hT.out (show RvS T0 last wrong B p (X ++ [itBlk gn 52 #[.int .u8 2, .string ⟨#[]⟩, .int .i64 0, .int .i64 0, .int .i64 0]]) oN st.on w4 from ⟨_, hM4.out, hk1.out⟩) (by omega)
      have hrr : r = addP ⟨2, [], 0, 0, 0⟩ 1 pl0 st.on := by rw [← addOn_on]; exact (Option.some.inj hr2.out).symm
      rw [← hrr] at cM0
      have cM : Hid (Calls Tryz.prog 49 #[.pointer (some ⟨p, 0, none⟩), .agg #[.int .u8 2, .string ⟨#[]⟩, .int .i64 0, .int .i64 0, .int .i64 0], .int .i64 1, .int .i64 (pl0 : Int)] w4 (PostV T0 last wrong B p (X ++ [itBlk gn 52 #[.int .u8 2, .string ⟨#[]⟩, .int .i64 0, .int .i64 0, .int .i64 0]]) oN st.on w4 r)) := Lib.hid (by
        skip
        dsimp only at cM0
        rw [show mkS [] = (⟨#[]⟩ : ByteArray) from rfl] at cM0
        exact cM0)
      replace hrr := Lib.hid hrr
      replace hne := Lib.hid hne
      clear cM0 kk
      go_wp2_with fail
      refine cM.out.mono ?_
      rintro en w7 hp
      obtain ⟨z, rfl⟩ := hp.end_
      replace hp := Lib.hid (PostV.pop (PostV.pre hp hB4.out))
      go_wp2_with fail
      go_ret
      exact hp.out
    have i1 : ¬ tk.toList = [105] := fun e => hb (m105.1 e)
    have k1 : (tk.toList == [105]) = false := beq_eq_false_iff_ne.2 i1
    rw [if_neg hb] at hr2
    clear hb m105
    by_cases hc : t = [122]
    case pos =>
      rw [if_pos hc] at hr2
      have i2 : tk.toList = [122] := m122.2 hc
      have k2 : (tk.toList == [122]) = true := by rw [i2]; rfl
      have hne := hk.out.ne (by rw [htx.out, hc]; simp)
      clear m122 cNm hbt hbl hc
      have K0 : Blk (wq.setCell ⟨gn, 0, none⟩ (.int .u8 3)) gn 52 #[.int .u8 3, .string tk, .int .i64 0, .int .i64 0, .int .i64 0] := kn.out.set_ 0 (.int .u8 3)
      have G0 : wq.grownBy (wq.setCell ⟨gn, 0, none⟩ (.int .u8 3)) (some gn) := gb_set (gb_refl wq (some gn)) 0 (.int .u8 3)
      have K1 : Blk ((wq.setCell ⟨gn, 0, none⟩ (.int .u8 3)).setCell ⟨gn, 1, none⟩ (.string ⟨#[]⟩)) gn 52 #[.int .u8 3, .string ⟨#[]⟩, .int .i64 0, .int .i64 0, .int .i64 0] := K0.set_ 1 (.string ⟨#[]⟩)
      have G1 : wq.grownBy ((wq.setCell ⟨gn, 0, none⟩ (.int .u8 3)).setCell ⟨gn, 1, none⟩ (.string ⟨#[]⟩)) (some gn) := gb_set G0 1 (.string ⟨#[]⟩)
      have K2 : Blk (((wq.setCell ⟨gn, 0, none⟩ (.int .u8 3)).setCell ⟨gn, 1, none⟩ (.string ⟨#[]⟩)).setCell ⟨gn, 2, none⟩ (.int .i64 0)) gn 52 #[.int .u8 3, .string ⟨#[]⟩, .int .i64 0, .int .i64 0, .int .i64 0] := K1.set_ 2 (.int .i64 0)
      have G2 : wq.grownBy (((wq.setCell ⟨gn, 0, none⟩ (.int .u8 3)).setCell ⟨gn, 1, none⟩ (.string ⟨#[]⟩)).setCell ⟨gn, 2, none⟩ (.int .i64 0)) (some gn) := gb_set G1 2 (.int .i64 0)
      have K3 : Blk ((((wq.setCell ⟨gn, 0, none⟩ (.int .u8 3)).setCell ⟨gn, 1, none⟩ (.string ⟨#[]⟩)).setCell ⟨gn, 2, none⟩ (.int .i64 0)).setCell ⟨gn, 3, none⟩ (.int .i64 0)) gn 52 #[.int .u8 3, .string ⟨#[]⟩, .int .i64 0, .int .i64 0, .int .i64 0] := K2.set_ 3 (.int .i64 0)
      have G3 : wq.grownBy ((((wq.setCell ⟨gn, 0, none⟩ (.int .u8 3)).setCell ⟨gn, 1, none⟩ (.string ⟨#[]⟩)).setCell ⟨gn, 2, none⟩ (.int .i64 0)).setCell ⟨gn, 3, none⟩ (.int .i64 0)) (some gn) := gb_set G2 3 (.int .i64 0)
      have K4 : Blk (((((wq.setCell ⟨gn, 0, none⟩ (.int .u8 3)).setCell ⟨gn, 1, none⟩ (.string ⟨#[]⟩)).setCell ⟨gn, 2, none⟩ (.int .i64 0)).setCell ⟨gn, 3, none⟩ (.int .i64 0)).setCell ⟨gn, 4, none⟩ (.int .i64 0)) gn 52 #[.int .u8 3, .string ⟨#[]⟩, .int .i64 0, .int .i64 0, .int .i64 0] := K3.set_ 4 (.int .i64 0)
      have G4 : wq.grownBy (((((wq.setCell ⟨gn, 0, none⟩ (.int .u8 3)).setCell ⟨gn, 1, none⟩ (.string ⟨#[]⟩)).setCell ⟨gn, 2, none⟩ (.int .i64 0)).setCell ⟨gn, 3, none⟩ (.int .i64 0)).setCell ⟨gn, 4, none⟩ (.int .i64 0)) (some gn) := gb_set G3 4 (.int .i64 0)
      have hM3 := Lib.hid (hMq.out.turn (a' := itBlk gn 52 #[.int .u8 3, .string ⟨#[]⟩, .int .i64 0, .int .i64 0, .int .i64 0]) G4 K4 (fun k hk => .inl hk))
      have hB3 : Hid (Below B w (((((wq.setCell ⟨gn, 0, none⟩ (.int .u8 3)).setCell ⟨gn, 1, none⟩ (.string ⟨#[]⟩)).setCell ⟨gn, 2, none⟩ (.int .i64 0)).setCell ⟨gn, 3, none⟩ (.int .i64 0)).setCell ⟨gn, 4, none⟩ (.int .i64 0))) := Lib.hid (hBq.out.trans ⟨G4.os, G4.tape, G4.output, G4.size, fun k hk => G4.block k (Nat.lt_of_lt_of_le hk (Nat.le_trans hBs hBq.out.size)) (fun e => by injection e with e; omega)⟩)
      clear K0 G0 K1 G1 K2 G2 K3 G3 K4 G4
      replace hr2 := Lib.hid hr2
      go_upto_region 28 with fail
      generalize (((((wq.setCell ⟨gn, 0, none⟩ (.int .u8 3)).setCell ⟨gn, 1, none⟩ (.string ⟨#[]⟩)).setCell ⟨gn, 2, none⟩ (.int .i64 0)).setCell ⟨gn, 3, none⟩ (.int .i64 0)).setCell ⟨gn, 4, none⟩ (.int .i64 0)) = w3 at hM3 hB3 ⊢
      clear g0 g1 g2 g3 g4 gf0 gf1 gf2 gf3 gf4 kn hMq hBq
      obtain ⟨c3, f3⟩ := hM3.out.cell_i
      have hM4 := Lib.hid (hM3.out.set_i (i + 1))
      have hB4 := Lib.hid (hB3.out.trans (hM3.out.setB 3 (.int .i64 ((i + 1 : Nat) : Int))))
      have hk1 := Lib.hid (hk.out.on hne)
      clear hM3 hB3
      go_upto_region 29 with fail
      rw [show (i : Int) + 1 = ((i + 1 : Nat) : Int) from rfl]
      generalize w3.setCell ⟨p, 3, none⟩ (.int .i64 ((i + 1 : Nat) : Int)) = w4 at hM4 hB4 ⊢
      clear c3 f3 hw1
      have kk : Blk w4 gn 52 #[.int .u8 3, .string ⟨#[]⟩, .int .i64 0, .int .i64 0, .int .i64 0] := hM4.out.last_
      have g0 : w4.cell? ⟨gn, 0, none⟩ = some (.int .u8 3) := kk.cell 0
      have g1 : w4.cell? ⟨gn, 1, none⟩ = some (.string ⟨#[]⟩) := kk.cell 1
      have g2 : w4.cell? ⟨gn, 2, none⟩ = some (.int .i64 0) := kk.cell 2
      have g3 : w4.cell? ⟨gn, 3, none⟩ = some (.int .i64 0) := kk.cell 3
      have g4 : w4.cell? ⟨gn, 4, none⟩ = some (.int .i64 0) := kk.cell 4
      have cM0 := rvMade ⟨3, [], 0, 0, 0⟩ 1 pl0 hT.out (show RvS T0 last wrong B p (X ++ [itBlk gn 52 #[.int .u8 3, .string ⟨#[]⟩, .int .i64 0, .int .i64 0, .int .i64 0]]) oN st.on w4 from ⟨_, hM4.out, hk1.out⟩) (by omega)
      have hrr : r = addP ⟨3, [], 0, 0, 0⟩ 1 pl0 st.on := by rw [← addOn_on]; exact (Option.some.inj hr2.out).symm
      rw [← hrr] at cM0
      have cM : Hid (Calls Tryz.prog 49 #[.pointer (some ⟨p, 0, none⟩), .agg #[.int .u8 3, .string ⟨#[]⟩, .int .i64 0, .int .i64 0, .int .i64 0], .int .i64 1, .int .i64 (pl0 : Int)] w4 (PostV T0 last wrong B p (X ++ [itBlk gn 52 #[.int .u8 3, .string ⟨#[]⟩, .int .i64 0, .int .i64 0, .int .i64 0]]) oN st.on w4 r)) := Lib.hid (by
        skip
        dsimp only at cM0
        rw [show mkS [] = (⟨#[]⟩ : ByteArray) from rfl] at cM0
        exact cM0)
      replace hrr := Lib.hid hrr
      replace hne := Lib.hid hne
      clear cM0 kk
      go_wp2_with fail
      refine cM.out.mono ?_
      rintro en w7 hp
      obtain ⟨z, rfl⟩ := hp.end_
      replace hp := Lib.hid (PostV.pop (PostV.pre hp hB4.out))
      go_wp2_with fail
      go_ret
      exact hp.out
    have i2 : ¬ tk.toList = [122] := fun e => hc (m122.1 e)
    have k2 : (tk.toList == [122]) = false := beq_eq_false_iff_ne.2 i2
    rw [if_neg hc] at hr2
    clear hc m122
    by_cases hd : isName t = true
    case pos =>
      rw [if_pos hd] at hr2
      rw [hd] at cNm
      have hne := hk.out.ne (by rw [htx.out]; intro e; rw [e] at hd; cases hd)
      have cQ0 := fun (W : World) (hm : RvM T0 last wrong B p X (oN : Int) i st.N st.H st.L 0 0 W) => rvNamed t hbt hk.out hT.out hm
      have K0 : Blk (wq.setCell ⟨gn, 0, none⟩ (.int .u8 4)) gn 52 #[.int .u8 4, .string tk, .int .i64 0, .int .i64 0, .int .i64 0] := kn.out.set_ 0 (.int .u8 4)
      have G0 : wq.grownBy (wq.setCell ⟨gn, 0, none⟩ (.int .u8 4)) (some gn) := gb_set (gb_refl wq (some gn)) 0 (.int .u8 4)
      have hM3 := Lib.hid (hMq.out.turn (a' := itBlk gn 52 #[.int .u8 4, .string tk, .int .i64 0, .int .i64 0, .int .i64 0]) G0 K0 (fun k hk => .inl hk))
      have hB3 : Hid (Below B w (wq.setCell ⟨gn, 0, none⟩ (.int .u8 4))) := Lib.hid (hBq.out.trans ⟨G0.os, G0.tape, G0.output, G0.size, fun k hk => G0.block k (Nat.lt_of_lt_of_le hk (Nat.le_trans hBs hBq.out.size)) (fun e => by injection e with e; omega)⟩)
      clear K0 G0
      clear hbt hbl
      generalize hWe : (wq.setCell ⟨gn, 0, none⟩ (.int .u8 4)) = w3 at hM3 hB3
      have cQ := cQ0 w3 hM3.out.pop
      rw [← htkt.out] at cQ
      by_cases hin2 : t ∈ st.names
      case pos =>
        rw [if_pos hin2] at hr2
        rw [decide_eq_true hin2] at cQ
        replace cQ := Lib.hid cQ
        clear hin2 cQ0
        replace hr2 := Lib.hid hr2
        replace hWe := Lib.hid hWe
        go_upto_region 20 with fail
        go_wp2_with fail
        refine (cNm.out _).mono ?_
        rintro en wn ⟨rfl, rfl⟩
        go_upto_region 22 with fail
        rw [hWe.out]
        go_wp2_with fail
        refine cQ.out.mono ?_
        rintro en wn2 ⟨rfl, rfl⟩
        clear cQ
        go_upto_region 28 with fail
        clear g0 g1 g2 g3 g4 gf0 gf1 gf2 gf3 gf4 kn hMq hBq
        obtain ⟨c3, f3⟩ := hM3.out.cell_i
        have hM4 := Lib.hid (hM3.out.set_i (i + 1))
        have hB4 := Lib.hid (hB3.out.trans (hM3.out.setB 3 (.int .i64 ((i + 1 : Nat) : Int))))
        have hk1 := Lib.hid (hk.out.on hne)
        go_upto_region 29 with fail
        rw [show (i : Int) + 1 = ((i + 1 : Nat) : Int) from rfl]
        generalize World.setCell _ ⟨p, 3, none⟩ (.int .i64 ((i + 1 : Nat) : Int)) = w4 at hM4 hB4 ⊢
        clear c3 f3 hw1
        have kk : Blk w4 gn 52 #[.int .u8 4, .string tk, .int .i64 0, .int .i64 0, .int .i64 0] := hM4.out.last_
        have g0 : w4.cell? ⟨gn, 0, none⟩ = some (.int .u8 4) := kk.cell 0
        have g1 : w4.cell? ⟨gn, 1, none⟩ = some (.string tk) := kk.cell 1
        have g2 : w4.cell? ⟨gn, 2, none⟩ = some (.int .i64 0) := kk.cell 2
        have g3 : w4.cell? ⟨gn, 3, none⟩ = some (.int .i64 0) := kk.cell 3
        have g4 : w4.cell? ⟨gn, 4, none⟩ = some (.int .i64 0) := kk.cell 4
        have cM0 := rvMade ⟨4, t, 0, 0, 0⟩ 1 pl0 hT.out (show RvS T0 last wrong B p (X ++ [itBlk gn 52 #[.int .u8 4, .string tk, .int .i64 0, .int .i64 0, .int .i64 0]]) oN st.on w4 from ⟨_, hM4.out, hk1.out⟩) (by omega)
        have hrr : r = addP ⟨4, t, 0, 0, 0⟩ 1 pl0 st.on := by rw [← addOn_on]; exact (Option.some.inj hr2.out).symm
        rw [← hrr] at cM0
        have cM : Hid (Calls Tryz.prog 49 #[.pointer (some ⟨p, 0, none⟩), .agg #[.int .u8 4, .string tk, .int .i64 0, .int .i64 0, .int .i64 0], .int .i64 1, .int .i64 (pl0 : Int)] w4 (PostV T0 last wrong B p (X ++ [itBlk gn 52 #[.int .u8 4, .string tk, .int .i64 0, .int .i64 0, .int .i64 0]]) oN st.on w4 r)) := Lib.hid (by
          have e := htkt.out
          dsimp only at cM0
          rw [← e] at cM0
          exact cM0)
        replace hrr := Lib.hid hrr
        replace hne := Lib.hid hne
        clear cM0 kk
        go_wp2_with fail
        refine cM.out.mono ?_
        rintro en w7 hp
        obtain ⟨z, rfl⟩ := hp.end_
        replace hp := Lib.hid (PostV.pop (PostV.pre hp hB4.out))
        go_wp2_with fail
        go_ret
        exact hp.out
      case neg =>
        rw [if_neg hin2] at hr2
        rw [decide_eq_false hin2] at cQ
        replace cQ := Lib.hid cQ
        have hrr : r = .no pl0 112 := (Option.some.inj hr2).symm
        subst hrr
        have cF := Lib.hid (rvFault pl0 112 hM3.out)
        clear hin2 cQ0 hr2
        replace hWe := Lib.hid hWe
        go_upto_region 20 with fail
        go_wp2_with fail
        refine (cNm.out _).mono ?_
        rintro en wn ⟨rfl, rfl⟩
        go_upto_region 22 with fail
        rw [hWe.out]
        go_wp2_with fail
        refine cQ.out.mono ?_
        rintro en wn2 ⟨rfl, rfl⟩
        go_wp2_with fail
        refine cF.out.mono ?_
        rintro en w5 ⟨rfl, h5, hB5⟩
        replace h5 := Lib.hid h5
        replace hB5 := Lib.hid (hB3.out.trans hB5)
        go_wp2_with fail
        go_ret
        exact ⟨⟨_, rfl⟩, ⟨_, _, _, _, h5.out.pop⟩, hB5.out, by decide⟩
    case neg =>
      have hd2 : isName t = false := by simpa using hd
      rw [if_neg hd] at hr2
      rw [hd2] at cNm
      clear hd hd2
      by_cases hte : t = []
      case pos =>
        have hnm : isNum t = false := by rw [hte]; rfl
        have htke := hnil.out hte
        have e0 : tk.toList = [] := by rw [htke, ByteArray.toList_eq]
        have e00 : tk.toList.isEmpty = true := by rw [e0]; rfl
        obtain ⟨x, y, hu⟩ : ∃ x y, (unwP last wrong st : PR Nat) = .no x y := by
          rcases hu : (unwP last wrong st : PR Nat) with ⟨v, st2⟩ | ⟨x, y⟩
          · exact (unwP_ok hu).elim
          · exact ⟨x, y, rfl⟩
        have hrx : r = .no x y := by rw [if_neg (by rw [hnm]; exact Bool.false_ne_true), hu] at hr2; exact (Option.some.inj hr2).symm
        subst hrx
        have cU := Lib.hid (rvWant (st := st) hT.out hMq.out hk.out hu)
        replace hu := Lib.hid hu
        replace hnm := Lib.hid hnm
        clear hr2
        replace hte := Lib.hid hte
        replace htke := Lib.hid htke
        clear hnum hstr hnil
        go_upto_region 20 with fail
        go_wp2_with fail
        refine (cNm.out _).mono ?_
        rintro en wn ⟨rfl, rfl⟩
        go_wp2_with fail
        refine cU.out.mono ?_
        rintro en w6 ⟨rfl, ⟨o1, i1, N1, H1, hF6⟩, hB6, hy⟩
        replace hF6 := Lib.hid hF6.pop
        replace hB6 := Lib.hid (hBq.out.trans hB6)
        replace hy := Lib.hid hy
        go_wp2_with fail
        go_ret
        exact ⟨⟨_, rfl⟩, ⟨_, _, _, _, hF6.out⟩, hB6.out, hy.out⟩
      obtain ⟨hz, b, hbx, hnb⟩ := hnum.out hte
      obtain ⟨e0, e00⟩ := hstr.out hte
      have hzI : (0 : Int) < (tk.size : Int) := by omega
      clear hnum hstr hnil
      by_cases hnm : isNum t = true
      case neg =>
        have hnm : isNum t = false := by simpa using hnm
        have hdg : Hid (digB b = false) := Lib.hid (by rw [← hnb]; exact hnm)
        obtain ⟨x, y, hu⟩ : ∃ x y, (unwP last wrong st : PR Nat) = .no x y := by
          rcases hu : (unwP last wrong st : PR Nat) with ⟨v, st2⟩ | ⟨x, y⟩
          · exact (unwP_ok hu).elim
          · exact ⟨x, y, rfl⟩
        have hrx : r = .no x y := by rw [if_neg (by rw [hnm]; exact Bool.false_ne_true), hu] at hr2; exact (Option.some.inj hr2).symm
        subst hrx
        have cU := Lib.hid (rvWant (st := st) hT.out hMq.out hk.out hu)
        replace hu := Lib.hid hu
        replace hnm := Lib.hid hnm
        clear hr2
        replace hnb := Lib.hid hnb
        replace hte := Lib.hid hte
        go_upto_region 20 with fail
        go_wp2_with fail
        refine (cNm.out _).mono ?_
        rintro en wn ⟨rfl, rfl⟩
        go_wp2_with fail
        refine (rdigit_any _ _).mono ?_
        rintro en wq2 ⟨rfl, rfl⟩
        rw [hdg.out]
        go_wp2_with fail
        refine cU.out.mono ?_
        rintro en w6 ⟨rfl, ⟨o1, i1, N1, H1, hF6⟩, hB6, hy⟩
        replace hF6 := Lib.hid hF6.pop
        replace hB6 := Lib.hid (hBq.out.trans hB6)
        replace hy := Lib.hid hy
        go_wp2_with fail
        go_ret
        exact ⟨⟨_, rfl⟩, ⟨_, _, _, _, hF6.out⟩, hB6.out, hy.out⟩
      case pos =>
        have hdg : Hid (digB b = true) := Lib.hid (by rw [← hnb]; exact hnm)
        rw [if_pos hnm] at hr2
        have hne := hk.out.ne (by rw [htx.out]; exact hte)
        have hM3 := hMq
        have hB3 := hBq
        replace hnm := Lib.hid hnm
        replace hnb := Lib.hid hnb
        replace hte := Lib.hid hte
        replace hr2 := Lib.hid hr2
        go_upto_region 20 with fail
        go_wp2_with fail
        refine (cNm.out _).mono ?_
        rintro en wn ⟨rfl, rfl⟩
        go_wp2_with fail
        refine (rdigit_any _ _).mono ?_
        rintro en wq2 ⟨rfl, rfl⟩
        rw [hdg.out]
        go_upto_region 28 with fail
        clear g0 g1 g2 g3 g4 gf0 gf1 gf2 gf3 gf4 kn hMq hBq
        obtain ⟨c3, f3⟩ := hM3.out.cell_i
        have hM4 := Lib.hid (hM3.out.set_i (i + 1))
        have hB4 := Lib.hid (hB3.out.trans (hM3.out.setB 3 (.int .i64 ((i + 1 : Nat) : Int))))
        have hk1 := Lib.hid (hk.out.on hne)
        go_upto_region 29 with fail
        rw [show (i : Int) + 1 = ((i + 1 : Nat) : Int) from rfl]
        generalize World.setCell _ ⟨p, 3, none⟩ (.int .i64 ((i + 1 : Nat) : Int)) = w4 at hM4 hB4 ⊢
        clear c3 f3 hw1
        have kk : Blk w4 gn 52 #[.int .u8 1, .string tk, .int .i64 0, .int .i64 0, .int .i64 0] := hM4.out.last_
        have g0 : w4.cell? ⟨gn, 0, none⟩ = some (.int .u8 1) := kk.cell 0
        have g1 : w4.cell? ⟨gn, 1, none⟩ = some (.string tk) := kk.cell 1
        have g2 : w4.cell? ⟨gn, 2, none⟩ = some (.int .i64 0) := kk.cell 2
        have g3 : w4.cell? ⟨gn, 3, none⟩ = some (.int .i64 0) := kk.cell 3
        have g4 : w4.cell? ⟨gn, 4, none⟩ = some (.int .i64 0) := kk.cell 4
        have cM0 := rvMade ⟨1, t, 0, 0, 0⟩ 1 pl0 hT.out (show RvS T0 last wrong B p (X ++ [itBlk gn 52 #[.int .u8 1, .string tk, .int .i64 0, .int .i64 0, .int .i64 0]]) oN st.on w4 from ⟨_, hM4.out, hk1.out⟩) (by omega)
        have hrr : r = addP ⟨1, t, 0, 0, 0⟩ 1 pl0 st.on := by rw [← addOn_on]; exact (Option.some.inj hr2.out).symm
        rw [← hrr] at cM0
        have cM : Hid (Calls Tryz.prog 49 #[.pointer (some ⟨p, 0, none⟩), .agg #[.int .u8 1, .string tk, .int .i64 0, .int .i64 0, .int .i64 0], .int .i64 1, .int .i64 (pl0 : Int)] w4 (PostV T0 last wrong B p (X ++ [itBlk gn 52 #[.int .u8 1, .string tk, .int .i64 0, .int .i64 0, .int .i64 0]]) oN st.on w4 r)) := Lib.hid (by
          have e := htkt.out
          dsimp only at cM0
          rw [← e] at cM0
          exact cM0)
        replace hrr := Lib.hid hrr
        replace hne := Lib.hid hne
        clear cM0 kk
        go_wp2_with fail
        refine cM.out.mono ?_
        rintro en w7 hp
        obtain ⟨z, rfl⟩ := hp.end_
        replace hp := Lib.hid (PostV.pop (PostV.pre hp hB4.out))
        go_wp2_with fail
        go_ret
        exact hp.out
end
end Go.Proofs.YtnaadajcehfmiaaGreatDoor
