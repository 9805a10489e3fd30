/- filigreeref11: term, sum. -/
import Derived.Test.YtnaadajcehfmiaaGreatDoorLvL
namespace Go.Proofs.YtnaadajcehfmiaaGreatDoor
open Go.RowKit Go.Sort Go.Maps

section
variable {T0 : List Tok} {last : Nat} {wrong : Bool} {B p i : Nat} {X : List It} {o : Int} {oN : Nat} {N : List Nod} {H : List Nat} {U : List (List Nat × Nat)} {wh cd : Nat} {st : PS} {w w' : World}
set_option maxRecDepth 100000 in
set_option maxHeartbeats 8000000 in
/-- term -/
theorem rvterm {f : PF} (hT : TkOk T0 last) (hp : PartV 48 T0 last wrong B p oN f) (hLf : KeepL f) : PartV 33 T0 last wrong B p oN (rowP last mulS f) := by
  intro X st w r h hr
  obtain ⟨r1, hr1⟩ : ∃ r1, f st = some r1 := by
    unfold rowP at hr
    rcases hf : f st with _ | r1
    · rw [hf] at hr; cases hr
    · exact ⟨r1, rfl⟩
  have c1 := Lib.hid (hp X st w r1 h hr1)
  have hBs := Lib.hid (show B ≤ w.heap.size from by obtain ⟨i, hm, -⟩ := h; exact hm.lt.2.1)
  unfold rowP at hr
  rw [hr1] at hr
  have hL1 := Lib.hid (fun a st1 (e : r1 = .ok a st1) => hLf st a st1 (by rw [hr1, e]))
  replace hr1 := Lib.hid hr1
  replace hT := Lib.hid hT
  replace hp := Lib.hid hp
  replace hLf := Lib.hid hLf
  clear h
  obtain ⟨n0, hn0⟩ : ∃ n, n = (match r1 with | .ok a st1 => st1.T.length + 1 | .no _ _ => 0) := ⟨_, rfl⟩
  have hst : Hid (∀ e w1, PostV T0 last wrong B p X oN st w r1 e w1 → ∃ z : Int, e = .returned (.int .i64 z) ∧ Hid (Below B w w1) ∧ Hid ((∃ (n a' : Nat) (st' : PS), z = (a' : Int) ∧ RvS T0 last wrong B p X oN st' w1 ∧ a' < st'.N.length ∧ st.N.length ≤ st'.N.length ∧ rowL last mulS f n a' st' = some r ∧ n ≤ n0 ∧ st'.L = st.L) ∨ (∃ x y, r = .no x y ∧ RvF T0 last wrong B p X st.L x y w1 ∧ y ≠ 0))) := Lib.hid (fun e w1 hq => by
    rcases r1 with ⟨a, st1⟩ | ⟨x, y⟩
    · obtain ⟨rfl, h2, h3, h4, h5⟩ := hq
      exact ⟨_, rfl, Lib.hid h3, Lib.hid (.inl ⟨n0, a, st1, rfl, h2, h4, h5, by rw [hn0]; exact hr, Nat.le_refl _, hL1.out _ _ rfl⟩)⟩
    · obtain ⟨⟨z, rfl⟩, h2, h3, h4⟩ := hq
      exact ⟨z, rfl, Lib.hid h3, Lib.hid (.inr ⟨x, y, (Option.some.inj hr).symm, h2, h4⟩)⟩)
  replace hn0 := Lib.hid hn0
  replace hr := Lib.hid hr
  go_enter Tryz.func33, Tryz.ntmps33
  go_wp2_with fail
  refine c1.out.mono ?_
  rintro en w1 hq
  obtain ⟨z1, rfl, hB1, hS1⟩ := hst.out _ _ hq
  clear hq hst c1
  go_wp2_with fail
  go_loopg [3] n0 (fun kx v wr => ∃ z : Int, v = .int .i64 z ∧ Hid (Below B w wr) ∧ Hid ((∃ (n a' : Nat) (st' : PS), z = (a' : Int) ∧ RvS T0 last wrong B p X oN st' wr ∧ a' < st'.N.length ∧ st.N.length ≤ st'.N.length ∧ rowL last mulS f n a' st' = some r ∧ n ≤ kx ∧ st'.L = st.L) ∨ (∃ x y, r = .no x y ∧ RvF T0 last wrong B p X st.L x y wr ∧ y ≠ 0)))
  case atStart => exact ⟨z1, rfl, hB1, hS1⟩
  case round =>
    obtain ⟨z, rfl, hB, hS⟩ := hrel
    rcases hS.out with ⟨n, a', st', rfl, ⟨i, hm, hk⟩, ha, hN, hrl, hnk, hLs⟩ | ⟨x, y, rfl, ⟨o1, i1, N1, H1, hM⟩, hy⟩
    case inr =>
      obtain ⟨c9, -⟩ := hM.cell_cd
      have hcI : ((y : Int) == 0) = false := k_ne (b := 0) hy
      replace hM := Lib.hid hM
      replace hy := Lib.hid hy
      clear hS
      go_wp2_with fail
      go_ret
      exact ⟨⟨_, rfl⟩, ⟨_, _, _, _, hM.out⟩, hB.out, hy.out⟩
    case inl =>
      rcases n with _ | n
      · rw [rowL] at hrl; cases hrl
      rw [rowL] at hrl
      obtain ⟨c9, -⟩ := hm.cell_cd
      rw [show ((0 : Nat) : Int) = 0 from rfl] at c9
      have hM := Lib.hid (fun (W : World) (hb : Below wr.heap.size wr W) => hm.below hb)
      have cT := Lib.hid (fun (W : World) (hb : Below wr.heap.size wr W) => rvText hT.out.tl (hm.below hb))
      have cP := Lib.hid (fun (W : World) (hb : Below wr.heap.size wr W) => rvPlace hT.out.tl (hm.below hb))
      have hBw := Lib.hid hm.lt.2.1
      have htx := hk.tx
      have hil := hk.il
      have hT9 := hT.out.tl
      have hbt := (hT.out.byt i).1
      have m1 := mkS_is hbt [42] (by unfold Byt; simp)
      have m2 := mkS_is hbt [47] (by unfold Byt; simp)
      obtain ⟨t, ht⟩ : ∃ t, t = txA T0 i := ⟨_, rfl⟩
      rw [← ht] at cT htx hbt m1 m2
      rw [htx] at hrl
      obtain ⟨tk, htk⟩ : ∃ k, k = mkS t := ⟨_, rfl⟩
      rw [← htk] at cT m1 m2
      replace htk := Lib.hid htk
      replace ht := Lib.hid ht
      have hii : (i : Int) ≤ 16384 := by omega
      have hnk2 := Lib.hid hnk
      replace ha := Lib.hid ha
      replace hN := Lib.hid hN
      replace hLs := Lib.hid hLs
      clear hS hm hbt hil hnk
      by_cases hx : t = [42]
      case pos =>
        have e1 : tk.toList = [42] := m1.2 hx
        have q1 : (tk.toList == [42]) = true := by rw [e1]; rfl
        have e2 : ¬ tk.toList = [47] := fun e => by rw [m2.1 e] at hx; cases hx
        have q2 : (tk.toList == [47]) = false := beq_eq_false_iff_ne.2 e2
        rw [show mulS t = some 8 from by rw [hx]; rfl] at hrl
        have hne := Lib.hid (hk.ne (by rw [htx, hx]; simp))
        have hk1 := Lib.hid (hk.on hne.out)
        have hpl := hk.pl (last := last)
        obtain ⟨pl0, hpl0⟩ : ∃ q, q = plA T0 last i := ⟨_, rfl⟩
        rw [← hpl0] at cP hpl
        rw [hpl] at hrl
        obtain ⟨r2, hr2⟩ : ∃ r2, f st'.on = some r2 := by
          simp only at hrl
          rcases hf : f st'.on with _ | r2
          · rw [hf] at hrl; cases hrl
          · exact ⟨r2, rfl⟩
        simp only [hr2] at hrl
        have hLo := Lib.hid (fun b st1 (e : r2 = .ok b st1) => (show st1.L = st'.L from hLf.out st'.on b st1 (by rw [hr2, e])))
        have cQ := Lib.hid (fun (W : World) (hW : RvM T0 last wrong B p X (oN : Int) (i + 1) st'.N st'.H st'.L 0 0 W) => hp.out X st'.on W r2 ⟨i + 1, hW, hk1.out⟩ hr2)
        replace hr2 := Lib.hid hr2
        replace hrl := Lib.hid hrl
        replace hpl0 := Lib.hid hpl0
        have hb0 := Lib.hid (Below.refl wr.heap.size wr)
        clear htx m1 m2 hx hpl hk
        go_wp2_with fail
        refine (cT.out _ hb0.out).mono ?_
        rintro en wt ⟨rfl, hdr⟩
        replace hb0 := Lib.hid (hb0.out.trans (hdr.below _))
        clear hdr
        go_wp2_with fail
        refine (cT.out _ hb0.out).mono ?_
        rintro en wt ⟨rfl, hdr⟩
        replace hb0 := Lib.hid (hb0.out.trans (hdr.below _))
        clear hdr
        go_wp2_with fail
        refine (cP.out _ hb0.out).mono ?_
        rintro en w3 ⟨rfl, hdr⟩
        replace hb0 := Lib.hid (hb0.out.trans (hdr.below _))
        clear hdr cP cT
        have hm3 := hM.out _ hb0.out
        have hB3 := Lib.hid (hB.out.trans (hb0.out.mono hBw.out))
        obtain ⟨c3, f3⟩ := hm3.cell_i
        have hm4 := Lib.hid (hm3.set_i (i + 1))
        have hB4 := Lib.hid (hB3.out.trans (hm3.setB 3 (.int .i64 ((i + 1 : Nat) : Int))))
        have hw1 : wrap64 ((i : Int) + 1) = (i : Int) + 1 := w64_in _ (by omega)
        clear hm3 hb0 hM hB3 hB c9 e1 q1 e2 q2 hii
        go_wp2_with fail
        rw [show (i : Int) + 1 = ((i + 1 : Nat) : Int) from rfl]
        generalize w3.setCell ⟨p, 3, none⟩ (.int .i64 ((i + 1 : Nat) : Int)) = w4 at hm4 hB4 ⊢
        clear c3 f3 hw1
        refine (cQ.out _ hm4.out).mono ?_
        clear cQ hm4
        rcases r2 with ⟨b, st2⟩ | ⟨x, y⟩
        case no =>
          have hrr : r = .no x y := (Option.some.inj hrl.out).symm
          subst hrr
          rintro en w5 ⟨⟨z, rfl⟩, ⟨o1, i1, N1, H1, hM5⟩, hB5, hy⟩
          have cW := Lib.hid (fun (z0 z1 z2 z3 : Int) => rvTwo1 hy z0 z1 z2 z3 hM5)
          replace hM5 := Lib.hid (show RvM T0 last wrong B p X o1 i1 N1 H1 st.L x y w5 from by have h9 := hM5; rw [show st'.on.L = st'.L from rfl, hLs.out] at h9; exact h9)
          replace hB5 := Lib.hid (hB4.out.trans hB5)
          replace hy := Lib.hid hy
          clear hB4
          go_wp2_with fail
          refine (cW.out _ _ _ _).mono ?_
          rintro en w6 ⟨rfl, rfl⟩
          go_wp2_with fail
          go_roundg n
          case measure => have := hnk2.out; omega
          case rel => exact ⟨0, rfl, hB5, Lib.hid (.inr ⟨x, y, rfl, ⟨_, _, _, _, hM5.out⟩, hy.out⟩)⟩
        case ok =>
          rintro en w5 ⟨rfl, h5, hB5, hb5, hN5⟩
          have ha5 : a' < st2.N.length := Nat.lt_of_lt_of_le ha.out hN5
          have hN6 := Lib.hid (Nat.le_trans hN.out hN5)
          have cW0 := rvTwo 8 a' b pl0 hT.out h5 ha5 hb5
          have hrl2 := hrl.out
          simp only at hrl2
          obtain ⟨r3, hr3⟩ : ∃ r3, r3 = addP ⟨8, [], a', b, 0⟩ (1 + max (st2.hi a') (st2.hi b)) pl0 st2 := ⟨_, rfl⟩
          rw [← hr3] at hrl2 cW0
          have cW := Lib.hid cW0
          have hst3 := Lib.hid (fun v st3 (e : r3 = .ok v st3) => (show st3.L = st2.L from by rw [(addP_ok (hr3.symm.trans e)).2]))
          replace hr3 := Lib.hid hr3
          replace hrl := Lib.hid hrl2
          replace hB5 := Lib.hid (hB4.out.trans hB5)
          have hL5 := Lib.hid (show st2.L = st.L from (hLo.out _ _ rfl).trans hLs.out)
          clear hrl2 ha5 hb5 hN5 hB4 h5 cW0
          go_wp2_with fail
          refine cW.out.mono ?_
          clear cW
          rcases r3 with ⟨c, st3⟩ | ⟨x, y⟩
          case no =>
            have hrr : r = .no x y := (Option.some.inj hrl.out).symm
            subst hrr
            rintro en w6 ⟨⟨z, rfl⟩, hF6, hB6, hy⟩
            replace hF6 := Lib.hid (by rw [hL5.out] at hF6; exact hF6)
            replace hB6 := Lib.hid (hB5.out.trans hB6)
            replace hy := Lib.hid hy
            clear hB5
            go_wp2_with fail
            go_roundg n
            case measure => have := hnk2.out; omega
            case rel => exact ⟨z, rfl, hB6, Lib.hid (.inr ⟨x, y, rfl, hF6.out, hy.out⟩)⟩
          case ok =>
            rintro en w6 ⟨rfl, hR6, hB6, hc6, hN7⟩
            replace hR6 := Lib.hid hR6
            replace hB6 := Lib.hid (hB5.out.trans hB6)
            replace hc6 := Lib.hid hc6
            replace hN7 := Lib.hid (Nat.le_trans hN6.out hN7)
            have hL6 := Lib.hid (show st3.L = st.L from (hst3.out _ _ rfl).trans hL5.out)
            clear hB5
            go_wp2_with fail
            go_roundg n
            case measure => have := hnk2.out; omega
            case rel => exact ⟨(c : Int), rfl, hB6, Lib.hid (.inl ⟨n, c, st3, rfl, hR6.out, hc6.out, hN7.out, hrl.out, Nat.le_refl _, hL6.out⟩)⟩
      have hxn := hx
      clear hx
      have e1 : ¬ tk.toList = [42] := fun e => hxn (m1.1 e)
      have q1 : (tk.toList == [42]) = false := beq_eq_false_iff_ne.2 e1
      by_cases hx : t = [47]
      case pos =>
        have e2 : tk.toList = [47] := m2.2 hx
        have q2 : (tk.toList == [47]) = true := by rw [e2]; rfl
        rw [show mulS t = some 9 from by rw [hx]; rfl] at hrl
        replace hxn := Lib.hid hxn
        have hne := Lib.hid (hk.ne (by rw [htx, hx]; simp))
        have hk1 := Lib.hid (hk.on hne.out)
        have hpl := hk.pl (last := last)
        obtain ⟨pl0, hpl0⟩ : ∃ q, q = plA T0 last i := ⟨_, rfl⟩
        rw [← hpl0] at cP hpl
        rw [hpl] at hrl
        obtain ⟨r2, hr2⟩ : ∃ r2, f st'.on = some r2 := by
          simp only at hrl
          rcases hf : f st'.on with _ | r2
          · rw [hf] at hrl; cases hrl
          · exact ⟨r2, rfl⟩
        simp only [hr2] at hrl
        have hLo := Lib.hid (fun b st1 (e : r2 = .ok b st1) => (show st1.L = st'.L from hLf.out st'.on b st1 (by rw [hr2, e])))
        have cQ := Lib.hid (fun (W : World) (hW : RvM T0 last wrong B p X (oN : Int) (i + 1) st'.N st'.H st'.L 0 0 W) => hp.out X st'.on W r2 ⟨i + 1, hW, hk1.out⟩ hr2)
        replace hr2 := Lib.hid hr2
        replace hrl := Lib.hid hrl
        replace hpl0 := Lib.hid hpl0
        have hb0 := Lib.hid (Below.refl wr.heap.size wr)
        clear htx m1 m2 hx hpl hk
        go_wp2_with fail
        refine (cT.out _ hb0.out).mono ?_
        rintro en wt ⟨rfl, hdr⟩
        replace hb0 := Lib.hid (hb0.out.trans (hdr.below _))
        clear hdr
        go_wp2_with fail
        refine (cT.out _ hb0.out).mono ?_
        rintro en wt ⟨rfl, hdr⟩
        replace hb0 := Lib.hid (hb0.out.trans (hdr.below _))
        clear hdr
        go_wp2_with fail
        refine (cT.out _ hb0.out).mono ?_
        rintro en wt ⟨rfl, hdr⟩
        replace hb0 := Lib.hid (hb0.out.trans (hdr.below _))
        clear hdr
        go_wp2_with fail
        refine (cP.out _ hb0.out).mono ?_
        rintro en w3 ⟨rfl, hdr⟩
        replace hb0 := Lib.hid (hb0.out.trans (hdr.below _))
        clear hdr cP cT
        have hm3 := hM.out _ hb0.out
        have hB3 := Lib.hid (hB.out.trans (hb0.out.mono hBw.out))
        obtain ⟨c3, f3⟩ := hm3.cell_i
        have hm4 := Lib.hid (hm3.set_i (i + 1))
        have hB4 := Lib.hid (hB3.out.trans (hm3.setB 3 (.int .i64 ((i + 1 : Nat) : Int))))
        have hw1 : wrap64 ((i : Int) + 1) = (i : Int) + 1 := w64_in _ (by omega)
        clear hm3 hb0 hM hB3 hB c9 e1 q1 e2 q2 hii
        go_wp2_with fail
        rw [show (i : Int) + 1 = ((i + 1 : Nat) : Int) from rfl]
        generalize w3.setCell ⟨p, 3, none⟩ (.int .i64 ((i + 1 : Nat) : Int)) = w4 at hm4 hB4 ⊢
        clear c3 f3 hw1
        refine (cQ.out _ hm4.out).mono ?_
        clear cQ hm4
        rcases r2 with ⟨b, st2⟩ | ⟨x, y⟩
        case no =>
          have hrr : r = .no x y := (Option.some.inj hrl.out).symm
          subst hrr
          rintro en w5 ⟨⟨z, rfl⟩, ⟨o1, i1, N1, H1, hM5⟩, hB5, hy⟩
          have cW := Lib.hid (fun (z0 z1 z2 z3 : Int) => rvTwo1 hy z0 z1 z2 z3 hM5)
          replace hM5 := Lib.hid (show RvM T0 last wrong B p X o1 i1 N1 H1 st.L x y w5 from by have h9 := hM5; rw [show st'.on.L = st'.L from rfl, hLs.out] at h9; exact h9)
          replace hB5 := Lib.hid (hB4.out.trans hB5)
          replace hy := Lib.hid hy
          clear hB4
          go_wp2_with fail
          refine (cW.out _ _ _ _).mono ?_
          rintro en w6 ⟨rfl, rfl⟩
          go_wp2_with fail
          go_roundg n
          case measure => have := hnk2.out; omega
          case rel => exact ⟨0, rfl, hB5, Lib.hid (.inr ⟨x, y, rfl, ⟨_, _, _, _, hM5.out⟩, hy.out⟩)⟩
        case ok =>
          rintro en w5 ⟨rfl, h5, hB5, hb5, hN5⟩
          have ha5 : a' < st2.N.length := Nat.lt_of_lt_of_le ha.out hN5
          have hN6 := Lib.hid (Nat.le_trans hN.out hN5)
          have cW0 := rvTwo 9 a' b pl0 hT.out h5 ha5 hb5
          have hrl2 := hrl.out
          simp only at hrl2
          obtain ⟨r3, hr3⟩ : ∃ r3, r3 = addP ⟨9, [], a', b, 0⟩ (1 + max (st2.hi a') (st2.hi b)) pl0 st2 := ⟨_, rfl⟩
          rw [← hr3] at hrl2 cW0
          have cW := Lib.hid cW0
          have hst3 := Lib.hid (fun v st3 (e : r3 = .ok v st3) => (show st3.L = st2.L from by rw [(addP_ok (hr3.symm.trans e)).2]))
          replace hr3 := Lib.hid hr3
          replace hrl := Lib.hid hrl2
          replace hB5 := Lib.hid (hB4.out.trans hB5)
          have hL5 := Lib.hid (show st2.L = st.L from (hLo.out _ _ rfl).trans hLs.out)
          clear hrl2 ha5 hb5 hN5 hB4 h5 cW0
          go_wp2_with fail
          refine cW.out.mono ?_
          clear cW
          rcases r3 with ⟨c, st3⟩ | ⟨x, y⟩
          case no =>
            have hrr : r = .no x y := (Option.some.inj hrl.out).symm
            subst hrr
            rintro en w6 ⟨⟨z, rfl⟩, hF6, hB6, hy⟩
            replace hF6 := Lib.hid (by rw [hL5.out] at hF6; exact hF6)
            replace hB6 := Lib.hid (hB5.out.trans hB6)
            replace hy := Lib.hid hy
            clear hB5
            go_wp2_with fail
            go_roundg n
            case measure => have := hnk2.out; omega
            case rel => exact ⟨z, rfl, hB6, Lib.hid (.inr ⟨x, y, rfl, hF6.out, hy.out⟩)⟩
          case ok =>
            rintro en w6 ⟨rfl, hR6, hB6, hc6, hN7⟩
            replace hR6 := Lib.hid hR6
            replace hB6 := Lib.hid (hB5.out.trans hB6)
            replace hc6 := Lib.hid hc6
            replace hN7 := Lib.hid (Nat.le_trans hN6.out hN7)
            have hL6 := Lib.hid (show st3.L = st.L from (hst3.out _ _ rfl).trans hL5.out)
            clear hB5
            go_wp2_with fail
            go_roundg n
            case measure => have := hnk2.out; omega
            case rel => exact ⟨(c : Int), rfl, hB6, Lib.hid (.inl ⟨n, c, st3, rfl, hR6.out, hc6.out, hN7.out, hrl.out, Nat.le_refl _, hL6.out⟩)⟩
      case neg =>
        have e2 : ¬ tk.toList = [47] := fun e => hx (m2.1 e)
        have q2 : (tk.toList == [47]) = false := beq_eq_false_iff_ne.2 e2
        rw [show mulS t = none from by unfold mulS; rw [if_neg hxn, if_neg hx]] at hrl
        have hrr : r = .ok a' st' := (Option.some.inj hrl).symm
        subst hrr
        replace hk := Lib.hid hk
        have hb0 := Lib.hid (Below.refl wr.heap.size wr)
        clear hx hxn m1 m2 hrl htx
        go_wp2_with fail
        refine (cT.out _ hb0.out).mono ?_
        rintro en wt ⟨rfl, hdr⟩
        replace hb0 := Lib.hid (hb0.out.trans (hdr.below _))
        clear hdr
        go_wp2_with fail
        refine (cT.out _ hb0.out).mono ?_
        rintro en wt ⟨rfl, hdr⟩
        replace hb0 := Lib.hid (hb0.out.trans (hdr.below _))
        clear hdr
        go_wp2_with fail
        go_ret
        exact ⟨rfl, ⟨i, hM.out _ hb0.out, hk.out⟩, hB.out.trans (hb0.out.mono hBw.out), ha.out, hN.out⟩
set_option maxRecDepth 100000 in
set_option maxHeartbeats 8000000 in
/-- sum -/
theorem rvsum {f : PF} (hT : TkOk T0 last) (hp : PartV 33 T0 last wrong B p oN f) (hLf : KeepL f) : PartV 15 T0 last wrong B p oN (rowP last addS f) := by
  intro X st w r h hr
  obtain ⟨r1, hr1⟩ : ∃ r1, f st = some r1 := by
    unfold rowP at hr
    rcases hf : f st with _ | r1
    · rw [hf] at hr; cases hr
    · exact ⟨r1, rfl⟩
  have c1 := Lib.hid (hp X st w r1 h hr1)
  have hBs := Lib.hid (show B ≤ w.heap.size from by obtain ⟨i, hm, -⟩ := h; exact hm.lt.2.1)
  unfold rowP at hr
  rw [hr1] at hr
  have hL1 := Lib.hid (fun a st1 (e : r1 = .ok a st1) => hLf st a st1 (by rw [hr1, e]))
  replace hr1 := Lib.hid hr1
  replace hT := Lib.hid hT
  replace hp := Lib.hid hp
  replace hLf := Lib.hid hLf
  clear h
  obtain ⟨n0, hn0⟩ : ∃ n, n = (match r1 with | .ok a st1 => st1.T.length + 1 | .no _ _ => 0) := ⟨_, rfl⟩
  have hst : Hid (∀ e w1, PostV T0 last wrong B p X oN st w r1 e w1 → ∃ z : Int, e = .returned (.int .i64 z) ∧ Hid (Below B w w1) ∧ Hid ((∃ (n a' : Nat) (st' : PS), z = (a' : Int) ∧ RvS T0 last wrong B p X oN st' w1 ∧ a' < st'.N.length ∧ st.N.length ≤ st'.N.length ∧ rowL last addS f n a' st' = some r ∧ n ≤ n0 ∧ st'.L = st.L) ∨ (∃ x y, r = .no x y ∧ RvF T0 last wrong B p X st.L x y w1 ∧ y ≠ 0))) := Lib.hid (fun e w1 hq => by
    rcases r1 with ⟨a, st1⟩ | ⟨x, y⟩
    · obtain ⟨rfl, h2, h3, h4, h5⟩ := hq
      exact ⟨_, rfl, Lib.hid h3, Lib.hid (.inl ⟨n0, a, st1, rfl, h2, h4, h5, by rw [hn0]; exact hr, Nat.le_refl _, hL1.out _ _ rfl⟩)⟩
    · obtain ⟨⟨z, rfl⟩, h2, h3, h4⟩ := hq
      exact ⟨z, rfl, Lib.hid h3, Lib.hid (.inr ⟨x, y, (Option.some.inj hr).symm, h2, h4⟩)⟩)
  replace hn0 := Lib.hid hn0
  replace hr := Lib.hid hr
  go_enter Tryz.func15, Tryz.ntmps15
  go_wp2_with fail
  refine c1.out.mono ?_
  rintro en w1 hq
  obtain ⟨z1, rfl, hB1, hS1⟩ := hst.out _ _ hq
  clear hq hst c1
  go_wp2_with fail
  go_loopg [3] n0 (fun kx v wr => ∃ z : Int, v = .int .i64 z ∧ Hid (Below B w wr) ∧ Hid ((∃ (n a' : Nat) (st' : PS), z = (a' : Int) ∧ RvS T0 last wrong B p X oN st' wr ∧ a' < st'.N.length ∧ st.N.length ≤ st'.N.length ∧ rowL last addS f n a' st' = some r ∧ n ≤ kx ∧ st'.L = st.L) ∨ (∃ x y, r = .no x y ∧ RvF T0 last wrong B p X st.L x y wr ∧ y ≠ 0)))
  case atStart => exact ⟨z1, rfl, hB1, hS1⟩
  case round =>
    obtain ⟨z, rfl, hB, hS⟩ := hrel
    rcases hS.out with ⟨n, a', st', rfl, ⟨i, hm, hk⟩, ha, hN, hrl, hnk, hLs⟩ | ⟨x, y, rfl, ⟨o1, i1, N1, H1, hM⟩, hy⟩
    case inr =>
      obtain ⟨c9, -⟩ := hM.cell_cd
      have hcI : ((y : Int) == 0) = false := k_ne (b := 0) hy
      replace hM := Lib.hid hM
      replace hy := Lib.hid hy
      clear hS
      go_wp2_with fail
      go_ret
      exact ⟨⟨_, rfl⟩, ⟨_, _, _, _, hM.out⟩, hB.out, hy.out⟩
    case inl =>
      rcases n with _ | n
      · rw [rowL] at hrl; cases hrl
      rw [rowL] at hrl
      obtain ⟨c9, -⟩ := hm.cell_cd
      rw [show ((0 : Nat) : Int) = 0 from rfl] at c9
      have hM := Lib.hid (fun (W : World) (hb : Below wr.heap.size wr W) => hm.below hb)
      have cT := Lib.hid (fun (W : World) (hb : Below wr.heap.size wr W) => rvText hT.out.tl (hm.below hb))
      have cP := Lib.hid (fun (W : World) (hb : Below wr.heap.size wr W) => rvPlace hT.out.tl (hm.below hb))
      have hBw := Lib.hid hm.lt.2.1
      have htx := hk.tx
      have hil := hk.il
      have hT9 := hT.out.tl
      have hbt := (hT.out.byt i).1
      have m1 := mkS_is hbt [43] (by unfold Byt; simp)
      have m2 := mkS_is hbt [45] (by unfold Byt; simp)
      obtain ⟨t, ht⟩ : ∃ t, t = txA T0 i := ⟨_, rfl⟩
      rw [← ht] at cT htx hbt m1 m2
      rw [htx] at hrl
      obtain ⟨tk, htk⟩ : ∃ k, k = mkS t := ⟨_, rfl⟩
      rw [← htk] at cT m1 m2
      replace htk := Lib.hid htk
      replace ht := Lib.hid ht
      have hii : (i : Int) ≤ 16384 := by omega
      have hnk2 := Lib.hid hnk
      replace ha := Lib.hid ha
      replace hN := Lib.hid hN
      replace hLs := Lib.hid hLs
      clear hS hm hbt hil hnk
      by_cases hx : t = [43]
      case pos =>
        have e1 : tk.toList = [43] := m1.2 hx
        have q1 : (tk.toList == [43]) = true := by rw [e1]; rfl
        have e2 : ¬ tk.toList = [45] := fun e => by rw [m2.1 e] at hx; cases hx
        have q2 : (tk.toList == [45]) = false := beq_eq_false_iff_ne.2 e2
        rw [show addS t = some 6 from by rw [hx]; rfl] at hrl
        have hne := Lib.hid (hk.ne (by rw [htx, hx]; simp))
        have hk1 := Lib.hid (hk.on hne.out)
        have hpl := hk.pl (last := last)
        obtain ⟨pl0, hpl0⟩ : ∃ q, q = plA T0 last i := ⟨_, rfl⟩
        rw [← hpl0] at cP hpl
        rw [hpl] at hrl
        obtain ⟨r2, hr2⟩ : ∃ r2, f st'.on = some r2 := by
          simp only at hrl
          rcases hf : f st'.on with _ | r2
          · rw [hf] at hrl; cases hrl
          · exact ⟨r2, rfl⟩
        simp only [hr2] at hrl
        have hLo := Lib.hid (fun b st1 (e : r2 = .ok b st1) => (show st1.L = st'.L from hLf.out st'.on b st1 (by rw [hr2, e])))
        have cQ := Lib.hid (fun (W : World) (hW : RvM T0 last wrong B p X (oN : Int) (i + 1) st'.N st'.H st'.L 0 0 W) => hp.out X st'.on W r2 ⟨i + 1, hW, hk1.out⟩ hr2)
        replace hr2 := Lib.hid hr2
        replace hrl := Lib.hid hrl
        replace hpl0 := Lib.hid hpl0
        have hb0 := Lib.hid (Below.refl wr.heap.size wr)
        clear htx m1 m2 hx hpl hk
        go_wp2_with fail
        refine (cT.out _ hb0.out).mono ?_
        rintro en wt ⟨rfl, hdr⟩
        replace hb0 := Lib.hid (hb0.out.trans (hdr.below _))
        clear hdr
        go_wp2_with fail
        refine (cT.out _ hb0.out).mono ?_
        rintro en wt ⟨rfl, hdr⟩
        replace hb0 := Lib.hid (hb0.out.trans (hdr.below _))
        clear hdr
        go_wp2_with fail
        refine (cP.out _ hb0.out).mono ?_
        rintro en w3 ⟨rfl, hdr⟩
        replace hb0 := Lib.hid (hb0.out.trans (hdr.below _))
        clear hdr cP cT
        have hm3 := hM.out _ hb0.out
        have hB3 := Lib.hid (hB.out.trans (hb0.out.mono hBw.out))
        obtain ⟨c3, f3⟩ := hm3.cell_i
        have hm4 := Lib.hid (hm3.set_i (i + 1))
        have hB4 := Lib.hid (hB3.out.trans (hm3.setB 3 (.int .i64 ((i + 1 : Nat) : Int))))
        have hw1 : wrap64 ((i : Int) + 1) = (i : Int) + 1 := w64_in _ (by omega)
        clear hm3 hb0 hM hB3 hB c9 e1 q1 e2 q2 hii
        go_wp2_with fail
        rw [show (i : Int) + 1 = ((i + 1 : Nat) : Int) from rfl]
        generalize w3.setCell ⟨p, 3, none⟩ (.int .i64 ((i + 1 : Nat) : Int)) = w4 at hm4 hB4 ⊢
        clear c3 f3 hw1
        refine (cQ.out _ hm4.out).mono ?_
        clear cQ hm4
        rcases r2 with ⟨b, st2⟩ | ⟨x, y⟩
        case no =>
          have hrr : r = .no x y := (Option.some.inj hrl.out).symm
          subst hrr
          rintro en w5 ⟨⟨z, rfl⟩, ⟨o1, i1, N1, H1, hM5⟩, hB5, hy⟩
          have cW := Lib.hid (fun (z0 z1 z2 z3 : Int) => rvTwo1 hy z0 z1 z2 z3 hM5)
          replace hM5 := Lib.hid (show RvM T0 last wrong B p X o1 i1 N1 H1 st.L x y w5 from by have h9 := hM5; rw [show st'.on.L = st'.L from rfl, hLs.out] at h9; exact h9)
          replace hB5 := Lib.hid (hB4.out.trans hB5)
          replace hy := Lib.hid hy
          clear hB4
          go_wp2_with fail
          refine (cW.out _ _ _ _).mono ?_
          rintro en w6 ⟨rfl, rfl⟩
          go_wp2_with fail
          go_roundg n
          case measure => have := hnk2.out; omega
          case rel => exact ⟨0, rfl, hB5, Lib.hid (.inr ⟨x, y, rfl, ⟨_, _, _, _, hM5.out⟩, hy.out⟩)⟩
        case ok =>
          rintro en w5 ⟨rfl, h5, hB5, hb5, hN5⟩
          have ha5 : a' < st2.N.length := Nat.lt_of_lt_of_le ha.out hN5
          have hN6 := Lib.hid (Nat.le_trans hN.out hN5)
          have cW0 := rvTwo 6 a' b pl0 hT.out h5 ha5 hb5
          have hrl2 := hrl.out
          simp only at hrl2
          obtain ⟨r3, hr3⟩ : ∃ r3, r3 = addP ⟨6, [], a', b, 0⟩ (1 + max (st2.hi a') (st2.hi b)) pl0 st2 := ⟨_, rfl⟩
          rw [← hr3] at hrl2 cW0
          have cW := Lib.hid cW0
          have hst3 := Lib.hid (fun v st3 (e : r3 = .ok v st3) => (show st3.L = st2.L from by rw [(addP_ok (hr3.symm.trans e)).2]))
          replace hr3 := Lib.hid hr3
          replace hrl := Lib.hid hrl2
          replace hB5 := Lib.hid (hB4.out.trans hB5)
          have hL5 := Lib.hid (show st2.L = st.L from (hLo.out _ _ rfl).trans hLs.out)
          clear hrl2 ha5 hb5 hN5 hB4 h5 cW0
          go_wp2_with fail
          refine cW.out.mono ?_
          clear cW
          rcases r3 with ⟨c, st3⟩ | ⟨x, y⟩
          case no =>
            have hrr : r = .no x y := (Option.some.inj hrl.out).symm
            subst hrr
            rintro en w6 ⟨⟨z, rfl⟩, hF6, hB6, hy⟩
            replace hF6 := Lib.hid (by rw [hL5.out] at hF6; exact hF6)
            replace hB6 := Lib.hid (hB5.out.trans hB6)
            replace hy := Lib.hid hy
            clear hB5
            go_wp2_with fail
            go_roundg n
            case measure => have := hnk2.out; omega
            case rel => exact ⟨z, rfl, hB6, Lib.hid (.inr ⟨x, y, rfl, hF6.out, hy.out⟩)⟩
          case ok =>
            rintro en w6 ⟨rfl, hR6, hB6, hc6, hN7⟩
            replace hR6 := Lib.hid hR6
            replace hB6 := Lib.hid (hB5.out.trans hB6)
            replace hc6 := Lib.hid hc6
            replace hN7 := Lib.hid (Nat.le_trans hN6.out hN7)
            have hL6 := Lib.hid (show st3.L = st.L from (hst3.out _ _ rfl).trans hL5.out)
            clear hB5
            go_wp2_with fail
            go_roundg n
            case measure => have := hnk2.out; omega
            case rel => exact ⟨(c : Int), rfl, hB6, Lib.hid (.inl ⟨n, c, st3, rfl, hR6.out, hc6.out, hN7.out, hrl.out, Nat.le_refl _, hL6.out⟩)⟩
      have hxn := hx
      clear hx
      have e1 : ¬ tk.toList = [43] := fun e => hxn (m1.1 e)
      have q1 : (tk.toList == [43]) = false := beq_eq_false_iff_ne.2 e1
      by_cases hx : t = [45]
      case pos =>
        have e2 : tk.toList = [45] := m2.2 hx
        have q2 : (tk.toList == [45]) = true := by rw [e2]; rfl
        rw [show addS t = some 7 from by rw [hx]; rfl] at hrl
        replace hxn := Lib.hid hxn
        have hne := Lib.hid (hk.ne (by rw [htx, hx]; simp))
        have hk1 := Lib.hid (hk.on hne.out)
        have hpl := hk.pl (last := last)
        obtain ⟨pl0, hpl0⟩ : ∃ q, q = plA T0 last i := ⟨_, rfl⟩
        rw [← hpl0] at cP hpl
        rw [hpl] at hrl
        obtain ⟨r2, hr2⟩ : ∃ r2, f st'.on = some r2 := by
          simp only at hrl
          rcases hf : f st'.on with _ | r2
          · rw [hf] at hrl; cases hrl
          · exact ⟨r2, rfl⟩
        simp only [hr2] at hrl
        have hLo := Lib.hid (fun b st1 (e : r2 = .ok b st1) => (show st1.L = st'.L from hLf.out st'.on b st1 (by rw [hr2, e])))
        have cQ := Lib.hid (fun (W : World) (hW : RvM T0 last wrong B p X (oN : Int) (i + 1) st'.N st'.H st'.L 0 0 W) => hp.out X st'.on W r2 ⟨i + 1, hW, hk1.out⟩ hr2)
        replace hr2 := Lib.hid hr2
        replace hrl := Lib.hid hrl
        replace hpl0 := Lib.hid hpl0
        have hb0 := Lib.hid (Below.refl wr.heap.size wr)
        clear htx m1 m2 hx hpl hk
        go_wp2_with fail
        refine (cT.out _ hb0.out).mono ?_
        rintro en wt ⟨rfl, hdr⟩
        replace hb0 := Lib.hid (hb0.out.trans (hdr.below _))
        clear hdr
        go_wp2_with fail
        refine (cT.out _ hb0.out).mono ?_
        rintro en wt ⟨rfl, hdr⟩
        replace hb0 := Lib.hid (hb0.out.trans (hdr.below _))
        clear hdr
        go_wp2_with fail
        refine (cT.out _ hb0.out).mono ?_
        rintro en wt ⟨rfl, hdr⟩
        replace hb0 := Lib.hid (hb0.out.trans (hdr.below _))
        clear hdr
        go_wp2_with fail
        refine (cP.out _ hb0.out).mono ?_
        rintro en w3 ⟨rfl, hdr⟩
        replace hb0 := Lib.hid (hb0.out.trans (hdr.below _))
        clear hdr cP cT
        have hm3 := hM.out _ hb0.out
        have hB3 := Lib.hid (hB.out.trans (hb0.out.mono hBw.out))
        obtain ⟨c3, f3⟩ := hm3.cell_i
        have hm4 := Lib.hid (hm3.set_i (i + 1))
        have hB4 := Lib.hid (hB3.out.trans (hm3.setB 3 (.int .i64 ((i + 1 : Nat) : Int))))
        have hw1 : wrap64 ((i : Int) + 1) = (i : Int) + 1 := w64_in _ (by omega)
        clear hm3 hb0 hM hB3 hB c9 e1 q1 e2 q2 hii
        go_wp2_with fail
        rw [show (i : Int) + 1 = ((i + 1 : Nat) : Int) from rfl]
        generalize w3.setCell ⟨p, 3, none⟩ (.int .i64 ((i + 1 : Nat) : Int)) = w4 at hm4 hB4 ⊢
        clear c3 f3 hw1
        refine (cQ.out _ hm4.out).mono ?_
        clear cQ hm4
        rcases r2 with ⟨b, st2⟩ | ⟨x, y⟩
        case no =>
          have hrr : r = .no x y := (Option.some.inj hrl.out).symm
          subst hrr
          rintro en w5 ⟨⟨z, rfl⟩, ⟨o1, i1, N1, H1, hM5⟩, hB5, hy⟩
          have cW := Lib.hid (fun (z0 z1 z2 z3 : Int) => rvTwo1 hy z0 z1 z2 z3 hM5)
          replace hM5 := Lib.hid (show RvM T0 last wrong B p X o1 i1 N1 H1 st.L x y w5 from by have h9 := hM5; rw [show st'.on.L = st'.L from rfl, hLs.out] at h9; exact h9)
          replace hB5 := Lib.hid (hB4.out.trans hB5)
          replace hy := Lib.hid hy
          clear hB4
          go_wp2_with fail
          refine (cW.out _ _ _ _).mono ?_
          rintro en w6 ⟨rfl, rfl⟩
          go_wp2_with fail
          go_roundg n
          case measure => have := hnk2.out; omega
          case rel => exact ⟨0, rfl, hB5, Lib.hid (.inr ⟨x, y, rfl, ⟨_, _, _, _, hM5.out⟩, hy.out⟩)⟩
        case ok =>
          rintro en w5 ⟨rfl, h5, hB5, hb5, hN5⟩
          have ha5 : a' < st2.N.length := Nat.lt_of_lt_of_le ha.out hN5
          have hN6 := Lib.hid (Nat.le_trans hN.out hN5)
          have cW0 := rvTwo 7 a' b pl0 hT.out h5 ha5 hb5
          have hrl2 := hrl.out
          simp only at hrl2
          obtain ⟨r3, hr3⟩ : ∃ r3, r3 = addP ⟨7, [], a', b, 0⟩ (1 + max (st2.hi a') (st2.hi b)) pl0 st2 := ⟨_, rfl⟩
          rw [← hr3] at hrl2 cW0
          have cW := Lib.hid cW0
          have hst3 := Lib.hid (fun v st3 (e : r3 = .ok v st3) => (show st3.L = st2.L from by rw [(addP_ok (hr3.symm.trans e)).2]))
          replace hr3 := Lib.hid hr3
          replace hrl := Lib.hid hrl2
          replace hB5 := Lib.hid (hB4.out.trans hB5)
          have hL5 := Lib.hid (show st2.L = st.L from (hLo.out _ _ rfl).trans hLs.out)
          clear hrl2 ha5 hb5 hN5 hB4 h5 cW0
          go_wp2_with fail
          refine cW.out.mono ?_
          clear cW
          rcases r3 with ⟨c, st3⟩ | ⟨x, y⟩
          case no =>
            have hrr : r = .no x y := (Option.some.inj hrl.out).symm
            subst hrr
            rintro en w6 ⟨⟨z, rfl⟩, hF6, hB6, hy⟩
            replace hF6 := Lib.hid (by rw [hL5.out] at hF6; exact hF6)
            replace hB6 := Lib.hid (hB5.out.trans hB6)
            replace hy := Lib.hid hy
            clear hB5
            go_wp2_with fail
            go_roundg n
            case measure => have := hnk2.out; omega
            case rel => exact ⟨z, rfl, hB6, Lib.hid (.inr ⟨x, y, rfl, hF6.out, hy.out⟩)⟩
          case ok =>
            rintro en w6 ⟨rfl, hR6, hB6, hc6, hN7⟩
            replace hR6 := Lib.hid hR6
            replace hB6 := Lib.hid (hB5.out.trans hB6)
            replace hc6 := Lib.hid hc6
            replace hN7 := Lib.hid (Nat.le_trans hN6.out hN7)
            have hL6 := Lib.hid (show st3.L = st.L from (hst3.out _ _ rfl).trans hL5.out)
            clear hB5
            go_wp2_with fail
            go_roundg n
            case measure => have := hnk2.out; omega
            case rel => exact ⟨(c : Int), rfl, hB6, Lib.hid (.inl ⟨n, c, st3, rfl, hR6.out, hc6.out, hN7.out, hrl.out, Nat.le_refl _, hL6.out⟩)⟩
      case neg =>
        have e2 : ¬ tk.toList = [45] := fun e => hx (m2.1 e)
        have q2 : (tk.toList == [45]) = false := beq_eq_false_iff_ne.2 e2
        rw [show addS t = none from by unfold addS; rw [if_neg hxn, if_neg hx]] at hrl
        have hrr : r = .ok a' st' := (Option.some.inj hrl).symm
        subst hrr
        replace hk := Lib.hid hk
        have hb0 := Lib.hid (Below.refl wr.heap.size wr)
        clear hx hxn m1 m2 hrl htx
        go_wp2_with fail
        refine (cT.out _ hb0.out).mono ?_
        rintro en wt ⟨rfl, hdr⟩
        replace hb0 := Lib.hid (hb0.out.trans (hdr.below _))
        clear hdr
        go_wp2_with fail
        refine (cT.out _ hb0.out).mono ?_
        rintro en wt ⟨rfl, hdr⟩
        replace hb0 := Lib.hid (hb0.out.trans (hdr.below _))
        clear hdr
        go_wp2_with fail
        go_ret
        exact ⟨rfl, ⟨i, hM.out _ hb0.out, hk.out⟩, hB.out.trans (hb0.out.mono hBw.out), ha.out, hN.out⟩
end
end Go.Proofs.YtnaadajcehfmiaaGreatDoor
