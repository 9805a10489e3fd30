/- filigreeref11: minus. -/
import Derived.Test.YtnaadajcehfmiaaGreatDoorLvJ
namespace Go.Proofs.YtnaadajcehfmiaaGreatDoor
open Go.RowKit Go.Sort Go.Maps

section
variable {T0 : List Tok} {last : Nat} {wrong : Bool} {B p i : Nat} {X : List It} {o : Int} {oN : Nat} {N : List Nod} {H : List Nat} {U : List (List Nat × Nat)} {wh cd : Nat} {st : PS} {w w' : World}
theorem vnegs_end {T : List Tok} (h : ∀ t T', T = t :: T' → t.text ≠ [45]) : negs T = ([], T) := by
  rcases T with _ | ⟨t, T⟩
  · rfl
  · rw [negs, if_neg (h t T rfl)]
theorem vnegs_step {t : Tok} {T : List Tok} (h : t.text = [45]) : negs (t :: T) = (t.at_ :: (negs T).1, (negs T).2) := by rw [negs, if_pos h]
/-- What minus tells, from what power tells. -/
def minusF (g : PF) : PF := fun st =>
  match g { st with T := (negs st.T).2 } with
  | none => none
  | some (.no x y) => some (.no x y)
  | some (.ok a st1) => some (negUp (negs st.T).1.reverse a st1)
set_option maxRecDepth 100000 in
set_option maxHeartbeats 8000000 in
/-- minus -/
theorem rvMinus {g : PF} (hT : TkOk T0 last) (hLg : KeepL g) (hpw : PartV 68 T0 last wrong B p oN g) : PartV 48 T0 last wrong B p oN (minusF g) := by
  intro X st w r h hr
  obtain ⟨i1, ii, iz0, iz1, iz2⟩ := info_parts info_int
  have hlt : p < w.heap.size ∧ B ≤ w.heap.size ∧ B ≤ p := by obtain ⟨i, hm, -⟩ := h; exact hm.lt
  have hT9 := hT.tl
  have hT0 : st.T.length ≤ 16384 := by
    obtain ⟨i, hm, hk⟩ := h
    rw [hk.iT, List.length_drop]; omega
  have hR0 : Hid (RvS T0 last wrong B p (X ++ [itRow B 3 1 (.slice none 0 0) ([] : List Nat).length (([] : List Nat).flatMap encH)]) oN ({ st with T := st.T } : PS) w) := Lib.hid (by
    obtain ⟨i, hm, hk⟩ := h
    exact ⟨i, hm.push (gb_refl w none) (World.ownsRow_nil _ _ _ _) (fun k hk => by cases hk), hk⟩)
  have hB0 : Hid (Below B w w) := Lib.hid (Below.refl B w)
  obtain ⟨m0, hm0⟩ : ∃ m, m = st.T.length := ⟨_, rfl⟩
  rw [← hm0] at hT0
  have hn0 : Hid (negs st.T = (([] : List Nat) ++ (negs st.T).1, (negs st.T).2)) := Lib.hid rfl
  replace hm0 := Lib.hid hm0
  replace hr := Lib.hid hr
  replace hT := Lib.hid hT
  replace hLg := Lib.hid hLg
  replace hpw := Lib.hid hpw
  have hBs := Lib.hid hlt.2.1
  clear h hlt
  go_enter Tryz.func48, Tryz.ntmps48
  go_wp2_with fail
  go_loopg [3] m0 (fun kx s3 wr => ∃ (ps : List Nat) (T' : List Tok) (v3 : Value), v3 = s3 ∧ Hid (RvS T0 last wrong B p (X ++ [itRow B 3 1 v3 ps.length (ps.flatMap encH)]) oN ({ st with T := T' } : PS) wr) ∧ Hid (Below B w wr) ∧ Hid (negs st.T = (ps ++ (negs T').1, (negs T').2)) ∧ T'.length ≤ kx ∧ ps.length + T'.length = m0)
  case atStart => exact ⟨[], st.T, _, rfl, hR0, hB0, hn0, by rw [hm0.out]; exact Nat.le_refl _, by rw [hm0.out]; simp⟩
  case round =>
    clear hR0 hB0 hn0
    obtain ⟨ps, T', v3, rfl, hR, hB, hng, hTk, hsum⟩ := hrel
    obtain ⟨i, hm, hk⟩ := hR.out
    obtain ⟨c9, -⟩ := hm.cell_cd
    rw [show ((0 : Nat) : Int) = 0 from rfl] at c9
    have cT := Lib.hid (rvText hT.out.tl hm)
    have htx := hk.tx
    have hil := hk.il
    have hbt := (hT.out.byt i).1
    have hmi := mkS_is hbt [45] (by unfold Byt; simp)
    have hM := Lib.hid (fun (W : World) (hb : Below wr.heap.size wr W) => hm.below hb)
    have hBw := Lib.hid hm.lt.2.1
    by_cases hx : ({ st with T := T' } : PS).tx = [45]
    case pos =>
      have e45 : (mkS (txA T0 i)).toList = [45] := hmi.2 (by rw [← htx]; exact hx)
      obtain ⟨tk, htk⟩ : ∃ k, k = mkS (txA T0 i) := ⟨_, rfl⟩
      rw [← htk] at e45 cT
      have k45 : (tk.toList == [45]) = true := by rw [e45]; rfl
      replace htk := Lib.hid htk
      obtain ⟨t, T2, hTe⟩ : ∃ t T2, T' = t :: T2 := by
        rcases T' with _ | ⟨t, T2⟩
        · cases hx
        · exact ⟨t, T2, rfl⟩
      have htx2 : t.text = [45] := by rw [hTe] at hx; exact hx
      have hpl := hk.pl (last := last)
      have cP := Lib.hid (fun (W : World) (hb : Below wr.heap.size wr W) => rvPlace hT.out.tl (hM.out W hb))
      obtain ⟨pl0, hpl0⟩ : ∃ q, q = plA T0 last i := ⟨_, rfl⟩
      rw [← hpl0] at cP hpl
      have hat : Hid (pl0 = t.at_) := Lib.hid (by rw [← hpl, hTe]; rfl)
      have hng2 : Hid (negs st.T = ((ps ++ [pl0]) ++ (negs T2).1, (negs T2).2)) := Lib.hid (by
        rw [hng.out, hTe, vnegs_step htx2, ← hat.out]
        simp)
      have hk1 := Lib.hid (hk.on (by show T' ≠ []; rw [hTe]; simp))
      have hTL : T2.length + 1 = T'.length := by rw [hTe]; simp
      have hn9 : ps.length ≤ 16384 := by omega
      obtain ⟨n, hn⟩ : ∃ n, n = ps.length := ⟨_, rfl⟩
      rw [← hn] at hn9
      have hsum2 : Hid ((ps ++ [pl0]).length + T2.length = m0) := Lib.hid (by rw [List.length_append, List.length_singleton]; omega)
      have hTk2 : Hid (T2.length + 1 ≤ gk) := Lib.hid (by omega)
      have hTeH := Lib.hid hTe
      obtain ⟨A3, c3, rfl, -, -⟩ := own_form (show wr.ownsRow B 3 1 v3 ps.length (ps.flatMap encH) from hm.last_)
      replace hpl0 := Lib.hid hpl0
      have hii : (i : Int) ≤ 16384 := by omega
      replace hil := Lib.hid hil
      rw [← hn]
      have hnH := Lib.hid hn
      clear hx hmi htx hbt hm hk hTe htx2 hpl hTL hTk hsum hng hR hn
      go_wp2_with fail
      refine cT.out.mono ?_
      rintro en w2 ⟨rfl, hdr⟩
      have hb2 := Lib.hid (hdr.below wr.heap.size)
      clear hdr cT
      go_wp2_with fail
      refine (cP.out _ hb2.out).mono ?_
      rintro en w3 ⟨rfl, hdr⟩
      have hb3 := Lib.hid (hb2.out.trans (hdr.below _))
      clear hdr cP hb2
      have hm3 := hM.out _ hb3.out
      have hB3 := Lib.hid (hB.out.trans (hb3.out.mono hBw.out))
      have hlt3 := hm3.lt.2.1
      have hrowH := Lib.hid (show w3.ownsRow B 3 1 (.slice A3 n c3) n (ps.flatMap encH) from by have h9 := hm3.last_; rw [← hnH.out] at h9; exact h9)
      replace hm3 := Lib.hid hm3
      clear hb3 hB hM c9 e45 k45
      go_wp2_with (at_builtin; refine wpList_append_own_at _ rfl _ _ 40 rfl B 3 i1 (.int .i64 0) 1 8 Tryz.underlying40 ii iz0 iz1 iz2 rfl (by decide) _ _ _ rfl (hrowH.out.alloc _) ⟨w3.heap.size, 0, none⟩ 1 1 (encH pl0) rfl rfl (news_blk (Blk.new w3 3 (encH pl0).toArray)) (fun u hu => by rw [List.mem_singleton.1 hu]; rfl) (by unfold maxLen; omega) (by omega) (by simp; omega) ?_)
      intro v8 w8 hown8 hgrow8 _ hloc8
      have hR8 : Hid (RvM T0 last wrong B p (X ++ [itRow B 3 1 v8 (ps ++ [pl0]).length ((ps ++ [pl0]).flatMap encH)]) (oN : Int) i st.N st.H st.L 0 0 w8) := Lib.hid ((hm3.out.alloc (.cells (encH pl0).toArray 3)).turn (by rw [hnH.out] at hgrow8; exact hgrow8) (by
        have e : (ps ++ [pl0]).length = n + 1 := by rw [List.length_append, List.length_singleton, hnH.out]
        have e2 : (ps ++ [pl0]).flatMap encH = ps.flatMap encH ++ encH pl0 := by simp
        rw [e, e2]
        exact hown8) (fun k hk => by
        have hk : v8.ownBlock = some k := hk
        rcases hloc8 with h | h
        · exact .inl (by rw [← hnH.out]; exact h.symm.trans hk)
        · refine .inr ?_
          rw [h] at hk
          injection hk with hk
          rw [← hk]
          simp))
      have hB8 : Hid (Below B w w8) := Lib.hid ((hB3.out.alloc hlt3 (.cells (encH pl0).toArray 3)).grown hgrow8 (by simp; omega) (fun q hq => (World.ownsRow.lt hrowH.out q hq).1))
      obtain ⟨c3i, f3i⟩ := hR8.out.cell_i
      have hm9 := Lib.hid (hR8.out.set_i (i + 1))
      have hB9 := Lib.hid (hB8.out.trans (hR8.out.setB 3 (.int .i64 ((i + 1 : Nat) : Int))))
      have hw1 : wrap64 ((i : Int) + 1) = (i : Int) + 1 := w64_in _ (by omega)
      obtain ⟨v8', hv8'⟩ : ∃ v, v = v8 := ⟨_, rfl⟩
      clear hown8 hgrow8 hloc8 hB3 hrowH hm3 hR8 hB8 hn9 hlt3 hii
      go_wp2_with fail
      rw [show (i : Int) + 1 = ((i + 1 : Nat) : Int) from rfl]
      generalize w8.setCell ⟨p, 3, none⟩ (.int .i64 ((i + 1 : Nat) : Int)) = w9 at hm9 hB9 ⊢
      go_roundg T2.length
      case measure => have := hTk2.out; omega
      case rel => exact ⟨ps ++ [pl0], T2, v8, rfl, Lib.hid ⟨i + 1, hm9.out, by have h9 := hk1.out; rw [hTeH.out] at h9; exact h9⟩, hB9, hng2, Nat.le_refl _, hsum2.out⟩
    case neg =>
      have e45 : ¬ (mkS (txA T0 i)).toList = [45] := fun e => hx (by rw [htx]; exact hmi.1 e)
      obtain ⟨tk, htk⟩ : ∃ k, k = mkS (txA T0 i) := ⟨_, rfl⟩
      rw [← htk] at e45 cT
      have k45 : (tk.toList == [45]) = false := beq_eq_false_iff_ne.2 e45
      replace htk := Lib.hid htk
      have hne : negs T' = ([], T') := vnegs_end (fun t T2 e h9 => hx (by subst e; exact h9))
      have hng2 : Hid (negs st.T = (ps, T')) := Lib.hid (by rw [hng.out, hne]; simp)
      obtain ⟨r1, hr1⟩ : ∃ r1, g ({ st with T := T' } : PS) = some r1 := by
        have e := hr.out
        unfold minusF at e
        rw [hng2.out] at e
        simp only at e
        rcases hf : g ({ st with T := T' } : PS) with _ | r1
        · rw [hf] at e; cases e
        · exact ⟨r1, rfl⟩
      have hr2 : Hid ((match r1 with | .no x y => some (.no x y) | .ok a st1 => some (negUp ps.reverse a st1)) = some r) := Lib.hid (by
        have e := hr.out
        unfold minusF at e
        rw [hng2.out] at e
        simp only [hr1] at e
        rcases r1 with ⟨a, st1⟩ | ⟨x, y⟩ <;> exact e)
      have hLs := Lib.hid (fun a st1 (e : r1 = .ok a st1) => hLg.out ({ st with T := T' } : PS) a st1 (by rw [hr1, e]))
      have cQ := Lib.hid (fun (W : World) (hb : Below wr.heap.size wr W) => hpw.out _ ({ st with T := T' } : PS) W r1 ⟨i, hM.out W hb, hk⟩ hr1)
      obtain ⟨A3, c3, rfl, -, -⟩ := own_form (show wr.ownsRow B 3 1 v3 ps.length (ps.flatMap encH) from hm.last_)
      have hpl : ps.length ≤ 16384 := by omega
      obtain ⟨n, hn⟩ : ∃ n, n = ps.length := ⟨_, rfl⟩
      rw [← hn] at hpl
      rw [← hn]
      have hw1 : wrap64 ((n : Int) - 1) = (n : Int) - 1 := w64_in _ (by omega)
      have hw1' : IntKind.i64.wrap ((n : Int) - 1) = (n : Int) - 1 := by rw [IntKind.wrap_i64]; omega
      replace hr1 := Lib.hid hr1
      replace hn := Lib.hid hn
      clear hx hmi htx hbt hm hk hng hR hne hTk hsum hil
      go_wp2_with fail
      refine cT.out.mono ?_
      rintro en w2 ⟨rfl, hdr⟩
      have hb2 := Lib.hid (hdr.below wr.heap.size)
      clear hdr cT
      go_wp2_with fail
      refine (cQ.out _ hb2.out).mono ?_
      have hB2 := Lib.hid (hB.out.trans (hb2.out.mono hBw.out))
      clear hB hM c9 e45 k45 hb2 cQ
      rcases r1 with ⟨a, st1⟩ | ⟨x, y⟩
      case no =>
        have hrr : r = .no x y := (Option.some.inj hr2.out).symm
        subst hrr
        rintro en w3 ⟨⟨z, rfl⟩, ⟨o1, i1x, N1, H1, hM3⟩, hB3, hy⟩
        obtain ⟨c9, -⟩ := hM3.cell_cd
        have hcI : ((y : Int) == 0) = false := k_ne (b := 0) hy
        replace hM3 := Lib.hid (show RvM T0 last wrong B p X o1 i1x N1 H1 st.L x y w3 from hM3.pop)
        replace hB3 := Lib.hid (hB2.out.trans hB3)
        replace hy := Lib.hid hy
        clear hB2 hr2
        go_wp2_with fail
        go_loopg [4, 5] 1 (fun kx s4 s5 wr => s4 = .int .i64 z ∧ s5 = .int .i64 ((n : Int) - 1) ∧ w3 = wr)
        case atStart => exact ⟨rfl, rfl, rfl⟩
        case round =>
          obtain ⟨rfl, rfl, rfl⟩ := hrel
          by_cases h0 : n = 0
          case pos =>
            subst h0
            have h0I : ¬ (0 : Int) ≤ ((0 : Nat) : Int) - 1 := by omega
            have h0J : ¬ (0 : Int) ≤ (0 : Int) - 1 := by omega
            go_wp2_with fail
            go_ret
            exact ⟨⟨_, rfl⟩, ⟨_, _, _, _, hM3.out⟩, hB3.out, hy.out⟩
          case neg =>
            have h0I : (0 : Int) ≤ (n : Int) - 1 := by omega
            go_wp2_with fail
            go_ret
            exact ⟨⟨_, rfl⟩, ⟨_, _, _, _, hM3.out⟩, hB3.out, hy.out⟩
      case ok =>
        rintro en w3 ⟨rfl, h3, hB3, ha3, hN3⟩
        have hr3 := Lib.hid (show negUp ps.reverse a st1 = r from Option.some.inj hr2.out)
        have hL1 := Lib.hid (show st1.L = st.L from hLs.out a st1 rfl)
        replace hB3 := Lib.hid (hB2.out.trans hB3)
        obtain ⟨X', hX'⟩ : ∃ Y, Y = (X ++ [itRow B 3 1 (.slice A3 ps.length c3) ps.length (ps.flatMap encH)]) := ⟨_, rfl⟩
        rw [← hX'] at h3
        have hA3 := (own_form (show w3.ownsRow B 3 1 (.slice A3 ps.length c3) ps.length (ps.flatMap encH) from by
          obtain ⟨i, hm, -⟩ := h3
          rw [hX'] at hm
          exact hm.last_))
        have hcel : Hid (0 < n → ∃ g, A3 = some ⟨g, 0, none⟩ ∧ ∀ (o : Int) (i : Nat) (N : List Nod) (H : List Nat) (U : List (List Nat × Nat)) (wh cd : Nat) (W : World), RvM T0 last wrong B p X' o i N H U wh cd W → ∀ j, j < n → W.cell? ⟨g, j, none⟩ = some (.int .i64 (ps.getD j 0 : Int))) := Lib.hid (fun h0 => by
          obtain ⟨A, c, e, -, hAA⟩ := hA3
          injection e with e1 e2 e3
          obtain ⟨g, hg⟩ := hAA (by rw [← hn.out]; exact h0)
          refine ⟨g, by rw [e1]; exact hg, fun o i N H U wh cd W hW j hj => ?_⟩
          rw [hX'] at hW
          have hr := hW.last_
          have hr : W.ownsRow B 3 1 (.slice A3 ps.length c3) ps.length (ps.flatMap encH) := hr
          rw [e1, hg] at hr
          rw [World.ownsRow.cellAt hr j (by rw [← hn.out]; omega)]
          exact encH_get _ (by rw [← hn.out]; exact hj))
        have hpop : Hid (∀ (o : Int) (i : Nat) (N : List Nod) (H : List Nat) (U : List (List Nat × Nat)) (wh cd : Nat) (W : World), RvM T0 last wrong B p X' o i N H U wh cd W → RvM T0 last wrong B p X o i N H U wh cd W) := Lib.hid (fun o i N H U wh cd W hW => by rw [hX'] at hW; exact hW.pop)
        have hr4 : Hid (negUp (ps.take n).reverse a st1 = r) := Lib.hid (by rw [hn.out, List.take_length]; exact hr3.out)
        replace h3 := Lib.hid h3
        replace ha3 := Lib.hid ha3
        replace hN3 := Lib.hid (show st.N.length ≤ st1.N.length from hN3)
        replace hX' := Lib.hid hX'
        clear hA3 hr2 hr3 hB2
        go_wp2_with fail
        go_loopg [4, 5] n (fun kx s4 s5 wr => ∃ (j : Nat) (z : Int), s4 = .int .i64 z ∧ s5 = .int .i64 ((j : Int) - 1) ∧ Hid (Below B w wr) ∧ Hid ((∃ (a' : Nat) (st' : PS), z = (a' : Int) ∧ RvS T0 last wrong B p X' oN st' wr ∧ a' < st'.N.length ∧ st.N.length ≤ st'.N.length ∧ negUp (ps.take j).reverse a' st' = r ∧ st'.L = st.L) ∨ (∃ x y, r = .no x y ∧ RvF T0 last wrong B p X' st.L x y wr ∧ y ≠ 0)) ∧ j ≤ n ∧ j ≤ kx)
        case atStart => exact ⟨n, a, rfl, rfl, hB3, Lib.hid (.inl ⟨a, st1, rfl, h3.out, ha3.out, hN3.out, hr4.out, hL1.out⟩), Nat.le_refl _, Nat.le_refl _⟩
        case round =>
          clear hB3 h3 ha3 hN3 hr4 hL1
          obtain ⟨j, z, rfl, rfl, hB, hS, hjn, hjk⟩ := hrel
          rcases hS.out with ⟨a', st', rfl, ⟨i, hm, hk⟩, ha, hN, hup, hLs'⟩ | ⟨x, y, rfl, ⟨o1, i1x, N1, H1, hM3⟩, hy⟩
          case inr =>
            obtain ⟨c9, -⟩ := hM3.cell_cd
            have hcI : ((y : Int) == 0) = false := k_ne (b := 0) hy
            have hM4 := Lib.hid (hpop.out _ _ _ _ _ _ _ _ hM3)
            replace hy := Lib.hid hy
            clear hM3 hS hcel hjk hpop
            by_cases h0 : j = 0
            case pos =>
              subst h0
              have h0I : ¬ (0 : Int) ≤ ((0 : Nat) : Int) - 1 := by omega
              have h0J : ¬ (0 : Int) ≤ (0 : Int) - 1 := by omega
              go_wp2_with fail
              go_ret
              exact ⟨⟨_, rfl⟩, ⟨_, _, _, _, hM4.out⟩, hB.out, hy.out⟩
            case neg =>
              have h0I : (0 : Int) ≤ (j : Int) - 1 := by omega
              go_wp2_with fail
              go_ret
              exact ⟨⟨_, rfl⟩, ⟨_, _, _, _, hM4.out⟩, hB.out, hy.out⟩
          case inl =>
            rcases j with _ | j
            case zero =>
              have hrr : r = .ok a' st' := by rw [← hup]; rfl
              subst hrr
              have h0I : ¬ (0 : Int) ≤ ((0 : Nat) : Int) - 1 := by omega
              have h0J : ¬ (0 : Int) ≤ (0 : Int) - 1 := by omega
              have hRp := Lib.hid (hpop.out _ _ _ _ _ _ _ _ hm)
              replace hk := Lib.hid hk
              replace ha := Lib.hid ha
              replace hN := Lib.hid hN
              replace hLs' := Lib.hid hLs'
              clear hup hcel hjk hS hm hpop
              go_wp2_with fail
              go_ret
              exact ⟨rfl, ⟨i, hRp.out, hk.out⟩, hB.out, ha.out, hN.out⟩
            case succ =>
              have e : (((j + 1 : Nat) : Int) - 1) = (j : Int) := by omega
              rw [e]
              have h0I : (0 : Int) ≤ (j : Int) := by omega
              have hjnI : (j : Int) < (n : Int) := by omega
              have hw2 : IntKind.i64.wrap ((j : Int) - 1) = (j : Int) - 1 := by rw [IntKind.wrap_i64]; omega
              have hw2' : wrap64 ((j : Int) - 1) = (j : Int) - 1 := w64_in _ (by omega)
              obtain ⟨g, rfl, hc⟩ := hcel.out (by omega)
              obtain ⟨pj, hpj⟩ : ∃ q, q = ps.getD j 0 := ⟨_, rfl⟩
              have cj : wr.cell? ⟨g, j, none⟩ = some (.int .i64 (pj : Int)) := by rw [hpj]; exact hc _ _ _ _ _ _ _ wr hm j (by omega)
              have hjl : j < ps.length := by rw [← hn.out]; omega
              have ht : (ps.take (j + 1)).reverse = pj :: (ps.take j).reverse := by
                rw [List.take_add_one, List.reverse_append, List.getElem?_eq_getElem hjl]
                rw [hpj, List.getD_eq_getElem?_getD, List.getElem?_eq_getElem hjl]
                rfl
              rw [ht, negUp] at hup
              obtain ⟨gH, cH, c6, hcH, h64⟩ := hm.high hk ha
              obtain ⟨c9, -⟩ := hm.cell_cd
              rw [show ((0 : Nat) : Int) = 0 from rfl] at c9
              have k1 := h64 a'
              have e1 := hcH _ ha
              have cA0 := fun W (hb : Below wr.heap.size wr W) => rvMade ⟨5, [], a', 0, 0⟩ (1 + st'.hi a') pj hT.out (show RvS T0 last wrong B p X' oN st' W from ⟨i, hm.below hb, hk⟩) (by omega)
              obtain ⟨x1, hx1⟩ : ∃ k, k = st'.hi a' := ⟨_, rfl⟩
              obtain ⟨r3, hr3⟩ : ∃ r3, r3 = addP ⟨5, [], a', 0, 0⟩ (1 + st'.hi a') pj st' := ⟨_, rfl⟩
              rw [← hr3] at hup cA0
              rw [← hx1] at e1 k1 cA0
              have hwx : IntKind.i64.wrap (1 + (x1 : Int)) = 1 + (x1 : Int) := by rw [IntKind.wrap_i64]; omega
              have hwx' : wrap64 (1 + (x1 : Int)) = 1 + (x1 : Int) := w64_in _ (by omega)
              obtain ⟨N0, hN0⟩ : ∃ k, k = st'.N.length := ⟨_, rfl⟩
              rw [← hN0] at c6 ha
              have hN9 : N0 ≤ 4096 := by rw [hN0]; exact hk.max
              have haI : (a' : Int) < (N0 : Int) := by omega
              have q9 : ∀ d os, (grow (redrawn wr d) os).cell? ⟨p, 6, none⟩ = some (.slice (some ⟨gH, 0, none⟩) N0 cH) := cell_regrown c6
              have q1 : ∀ d os, (grow (redrawn wr d) os).cell? ⟨gH, a', none⟩ = some (.int .i64 (x1 : Int)) := cell_regrown e1
              have q2 : ∀ d os, (grow (redrawn wr d) os).cell? ⟨g, j, none⟩ = some (.int .i64 (pj : Int)) := cell_regrown cj
              have cA : Hid (∀ W, Below wr.heap.size wr W → Calls Tryz.prog 49 #[.pointer (some ⟨p, 0, none⟩), .agg #[.int .u8 5, .string ⟨#[]⟩, .int .i64 (a' : Int), .int .i64 0, .int .i64 0], .int .i64 (1 + (x1 : Int)), .int .i64 (pj : Int)] W (PostV T0 last wrong B p X' oN st' W r3)) := Lib.hid (fun W hb => by
                have h9 := cA0 W hb
                rw [show mkS [] = (⟨#[]⟩ : ByteArray) from rfl] at h9
                exact h9)
              have hBw2 := Lib.hid hm.lt.2.1
              have hN2 := Lib.hid hN
              have hup2 := Lib.hid hup
              have hLs2 := Lib.hid hLs'
              have hst3 := Lib.hid (fun v st3 (e : r3 = .ok v st3) => (show st3.L = st'.L from by rw [(addP_ok (hr3.symm.trans e)).2]))
              replace hr3 := Lib.hid hr3
              replace hpj := Lib.hid hpj
              replace hx1 := Lib.hid hx1
              replace hN0 := Lib.hid hN0
              clear hc ht hup hjl e hm hk hS hcH h64 k1 e1 c6 cj cA0 hN hLs' ha
              go_upto_region 9 with fail
              refine wp_region_tail_below 15 (by kernel_rfl) (by kernel_rfl) ?_
              simp only [List.take_succ_cons, List.take_zero, List.drop_succ_cons, List.drop_zero]
              iterate 15 (quiet_step (fail))
              refine wpQuiet_nil ?_
              intro w4 hb4
              have hB4 := Lib.hid (hB.out.trans (hb4.mono hBw2.out))
              have cA4 := Lib.hid (cA.out _ hb4)
              clear hb4 q9 q1 q2 cA hB c9
              go_wp2_with fail
              refine cA4.out.mono ?_
              clear cA4
              rcases r3 with ⟨c, st3⟩ | ⟨x, y⟩
              case no =>
                have hrr : r = .no x y := hup2.out.symm
                subst hrr
                rintro en w5 ⟨⟨z, rfl⟩, hF5, hB5, hy⟩
                replace hF5 := Lib.hid (by rw [hLs2.out] at hF5; exact hF5)
                replace hB5 := Lib.hid (hB4.out.trans hB5)
                replace hy := Lib.hid hy
                clear hB4
                go_wp2_with fail
                go_roundg j
                case measure => omega
                case rel => exact ⟨j, z, rfl, rfl, hB5, Lib.hid (.inr ⟨x, y, rfl, hF5.out, hy.out⟩), by omega, Nat.le_refl _⟩
              case ok =>
                rintro en w5 ⟨rfl, hR5, hB5, hc5, hN5⟩
                replace hR5 := Lib.hid hR5
                replace hB5 := Lib.hid (hB4.out.trans hB5)
                replace hc5 := Lib.hid hc5
                replace hN5 := Lib.hid (Nat.le_trans hN2.out hN5)
                have hL5 := Lib.hid (show st3.L = st.L from (hst3.out _ _ rfl).trans hLs2.out)
                clear hB4
                go_wp2_with fail
                go_roundg j
                case measure => omega
                case rel => exact ⟨j, c, rfl, rfl, hB5, Lib.hid (.inl ⟨c, st3, rfl, hR5.out, hc5.out, hN5.out, hup2.out, hL5.out⟩), by omega, Nat.le_refl _⟩
end
end Go.Proofs.YtnaadajcehfmiaaGreatDoor
