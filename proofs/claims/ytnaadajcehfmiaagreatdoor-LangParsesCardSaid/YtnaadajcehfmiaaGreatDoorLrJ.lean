/- lang: minus. -/
import Derived.Test.YtnaadajcehfmiaaGreatDoorLrI
namespace Go.Proofs.YtnaadajcehfmiaaGreatDoor
open Go.RowKit Go.Sort Go.Maps

theorem Lx.len {s : List Nat} {i : Nat} {T : List Tok} {l : Nat} {b : Bool} (h : Lx s i T l b) : T.length ≤ s.length - i := by
  induction h with
  | done => simp
  | bad => simp
  | @tok i k T l b h ht hn ih =>
    have h1 := tokT_bounds ht h
    have h2 := skipT_ge (nt := false) (s := s) (i := i)
    rw [List.length_cons]
    omega
section
variable {s : ByteArray} {last : Nat} {wrong : Bool} {B p gm o : Nat} {X : List It} {st : PS} {w w' : World}
theorem RdS.tlen (h : RdS s last wrong B p gm X o st w) : st.T.length ≤ 16385 := by
  obtain ⟨nx, vN, vL, vH, D, h1, h2, h3, h4⟩ := h
  by_cases hT : st.T = []
  · rw [hT]; simp
  · have h5 := (h3.lx hT).2.len
    have h6 := h3.size
    rw [sl_len, List.length_tail] at h5
    omega
theorem negs_end {T : List Tok} (h : ∀ t T', T = t :: T' → t.text ≠ [45]) : negs T = ([], T) := by
  rcases T with _ | ⟨t, T⟩
  · rfl
  · rw [negs, if_neg (h t T rfl)]
theorem negs_step {t : Tok} {T : List Tok} (h : t.text = [45]) : negs (t :: T) = (t.at_ :: (negs T).1, (negs T).2) := by rw [negs, if_pos h]
set_option maxRecDepth 100000 in
set_option maxHeartbeats 8000000 in
/-- minus -/
theorem minus_rd {inner : Option PF} (hin : InnC s last wrong B p gm o inner) : PartC 67 s last wrong B p gm o (minusP last wrong inner) := by
  intro X st w r h hr
  obtain ⟨i1, ii, iz0, iz1, iz2⟩ := info_parts info_int
  have hlt := h.lt
  have hT0 := h.tlen
  have hinH := Lib.hid hin
  have hR0 : Hid (RdS s last wrong B p gm (X ++ [itRow B 3 1 (.slice none 0 0) ([] : List Nat).length (([] : List Nat).flatMap encH)]) o { st with T := st.T } w) := Lib.hid (h.push (gb_refl w none) (World.ownsRow_nil _ _ _ _) (fun k hk => by cases hk))
  have hB0 : Hid (Below B w w) := Lib.hid (Below.refl B w)
  obtain ⟨m0, hm0⟩ : ∃ m, m = st.T.length := ⟨_, rfl⟩
  rw [← hm0] at hT0
  have hn0 : Hid (negs st.T = (([] : List Nat) ++ (negs st.T).1, (negs st.T).2)) := Lib.hid rfl
  replace hm0 := Lib.hid hm0
  replace hr := Lib.hid hr
  clear h hin
  go_enter Tryz.func67, Tryz.ntmps67
  go_wp2_with fail
  go_loopg [3] m0 (fun kx s3 wr => ∃ (ps : List Nat) (T' : List Tok) (v3 : Value), v3 = s3 ∧ Hid (RdS s last wrong B p gm (X ++ [itRow B 3 1 v3 ps.length (ps.flatMap encH)]) o { st with T := T' } wr) ∧ Hid (Below B w wr) ∧ Hid (negs st.T = (ps ++ (negs T').1, (negs T').2)) ∧ T'.length ≤ kx ∧ ps.length + T'.length = m0)
  case atStart => exact ⟨[], st.T, _, rfl, hR0, hB0, hn0, by rw [hm0.out]; exact Nat.le_refl _, by rw [hm0.out]; simp⟩
  case round =>
    obtain ⟨ps, T', v3, rfl, hR, hB, hng, hTk, hsum⟩ := hrel
    have b2 : wr.cell? ⟨p, 2, none⟩ = some (.string (mkS ({ st with T := T' } : PS).tx)) := hR.out.token
    have b1 : wr.cell? ⟨p, 1, none⟩ = some (.int .i64 (({ st with T := T' } : PS).pl last : Int)) := hR.out.from_
    have i1x := mkS_is hR.out.byt [45] (by unfold Byt; simp)
    obtain ⟨tk, htk⟩ : ∃ q, q = mkS ({ st with T := T' } : PS).tx := ⟨_, rfl⟩
    obtain ⟨pl0, hpl0⟩ : ∃ q, q = ({ st with T := T' } : PS).pl last := ⟨_, rfl⟩
    rw [← htk] at b2 i1x
    rw [← hpl0] at b1
    replace htk := Lib.hid htk
    replace hpl0 := Lib.hid hpl0
    by_cases hx : ({ st with T := T' } : PS).tx = [45]
    case pos =>
      have i1' : tk.toList = [45] := i1x.2 hx
      obtain ⟨t, T2, hTe⟩ : ∃ t T2, T' = t :: T2 := by
        rcases T' with _ | ⟨t, T2⟩
        · cases hx
        · exact ⟨t, T2, rfl⟩
      have htx : t.text = [45] := by rw [hTe] at hx; exact hx
      have hat : Hid (pl0 = t.at_) := Lib.hid (by rw [hpl0.out, hTe]; rfl)
      have hng2 : Hid (negs st.T = ((ps ++ [pl0]) ++ (negs T2).1, (negs T2).2)) := Lib.hid (by
        rw [hng.out, hTe, negs_step htx, ← hat.out]
        simp)
      have hrow := hR.out.last_
      have hrowH := Lib.hid (show wr.ownsRow B 3 1 v3 ps.length (ps.flatMap encH) from hrow)
      obtain ⟨n, hn⟩ : ∃ n, n = ps.length := ⟨_, rfl⟩
      have hn9 : n ≤ 16385 := by rw [hn]; omega
      obtain ⟨A3, c3, rfl, -, -⟩ := own_form hrow
      have hlt2 := hR.out.lt.2
      rw [← hn] at hrowH hR ⊢
      have hTL : T2.length + 1 = T'.length := by rw [hTe]; simp
      have hnH := Lib.hid hn
      have hsum2 : Hid ((ps ++ [pl0]).length + T2.length = m0) := Lib.hid (by rw [List.length_append, List.length_singleton]; omega)
      have hTk2 : T2.length + 1 ≤ gk := by omega
      have hTeH := Lib.hid hTe
      clear hx i1x hrow hn hsum hTL hTk hTe htx
      go_wp2_with (at_builtin; refine wpList_append_own_at _ rfl _ _ 40 rfl B 3 i1 (.int .i64 0) 1 8 Tryz.underlying40 ii iz0 iz1 iz2 rfl (by decide) _ _ _ rfl (hrowH.out.alloc _) ⟨wr.heap.size, 0, none⟩ 1 1 (encH pl0) rfl rfl (news_blk (Blk.new wr 3 (encH pl0).toArray)) (fun u hu => by rw [List.mem_singleton.1 hu]; rfl) (by unfold maxLen; omega) (by omega) (by simp; omega) ?_)
      intro v8 w8 hown8 hgrow8 _ hloc8
      have hR8 : Hid (RdS s last wrong B p gm (X ++ [itRow B 3 1 v8 (ps ++ [pl0]).length ((ps ++ [pl0]).flatMap encH)]) o { st with T := T' } w8) := Lib.hid ((hR.out.alloc (.cells (encH pl0).toArray 3)).turn hgrow8 (by
        have e : (ps ++ [pl0]).length = n + 1 := by rw [List.length_append, List.length_singleton, hnH.out]
        have e2 : (ps ++ [pl0]).flatMap encH = ps.flatMap encH ++ encH pl0 := by simp
        rw [e, e2]
        exact hown8) (fun k hk => by
        have hk : v8.ownBlock = some k := hk
        rcases hloc8 with h | h
        · exact .inl (h.symm.trans hk)
        · refine .inr ?_
          rw [h] at hk
          injection hk with hk
          rw [← hk]
          simp))
      have hB8 : Hid (Below B w w8) := Lib.hid ((hB.out.alloc hlt2 (.cells (encH pl0).toArray 3)).grown hgrow8 (by simp; omega) (fun q hq => (World.ownsRow.lt hrowH.out q hq).1))
      have cO := Lib.hid (onS hR8.out (by show T' ≠ []; rw [hTeH.out]; simp))
      clear hown8 hgrow8 hloc8 hR hB hrowH b1 b2
      go_wp2_with fail
      refine cO.out.mono ?_
      rintro en w9 ⟨rfl, hR9, hB9⟩
      have hRn : Hid (RdS s last wrong B p gm (X ++ [itRow B 3 1 v8 (ps ++ [pl0]).length ((ps ++ [pl0]).flatMap encH)]) o { st with T := T2 } w9) := Lib.hid (by
        have e : ({ st with T := T' } : PS).on = { st with T := T2 } := by rw [hTeH.out]; rfl
        rw [e] at hR9
        exact hR9)
      replace hB9 := Lib.hid (hB8.out.trans hB9)
      clear hR9 hB8 hR8 cO
      go_wp2_with fail
      go_roundg T2.length
      case measure => omega
      case rel => exact ⟨ps ++ [pl0], T2, v8, rfl, hRn, hB9, hng2, Nat.le_refl _, hsum2.out⟩
    case neg =>
      have i1' : ¬ tk.toList = [45] := fun e => hx (i1x.1 e)
      have k1' : (tk.toList == [45]) = false := beq_eq_false_iff_ne.2 i1'
      have hne : negs T' = ([], T') := negs_end (fun t T2 e htx => hx (by subst e; exact htx))
      have hng2 : Hid (negs st.T = (ps, T')) := Lib.hid (by rw [hng.out, hne]; simp)
      have hps : ps.length ≤ 16385 := by omega
      obtain ⟨r1, hr1⟩ : ∃ r1, powerP last wrong inner { st with T := T' } = some r1 := by
        have e := hr.out
        unfold minusP at e
        rw [hng2.out] at e
        simp only at e
        rcases hf : powerP last wrong inner { st with T := T' } with _ | r1
        · rw [hf] at e; cases e
        · exact ⟨r1, rfl⟩
      have hr2 : Hid ((match r1 with | .no x y => some (.no x y) | .ok a st1 => some (negUp ps.reverse a st1)) = some r) := Lib.hid (by
        have e := hr.out
        unfold minusP at e
        rw [hng2.out] at e
        simp only [hr1] at e
        rcases r1 with ⟨a, st1⟩ | ⟨x, y⟩ <;> exact e)
      have cP := Lib.hid (power_rd hinH.out _ _ wr r1 hR.out hr1)
      replace hr1 := Lib.hid hr1
      clear hx i1x b1 hne hR hsum hTk
      go_wp2_with fail
      refine cP.out.mono ?_
      rcases r1 with ⟨a, st1⟩ | ⟨x, y⟩
      case no =>
        have hrr : r = .no x y := (Option.some.inj hr2.out).symm
        subst hrr
        rintro en w3 hqq
        obtain ⟨q, rfl, h9⟩ := PanF.pre hqq hB.out
        exact ⟨rfl, q, rfl, h9⟩
      case ok =>
        rintro en w3 ⟨rfl, h3, hB3, ha3, hN3⟩
        have hr3 := Lib.hid (show negUp ps.reverse a st1 = r from Option.some.inj hr2.out)
        replace hB3 := Lib.hid (hB.out.trans hB3)
        have hrow := h3.last_
        obtain ⟨A3, c3, rfl, -, hA3⟩ := own_form hrow
        obtain ⟨n, hn⟩ : ∃ n, n = ps.length := ⟨_, rfl⟩
        obtain ⟨X', hX'⟩ : ∃ Y, Y = X ++ [itRow B 3 1 (.slice A3 ps.length c3) ps.length (ps.flatMap encH)] := ⟨_, rfl⟩
        have hcel : Hid (0 < n → ∃ g, A3 = some ⟨g, 0, none⟩ ∧ ∀ (st' : PS) (W : World), RdS s last wrong B p gm X' o st' W → ∀ j, j < n → W.cell? ⟨g, j, none⟩ = some (.int .i64 (ps.getD j 0 : Int))) := Lib.hid (fun h0 => by
          obtain ⟨g, rfl⟩ := hA3 (by omega)
          refine ⟨g, rfl, fun st' W hW j hj => ?_⟩
          rw [hX'] at hW
          have hr := hW.last_
          have hr : W.ownsRow B 3 1 (.slice (some ⟨g, 0, none⟩) ps.length c3) ps.length (ps.flatMap encH) := hr
          rw [World.ownsRow.cellAt hr j (by omega)]
          exact encH_get _ (by omega))
        rw [← hX'] at h3
        have hn9 : n ≤ 16385 := by omega
        have hpop : Hid (∀ (st' : PS) (W : World), RdS s last wrong B p gm X' o st' W → RdS s last wrong B p gm X o st' W) := Lib.hid (fun st' W hW => by rw [hX'] at hW; exact hW.pop)
        rw [← hn]
        have hw1 : IntKind.i64.wrap ((n : Int) - 1) = (n : Int) - 1 := by rw [IntKind.wrap_i64]; omega
        have hr4 : Hid (negUp (ps.take n).reverse a st1 = r) := Lib.hid (by rw [hn, List.take_length]; exact hr3.out)
        replace h3 := Lib.hid h3
        replace ha3 := Lib.hid ha3
        replace hN3 := Lib.hid (show st.N.length ≤ st1.N.length from hN3)
        replace hn := Lib.hid hn
        replace hX' := Lib.hid hX'
        clear hrow hA3 hr2 hr3 cP hB hps
        go_wp2_with fail
        go_loopg [4, 5] n (fun kx s4 s5 wr => ∃ (j a' : Nat) (st' : PS), s4 = .int .i64 (a' : Int) ∧ s5 = .int .i64 ((j : Int) - 1) ∧ Hid (RdS s last wrong B p gm X' o st' wr) ∧ Hid (Below B w wr) ∧ Hid (a' < st'.N.length) ∧ Hid (st.N.length ≤ st'.N.length) ∧ Hid (negUp (ps.take j).reverse a' st' = r) ∧ j ≤ n ∧ j ≤ kx)
        case atStart => exact ⟨n, a, st1, rfl, rfl, h3, hB3, ha3, hN3, hr4, Nat.le_refl _, Nat.le_refl _⟩
        case round =>
          obtain ⟨j, a', st', rfl, rfl, hR, hB, ha, hN, hup, hjn, hjk⟩ := hrel
          rcases j with _ | j
          case zero =>
            have hrr : r = .ok a' st' := by rw [← hup.out]; rfl
            subst hrr
            have h0I : ¬ (0 : Int) ≤ ((0 : Nat) : Int) - 1 := by omega
            have h0J : ¬ (0 : Int) ≤ (0 : Int) - 1 := by omega
            have hRp := Lib.hid (hpop.out st' wr hR.out)
            clear hup hcel hjk
            go_wp2_with fail
            go_ret
            exact ⟨rfl, hRp.out, hB.out, ha.out, hN.out⟩
          case succ =>
            have e : (((j + 1 : Nat) : Int) - 1) = (j : Int) := by omega
            rw [e]
            have h0I : (0 : Int) ≤ (j : Int) := by omega
            have hjnI : (j : Int) < (n : Int) := by omega
            have hw2 : IntKind.i64.wrap ((j : Int) - 1) = (j : Int) - 1 := by rw [IntKind.wrap_i64]; omega
            obtain ⟨g, rfl, hc⟩ := hcel.out (by omega)
            obtain ⟨pj, hpj⟩ : ∃ q, q = ps.getD j 0 := ⟨_, rfl⟩
            have cj : wr.cell? ⟨g, j, none⟩ = some (.int .i64 (pj : Int)) := by rw [hpj]; exact hc st' wr hR.out j (by omega)
            have hjl : j < ps.length := by rw [← hn.out]; omega
            have ht : (ps.take (j + 1)).reverse = pj :: (ps.take j).reverse := by
              rw [List.take_add_one, List.reverse_append, List.getElem?_eq_getElem hjl]
              rw [hpj, List.getD_eq_getElem?_getD, List.getElem?_eq_getElem hjl]
              rfl
            have hup2 := hup.out
            rw [ht, negUp] at hup2
            have c2 := one_rd ⟨5, [], a', 0, 0⟩ pj hR.out ha.out
            obtain ⟨r3, hr3⟩ : ∃ r3, r3 = addP ⟨5, [], a', 0, 0⟩ (1 + st'.hi a') pj st' := ⟨_, rfl⟩
            rw [← hr3] at hup2 c2
            have e0 : mkS [] = (⟨#[]⟩ : ByteArray) := rfl
            rw [e0] at c2
            replace c2 := Lib.hid c2
            replace hr3 := Lib.hid hr3
            replace hup2 := Lib.hid hup2
            replace hpj := Lib.hid hpj
            clear hc ht hup e0 hjl e hR
            go_wp2_with fail
            refine c2.out.mono ?_
            clear c2
            rcases r3 with ⟨c, st3⟩ | ⟨x, y⟩
            case no =>
              have hrr : r = .no x y := hup2.out.symm
              subst hrr
              rintro en w4 hqq
              obtain ⟨q, rfl, h9⟩ := PanF.pre hqq hB.out
              exact ⟨rfl, q, rfl, h9⟩
            case ok =>
              rintro en w4 ⟨rfl, hR4, hB4, hc4, hN5⟩
              replace hR4 := Lib.hid hR4
              replace hB4 := Lib.hid (hB.out.trans hB4)
              replace hc4 := Lib.hid hc4
              replace hN5 := Lib.hid (Nat.le_trans hN.out hN5)
              clear hB cj
              go_wp2_with fail
              go_roundg j
              case measure => omega
              case rel => exact ⟨j, c, st3, rfl, rfl, hR4, hB4, hc4, hN5, hup2, by omega, Nat.le_refl _⟩
end
end Go.Proofs.YtnaadajcehfmiaaGreatDoor
