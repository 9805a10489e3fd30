/- Lang: a text that goes on otherwise behind a token; a right text with a token behind it. -/
import Derived.Test.YtnaadajcehfmiaaDoorLpD
namespace Go.Proofs.YtnaadajcehfmiaaDoor

/-! The tokens hang on the bytes up to one behind them. -/
theorem runL_agree {p : Nat → Bool} : ∀ (l l' : List Nat), l.take (runL p l + 1) = l'.take (runL p l + 1) → runL p l' = runL p l
  | [], l', h => by
    have h : [] = l'.take 1 := h
    rcases l' with _ | ⟨c, r⟩
    · rfl
    · cases h
  | b :: l, l', h => by
    rw [runL] at h ⊢
    by_cases hp : p b = true
    · rw [if_pos hp] at h ⊢
      rcases l' with _ | ⟨c, r⟩
      · cases h
      · rw [List.take_succ_cons, List.take_succ_cons] at h
        injection h with h1 h2
        subst h1
        rw [runL, if_pos hp, runL_agree l r h2]
    · rw [if_neg hp] at h ⊢
      rcases l' with _ | ⟨c, r⟩
      · cases h
      · have h : [b] = [c] := h
        injection h with h1
        subst h1
        rw [runL, if_neg hp]
theorem skipL_agree : ∀ (l l' : List Nat) (nt : Bool), skipL nt l < l.length → l.take (skipL nt l + 1) = l'.take (skipL nt l + 1) → skipL nt l' = skipL nt l
  | [], l', nt, h0, h => by cases nt <;> cases h0
  | b :: l, l', nt, h0, h => by
    rcases l' with _ | ⟨c, r⟩
    · cases h
    have hbc : b = c := by
      rw [List.take_succ_cons, List.take_succ_cons] at h
      injection h
    subst hbc
    have ih1 := skipL_agree l r false
    have ih2 := skipL_agree l r true
    rw [skipL] at h h0 ⊢
    rw [skipL]
    rw [List.length_cons] at h0
    cases nt with
    | true =>
      simp only [if_true] at h h0 ⊢
      by_cases hb : b = 10
      · rw [if_pos hb] at h h0 ⊢
        rw [if_pos hb]
        rw [List.take_succ_cons, List.take_succ_cons] at h
        injection h with _ h
        rw [ih1 (by omega) h]
      · rw [if_neg hb] at h h0 ⊢
        rw [if_neg hb]
        rw [List.take_succ_cons, List.take_succ_cons] at h
        injection h with _ h
        rw [ih2 (by omega) h]
    | false =>
      simp only [Bool.false_eq_true, if_false] at h h0 ⊢
      by_cases hb : blkB b = true
      · rw [if_pos hb] at h h0 ⊢
        rw [if_pos hb]
        rw [List.take_succ_cons, List.take_succ_cons] at h
        injection h with _ h
        rw [ih1 (by omega) h]
      · rw [if_neg hb] at h h0 ⊢
        rw [if_neg hb]
        by_cases h35 : b = 35
        · rw [if_pos h35] at h h0 ⊢
          rw [if_pos h35]
          rw [List.take_succ_cons, List.take_succ_cons] at h
          injection h with _ h
          rw [ih2 (by omega) h]
        · rw [if_neg h35, if_neg h35]
section
variable {u u' : List Nat} {n : Nat}
theorem get_agree (h : u.take (n + 1) = u'.take (n + 1)) {j : Nat} (hj : j ≤ n) : u'[j]? = u[j]? := by
  have : (u.take (n + 1))[j]? = (u'.take (n + 1))[j]? := by rw [h]
  rw [List.getElem?_take_of_lt (by omega), List.getElem?_take_of_lt (by omega)] at this
  exact this.symm
theorem runT_agree {p : Nat → Bool} (h : u.take (n + 1) = u'.take (n + 1)) {k : Nat} (hk : runT p u k ≤ n) : runT p u' k = runT p u k := by
  unfold runT at hk ⊢
  rw [runL_agree (u.drop k) (u'.drop k)]
  have e : runL p (u.drop k) + 1 ≤ n + 1 - k := by omega
  have h2 : (u.take (n + 1)).drop k = (u'.take (n + 1)).drop k := by rw [h]
  rw [List.drop_take, List.drop_take] at h2
  have h3 := congrArg (fun l : List Nat => l.take (runL p (u.drop k) + 1)) h2
  simp only [List.take_take] at h3
  rw [Nat.min_eq_left e] at h3
  exact h3
theorem tokT_agree (h : u.take (n + 1) = u'.take (n + 1)) (hne : u ≠ []) (ht : tokT u 0 = some n) : tokT u' 0 = some n := by
  have g0 : u'[0]? = u[0]? := get_agree h (Nat.zero_le _)
  unfold tokT at ht ⊢
  rw [g0]
  rcases hu : u[0]? with _ | b
  · rcases u with _ | ⟨c, r⟩
    · exact absurd rfl hne
    · cases hu
  · rw [hu] at ht
    simp only at ht ⊢
    by_cases hd : digB b = true
    · rw [if_pos hd] at ht ⊢
      have hb := numT_bounds ht (Nat.zero_le _)
      unfold numT at ht ⊢
      rw [runT_agree h hb.1]
      have h1 := hb.1
      generalize runT digB u 0 = a at ht h1 ⊢
      rcases hf : fracT u a with _ | k
      · rw [hf] at ht; cases ht
      · rw [hf] at ht
        have hx : expT u k = some n := ht
        have hk := expT_some hx
        have hf2 : fracT u' a = some k := by
          have hak := fracT_some hf
          unfold fracT at hf ⊢
          rw [get_agree h (by omega)]
          by_cases hc : u[a]? = some 46
          · rw [if_pos hc] at hf ⊢
            by_cases hc2 : runT digB u (a + 1) = a + 1
            · rw [if_pos hc2] at hf; cases hf
            · rw [if_neg hc2] at hf
              injection hf with hf
              rw [runT_agree h (by omega), if_neg hc2, hf]
          · rw [if_neg hc] at hf ⊢
            exact hf
        rw [hf2]
        show expT u' k = some n
        unfold expT at hx ⊢
        rw [get_agree h hk]
        by_cases hc : u[k]? = some 101
        · rw [if_pos hc] at hx ⊢
          by_cases hc2 : 1 ≤ runT digB u (sigT u (k + 1)) - sigT u (k + 1) ∧ runT digB u (sigT u (k + 1)) - sigT u (k + 1) ≤ 4
          · rw [if_pos hc2] at hx
            injection hx with hx
            have hs := (sigT_ge (s := u) (i := k + 1)).1
            have es : sigT u' (k + 1) = sigT u (k + 1) := by
              unfold sigT
              rw [get_agree h (by omega)]
            rw [es, runT_agree h (by omega), if_pos hc2, hx]
          · rw [if_neg hc2] at hx; cases hx
        · rw [if_neg hc] at hx ⊢
          exact hx
    · rw [if_neg hd] at ht ⊢
      by_cases hl : letB b = true
      · rw [if_pos hl] at ht ⊢
        split at ht
        · rename_i hc
          injection ht with ht
          rw [runT_agree h (by omega), if_pos hc, ht]
        · cases ht
      · rw [if_neg hl] at ht ⊢
        exact ht
end
/-- Where tokens end. -/
def endA (i : Nat) : List Tok → Nat
  | [] => i
  | t :: A => endA (t.at_ + t.text.length) A
theorem endA_ge : ∀ (A : List Tok) {s : List Nat} {i : Nat} {T : List Tok} {l : Nat} {b : Bool}, Lx s i (A ++ T) l b → i ≤ s.length → i ≤ endA i A ∧ endA i A ≤ s.length ∧ ∃ T', T' = T ∧ Lx s (endA i A) T' l b
  | [], s, i, T, l, b, h, hi => ⟨Nat.le_refl _, hi, T, rfl, h⟩
  | t :: A, s, i, T, l, b, h, hi => by
    cases h with
    | tok h1 h2 h3 =>
      rename_i k
      have hb := tokT_bounds h2 h1
      have hl := cutL_len (i := skipT false s i) hb.2
      have hk : skipT false s i + (cutL s (skipT false s i) k).length = k := by rw [hl]; omega
      have hge := skipT_ge (nt := false) (s := s) (i := i)
      have ih := endA_ge A h3 hb.2
      show i ≤ endA (skipT false s i + (cutL s (skipT false s i) k).length) A ∧ _
      rw [hk]
      refine ⟨by omega, ?_, ?_⟩
      · show endA (skipT false s i + (cutL s (skipT false s i) k).length) A ≤ _
        rw [hk]; exact ih.2.1
      · show ∃ T', T' = T ∧ Lx s (endA (skipT false s i + (cutL s (skipT false s i) k).length) A) T' l b
        rw [hk]; exact ih.2.2
/-- The tokens ahead of a place are those of a text that has a blank there, and goes on otherwise. -/
theorem lx_pre {s : List Nat} (hB : Byt s) {e c : Nat} (he : e ≤ s.length) (hc : blkB c = true) (Y : List Nat) : ∀ (A : List Tok) {i : Nat} {R T2 : List Tok} {l l2 : Nat} {b b2 : Bool}, Lx s i (A ++ R) l b → i ≤ s.length → endA i A ≤ e → Lx (s.take e ++ c :: Y) (endA i A) T2 l2 b2 → Lx (s.take e ++ c :: Y) i (A ++ T2) l2 b2
  | [], i, R, T2, l, l2, b, b2, h, hi, hE, h2 => h2
  | t :: A, i, R, T2, l, l2, b, b2, h, hi, hE, h2 => by
    cases h with
    | tok h1 ht h3 =>
      rename_i k
      have hb := tokT_bounds ht h1
      have hl := cutL_len (i := skipT false s i) hb.2
      have hk : skipT false s i + (cutL s (skipT false s i) k).length = k := by rw [hl]; omega
      have hge := skipT_ge (nt := false) (s := s) (i := i)
      have hE' : endA (skipT false s i + (cutL s (skipT false s i) k).length) A ≤ e := hE
      have h2' : Lx (s.take e ++ c :: Y) (endA (skipT false s i + (cutL s (skipT false s i) k).length) A) T2 l2 b2 := h2
      rw [hk] at hE' h2'
      have hke : k ≤ e := Nat.le_trans (endA_ge A h3 hb.2).1 hE'
      have ih := lx_pre hB he hc Y A h3 hb.2 hE' h2'
      -- the bytes
      have agree : ∀ j m, j + m ≤ e → ((s.take e ++ c :: Y).drop j).take m = (s.drop j).take m := fun j m hjm => by
        rw [List.drop_append_of_le_length (by rw [List.length_take]; omega), List.take_append_of_le_length (by rw [List.length_drop, List.length_take]; omega), List.drop_take, List.take_take, Nat.min_eq_left (by omega)]
      have hlen' : (s.take e ++ c :: Y).length = e + 1 + Y.length := by rw [List.length_append, List.length_take, List.length_cons, Nat.min_eq_left he]; omega
      have hsk : skipT false (s.take e ++ c :: Y) i = skipT false s i := by
        unfold skipT
        rw [skipL_agree (s.drop i) ((s.take e ++ c :: Y).drop i) false]
        · have : i + skipL false (s.drop i) < s.length := h1
          rw [List.length_drop]; omega
        · refine (agree i _ ?_).symm
          have : i + skipL false (s.drop i) < k := hb.1
          omega
      have htk : tokT (s.take e ++ c :: Y) (skipT false s i) = some k := by
        have h0 := ht
        rw [tokT_drop] at h0 ⊢
        obtain ⟨m, hm, hmk⟩ := Option.map_eq_some_iff.1 h0
        have hmk : skipT false s i + m = k := hmk
        have hne : s.drop (skipT false s i) ≠ [] := fun e0 => by
          have := congrArg List.length e0
          rw [List.length_drop] at this
          simp at this; omega
        have : tokT ((s.take e ++ c :: Y).drop (skipT false s i)) 0 = some m := by
          rcases Nat.lt_or_ge k e with hlt | hge2
          · exact tokT_agree (agree _ _ (by omega)).symm hne hm
          · -- the token ends where the blank stands
            have hke2 : k = e := by omega
            have hVT := tok_VT hB ht h1
            have ed : (s.take e ++ c :: Y).drop (skipT false s i) = cutL s (skipT false s i) k ++ c :: Y := by
              rw [List.drop_append_of_le_length (by rw [List.length_take]; omega), List.drop_take]
              unfold cutL
              rw [hke2]
            rw [ed, tokT_app hVT (.inr (stop_cons (by
              unfold blkB at hc
              simp only [Bool.or_eq_true, beq_iff_eq] at hc
              rcases hc with ((rfl | rfl) | rfl) | rfl <;> decide)))]
            rw [hl]; congr 1; omega
        rw [this]
        show some (skipT false s i + m) = some k
        rw [hmk]
      have hcut : cutL (s.take e ++ c :: Y) (skipT false s i) k = cutL s (skipT false s i) k := by
        unfold cutL
        exact agree _ _ (by omega)
      have := Lx.tok (s := s.take e ++ c :: Y) (i := i) (by rw [hsk, hlen']; omega) (by rw [hsk]; exact htk) ih
      rw [hsk, hcut] at this
      exact this
theorem skipL_end : ∀ (l Y : List Nat) (nt : Bool), skipL nt l = l.length → skipL nt (l ++ 10 :: Y) = l.length + 1 + skipL false Y
  | [], Y, nt, _ => by
    show skipL nt (10 :: Y) = 0 + 1 + _
    rw [skipL]
    cases nt
    · rw [if_neg Bool.false_ne_true, if_pos (by decide)]; omega
    · rw [if_pos rfl, if_pos rfl]; omega
  | b :: l, Y, nt, h => by
    show skipL nt (b :: (l ++ 10 :: Y)) = _
    rw [skipL] at h ⊢
    rw [List.length_cons] at h ⊢
    have i1 := skipL_end l Y false
    have i2 := skipL_end l Y true
    cases nt with
    | true =>
      simp only [if_true] at h ⊢
      by_cases hb : b = 10
      · rw [if_pos hb] at h ⊢; rw [i1 (by omega)]; omega
      · rw [if_neg hb] at h ⊢; rw [i2 (by omega)]; omega
    | false =>
      simp only [Bool.false_eq_true, if_false] at h ⊢
      by_cases hb : blkB b = true
      · rw [if_pos hb] at h ⊢; rw [i1 (by omega)]; omega
      · rw [if_neg hb] at h ⊢
        by_cases h35 : b = 35
        · rw [if_pos h35] at h ⊢; rw [i2 (by omega)]; omega
        · rw [if_neg h35] at h; omega
/-- A right text, with a token on a line behind it. -/
theorem lx_more {s x : List Nat} (hB : Byt s) (hx : VT x) {T : List Tok} {l : Nat} (h : Lx s 0 T l false) : Lx (s ++ 10 :: x) 0 (T ++ [⟨s.length + 1, x⟩]) (s ++ 10 :: x).length false := by
  have hE := endA_ge T (T := []) (by rw [List.append_nil]; exact h) (Nat.zero_le _)
  obtain ⟨-, h2, T', rfl, h3⟩ := hE
  have hsk : skipT false s (endA 0 T) = s.length := by
    cases h3 with
    | done hq => exact hq
  have e0 : s ++ 10 :: x = s.take s.length ++ 10 :: x := by rw [List.take_length]
  rw [e0]
  refine lx_pre hB (Nat.le_refl _) (by decide) x T (R := []) (by rw [List.append_nil]; exact h) (Nat.zero_le _) h2 ?_
  rw [List.take_length]
  have hd : (s ++ 10 :: x).drop (endA 0 T) = s.drop (endA 0 T) ++ 10 :: x := List.drop_append_of_le_length h2
  have hk : skipT false (s ++ 10 :: x) (endA 0 T) = s.length + 1 := by
    unfold skipT at hsk ⊢
    rw [hd, skipL_end _ _ _ (by rw [List.length_drop]; omega), List.length_drop]
    have : skipL false x = 0 := by
      have := skipL_tok (t := x) (r := []) hx
      rwa [List.append_nil] at this
    omega
  have hxl : 0 < x.length := List.length_pos_iff.2 hx.2.1
  have hl : (s ++ 10 :: x).length = s.length + 1 + x.length := by rw [List.length_append, List.length_cons]; omega
  have hd2 : (s ++ 10 :: x).drop (s.length + 1) = x := by
    rw [← List.drop_drop, List.drop_left]; rfl
  have ht : tokT (s ++ 10 :: x) (skipT false (s ++ 10 :: x) (endA 0 T)) = some (s ++ 10 :: x).length := by
    rw [hk, tokT_drop, hd2, hx.1, hl]; rfl
  have hc : cutL (s ++ 10 :: x) (s.length + 1) (s ++ 10 :: x).length = x := by
    unfold cutL
    rw [hd2, hl, List.take_of_length_le (by omega)]
  have h4 := Lx.tok (s := s ++ 10 :: x) (i := endA 0 T) (by rw [hk, hl]; omega) ht (.done (by
    unfold skipT
    rw [List.drop_eq_nil_of_le (Nat.le_refl _)]; rfl))
  rw [hk, hc] at h4
  exact h4
/-! A right text with a token behind it that goes on with nothing. -/
structure XTok (x : Tok) : Prop where
  p : x.text ≠ [94]
  m : mulS x.text = none
  a : addS x.text = none
def addX (st : PS) (x : Tok) : PS := { st with T := st.T ++ [x] }
def ExtP (x : Tok) (f f' : PF) : Prop := ∀ st v st1, f st = some (.ok v st1) → f' (addX st x) = some (.ok v (addX st1 x))
theorem addX_tx {st : PS} {x : Tok} (h : st.T ≠ []) : (addX st x).tx = st.tx := by
  unfold PS.tx addX
  rcases hT : st.T with _ | ⟨t, T⟩
  · exact absurd hT h
  · rfl
theorem addX_on {st : PS} {x : Tok} (h : st.T ≠ []) : (addX st x).on = addX st.on x := by
  unfold PS.on addX
  rcases hT : st.T with _ | ⟨t, T⟩
  · exact absurd hT h
  · rfl
theorem addX_pl {st : PS} {x : Tok} {l l' : Nat} (h : st.T ≠ []) : (addX st x).pl l' = st.pl l := by
  unfold PS.pl addX
  rcases hT : st.T with _ | ⟨t, T⟩
  · exact absurd hT h
  · rfl
theorem tx_ne2 {st : PS} (h : st.tx ≠ []) : st.T ≠ [] := fun e => h (by unfold PS.tx; rw [e])
theorem addP_ext {n : Nod} {h a a' : Nat} {st st1 : PS} {x : Tok} {v : Nat} (e : addP n h a st = .ok v st1) : addP n h a' (addX st x) = .ok v (addX st1 x) := by
  have hm := addP_max e
  obtain ⟨hv, rfl⟩ := addP_ok e
  rw [addP_fits (show (addX st x).N.length < 4096 from hm.1) hm.2, hv]
  rfl
theorem addOn_ext {n : Nod} {h a a' : Nat} {st st1 : PS} {x : Tok} {v : Nat} (hT : st.T ≠ []) (e : addOn n h a st = .ok v st1) : addOn n h a' (addX st x) = .ok v (addX st1 x) := by
  unfold addOn at e ⊢
  rcases ha : addP n h a st with ⟨v1, st2⟩ | ⟨y, z⟩
  · rw [ha] at e
    rw [addP_ext ha]
    obtain ⟨-, h2⟩ := addP_ok ha
    injection e with e1 e2
    have : st2.T ≠ [] := by rw [h2]; exact hT
    show PR.ok v1 (addX st2 x).on = _
    rw [addX_on this, e1, e2]
  · rw [ha] at e; cases e
theorem takeP_ext {last last' : Nat} {wrong wrong' : Bool} {y : List Nat} {st st1 : PS} {x : Tok} {u : Unit} (hy : y ≠ []) (e : takeP last wrong y st = .ok u st1) : takeP last' wrong' y (addX st x) = .ok u (addX st1 x) := by
  obtain ⟨h1, rfl⟩ := takeP_ok e
  have hT := tx_ne2 (st := st) (by rw [h1]; exact hy)
  unfold takeP
  rw [addX_tx hT, if_pos h1, addX_on hT]
section
variable {last last' : Nat} {wrong wrong' : Bool} {x : Tok} {inner inner' : Option PF}
theorem atomP_ext (hi : ∀ f, inner = some f → ∃ f', inner' = some f' ∧ ExtP x f f') : ExtP x (atomP last wrong inner) (atomP last' wrong' inner') ∧ ∀ st v st1, atomP last wrong inner st = some (.ok v st1) → st.T ≠ [] := by
  have key : ∀ st v st1, atomP last wrong inner st = some (.ok v st1) → st.T ≠ [] := by
    intro st v st1 e hT
    have hx : st.tx = [] := by unfold PS.tx; rw [hT]
    unfold atomP at e
    rw [hx, if_neg (by decide), if_neg (by decide), if_neg (by decide), if_neg (by decide), if_neg (by decide)] at e
    exact (unwP_ok (Option.some.inj e)).elim
  refine ⟨?_, key⟩
  intro st v st1 e
  have hT := key st v st1 e
  unfold atomP at e ⊢
  rw [addX_tx hT]
  split at e
  · rename_i hx
    rw [if_pos hx]
    rcases inner with _ | f
    · cases e
    · obtain ⟨f', rfl, hf'⟩ := hi f rfl
      simp only at e ⊢
      rw [addX_on hT]
      rcases hf : f st.on with _ | (⟨v1, st2⟩ | ⟨y, z⟩)
      · rw [hf] at e; cases e
      · rw [hf] at e
        rw [hf' _ _ _ hf]
        simp only at e ⊢
        rcases hk : takeP last wrong [41] st2 with ⟨u, st3⟩ | ⟨y, z⟩
        · rw [hk] at e
          rw [takeP_ext (by decide) hk]
          injection e with e
          injection e with e1 e2
          rw [e1, e2]
        · rw [hk] at e; cases e
      · rw [hf] at e; cases e
  · rename_i hx
    rw [if_neg hx]
    split at e
    · rename_i hx
      rw [if_pos hx, addOn_ext hT (Option.some.inj e)]
    · rename_i hx
      rw [if_neg hx]
      split at e
      · rename_i hx
        rw [if_pos hx, addOn_ext hT (Option.some.inj e)]
      · rename_i hx
        rw [if_neg hx]
        split at e
        · rename_i hx
          rw [if_pos hx]
          split at e
          · rename_i hm
            rw [if_pos (show st.tx ∈ (addX st x).names from hm), addOn_ext hT (Option.some.inj e)]
          · cases e
        · rename_i hx
          rw [if_neg hx]
          split at e
          · rename_i hx
            rw [if_pos hx, addOn_ext hT (Option.some.inj e)]
          · exact (unwP_ok (Option.some.inj e)).elim
theorem powerP_ext (hX : XTok x) (hi : ∀ f, inner = some f → ∃ f', inner' = some f' ∧ ExtP x f f') : ExtP x (powerP last wrong inner) (powerP last' wrong' inner') ∧ ∀ st v st1, powerP last wrong inner st = some (.ok v st1) → st.T ≠ [] := by
  have ha := atomP_ext (last := last) (last' := last') (wrong := wrong) (wrong' := wrong') hi
  refine ⟨?_, ?_⟩
  · intro st v st1 e
    unfold powerP at e ⊢
    rcases hf : atomP last wrong inner st with _ | (⟨a, st2⟩ | ⟨y, z⟩)
    · rw [hf] at e; cases e
    · rw [hf] at e
      rw [ha.1 _ _ _ hf]
      have e : some (powK last wrong a st2) = some (.ok v st1) := e
      have e := Option.some.inj e
      show some (powK last' wrong' a (addX st2 x)) = _
      congr 1
      unfold powK at e ⊢
      by_cases hT2 : st2.T = []
      · have hx2 : st2.tx = [] := by unfold PS.tx; rw [hT2]
        rw [hx2, if_neg (by decide)] at e
        have hx3 : (addX st2 x).tx = x.text := by unfold PS.tx addX; rw [hT2]; rfl
        rw [hx3, if_neg hX.p]
        injection e with e1 e2
        rw [e1, e2]
      · rw [addX_tx hT2]
        split at e
        · rename_i hx
          rw [if_pos hx, addX_on hT2]
          split at e
          · rename_i hn
            have hT3 : st2.on.T ≠ [] := tx_ne2 (fun h => by rw [h] at hn; cases hn)
            rw [addX_tx hT3, if_pos hn]
            split at e
            · cases e
            · rename_i n hw
              try rw [hw]
              try simp only
              rw [addX_on hT3]
              exact addP_ext (x := x) e
          · exact (unwP_ok e).elim
        · rename_i hx
          rw [if_neg hx]
          injection e with e1 e2
          rw [e1, e2]
    · rw [hf] at e; cases e
  · intro st v st1 e
    unfold powerP at e
    rcases hf : atomP last wrong inner st with _ | (⟨a, st2⟩ | ⟨y, z⟩)
    · rw [hf] at e; cases e
    · exact ha.2 _ _ _ hf
    · rw [hf] at e; cases e
theorem negs_ext (x : Tok) : ∀ T : List Tok, (negs T).2 ≠ [] → negs (T ++ [x]) = ((negs T).1, (negs T).2 ++ [x])
  | [], h => absurd rfl h
  | t :: T, h => by
    rw [negs] at h ⊢
    rw [List.cons_append, negs]
    by_cases hx : t.text = [45]
    · rw [if_pos hx] at h ⊢
      rw [if_pos hx, negs_ext x T h]
    · rw [if_neg hx, if_neg hx]; rfl
theorem negUp_ext : ∀ (ps : List Nat) (a : Nat) (st : PS) (v : Nat) (st1 : PS), negUp ps a st = .ok v st1 → negUp ps a (addX st x) = .ok v (addX st1 x)
  | [], a, st, v, st1, e => by
    rw [negUp] at e ⊢
    injection e with e1 e2
    rw [e1, e2]
  | p :: ps, a, st, v, st1, e => by
    rw [negUp] at e ⊢
    rcases hc : addP ⟨5, [], a, 0, 0⟩ (1 + st.hi a) p st with ⟨c, st2⟩ | ⟨y, z⟩
    · rw [hc] at e
      have := addP_ext (a' := p) (x := x) hc
      have e2 : (addX st x).hi a = st.hi a := rfl
      rw [e2, this]
      exact negUp_ext ps c st2 v st1 e
    · rw [hc] at e; cases e
theorem minusP_ext (hX : XTok x) (hi : ∀ f, inner = some f → ∃ f', inner' = some f' ∧ ExtP x f f') : ExtP x (minusP last wrong inner) (minusP last' wrong' inner') := by
  intro st v st1 e
  have hp := powerP_ext (last := last) (last' := last') (wrong := wrong) (wrong' := wrong') hX hi
  unfold minusP at e ⊢
  rcases hf : powerP last wrong inner { st with T := (negs st.T).2 } with _ | (⟨a, st2⟩ | ⟨y, z⟩)
  · rw [hf] at e; cases e
  · rw [hf] at e
    have hT := hp.2 _ _ _ hf
    have hng := negs_ext x st.T hT
    have e0 : ({ addX st x with T := (negs (addX st x).T).2 } : PS) = addX { st with T := (negs st.T).2 } x := by
      show (⟨(negs (st.T ++ [x])).2, st.N, st.H, st.L⟩ : PS) = ⟨(negs st.T).2 ++ [x], st.N, st.H, st.L⟩
      rw [hng]
    rw [e0, hp.1 _ _ _ hf]
    have e : some (negUp (negs st.T).1.reverse a st2) = some (.ok v st1) := e
    show some (negUp (negs (st.T ++ [x])).1.reverse a (addX st2 x)) = _
    rw [hng, negUp_ext _ _ _ _ _ (Option.some.inj e)]
  · rw [hf] at e; cases e
theorem rowL_ext {sg : List Nat → Option Nat} (hsg : sg [] = none) (hs : sg x.text = none) {part part' : PF} (hp : ExtP x part part') : ∀ (n m a : Nat) (st : PS) (v : Nat) (st1 : PS), rowL last sg part n a st = some (.ok v st1) → n ≤ m → rowL last' sg part' m a (addX st x) = some (.ok v (addX st1 x)) := by
  intro n
  induction n with
  | zero => intro m a st v st1 e; cases e
  | succ n ih =>
    intro m a st v st1 e hm
    rcases m with _ | m
    · omega
    rw [rowL] at e ⊢
    by_cases hT : st.T = []
    · have hx2 : st.tx = [] := by unfold PS.tx; rw [hT]
      rw [hx2, hsg] at e
      have hx3 : (addX st x).tx = x.text := by unfold PS.tx addX; rw [hT]; rfl
      rw [hx3, hs]
      injection e with e
      injection e with e1 e2
      rw [e1, e2]
    · rw [addX_tx hT]
      rcases hk : sg st.tx with _ | k
      · rw [hk] at e
        injection e with e
        injection e with e1 e2
        rw [e1, e2]
      · rw [hk] at e
        simp only at e ⊢
        rw [addX_on hT]
        rcases hf : part st.on with _ | (⟨b, st2⟩ | ⟨y, z⟩)
        · rw [hf] at e; cases e
        · rw [hf] at e
          rw [hp _ _ _ hf]
          simp only at e ⊢
          rcases hc : addP ⟨k, [], a, b, 0⟩ (1 + max (st2.hi a) (st2.hi b)) (st.pl last) st2 with ⟨c, st3⟩ | ⟨y, z⟩
          · rw [hc] at e
            have := addP_ext (a' := (addX st x).pl last') (x := x) hc
            have e2 : (addX st2 x).hi a = st2.hi a := rfl
            have e3 : (addX st2 x).hi b = st2.hi b := rfl
            rw [e2, e3, this]
            exact ih m c st3 v st1 e (by omega)
          · rw [hc] at e; cases e
        · rw [hf] at e; cases e
theorem rowP_ext {sg : List Nat → Option Nat} (hsg : sg [] = none) (hs : sg x.text = none) {part part' : PF} (hp : ExtP x part part') : ExtP x (rowP last sg part) (rowP last' sg part') := by
  intro st v st1 e
  unfold rowP at e ⊢
  rcases hf : part st with _ | (⟨a, st2⟩ | ⟨y, z⟩)
  · rw [hf] at e; cases e
  · rw [hf] at e
    rw [hp _ _ _ hf]
    exact rowL_ext hsg hs hp _ _ _ _ _ _ e (by show _ ≤ (st2.T ++ [x]).length + 1; rw [List.length_append]; omega)
  · rw [hf] at e; cases e
theorem sumOf_ext (hX : XTok x) (hi : ∀ f, inner = some f → ∃ f', inner' = some f' ∧ ExtP x f f') : ExtP x (sumOf last wrong inner) (sumOf last' wrong' inner') := rowP_ext rfl hX.a (rowP_ext rfl hX.m (minusP_ext hX hi))
theorem sumP_ext (hX : XTok x) : ∀ d, ExtP x (sumP last wrong d) (sumP last' wrong' d)
  | 0 => sumOf_ext hX fun f e => by cases e
  | d + 1 => sumOf_ext hX fun f e => by
    injection e with e
    exact ⟨_, rfl, by rw [← e]; exact sumP_ext hX d⟩
theorem minusP_ne : ∀ st v st1, minusP last wrong inner st = some (.ok v st1) → st.T ≠ [] := by
  intro st v st1 e hT
  unfold minusP at e
  rcases hf : powerP last wrong inner { st with T := (negs st.T).2 } with _ | (⟨a, st2⟩ | ⟨y, z⟩)
  · rw [hf] at e; cases e
  · unfold powerP at hf
    rcases ha : atomP last wrong inner { st with T := (negs st.T).2 } with _ | (⟨b, st3⟩ | ⟨y, z⟩)
    · rw [ha] at hf; cases hf
    · have e0 : ({ st with T := (negs st.T).2 } : PS).tx = [] := by
        unfold PS.tx
        show (match (negs st.T).2 with | [] => [] | t :: _ => t.text) = []
        rw [hT]; rfl
      unfold atomP at ha
      rw [e0, if_neg (by decide), if_neg (by decide), if_neg (by decide), if_neg (by decide), if_neg (by decide)] at ha
      exact unwP_ok (Option.some.inj ha)
    · rw [ha] at hf; cases hf
  · rw [hf] at e; cases e
theorem rowP_ne {sg : List Nat → Option Nat} {part : PF} (hp : ∀ st v st1, part st = some (.ok v st1) → st.T ≠ []) : ∀ st v st1, rowP last sg part st = some (.ok v st1) → st.T ≠ [] := by
  intro st v st1 e
  unfold rowP at e
  rcases hf : part st with _ | (⟨a, st2⟩ | ⟨y, z⟩)
  · rw [hf] at e; cases e
  · exact hp _ _ _ hf
  · rw [hf] at e; cases e
theorem sumP_ne (d : Nat) : ∀ st v st1, sumP last wrong d st = some (.ok v st1) → st.T ≠ [] := by
  rw [sumP_eq]
  exact rowP_ne (rowP_ne minusP_ne)
theorem textP_ext {sum sum' : PF} (hs : ExtP x sum sum') (hne : ∀ st v st1, sum st = some (.ok v st1) → st.T ≠ []) : ∀ (n m : Nat) (st : PS) (v : Nat) (st1 : PS), textP last wrong sum n st = some (.ok v st1) → n ≤ m → textP last' wrong' sum' m (addX st x) = some (.no x.at_ 111) := by
  intro n
  induction n with
  | zero => intro m st v st1 e; cases e
  | succ n ih =>
    intro m st v st1 e hm
    rcases m with _ | m
    · omega
    rw [textP] at e
    rw [textP]
    split at e
    · rename_i hx
      have hT := tx_ne2 (st := st) (by rw [hx]; decide)
      rw [addX_tx hT, if_pos hx]
      rcases hL : letP last wrong sum st with _ | (⟨u, st2⟩ | ⟨y, z⟩)
      · rw [hL] at e; cases e
      · rw [hL] at e
        have e : textP last wrong sum n st2 = some (.ok v st1) := e
        have hL2 : letP last' wrong' sum' (addX st x) = some (.ok u (addX st2 x)) := by
          unfold letP at hL ⊢
          rw [addX_on hT]
          split at hL
          · rename_i hn
            have hT2 := tx_ne2 (st := st.on) (fun h => by rw [h] at hn; cases hn)
            rw [addX_tx hT2, if_pos hn]
            split at hL
            · cases hL
            · rename_i hin
              rw [if_neg (show ¬ st.on.tx ∈ (addX st x).names from hin), addX_on hT2]
              rcases hk : takeP last wrong [61] st.on.on with ⟨u1, st3⟩ | ⟨y, z⟩
              · rw [hk] at hL
                rw [takeP_ext (by decide) hk]
                simp only at hL ⊢
                rcases hf : sum st3 with _ | (⟨a, st4⟩ | ⟨y, z⟩)
                · rw [hf] at hL; cases hL
                · rw [hf] at hL
                  rw [hs _ _ _ hf]
                  simp only at hL ⊢
                  rcases hk2 : takeP last wrong [59] st4 with ⟨u2, st5⟩ | ⟨y, z⟩
                  · rw [hk2] at hL
                    rw [takeP_ext (by decide) hk2]
                    injection hL with hL
                    injection hL with _ hL
                    rw [← hL]
                    rfl
                  · rw [hk2] at hL; cases hL
                · rw [hf] at hL; cases hL
              · rw [hk] at hL; cases hL
          · exact (unwP_ok (Option.some.inj hL)).elim
        rw [hL2]
        exact ih m st2 v st1 e (by omega)
      · rw [hL] at e; cases e
    · rename_i hx
      unfold mapP at e
      rcases hf : sum st with _ | (⟨a, st2⟩ | ⟨y, z⟩)
      · rw [hf] at e; cases e
      · rw [addX_tx (hne _ _ _ hf), if_neg hx]
        unfold mapP
        rw [hs _ _ _ hf]
        rw [hf] at e
        simp only at e ⊢
        split at e
        · rename_i hq
          rw [if_neg (by rintro ⟨h, -⟩; revert h; unfold addX; simp)]
          unfold unwP addX
          rw [hq.1]; rfl
        · exact (unwP_ok (Option.some.inj e)).elim
      · rw [hf] at e; cases e
/-- A right text with a token more: that one is not wanted. -/
theorem progP_ext (hX : XTok x) {T : List Tok} {v : Nat} {st1 : PS} (h : progP T last wrong = some (.ok v st1)) : progP (T ++ [x]) last' wrong' = some (.no x.at_ 111) :=
  textP_ext (sumP_ext hX 64) (sumP_ne 64) _ _ ⟨T, [], [], []⟩ v st1 h (by rw [List.length_append]; omega)
end
/-! A text that goes on otherwise behind a token. -/
/-- A fault that is seen behind a token, or later than at its token. -/
def Lt_ (t : Tok) (a c : Nat) : Prop := t.at_ < a ∨ c = 4 ∨ c = 114 ∨ c = 110
def Bhd (t : Tok) (T : List Tok) : Prop := ∀ u, u ∈ T → t.at_ < u.at_
def LateR {α : Type} (t : Tok) : Option (PR α) → Prop
  | none => True
  | some (.ok _ st) => Bhd t st.T
  | some (.no a c) => Lt_ t a c
def swT (st : PS) (T : List Tok) : PS := { st with T := T }
def OutR {α : Type} (t : Tok) (R R' : List Tok) (r r' : Option (PR α)) : Prop :=
  LateR t r ∨ match r with
  | none => True
  | some (.ok v st) => ∃ A, st.T = A ++ t :: R ∧ r' = some (.ok v (swT st (A ++ t :: R')))
  | some (.no a c) => r' = some (.no a c)
def bindP {α β : Type} (r : Option (PR α)) (g : α → PS → Option (PR β)) : Option (PR β) :=
  match r with
  | none => none
  | some (.no a c) => some (.no a c)
  | some (.ok v st) => g v st
section
variable {t : Tok} {R R' : List Tok}
theorem LateR.bind {α β : Type} {r : Option (PR α)} {g : α → PS → Option (PR β)} (h : LateR t r) (hg : ∀ v st, Bhd t st.T → LateR t (g v st)) : LateR t (bindP r g) := by
  rcases r with _ | (⟨v, st⟩ | ⟨a, c⟩)
  · trivial
  · exact hg v st h
  · exact h
theorem OutR.bind {α β : Type} {r r' : Option (PR α)} {g g' : α → PS → Option (PR β)} (h : OutR t R R' r r') (hl : ∀ v st, Bhd t st.T → LateR t (g v st))
    (hg : ∀ v st A, st.T = A ++ t :: R → OutR t R R' (g v st) (g' v (swT st (A ++ t :: R')))) : OutR t R R' (bindP r g) (bindP r' g') := by
  rcases h with h | h
  · exact .inl (h.bind hl)
  · rcases r with _ | (⟨v, st⟩ | ⟨a, c⟩)
    · exact .inl trivial
    · obtain ⟨A, h1, h2⟩ := h
      rw [h2]
      exact hg v st A h1
    · rw [show r' = some (.no a c) from h]
      exact .inr rfl
theorem OutR.same {α : Type} {a c : Nat} : OutR t R R' (some (PR.no a c : PR α)) (some (.no a c)) := .inr rfl
theorem OutR.okk {α : Type} {v : α} {st : PS} {A : List Tok} (h : st.T = A ++ t :: R) : OutR t R R' (some (.ok v st)) (some (.ok v (swT st (A ++ t :: R')))) := .inr ⟨A, h, rfl⟩
end
end Go.Proofs.YtnaadajcehfmiaaDoor
