import Derived.Test.YtnaadajcehfmiaaGreatDoorLpA
/- Lang: the shortest tokens of a tree are read as it. -/
namespace Go.Proofs.YtnaadajcehfmiaaGreatDoor

def brk (c : Bool) (C : List (List Nat)) : List (List Nat) := if c then [40] :: (C ++ [[41]]) else C
def sgT (k : Nat) : List Nat := if k = 6 then [43] else if k = 7 then [45] else if k = 8 then [42] else [47]
/-- The shortest tokens, without brackets of its own. -/
def Ex.tks : Ex → List (List Nat)
  | .num t => [t]
  | .i => [[105]]
  | .z => [[122]]
  | .name t => [t]
  | .neg e => [45] :: brk (decide (e.lvl < 3)) e.tks
  | .pow e n => brk (decide (e.lvl < 5)) e.tks ++ [[94], digL n]
  | .bin k x y => brk (decide (x.lvl < if k = 6 ∨ k = 7 then 1 else 2)) x.tks ++ sgT k :: brk (decide (y.lvl < if k = 6 ∨ k = 7 then 2 else 3)) y.tks
def Ex.tl (l : Nat) (e : Ex) : List (List Nat) := brk (decide (e.lvl < l)) e.tks
theorem Ex.tl_own {l : Nat} {e : Ex} (h : ¬ e.lvl < l) : e.tl l = e.tks := by
  unfold Ex.tl
  rw [decide_eq_false h]; rfl
theorem Ex.tl_brk {l : Nat} {e : Ex} (h : e.lvl < l) : e.tl l = [40] :: (e.tks ++ [[41]]) := by
  unfold Ex.tl
  rw [decide_eq_true h]; rfl
/-! The fuel of a row counts for nothing. -/
section
variable {last : Nat} {wrong : Bool} {inner : Option PF} {e : Ex}
theorem hd_ne {t : List Nat} (h : t = [40] ∨ t = [105] ∨ t = [122] ∨ isName t = true ∨ isNum t = true) : t ≠ [45] ∧ t ≠ [108, 101, 116] := by
  refine ⟨fun e => ?_, fun e => ?_⟩ <;> (subst e; rcases h with h | h | h | h | h <;> first | cases h | (revert h; decide))
end
/-! All levels. -/
section
variable {last : Nat} {wrong : Bool} {e : Ex}
end
/-! A whole text. -/
theorem hd1 : ∀ {nm : List (List Nat)} {e : Ex}, OkX nm e → ∀ l, l ≤ 5 → ∃ t L, e.tl l = t :: L ∧ t ≠ [108, 101, 116] := by
  intro nm e h l hl
  by_cases hb : e.lvl < l
  · exact ⟨[40], _, Ex.tl_brk hb, by decide⟩
  · rw [Ex.tl_own hb]
    clear hb hl
    induction e with
    | num t => exact ⟨t, [], rfl, (hd_ne (.inr (.inr (.inr (.inr h.1))))).2⟩
    | i => exact ⟨_, [], rfl, by decide⟩
    | z => exact ⟨_, [], rfl, by decide⟩
    | name t => exact ⟨t, [], rfl, (hd_ne (.inr (.inr (.inr (.inl h.1))))).2⟩
    | neg e ih => exact ⟨[45], _, rfl, by decide⟩
    | pow e n ih =>
      obtain ⟨t, L, h1, h2⟩ := ih h.1
      rw [Ex.tks]
      unfold brk
      split
      · exact ⟨[40], _, rfl, by decide⟩
      · rw [h1]; exact ⟨t, _, rfl, h2⟩
    | bin k x y ihx ihy =>
      obtain ⟨t, L, h1, h2⟩ := ihx h.2.1
      rw [Ex.tks]
      by_cases hb : x.lvl < (if k = 6 ∨ k = 7 then 1 else 2)
      · rw [decide_eq_true hb]
        exact ⟨[40], _, rfl, by decide⟩
      · rw [decide_eq_false hb, h1]
        exact ⟨t, _, rfl, h2⟩
end Go.Proofs.YtnaadajcehfmiaaGreatDoor
/- Lang: the tokens of tokens written one behind the other. -/
namespace Go.Proofs.YtnaadajcehfmiaaGreatDoor

/-! Where a text lies counts for nothing. -/
theorem runT_drop (p : Nat → Bool) (s : List Nat) (i k : Nat) : runT p s (i + k) = i + runT p (s.drop i) k := by
  unfold runT
  rw [List.drop_drop, Nat.add_assoc]
theorem get_drop (s : List Nat) (i k : Nat) : s[i + k]? = (s.drop i)[k]? := by rw [List.getElem?_drop]
theorem fracT_drop (s : List Nat) (i k : Nat) : fracT s (i + k) = (fracT (s.drop i) k).map (i + ·) := by
  unfold fracT
  rw [get_drop, Nat.add_assoc, runT_drop]
  split
  · by_cases h : runT digB (s.drop i) (k + 1) = k + 1
    · rw [if_pos (by rw [h]), if_pos h]; rfl
    · rw [if_neg (by omega), if_neg h]; rfl
  · rfl
theorem sigT_drop (s : List Nat) (i k : Nat) : sigT s (i + k) = i + sigT (s.drop i) k := by
  unfold sigT
  rw [get_drop]
  split <;> omega
theorem expT_drop (s : List Nat) (i k : Nat) : expT s (i + k) = (expT (s.drop i) k).map (i + ·) := by
  unfold expT
  rw [get_drop, Nat.add_assoc, sigT_drop, runT_drop]
  split
  · have e : i + runT digB (s.drop i) (sigT (s.drop i) (k + 1)) - (i + sigT (s.drop i) (k + 1)) = runT digB (s.drop i) (sigT (s.drop i) (k + 1)) - sigT (s.drop i) (k + 1) := by omega
    rw [e]
    split <;> rfl
  · rfl
theorem numT_drop (s : List Nat) (i : Nat) : numT s i = (numT (s.drop i) 0).map (i + ·) := by
  unfold numT
  have h := runT_drop digB s i 0
  rw [Nat.add_zero] at h
  rw [h, fracT_drop]
  rcases fracT (s.drop i) (runT digB (s.drop i) 0) with _ | k
  · rfl
  · exact expT_drop s i k
theorem tokT_drop (s : List Nat) (i : Nat) : tokT s i = (tokT (s.drop i) 0).map (i + ·) := by
  have h := get_drop s i 0
  rw [Nat.add_zero] at h
  have h2 := runT_drop wrdB s i 0
  rw [Nat.add_zero] at h2
  unfold tokT
  rw [← h]
  rcases s[i]? with _ | b
  · rfl
  · simp only
    rw [h2, numT_drop]
    have e : i + runT wrdB (s.drop i) 0 - i = runT wrdB (s.drop i) 0 - 0 := by omega
    rw [e]
    repeat' split
    all_goals rfl
/-! A token, and what stands behind it. -/
theorem runL_cut {p : Nat → Bool} : ∀ (t r : List Nat), runL p (t ++ r) ≤ t.length → runL p t = runL p (t ++ r)
  | [], r, h => by
    have : runL p r = 0 := Nat.le_zero.1 h
    show 0 = runL p r
    rw [this]
  | b :: t, r, h => by
    show runL p (b :: t) = runL p (b :: (t ++ r))
    have h' : runL p (b :: (t ++ r)) ≤ t.length + 1 := h
    rw [runL] at h' ⊢
    rw [runL]
    split
    · rename_i hp
      rw [if_pos hp] at h'
      rw [runL_cut t r (by omega)]
    · rfl
theorem drop_app {t r : List Nat} {k : Nat} (h : k ≤ t.length) : (t ++ r).drop k = t.drop k ++ r := List.drop_append_of_le_length h
theorem runT_cut {p : Nat → Bool} {t r : List Nat} {k : Nat} (hk : k ≤ t.length) (h : runT p (t ++ r) k ≤ t.length) : runT p t k = runT p (t ++ r) k := by
  unfold runT at *
  rw [drop_app hk] at h ⊢
  rw [runL_cut (t.drop k) r (by rw [List.length_drop]; omega)]
theorem get_app {t r : List Nat} {k : Nat} (h : k < t.length) : (t ++ r)[k]? = t[k]? := List.getElem?_append_left h
/-- What is told as a token is one by itself. -/
theorem tokT_cut {t r : List Nat} (hne : t ≠ []) (h : tokT (t ++ r) 0 = some t.length) : tokT t 0 = some t.length := by
  rcases t with _ | ⟨b, t⟩
  · exact absurd rfl hne
  unfold tokT at h ⊢
  simp only [List.cons_append, List.getElem?_cons_zero] at h ⊢
  have e : b :: (t ++ r) = (b :: t) ++ r := rfl
  by_cases hd : digB b = true
  · rw [if_pos hd] at h ⊢
    rw [e] at h
    generalize b :: t = u at h ⊢
    have hb := numT_bounds h (Nat.zero_le _)
    unfold numT at h ⊢
    rw [runT_cut (r := r) (Nat.zero_le _) hb.1]
    have h1 := hb.1
    generalize runT digB (u ++ r) 0 = a at h h1 ⊢
    rcases hf : fracT (u ++ r) a with _ | k
    · rw [hf] at h; cases h
    · rw [hf] at h
      have hx : expT (u ++ r) k = some u.length := h
      have hk := expT_some hx
      have hf2 : fracT u a = some k := by
        have hak := fracT_some hf
        unfold fracT at hf ⊢
        by_cases hc : (u ++ r)[a]? = some 46
        · rw [if_pos hc] at hf
          by_cases hc2 : runT digB (u ++ r) (a + 1) = a + 1
          · rw [if_pos hc2] at hf; cases hf
          · rw [if_neg hc2] at hf
            injection hf with hf
            have hge := runT_ge (p := digB) (s := u ++ r) (i := a + 1)
            have hlt : a < u.length := by omega
            rw [get_app hlt] at hc
            rw [if_pos hc, runT_cut (r := r) (by omega) (by omega), if_neg hc2, hf]
        · rw [if_neg hc] at hf
          injection hf with hf
          have hc2 : ¬ u[a]? = some 46 := fun e => hc (by rw [get_app (lt_of_some e)]; exact e)
          rw [if_neg hc2, hf]
      rw [hf2]
      show expT u k = some u.length
      unfold expT at hx ⊢
      by_cases hc : (u ++ r)[k]? = some 101
      · rw [if_pos hc] at hx
        by_cases hc2 : 1 ≤ runT digB (u ++ r) (sigT (u ++ r) (k + 1)) - sigT (u ++ r) (k + 1) ∧ runT digB (u ++ r) (sigT (u ++ r) (k + 1)) - sigT (u ++ r) (k + 1) ≤ 4
        · rw [if_pos hc2] at hx
          injection hx with hx
          have hs := (sigT_ge (s := u ++ r) (i := k + 1)).1
          have hlt : k + 1 < u.length := by omega
          rw [get_app (by omega)] at hc
          have es : sigT u (k + 1) = sigT (u ++ r) (k + 1) := by
            unfold sigT
            rw [get_app hlt]
          rw [if_pos hc, es, runT_cut (r := r) (by omega) (by omega), if_pos hc2, hx]
        · rw [if_neg hc2] at hx; cases hx
      · rw [if_neg hc] at hx
        injection hx with hx
        have hc2 : ¬ u[k]? = some 101 := fun e => hc (by rw [get_app (lt_of_some e)]; exact e)
        rw [if_neg hc2, hx]
  · rw [if_neg hd] at h ⊢
    by_cases hl : letB b = true
    · rw [if_pos hl] at h ⊢
      rw [e] at h
      by_cases hc : runT wrdB ((b :: t) ++ r) 0 - 0 ≤ 16
      · rw [if_pos hc] at h
        injection h with h
        rw [runT_cut (r := r) (Nat.zero_le _) (by omega), if_pos hc, h]
      · rw [if_neg hc] at h; cases h
    · rw [if_neg hl] at h ⊢
      exact h
/-- How a right token begins. -/
theorem VT.head {t : List Nat} (h : VT t) : ∃ b t', t = b :: t' ∧ (digB b = true ∨ letB b = true ∨ sgnB b = true) := by
  obtain ⟨h0, hne, -⟩ := h
  rcases t with _ | ⟨b, t⟩
  · exact absurd rfl hne
  refine ⟨b, t, rfl, ?_⟩
  unfold tokT at h0
  simp only [List.getElem?_cons_zero] at h0
  by_cases hd : digB b = true
  · exact .inl hd
  · by_cases hl : letB b = true
    · exact .inr (.inl hl)
    · by_cases hs : sgnB b = true
      · exact .inr (.inr hs)
      · rw [if_neg hd, if_neg hl, if_neg hs] at h0; cases h0
/-! Tokens with blanks ahead of them. -/
/-! The tokens of every text. -/
theorem tok_VT {s : List Nat} (hs : Byt s) {i k : Nat} (h : tokT s i = some k) (hi : i < s.length) : VT (cutL s i k) := by
  have hb := tokT_bounds h hi
  have e : s.drop i = cutL s i k ++ s.drop k := by
    unfold cutL
    have : s.drop k = (s.drop i).drop (k - i) := by rw [List.drop_drop]; congr 1; omega
    rw [this, List.take_append_drop]
  have hl := cutL_len (i := i) hb.2
  have hne : cutL s i k ≠ [] := fun e => by rw [e] at hl; simp at hl; omega
  rw [tokT_drop, e] at h
  refine ⟨tokT_cut (r := s.drop k) hne ?_, hne, fun b hb => hs b (List.mem_of_mem_drop (List.mem_of_mem_take hb))⟩
  rcases ht : tokT (cutL s i k ++ s.drop k) 0 with _ | m
  · rw [ht] at h; cases h
  · rw [ht] at h
    have h : i + m = k := Option.some.inj h
    rw [hl]; congr 1; omega
theorem runT_end_stop {p : Nat → Bool} {s : List Nat} {i k b : Nat} (h : runT p s i = k) (hb : s[k]? = some b) : p b = false := by
  have key : ∀ l : List Nat, ∀ b, l[runL p l]? = some b → p b = false := by
    intro l
    induction l with
    | nil => intro b hb; cases hb
    | cons c l ih =>
      intro b hb
      rw [runL] at hb
      by_cases hc : p c = true
      · rw [if_pos hc] at hb
        exact ih b (by simpa using hb)
      · rw [if_neg hc] at hb
        simp only [List.getElem?_cons_zero, Option.some.injEq] at hb
        subst hb
        simpa using hc
  refine key (s.drop i) b ?_
  rw [← get_drop]
  unfold runT at h
  rw [h]; exact hb
theorem Lx.ok {s : List Nat} (hs : Byt s) {i : Nat} {T : List Tok} {l : Nat} {b : Bool} (h : Lx s i T l b) : TkO l T ∧ (i ≤ s.length → i ≤ plT l T) := by
  induction h with
  | done h => exact ⟨trivial, fun hi => hi⟩
  | @bad i h ht => exact ⟨trivial, fun _ => skipT_ge⟩
  | @tok i k T l b h ht hn ih =>
    have hb := tokT_bounds ht h
    have hl := cutL_len (i := skipT false s i) hb.2
    refine ⟨⟨tok_VT hs ht h, ?_, ih.1⟩, fun _ => skipT_ge⟩
    have hk := ih.2 hb.2
    simp only
    rw [hl]
    have hg : gapT ⟨skipT false s i, cutL s (skipT false s i) k⟩ T = 0 ∨ (gapT ⟨skipT false s i, cutL s (skipT false s i) k⟩ T = 1 ∧ k + 1 ≤ plT l T) := by
      rcases T with _ | ⟨u, T⟩
      · exact .inl rfl
      · unfold gapT
        by_cases hc : (cutL s (skipT false s i) k = [108, 101, 116] ∧ isName u.text = true)
        · refine .inr ⟨if_pos hc, ?_⟩
          have hu : u = ⟨skipT false s k, cutL s (skipT false s k) (u.at_ + u.text.length)⟩ ∧ skipT false s k < s.length := by
            cases hn with
            | tok h1 h2 h3 =>
              rename_i k2
              have hb2 := tokT_bounds h2 h1
              have hl2 := cutL_len (i := skipT false s k) hb2.2
              refine ⟨?_, h1⟩
              simp only [hl2]
              congr 2
              omega
          have hat : u.at_ = skipT false s k := by rw [hu.1]
          show k + 1 ≤ u.at_
          rcases Nat.lt_or_ge k u.at_ with h1 | h1
          · exact h1
          · exfalso
            have hge := skipT_ge (nt := false) (s := s) (i := k)
            have hek : skipT false s k = k := by omega
            have hsk : k < s.length := by rw [← hek]; exact hu.2
            have hk0 : s[k]? = some s[k] := List.getElem?_eq_getElem hsk
            -- the name's first byte is a letter
            have hut : u.text = cutL s k (u.at_ + u.text.length) := by
              have := congrArg Tok.text hu.1
              rw [hek] at this
              exact this
            have hlb : letB s[k] = true := by
              have hnm := hc.2
              rw [hut] at hnm
              unfold cutL at hnm
              rw [drop_at hk0] at hnm
              rcases hq : u.at_ + u.text.length - k with _ | q
              · rw [hq, List.take_zero] at hnm; cases hnm
              · rw [hq, List.take_succ_cons] at hnm
                unfold isName at hnm
                simp only [Bool.and_eq_true] at hnm
                exact hnm.1.1.1
            -- the word let would go on
            have h0 : s[skipT false s i]? = some 108 := by
              have : (cutL s (skipT false s i) k)[0]? = some 108 := by rw [hc.1]; rfl
              unfold cutL at this
              rw [List.getElem?_take] at this
              split at this
              · rw [← get_drop] at this; exact this
              · cases this
            unfold tokT at ht
            rw [h0] at ht
            simp only at ht
            rw [if_neg (show ¬ digB 108 = true by decide), if_pos (show letB 108 = true by decide)] at ht
            split at ht
            · injection ht with ht
              have := runT_end_stop ht hk0
              unfold wrdB at this
              rw [hlb] at this
              cases this
            · cases ht
        · exact .inl (if_neg hc)
    rcases hg with hg | ⟨hg, h2⟩ <;> rw [hg] <;> omega
end Go.Proofs.YtnaadajcehfmiaaGreatDoor
