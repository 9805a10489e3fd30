/- Lang: the tokens of tokens written one behind the other. -/
import Derived.Test.YtnaadajcehfmiaaDoorLpB
namespace Go.Proofs.YtnaadajcehfmiaaDoor

/-! Where a text lies counts for nothing. -/
theorem runT_drop (p : Nat → Bool) (s : List Nat) (i k : Nat) : runT p s (i + k) = i + runT p (s.drop i) k := by
  unfold runT
  rw [List.drop_drop, Nat.add_assoc]
theorem get_drop (s : List Nat) (i k : Nat) : s[i + k]? = (s.drop i)[k]? := by rw [List.getElem?_drop]
theorem fracT_drop (s : List Nat) (i k : Nat) : fracT s (i + k) = (fracT (s.drop i) k).map (i + ·) := by
  unfold fracT
  rw [get_drop, Nat.add_assoc, runT_drop]
  split
  · by_cases h : runT digB (s.drop i) (k + 1) = k + 1
    · rw [if_pos (by rw [h]), if_pos h]; rfl
    · rw [if_neg (by omega), if_neg h]; rfl
  · rfl
theorem sigT_drop (s : List Nat) (i k : Nat) : sigT s (i + k) = i + sigT (s.drop i) k := by
  unfold sigT
  rw [get_drop]
  split <;> omega
theorem expT_drop (s : List Nat) (i k : Nat) : expT s (i + k) = (expT (s.drop i) k).map (i + ·) := by
  unfold expT
  rw [get_drop, Nat.add_assoc, sigT_drop, runT_drop]
  split
  · have e : i + runT digB (s.drop i) (sigT (s.drop i) (k + 1)) - (i + sigT (s.drop i) (k + 1)) = runT digB (s.drop i) (sigT (s.drop i) (k + 1)) - sigT (s.drop i) (k + 1) := by omega
    rw [e]
    split <;> rfl
  · rfl
theorem numT_drop (s : List Nat) (i : Nat) : numT s i = (numT (s.drop i) 0).map (i + ·) := by
  unfold numT
  have h := runT_drop digB s i 0
  rw [Nat.add_zero] at h
  rw [h, fracT_drop]
  rcases fracT (s.drop i) (runT digB (s.drop i) 0) with _ | k
  · rfl
  · exact expT_drop s i k
theorem tokT_drop (s : List Nat) (i : Nat) : tokT s i = (tokT (s.drop i) 0).map (i + ·) := by
  have h := get_drop s i 0
  rw [Nat.add_zero] at h
  have h2 := runT_drop wrdB s i 0
  rw [Nat.add_zero] at h2
  unfold tokT
  rw [← h]
  rcases s[i]? with _ | b
  · rfl
  · simp only
    rw [h2, numT_drop]
    have e : i + runT wrdB (s.drop i) 0 - i = runT wrdB (s.drop i) 0 - 0 := by omega
    rw [e]
    repeat' split
    all_goals rfl
/-! A token, and what stands behind it. -/
theorem runL_app {p : Nat → Bool} : ∀ (t r : List Nat), (∀ c, r.head? = some c → p c = false) → runL p (t ++ r) = runL p t
  | [], r, h => by
    rcases r with _ | ⟨c, r⟩
    · rfl
    · show runL p (c :: r) = 0
      rw [runL, if_neg (by rw [h c rfl]; exact Bool.false_ne_true)]
  | b :: t, r, h => by
    show runL p (b :: (t ++ r)) = _
    rw [runL, runL, runL_app t r h]
theorem runL_cut {p : Nat → Bool} : ∀ (t r : List Nat), runL p (t ++ r) ≤ t.length → runL p t = runL p (t ++ r)
  | [], r, h => by
    have : runL p r = 0 := Nat.le_zero.1 h
    show 0 = runL p r
    rw [this]
  | b :: t, r, h => by
    show runL p (b :: t) = runL p (b :: (t ++ r))
    have h' : runL p (b :: (t ++ r)) ≤ t.length + 1 := h
    rw [runL] at h' ⊢
    rw [runL]
    split
    · rename_i hp
      rw [if_pos hp] at h'
      rw [runL_cut t r (by omega)]
    · rfl
theorem drop_app {t r : List Nat} {k : Nat} (h : k ≤ t.length) : (t ++ r).drop k = t.drop k ++ r := List.drop_append_of_le_length h
theorem runT_app {p : Nat → Bool} {t r : List Nat} {k : Nat} (hk : k ≤ t.length) (h : ∀ c, r.head? = some c → p c = false) : runT p (t ++ r) k = runT p t k := by
  unfold runT
  rw [drop_app hk, runL_app _ _ h]
theorem runT_cut {p : Nat → Bool} {t r : List Nat} {k : Nat} (hk : k ≤ t.length) (h : runT p (t ++ r) k ≤ t.length) : runT p t k = runT p (t ++ r) k := by
  unfold runT at *
  rw [drop_app hk] at h ⊢
  rw [runL_cut (t.drop k) r (by rw [List.length_drop]; omega)]
theorem get_app {t r : List Nat} {k : Nat} (h : k < t.length) : (t ++ r)[k]? = t[k]? := List.getElem?_append_left h
/-- No word, number goes on here. -/
def StopB (r : List Nat) : Prop := ∀ c, r.head? = some c → wrdB c = false ∧ c ≠ 46
theorem StopB.dig {r : List Nat} (h : StopB r) : ∀ c, r.head? = some c → digB c = false := fun c hc => by
  have := (h c hc).1
  unfold wrdB at this
  rw [Bool.or_eq_false_iff] at this
  exact this.2
theorem get_end {t r : List Nat} : (t ++ r)[t.length]? = r.head? := by
  rw [List.getElem?_append_right (Nat.le_refl _), Nat.sub_self, List.head?_eq_getElem?]
theorem get_stop {t r : List Nat} {k c : Nat} (hk : k ≤ t.length) (h : r.head? ≠ some c) : ((t ++ r)[k]? = some c) ↔ (t[k]? = some c) := by
  rcases Nat.lt_or_ge k t.length with h1 | h1
  · rw [get_app h1]
  · have : k = t.length := by omega
    subst this
    rw [get_end]
    constructor
    · intro e; exact absurd e h
    · intro e
      have := (List.getElem?_eq_some_iff.1 e).1
      omega
theorem fracT_app {t r : List Nat} {k : Nat} (hr : StopB r) (hk : k ≤ t.length) : fracT (t ++ r) k = fracT t k := by
  unfold fracT
  have h46 := get_stop (t := t) (r := r) (c := 46) hk (fun e => (hr 46 e).2 rfl)
  by_cases h : t[k]? = some 46
  · have hlt := lt_of_some h
    rw [if_pos (h46.2 h), if_pos h, runT_app (by omega) hr.dig]
  · rw [if_neg (fun e => h (h46.1 e)), if_neg h]
theorem expT_app {t r : List Nat} {k m : Nat} (hr : StopB r) (hk : k ≤ t.length) (h0 : expT t k = some m) : expT (t ++ r) k = some m := by
  unfold expT at h0 ⊢
  have h101 := get_stop (t := t) (r := r) (c := 101) hk (fun e => by
    have := (hr 101 e).1
    revert this
    decide)
  by_cases h : t[k]? = some 101
  · have hlt := lt_of_some h
    rw [if_pos h] at h0
    rw [if_pos (h101.2 h)]
    by_cases hc : 1 ≤ runT digB t (sigT t (k + 1)) - sigT t (k + 1) ∧ runT digB t (sigT t (k + 1)) - sigT t (k + 1) ≤ 4
    · rw [if_pos hc] at h0
      have hs1 : sigT t (k + 1) ≤ t.length := sigT_le (by omega)
      have hs2 := runT_le (p := digB) hs1
      have hs3 := (sigT_ge (s := t) (i := k + 1)).1
      have hlt2 : k + 1 < t.length := by omega
      have es : sigT (t ++ r) (k + 1) = sigT t (k + 1) := by
        unfold sigT
        rw [get_app hlt2]
      rw [es, runT_app hs1 hr.dig, if_pos hc]
      exact h0
    · rw [if_neg hc] at h0; cases h0
  · rw [if_neg h] at h0
    rw [if_neg (fun e => h (h101.1 e))]
    exact h0
def sg1 (t : List Nat) : Prop := ∃ b, t = [b] ∧ sgnB b = true
theorem sgn_not {b : Nat} (h : sgnB b = true) : digB b = false ∧ letB b = false ∧ blkB b = false ∧ b ≠ 35 ∧ wrdB b = false ∧ b ≠ 46 := by
  have key : ∀ b : Nat, sgnB b = true → b = 43 ∨ b = 45 ∨ b = 42 ∨ b = 47 ∨ b = 94 ∨ b = 40 ∨ b = 41 ∨ b = 61 ∨ b = 59 := by
    intro b h
    unfold sgnB at h
    simpa [or_assoc] using h
  rcases key b h with rfl | rfl | rfl | rfl | rfl | rfl | rfl | rfl | rfl <;> decide
/-- A right token is told whatever stands behind it, if that is no part of it. -/
theorem tokT_app {t r : List Nat} (ht : VT t) (hr : sg1 t ∨ StopB r) : tokT (t ++ r) 0 = some t.length := by
  obtain ⟨h0, hne, -⟩ := ht
  rcases t with _ | ⟨b, t⟩
  · exact absurd rfl hne
  unfold tokT at h0 ⊢
  simp only [List.cons_append, List.getElem?_cons_zero] at h0 ⊢
  by_cases hd : digB b = true
  · have hr : StopB r := by
      rcases hr with ⟨c, e, hc⟩ | hr
      · injection e with e1 e2
        subst e1
        rw [(sgn_not hc).1] at hd
        cases hd
      · exact hr
    rw [if_pos hd] at h0 ⊢
    have e : b :: (t ++ r) = (b :: t) ++ r := rfl
    rw [e]
    generalize b :: t = u at h0 ⊢
    unfold numT at h0 ⊢
    rw [runT_app (Nat.zero_le _) hr.dig]
    have h1 := runT_le (p := digB) (s := u) (i := 0) (Nat.zero_le _)
    rw [fracT_app hr h1]
    rcases hf : fracT u (runT digB u 0) with _ | k
    · rw [hf] at h0; cases h0
    · rw [hf] at h0
      exact expT_app hr (fracT_le hf h1) h0
  · rw [if_neg hd] at h0 ⊢
    by_cases hl : letB b = true
    · have hr : StopB r := by
        rcases hr with ⟨c, e, hc⟩ | hr
        · injection e with e1 e2
          subst e1
          rw [(sgn_not hc).2.1] at hl
          cases hl
        · exact hr
      rw [if_pos hl] at h0 ⊢
      have e : b :: (t ++ r) = (b :: t) ++ r := rfl
      rw [e, runT_app (Nat.zero_le _) (fun c hc => (hr c hc).1)]
      exact h0
    · rw [if_neg hl] at h0 ⊢
      exact h0
/-- What is told as a token is one by itself. -/
theorem tokT_cut {t r : List Nat} (hne : t ≠ []) (h : tokT (t ++ r) 0 = some t.length) : tokT t 0 = some t.length := by
  rcases t with _ | ⟨b, t⟩
  · exact absurd rfl hne
  unfold tokT at h ⊢
  simp only [List.cons_append, List.getElem?_cons_zero] at h ⊢
  have e : b :: (t ++ r) = (b :: t) ++ r := rfl
  by_cases hd : digB b = true
  · rw [if_pos hd] at h ⊢
    rw [e] at h
    generalize b :: t = u at h ⊢
    have hb := numT_bounds h (Nat.zero_le _)
    unfold numT at h ⊢
    rw [runT_cut (r := r) (Nat.zero_le _) hb.1]
    have h1 := hb.1
    generalize runT digB (u ++ r) 0 = a at h h1 ⊢
    rcases hf : fracT (u ++ r) a with _ | k
    · rw [hf] at h; cases h
    · rw [hf] at h
      have hx : expT (u ++ r) k = some u.length := h
      have hk := expT_some hx
      have hf2 : fracT u a = some k := by
        have hak := fracT_some hf
        unfold fracT at hf ⊢
        by_cases hc : (u ++ r)[a]? = some 46
        · rw [if_pos hc] at hf
          by_cases hc2 : runT digB (u ++ r) (a + 1) = a + 1
          · rw [if_pos hc2] at hf; cases hf
          · rw [if_neg hc2] at hf
            injection hf with hf
            have hge := runT_ge (p := digB) (s := u ++ r) (i := a + 1)
            have hlt : a < u.length := by omega
            rw [get_app hlt] at hc
            rw [if_pos hc, runT_cut (r := r) (by omega) (by omega), if_neg hc2, hf]
        · rw [if_neg hc] at hf
          injection hf with hf
          have hc2 : ¬ u[a]? = some 46 := fun e => hc (by rw [get_app (lt_of_some e)]; exact e)
          rw [if_neg hc2, hf]
      rw [hf2]
      show expT u k = some u.length
      unfold expT at hx ⊢
      by_cases hc : (u ++ r)[k]? = some 101
      · rw [if_pos hc] at hx
        by_cases hc2 : 1 ≤ runT digB (u ++ r) (sigT (u ++ r) (k + 1)) - sigT (u ++ r) (k + 1) ∧ runT digB (u ++ r) (sigT (u ++ r) (k + 1)) - sigT (u ++ r) (k + 1) ≤ 4
        · rw [if_pos hc2] at hx
          injection hx with hx
          have hs := (sigT_ge (s := u ++ r) (i := k + 1)).1
          have hlt : k + 1 < u.length := by omega
          rw [get_app (by omega)] at hc
          have es : sigT u (k + 1) = sigT (u ++ r) (k + 1) := by
            unfold sigT
            rw [get_app hlt]
          rw [if_pos hc, es, runT_cut (r := r) (by omega) (by omega), if_pos hc2, hx]
        · rw [if_neg hc2] at hx; cases hx
      · rw [if_neg hc] at hx
        injection hx with hx
        have hc2 : ¬ u[k]? = some 101 := fun e => hc (by rw [get_app (lt_of_some e)]; exact e)
        rw [if_neg hc2, hx]
  · rw [if_neg hd] at h ⊢
    by_cases hl : letB b = true
    · rw [if_pos hl] at h ⊢
      rw [e] at h
      by_cases hc : runT wrdB ((b :: t) ++ r) 0 - 0 ≤ 16
      · rw [if_pos hc] at h
        injection h with h
        rw [runT_cut (r := r) (Nat.zero_le _) (by omega), if_pos hc, h]
      · rw [if_neg hc] at h; cases h
    · rw [if_neg hl] at h ⊢
      exact h
/-- How a right token begins. -/
theorem VT.head {t : List Nat} (h : VT t) : ∃ b t', t = b :: t' ∧ (digB b = true ∨ letB b = true ∨ sgnB b = true) := by
  obtain ⟨h0, hne, -⟩ := h
  rcases t with _ | ⟨b, t⟩
  · exact absurd rfl hne
  refine ⟨b, t, rfl, ?_⟩
  unfold tokT at h0
  simp only [List.getElem?_cons_zero] at h0
  by_cases hd : digB b = true
  · exact .inl hd
  · by_cases hl : letB b = true
    · exact .inr (.inl hl)
    · by_cases hs : sgnB b = true
      · exact .inr (.inr hs)
      · rw [if_neg hd, if_neg hl, if_neg hs] at h0; cases h0
theorem head_not {b : Nat} (h : digB b = true ∨ letB b = true ∨ sgnB b = true) : blkB b = false ∧ b ≠ 35 := by
  rcases h with h | h | h
  · unfold digB at h
    have := of_decide_eq_true h
    refine ⟨?_, by omega⟩
    unfold blkB
    simp only [Bool.or_eq_false_iff, beq_eq_false_iff_ne]
    omega
  · unfold letB at h
    have := of_decide_eq_true h
    refine ⟨?_, by omega⟩
    unfold blkB
    simp only [Bool.or_eq_false_iff, beq_eq_false_iff_ne]
    omega
  · exact ⟨(sgn_not h).2.2.1, (sgn_not h).2.2.2.1⟩
theorem skipL_blk : ∀ (sep r : List Nat), (∀ b, b ∈ sep → blkB b = true) → skipL false (sep ++ r) = sep.length + skipL false r
  | [], r, _ => by simp
  | b :: sep, r, h => by
    show skipL false (b :: (sep ++ r)) = _
    rw [skipL, if_neg Bool.false_ne_true, if_pos (h b (by simp)), skipL_blk sep r (fun c hc => h c (by simp [hc])), List.length_cons]
    omega
theorem skipL_tok {t r : List Nat} (h : VT t) : skipL false (t ++ r) = 0 := by
  obtain ⟨b, t', rfl, hb⟩ := h.head
  obtain ⟨h1, h2⟩ := head_not hb
  show skipL false (b :: (t' ++ r)) = 0
  rw [skipL, if_neg Bool.false_ne_true, if_neg (by rw [h1]; exact Bool.false_ne_true), if_neg h2]
/-- A token behind blanks. -/
theorem lx_step {s sep t r : List Nat} {i : Nat} (hi : i ≤ s.length) (hs : s.drop i = sep ++ (t ++ r)) (hsep : ∀ b, b ∈ sep → blkB b = true) (ht : VT t) (hr : sg1 t ∨ StopB r) {T : List Tok} {l : Nat} {b : Bool} (hn : Lx s (i + sep.length + t.length) T l b) :
    Lx s i (⟨i + sep.length, t⟩ :: T) l b := by
  have hk : skipT false s i = i + sep.length := by
    unfold skipT
    rw [hs, skipL_blk _ _ hsep, skipL_tok ht]; omega
  have hd : s.drop (i + sep.length) = t ++ r := by
    rw [← List.drop_drop, hs, List.drop_left]
  have hlen : s.length - i = sep.length + (t.length + r.length) := by
    rw [← List.length_drop, hs, List.length_append, List.length_append]
  have htp : 0 < t.length := List.length_pos_iff.2 ht.2.1
  have htk : tokT s (skipT false s i) = some (i + sep.length + t.length) := by
    rw [hk, tokT_drop, hd, tokT_app ht hr]; rfl
  have hc : cutL s (skipT false s i) (i + sep.length + t.length) = t := by
    unfold cutL
    rw [hk, hd, show i + sep.length + t.length - (i + sep.length) = t.length by omega, List.take_left]
  have := Lx.tok (s := s) (i := i) (by rw [hk]; omega) htk hn
  rw [hc, hk] at this
  exact this
/-! Tokens with blanks ahead of them. -/
abbrev Pcs := List (List Nat × List Nat)
def catP : Pcs → List Nat
  | [] => []
  | p :: ps => p.1 ++ (p.2 ++ catP ps)
def PcOk (r : List Nat) : Pcs → Prop
  | [] => True
  | p :: ps => (∀ b, b ∈ p.1 → blkB b = true) ∧ VT p.2 ∧ (sg1 p.2 ∨ StopB (catP ps ++ r)) ∧ PcOk r ps
theorem catP_app : ∀ ps qs : Pcs, catP (ps ++ qs) = catP ps ++ catP qs
  | [], _ => rfl
  | p :: ps, qs => by
    show p.1 ++ (p.2 ++ catP (ps ++ qs)) = p.1 ++ (p.2 ++ catP ps) ++ catP qs
    rw [catP_app ps qs]
    simp only [List.append_assoc]
theorem PcOk.app {r : List Nat} : ∀ {ps qs : Pcs}, PcOk (catP qs ++ r) ps → PcOk r qs → PcOk r (ps ++ qs)
  | [], _, _, h => h
  | p :: ps, qs, h, k => ⟨h.1, h.2.1, by
      show sg1 p.2 ∨ StopB (catP (ps ++ qs) ++ r)
      rw [catP_app, List.append_assoc]; exact h.2.2.1, PcOk.app h.2.2.2 k⟩
theorem lx_pcs {s : List Nat} : ∀ (ps : Pcs) (i : Nat), i ≤ s.length → s.drop i = catP ps → PcOk [] ps → ∃ T, Lx s i T s.length false ∧ txs T = ps.map (·.2)
  | [], i, hi, hs, _ => by
    have hs : s.drop i = [] := hs
    have : s.length - i = 0 := by rw [← List.length_drop, hs]; rfl
    exact ⟨[], .done (by unfold skipT; rw [hs]; show i + 0 = _; omega), rfl⟩
  | p :: ps, i, hi, hs, ⟨h1, h2, h3, h4⟩ => by
    have hs : s.drop i = p.1 ++ (p.2 ++ catP ps) := hs
    have hlen : s.length - i = p.1.length + (p.2.length + (catP ps).length) := by
      rw [← List.length_drop, hs, List.length_append, List.length_append]
    have htp : 0 < p.2.length := List.length_pos_iff.2 h2.2.1
    have hd : s.drop (i + p.1.length + p.2.length) = catP ps := by
      rw [Nat.add_assoc, ← List.drop_drop, hs, ← List.append_assoc, ← List.length_append, List.drop_left]
    obtain ⟨T, hT, hx⟩ := lx_pcs ps _ (by omega) hd h4
    refine ⟨_, lx_step hi hs h1 h2 (by rw [List.append_nil] at h3; exact h3) hT, ?_⟩
    show p.2 :: txs T = _
    rw [hx]; rfl
/-! The tokens of every text. -/
theorem tok_VT {s : List Nat} (hs : Byt s) {i k : Nat} (h : tokT s i = some k) (hi : i < s.length) : VT (cutL s i k) := by
  have hb := tokT_bounds h hi
  have e : s.drop i = cutL s i k ++ s.drop k := by
    unfold cutL
    have : s.drop k = (s.drop i).drop (k - i) := by rw [List.drop_drop]; congr 1; omega
    rw [this, List.take_append_drop]
  have hl := cutL_len (i := i) hb.2
  have hne : cutL s i k ≠ [] := fun e => by rw [e] at hl; simp at hl; omega
  rw [tokT_drop, e] at h
  refine ⟨tokT_cut (r := s.drop k) hne ?_, hne, fun b hb => hs b (List.mem_of_mem_drop (List.mem_of_mem_take hb))⟩
  rcases ht : tokT (cutL s i k ++ s.drop k) 0 with _ | m
  · rw [ht] at h; cases h
  · rw [ht] at h
    have h : i + m = k := Option.some.inj h
    rw [hl]; congr 1; omega
theorem runT_end_stop {p : Nat → Bool} {s : List Nat} {i k b : Nat} (h : runT p s i = k) (hb : s[k]? = some b) : p b = false := by
  have key : ∀ l : List Nat, ∀ b, l[runL p l]? = some b → p b = false := by
    intro l
    induction l with
    | nil => intro b hb; cases hb
    | cons c l ih =>
      intro b hb
      rw [runL] at hb
      by_cases hc : p c = true
      · rw [if_pos hc] at hb
        exact ih b (by simpa using hb)
      · rw [if_neg hc] at hb
        simp only [List.getElem?_cons_zero, Option.some.injEq] at hb
        subst hb
        simpa using hc
  refine key (s.drop i) b ?_
  rw [← get_drop]
  unfold runT at h
  rw [h]; exact hb
theorem Lx.ok {s : List Nat} (hs : Byt s) {i : Nat} {T : List Tok} {l : Nat} {b : Bool} (h : Lx s i T l b) : TkO l T ∧ (i ≤ s.length → i ≤ plT l T) := by
  induction h with
  | done h => exact ⟨trivial, fun hi => hi⟩
  | @bad i h ht => exact ⟨trivial, fun _ => skipT_ge⟩
  | @tok i k T l b h ht hn ih =>
    have hb := tokT_bounds ht h
    have hl := cutL_len (i := skipT false s i) hb.2
    refine ⟨⟨tok_VT hs ht h, ?_, ih.1⟩, fun _ => skipT_ge⟩
    have hk := ih.2 hb.2
    simp only
    rw [hl]
    have hg : gapT ⟨skipT false s i, cutL s (skipT false s i) k⟩ T = 0 ∨ (gapT ⟨skipT false s i, cutL s (skipT false s i) k⟩ T = 1 ∧ k + 1 ≤ plT l T) := by
      rcases T with _ | ⟨u, T⟩
      · exact .inl rfl
      · unfold gapT
        by_cases hc : (cutL s (skipT false s i) k = [108, 101, 116] ∧ isName u.text = true)
        · refine .inr ⟨if_pos hc, ?_⟩
          have hu : u = ⟨skipT false s k, cutL s (skipT false s k) (u.at_ + u.text.length)⟩ ∧ skipT false s k < s.length := by
            cases hn with
            | tok h1 h2 h3 =>
              rename_i k2
              have hb2 := tokT_bounds h2 h1
              have hl2 := cutL_len (i := skipT false s k) hb2.2
              refine ⟨?_, h1⟩
              simp only [hl2]
              congr 2
              omega
          have hat : u.at_ = skipT false s k := by rw [hu.1]
          show k + 1 ≤ u.at_
          rcases Nat.lt_or_ge k u.at_ with h1 | h1
          · exact h1
          · exfalso
            have hge := skipT_ge (nt := false) (s := s) (i := k)
            have hek : skipT false s k = k := by omega
            have hsk : k < s.length := by rw [← hek]; exact hu.2
            have hk0 : s[k]? = some s[k] := List.getElem?_eq_getElem hsk
            -- the name's first byte is a letter
            have hut : u.text = cutL s k (u.at_ + u.text.length) := by
              have := congrArg Tok.text hu.1
              rw [hek] at this
              exact this
            have hlb : letB s[k] = true := by
              have hnm := hc.2
              rw [hut] at hnm
              unfold cutL at hnm
              rw [drop_at hk0] at hnm
              rcases hq : u.at_ + u.text.length - k with _ | q
              · rw [hq, List.take_zero] at hnm; cases hnm
              · rw [hq, List.take_succ_cons] at hnm
                unfold isName at hnm
                simp only [Bool.and_eq_true] at hnm
                exact hnm.1.1.1
            -- the word let would go on
            have h0 : s[skipT false s i]? = some 108 := by
              have : (cutL s (skipT false s i) k)[0]? = some 108 := by rw [hc.1]; rfl
              unfold cutL at this
              rw [List.getElem?_take] at this
              split at this
              · rw [← get_drop] at this; exact this
              · cases this
            unfold tokT at ht
            rw [h0] at ht
            simp only at ht
            rw [if_neg (show ¬ digB 108 = true by decide), if_pos (show letB 108 = true by decide)] at ht
            split at ht
            · injection ht with ht
              have := runT_end_stop ht hk0
              unfold wrdB at this
              rw [hlb] at this
              cases this
            · cases ht
        · exact .inl (if_neg hc)
    rcases hg with hg | ⟨hg, h2⟩ <;> rw [hg] <;> omega
end Go.Proofs.YtnaadajcehfmiaaDoor
