/- Lang: the shortest tokens of a tree are read as it. -/
import Derived.Test.YtnaadajcehfmiaaDoorLpA
namespace Go.Proofs.YtnaadajcehfmiaaDoor

def brk (c : Bool) (C : List (List Nat)) : List (List Nat) := if c then [40] :: (C ++ [[41]]) else C
def sgT (k : Nat) : List Nat := if k = 6 then [43] else if k = 7 then [45] else if k = 8 then [42] else [47]
/-- The shortest tokens, without brackets of its own. -/
def Ex.tks : Ex → List (List Nat)
  | .num t => [t]
  | .i => [[105]]
  | .z => [[122]]
  | .name t => [t]
  | .neg e => [45] :: brk (decide (e.lvl < 3)) e.tks
  | .pow e n => brk (decide (e.lvl < 5)) e.tks ++ [[94], digL n]
  | .bin k x y => brk (decide (x.lvl < if k = 6 ∨ k = 7 then 1 else 2)) x.tks ++ sgT k :: brk (decide (y.lvl < if k = 6 ∨ k = 7 then 2 else 3)) y.tks
def Ex.tl (l : Nat) (e : Ex) : List (List Nat) := brk (decide (e.lvl < l)) e.tks
theorem Ex.tl_own {l : Nat} {e : Ex} (h : ¬ e.lvl < l) : e.tl l = e.tks := by
  unfold Ex.tl
  rw [decide_eq_false h]; rfl
theorem Ex.tl_brk {l : Nat} {e : Ex} (h : e.lvl < l) : e.tl l = [40] :: (e.tks ++ [[41]]) := by
  unfold Ex.tl
  rw [decide_eq_true h]; rfl
theorem Ex.tl_down {l : Nat} {e : Ex} (h : e.lvl ≠ l) : e.tl l = e.tl (l + 1) := by
  by_cases h1 : e.lvl < l
  · rw [Ex.tl_brk h1, Ex.tl_brk (by omega)]
  · rw [Ex.tl_own h1, Ex.tl_own (by omega)]
theorem Ex.lvl_le (e : Ex) : 1 ≤ e.lvl ∧ e.lvl ≤ 5 := by
  cases e <;> simp [Ex.lvl]
  split <;> omega
def txs (C : List Tok) : List (List Nat) := C.map fun t => t.text
def hdT (R : List Tok) : List Nat := match R with | [] => [] | t :: _ => t.text
def rtS (st : PS) (e : Ex) : Nat := st.N.length + e.size - 1
def aft (st : PS) (e : Ex) (R : List Tok) : PS := ⟨R, st.N ++ e.flat st.N.length, st.H ++ e.hts, st.L⟩
theorem aft_ads {st : PS} {e : Ex} {R : List Tok} (h : st.N.length + e.size ≤ 4096) (hh : e.high ≤ 64) : Ads st (aft st e R) (rtS st e) e :=
  ⟨rfl, rfl, rfl, by unfold rtS; have := e.size_pos; omega, by show (st.N ++ _).length ≤ 4096; rw [List.length_append, Ex.flat_len]; exact h, hh⟩
theorem tx_hd (st : PS) : st.tx = hdT st.T := rfl
def bad3 (t : List Nat) : Prop := t = [94]
def bad2 (t : List Nat) : Prop := t = [94] ∨ mulS t ≠ none
def bad1 (t : List Nat) : Prop := bad2 t ∨ addS t ≠ none
/-- What a parser of parts makes of a tree's shortest tokens. -/
def Cmp (f : PF) (l : Nat) (b : List Nat → Prop) (e : Ex) : Prop := ∀ (st : PS) (C R : List Tok), st.T = C ++ R → txs C = e.tl l → OkX st.names e → e.high ≤ 64 → st.N.length + e.size ≤ 4096 → st.H.length = st.N.length → ¬ b (hdT R) → f st = some (.ok (rtS st e) (aft st e R))
/-- A row's first parts are read; it goes on. -/
def RowC (last : Nat) (sg : List Nat → Option Nat) (part : PF) (l : Nat) (b : List Nat → Prop) (e : Ex) : Prop := ∀ (st : PS) (C R : List Tok) (n : Nat), st.T = C ++ R → txs C = e.tl l → OkX st.names e → e.high ≤ 64 → st.N.length + e.size ≤ 4096 → st.H.length = st.N.length → ¬ b (hdT R) → R.length < n → rowP last sg part st = rowL last sg part n (rtS st e) (aft st e R)
theorem addP_fits {n : Nod} {h at_ : Nat} {st : PS} (h1 : st.N.length < 4096) (h2 : h ≤ 64) : addP n h at_ st = .ok st.N.length { st with N := st.N ++ [n], H := st.H ++ [h] } := by
  unfold addP
  rw [if_neg (by omega), if_neg (by omega)]
theorem txs_cons {C : List Tok} {t : List Nat} {L : List (List Nat)} (h : txs C = t :: L) : ∃ u C', C = u :: C' ∧ u.text = t ∧ txs C' = L := by
  rcases C with _ | ⟨u, C'⟩
  · cases h
  · injection h with h1 h2
    exact ⟨u, C', rfl, h1, h2⟩
theorem txs_app {C : List Tok} {L M : List (List Nat)} (h : txs C = L ++ M) : ∃ C1 C2, C = C1 ++ C2 ∧ txs C1 = L ∧ txs C2 = M := by
  unfold txs at *
  obtain ⟨C1, C2, h1, h2, h3⟩ := List.map_eq_append_iff.1 h
  exact ⟨C1, C2, h1, h2, h3⟩
theorem txs_nil {C : List Tok} (h : txs C = []) : C = [] := List.map_eq_nil_iff.1 h
/-! The fuel of a row counts for nothing. -/
theorem rowL_fuel {last : Nat} {sg : List Nat → Option Nat} (hsg : sg [] = none) {part : PF} (hp : Good part) : ∀ (n m a : Nat) (st : PS), st.T.length < n → st.T.length < m → rowL last sg part n a st = rowL last sg part m a st := by
  intro n
  induction n with
  | zero => intro m a st h; omega
  | succ n ih =>
    intro m a st h h'
    rcases m with _ | m
    · omega
    rw [rowL, rowL]
    rcases hs : sg st.tx with _ | k
    · rfl
    · have hne : st.T ≠ [] := fun e => by
        have : st.tx = [] := by unfold PS.tx; rw [e]
        rw [this, hsg] at hs
        cases hs
      have h0 := on_lt hne
      obtain ⟨r, hr, hg⟩ := hp st.on
      simp only [hr]
      rcases r with ⟨b, st1⟩ | ⟨x, y⟩
      · simp only
        have h1 := hg b st1 rfl
        rcases ha : addP ⟨k, [], a, b, 0⟩ (1 + max (st1.hi a) (st1.hi b)) (st.pl last) st1 with ⟨c, st2⟩ | ⟨x, y⟩
        · obtain ⟨-, hst⟩ := addP_ok ha
          have h2 : st2.T.length = st1.T.length := by rw [hst]
          simp only
          exact ih m c st2 (by omega) (by omega)
        · rfl
      · rfl
section
variable {last : Nat} {wrong : Bool} {inner : Option PF} {e : Ex}
theorem cmp_power (h : Cmp (atomP last wrong inner) 5 (fun _ => False) e) (hl : e.lvl ≠ 4) : Cmp (powerP last wrong inner) 4 bad3 e := by
  intro st C R hT hC ho hh hn hH hb
  have h1 := h st C R hT (by rw [hC, Ex.tl_down hl]) ho hh hn hH id
  unfold powerP
  rw [h1]
  simp only
  unfold powK
  rw [if_neg (show ¬ (aft st e R).tx = [94] from hb)]
theorem hd5 : ∀ {nm : List (List Nat)} {e : Ex}, OkX nm e → ∃ t L, e.tl 5 = t :: L ∧ (t = [40] ∨ t = [105] ∨ t = [122] ∨ isName t = true ∨ isNum t = true)
  | nm, .num t, h => ⟨t, [], rfl, by simp [h.1]⟩
  | nm, .i, h => ⟨[105], [], rfl, by simp⟩
  | nm, .z, h => ⟨[122], [], rfl, by simp⟩
  | nm, .name t, h => ⟨t, [], rfl, by simp [h.1]⟩
  | nm, .neg e, h => ⟨[40], _, Ex.tl_brk (show 3 < 5 by omega), .inl rfl⟩
  | nm, .pow e n, h => ⟨[40], _, Ex.tl_brk (show 4 < 5 by omega), .inl rfl⟩
  | nm, .bin k x y, h => ⟨[40], _, Ex.tl_brk (by show (if k = 6 ∨ k = 7 then 1 else 2) < 5; split <;> omega), .inl rfl⟩
theorem hd4 {nm : List (List Nat)} {e : Ex} (h : OkX nm e) : ∃ t L, e.tl 4 = t :: L ∧ (t = [40] ∨ t = [105] ∨ t = [122] ∨ isName t = true ∨ isNum t = true) := by
  by_cases hl : e.lvl = 4
  · cases e with
    | pow e n =>
      obtain ⟨t, L, h1, h2⟩ := hd5 h.1
      refine ⟨t, L ++ [[94], digL n], ?_, h2⟩
      rw [Ex.tl_own (by rw [hl]; omega)]
      show e.tl 5 ++ _ = _
      rw [h1]; rfl
    | bin k x y =>
      exfalso
      have : (if k = 6 ∨ k = 7 then 1 else 2) = 4 := hl
      split at this <;> omega
    | _ => cases hl
  · rw [Ex.tl_down hl]; exact hd5 h
theorem hd_ne {t : List Nat} (h : t = [40] ∨ t = [105] ∨ t = [122] ∨ isName t = true ∨ isNum t = true) : t ≠ [45] ∧ t ≠ [108, 101, 116] := by
  refine ⟨fun e => ?_, fun e => ?_⟩ <;> (subst e; rcases h with h | h | h | h | h <;> first | cases h | (revert h; decide))
theorem cmp_minus (h : Cmp (powerP last wrong inner) 4 bad3 e) (hl : e.lvl ≠ 3) : Cmp (minusP last wrong inner) 3 bad3 e := by
  intro st C R hT hC ho hh hn hH hb
  rw [Ex.tl_down hl] at hC
  have h1 := h st C R hT hC ho hh hn hH hb
  obtain ⟨t, L, e1, e2⟩ := hd4 ho
  rw [e1] at hC
  obtain ⟨u, C', rfl, hu, -⟩ := txs_cons hC
  have hng : negs st.T = ([], st.T) := by
    rw [hT]
    show negs (u :: (C' ++ R)) = _
    rw [negs, if_neg (by rw [hu]; exact (hd_ne e2).1)]
    rfl
  unfold minusP
  rw [hng]
  show (match powerP last wrong inner st with | none => none | some (PR.no x y) => some (PR.no x y) | some (PR.ok a st1) => some (negUp ([] : List Nat).reverse a st1)) = _
  rw [h1]
  rfl
theorem row_of {sg : List Nat → Option Nat} (hsg : sg [] = none) {part : PF} (hp : Good part) {l : Nat} {b : List Nat → Prop} (h : Cmp part (l + 1) b e) (hl : e.lvl ≠ l) : RowC last sg part l b e := by
  intro st C R n hT hC ho hh hn hH hb hR
  have h1 := h st C R hT (by rw [hC, Ex.tl_down hl]) ho hh hn hH hb
  unfold rowP
  rw [h1]
  exact rowL_fuel hsg hp _ _ _ _ (Nat.lt_succ_self _) hR
theorem cmp_row {sg : List Nat → Option Nat} {part : PF} {l : Nat} {b b' : List Nat → Prop} (h : RowC last sg part l b e) (hb' : ∀ t, b t → b' t) (hs : ∀ t, sg t ≠ none → b' t) : Cmp (rowP last sg part) l b' e := by
  intro st C R hT hC ho hh hn hH hb
  rw [h st C R (R.length + 1) hT hC ho hh hn hH (fun h => hb (hb' _ h)) (Nat.lt_succ_self _), rowL]
  have : sg (aft st e R).tx = none := by
    rcases hq : sg (aft st e R).tx with _ | k
    · rfl
    · exact absurd (hs (hdT R) (by
        show sg (aft st e R).tx ≠ none
        rw [hq]; exact fun h => by cases h)) hb
  rw [this]
/-- In brackets. -/
theorem cmp_brk {f : PF} (h : Cmp f 1 bad1 e) (hl : e.lvl < 5) : Cmp (atomP last wrong (some f)) 5 (fun _ => False) e := by
  intro st C R hT hC ho hh hn hH _
  rw [Ex.tl_brk hl] at hC
  obtain ⟨u, C1, rfl, hu, hC1⟩ := txs_cons hC
  obtain ⟨C2, C3, rfl, hC2, hC3⟩ := txs_app hC1
  obtain ⟨v, C4, rfl, hv, hC4⟩ := txs_cons hC3
  have hC5 := txs_nil hC4
  subst hC5
  have hon : st.on.T = C2 ++ (v :: R) := by
    unfold PS.on
    rw [hT]; simp
  have h1 := h st.on C2 (v :: R) hon (by rw [hC2, Ex.tl_own (by have := e.lvl_le; omega)]) ho hh hn hH (by
    show ¬ bad1 v.text
    rw [hv]
    unfold bad1 bad2
    decide)
  have hx : st.tx = [40] := by
    unfold PS.tx
    rw [hT]; exact hu
  unfold atomP
  rw [if_pos hx]
  simp only [h1]
  have ht : takeP last wrong [41] (aft st.on e (v :: R)) = .ok () (aft st.on e (v :: R)).on := by
    unfold takeP
    rw [if_pos (show (aft st.on e (v :: R)).tx = [41] from hv)]
  rw [ht]
  rfl
theorem cmp_neg (h : Cmp (minusP last wrong inner) 3 bad3 e) : Cmp (minusP last wrong inner) 3 bad3 (.neg e) := by
  intro st C R hT hC ho hh hn hH hb
  rw [Ex.tl_own (show ¬ (Ex.neg e).lvl < 3 from Nat.lt_irrefl 3)] at hC
  obtain ⟨u, C1, rfl, hu, hC1⟩ := txs_cons hC
  have hh2 : 1 + e.high ≤ 64 := hh
  have hn2 : st.N.length + (e.size + 1) ≤ 4096 := hn
  have hon : st.on.T = C1 ++ R := by
    unfold PS.on
    rw [hT]; rfl
  have h1 := h st.on C1 R hon hC1 ho (by omega) (show st.N.length + e.size ≤ 4096 by omega) hH hb
  unfold minusP at h1 ⊢
  have hng : negs st.T = (u.at_ :: (negs st.on.T).1, (negs st.on.T).2) := by
    rw [hon, hT]
    show negs (u :: (C1 ++ R)) = _
    rw [negs, if_pos hu]
  rw [hng]
  have e0 : ({ st with T := (negs st.on.T).2 } : PS) = { st.on with T := (negs st.on.T).2 } := rfl
  rw [e0]
  rcases hf : powerP last wrong inner { st.on with T := (negs st.on.T).2 } with _ | (⟨a, st1⟩ | ⟨x, y⟩)
  · rw [hf] at h1; cases h1
  · rw [hf] at h1
    have h1 : negUp (negs st.on.T).1.reverse a st1 = .ok (rtS st.on e) (aft st.on e R) := Option.some.inj h1
    show some (negUp (u.at_ :: (negs st.on.T).1).reverse a st1) = _
    rw [List.reverse_cons]
    have hap : ∀ (ps : List Nat) (a : Nat) (st : PS) (q v : Nat) (st' : PS), negUp ps a st = .ok v st' → negUp (ps ++ [q]) a st = negUp [q] v st' := by
      intro ps
      induction ps with
      | nil =>
        intro a st q v st' h
        rw [negUp] at h
        injection h with h1 h2
        rw [h1, h2]; rfl
      | cons p ps ih =>
        intro a st q v st' h
        rw [negUp] at h
        rw [List.cons_append, negUp]
        split at h
        · cases h
        · exact ih _ _ _ _ _ h
    rw [hap _ _ _ _ _ _ h1, negUp]
    have hA := aft_ads (st := st.on) (e := e) (R := R) (show st.N.length + e.size ≤ 4096 by omega) (by omega)
    rw [hA.high hH, addP_fits (by rw [hA.nl]; show st.N.length + e.size < 4096; omega) hh2]
    simp only [negUp]
    have e1 : (aft st.on e R).N.length = rtS st (.neg e) := by
      rw [hA.nl]
      show st.N.length + e.size = st.N.length + (e.size + 1) - 1
      omega
    have e2 : ({ aft st.on e R with N := (aft st.on e R).N ++ [⟨5, [], rtS st.on e, 0, 0⟩], H := (aft st.on e R).H ++ [1 + e.high] } : PS) = aft st (.neg e) R := by
      show (⟨R, (st.N ++ e.flat st.N.length) ++ [⟨5, [], st.N.length + e.size - 1, 0, 0⟩], (st.H ++ e.hts) ++ [1 + e.high], st.L⟩ : PS) = ⟨R, st.N ++ (e.flat st.N.length ++ _), st.H ++ (e.hts ++ _), st.L⟩
      rw [List.append_assoc, List.append_assoc]
    rw [e1, e2]
  · rw [hf] at h1; cases h1
theorem digL_isNum {n : Nat} (hn : n ≤ 64) : isNum (digL n) = true := by
  by_cases h : n < 10
  · rw [digL, if_pos h]
    exact decide_eq_true ⟨by omega, by omega⟩
  · rw [digL, if_neg h]
    exact decide_eq_true ⟨by omega, by omega⟩
theorem cmp_pow {n : Nat} (h : Cmp (atomP last wrong inner) 5 (fun _ => False) e) (hn64 : n ≤ 64) : Cmp (powerP last wrong inner) 4 bad3 (.pow e n) := by
  intro st C R hT hC ho hh hn hH hb
  rw [Ex.tl_own (show ¬ (Ex.pow e n).lvl < 4 from Nat.lt_irrefl 4)] at hC
  obtain ⟨C1, C2, rfl, hC1, hC2⟩ := txs_app hC
  obtain ⟨u, C3, rfl, hu, hC3⟩ := txs_cons hC2
  obtain ⟨v, C4, rfl, hv, hC4⟩ := txs_cons hC3
  have hC5 := txs_nil hC4
  subst hC5
  have hh2 : 1 + e.high ≤ 64 := hh
  have hn2 : st.N.length + (e.size + 1) ≤ 4096 := hn
  have h1 := h st C1 (u :: v :: R) (by rw [hT, List.append_assoc]; rfl) hC1 ho.1 (by omega) (by omega) hH id
  unfold powerP
  rw [h1]
  simp only
  unfold powK
  have hA := aft_ads (st := st) (e := e) (R := u :: v :: R) (by omega) (by omega)
  have x1 : (aft st e (u :: v :: R)).tx = [94] := hu
  have x2 : (aft st e (u :: v :: R)).on.tx = digL n := hv
  have hN1 : (aft st e (u :: v :: R)).on.on.N.length = st.N.length + e.size := hA.nl
  rw [if_pos x1, x2, if_pos (digL_isNum hn64), whole_digL hn64]
  simp only
  rw [hA.high hH, addP_fits (by rw [hN1]; omega) hh2]
  have e1 : (aft st e (u :: v :: R)).on.on.N.length = rtS st (.pow e n) := by
    rw [hN1]
    show st.N.length + e.size = st.N.length + (e.size + 1) - 1
    omega
  rw [e1]
  show some (PR.ok _ (⟨R, (st.N ++ e.flat st.N.length) ++ [⟨10, [], st.N.length + e.size - 1, 0, n⟩], (st.H ++ e.hts) ++ [1 + e.high], st.L⟩ : PS)) = some (.ok _ ⟨R, st.N ++ (e.flat st.N.length ++ _), st.H ++ (e.hts ++ _), st.L⟩)
  rw [List.append_assoc, List.append_assoc]
theorem row_bin {sg : List Nat → Option Nat} (hsg : sg [] = none) {part : PF} (hp : Good part) {l k : Nat} {b : List Nat → Prop} {y : Ex} (hx : RowC last sg part l b e) (hy : Cmp part (l + 1) b y) (hk : (if k = 6 ∨ k = 7 then 1 else 2) = l) (hs : sg (sgT k) = some k) (hb : ¬ b (sgT k)) : RowC last sg part l b (.bin k e y) := by
  intro st C R n hT hC ho hh hn hH hbR hR
  have ek : (if k = 6 ∨ k = 7 then 2 else 3) = l + 1 := by rw [← hk]; split <;> rfl
  rw [Ex.tl_own (show ¬ (Ex.bin k e y).lvl < l by show ¬ (if k = 6 ∨ k = 7 then 1 else 2) < l; omega)] at hC
  have hC0 : txs C = e.tl l ++ sgT k :: y.tl (l + 1) := by
    rw [hC]
    show brk (decide (e.lvl < if k = 6 ∨ k = 7 then 1 else 2)) e.tks ++ sgT k :: brk (decide (y.lvl < if k = 6 ∨ k = 7 then 2 else 3)) y.tks = _
    rw [hk, ek]; rfl
  obtain ⟨C1, C2, rfl, hC1, hC2⟩ := txs_app hC0
  obtain ⟨u, C3, rfl, hu, hC3⟩ := txs_cons hC2
  have hh2 : 1 + max e.high y.high ≤ 64 := hh
  have hn2 : st.N.length + (e.size + y.size + 1) ≤ 4096 := hn
  have h1 := hx st C1 (u :: (C3 ++ R)) (C3.length + R.length + n + 2) (by rw [hT, List.append_assoc]; rfl) hC1 ho.2.1 (by omega) (by omega) hH (by show ¬ b u.text; rw [hu]; exact hb) (by simp only [List.length_cons, List.length_append]; omega)
  rw [h1, rowL]
  have x1 : (aft st e (u :: (C3 ++ R))).tx = sgT k := hu
  rw [x1, hs]
  simp only
  have hA := aft_ads (st := st) (e := e) (R := u :: (C3 ++ R)) (by omega) (by omega)
  have hN1 : (aft st e (u :: (C3 ++ R))).on.N.length = st.N.length + e.size := hA.nl
  have h2 := hy (aft st e (u :: (C3 ++ R))).on C3 R rfl hC3 ho.2.2 (by omega) (by rw [hN1]; omega) (hA.hl hH) hbR
  rw [h2]
  simp only
  have hA2 : Ads (aft st e (u :: (C3 ++ R))) (aft (aft st e (u :: (C3 ++ R))).on y R) (rtS (aft st e (u :: (C3 ++ R))).on y) y := by
    have q := aft_ads (st := (aft st e (u :: (C3 ++ R))).on) (e := y) (R := R) (by rw [hN1]; omega) (by omega)
    exact ⟨q.N, q.H, q.L, q.v, q.m, q.hi⟩
  have hN2 : (aft (aft st e (u :: (C3 ++ R))).on y R).N.length = st.N.length + e.size + y.size := by
    rw [hA2.nl, hA.nl]
  rw [hA.high2 hH hA2, hA2.high (hA.hl hH), addP_fits (by rw [hN2]; omega) hh2]
  simp only
  have e1 : (aft (aft st e (u :: (C3 ++ R))).on y R).N.length = rtS st (.bin k e y) := by
    rw [hN2]
    show st.N.length + e.size + y.size = st.N.length + (e.size + y.size + 1) - 1
    omega
  have e3 : rtS (aft st e (u :: (C3 ++ R))).on y = st.N.length + e.size + y.size - 1 := by
    unfold rtS
    rw [hN1]
  have e2 : ({ aft (aft st e (u :: (C3 ++ R))).on y R with N := (aft (aft st e (u :: (C3 ++ R))).on y R).N ++ [⟨k, [], rtS st e, rtS (aft st e (u :: (C3 ++ R))).on y, 0⟩], H := (aft (aft st e (u :: (C3 ++ R))).on y R).H ++ [1 + max e.high y.high] } : PS) = aft st (.bin k e y) R := by
    rw [e3]
    show (⟨R, ((st.N ++ e.flat st.N.length) ++ y.flat (st.N ++ e.flat st.N.length).length) ++ [⟨k, [], st.N.length + e.size - 1, st.N.length + e.size + y.size - 1, 0⟩], ((st.H ++ e.hts) ++ y.hts) ++ [1 + max e.high y.high], st.L⟩ : PS) = ⟨R, st.N ++ (e.flat st.N.length ++ y.flat (st.N.length + e.size) ++ _), st.H ++ (e.hts ++ y.hts ++ _), st.L⟩
    rw [List.length_append, Ex.flat_len]
    simp only [List.append_assoc]
  rw [e2, e1]
  exact rowL_fuel hsg hp _ _ _ _ (by show R.length < _; omega) hR
end
/-! All levels. -/
structure AllP (last : Nat) (wrong : Bool) (e : Ex) : Prop where
  a5 : ∀ d, e.high ≤ d + (if e.lvl < 5 then 0 else 1) → Cmp (atomP last wrong (innerP last wrong d)) 5 (fun _ => False) e
  a4 : ∀ d, e.high ≤ d + (if e.lvl < 4 then 0 else 1) → Cmp (powerP last wrong (innerP last wrong d)) 4 bad3 e
  a3 : ∀ d, e.high ≤ d + (if e.lvl < 3 then 0 else 1) → Cmp (minusP last wrong (innerP last wrong d)) 3 bad3 e
  b2 : ∀ d, e.high ≤ d + (if e.lvl < 2 then 0 else 1) → RowC last mulS (minusP last wrong (innerP last wrong d)) 2 bad3 e
  a2 : ∀ d, e.high ≤ d + (if e.lvl < 2 then 0 else 1) → Cmp (termP last wrong (innerP last wrong d)) 2 bad2 e
  b1 : ∀ d, e.high ≤ d + 1 → RowC last addS (termP last wrong (innerP last wrong d)) 1 bad2 e
  a1 : ∀ d, e.high ≤ d + 1 → Cmp (sumP last wrong d) 1 bad1 e
section
variable {last : Nat} {wrong : Bool} {e : Ex}
theorem inner_good (d : Nat) : ∀ f, innerP last wrong d = some f → Good f := by
  intro f h
  rcases d with _ | d
  · cases h
  · injection h with h
    rw [← h]; exact sumP_good d
theorem a2_of {d : Nat} (h : RowC last mulS (minusP last wrong (innerP last wrong d)) 2 bad3 e) : Cmp (termP last wrong (innerP last wrong d)) 2 bad2 e :=
  cmp_row h (fun _ h => .inl h) (fun _ h => .inr h)
theorem a1_of {d : Nat} (h : RowC last addS (termP last wrong (innerP last wrong d)) 1 bad2 e) : Cmp (sumP last wrong d) 1 bad1 e := by
  rw [sumP_eq]
  exact cmp_row h (fun _ h => .inl h) (fun _ h => .inr h)
theorem b2_of {d : Nat} (h : Cmp (minusP last wrong (innerP last wrong d)) 3 bad3 e) (hl : e.lvl ≠ 2) : RowC last mulS (minusP last wrong (innerP last wrong d)) 2 bad3 e :=
  row_of rfl (minusP_good (inner_good d)) h hl
theorem b1_of {d : Nat} (h : Cmp (termP last wrong (innerP last wrong d)) 2 bad2 e) (hl : e.lvl ≠ 1) : RowC last addS (termP last wrong (innerP last wrong d)) 1 bad2 e :=
  row_of rfl (rowP_good rfl (minusP_good (inner_good d))) h hl
theorem a5_of (h : ∀ d, e.high ≤ d + 1 → Cmp (sumP last wrong d) 1 bad1 e) (hl : e.lvl < 5) (d : Nat) (hd : e.high ≤ d) : Cmp (atomP last wrong (innerP last wrong d)) 5 (fun _ => False) e := by
  have := e.high_pos
  rcases d with _ | d
  · omega
  · exact cmp_brk (h d hd) hl
theorem all5 (hl : e.lvl = 5) (h : ∀ d, Cmp (atomP last wrong (innerP last wrong d)) 5 (fun _ => False) e) : AllP last wrong e := by
  have a4 := fun d => cmp_power (h d) (by omega)
  have a3 := fun d => cmp_minus (a4 d) (by omega)
  have b2 := fun d => b2_of (a3 d) (by omega)
  have a2 := fun d => a2_of (b2 d)
  have b1 := fun d => b1_of (a2 d) (by omega)
  exact ⟨fun d _ => h d, fun d _ => a4 d, fun d _ => a3 d, fun d _ => b2 d, fun d _ => a2 d, fun d _ => b1 d, fun d _ => a1_of (b1 d)⟩
theorem all4 (hl : e.lvl = 4) (h : ∀ d, e.high ≤ d + 1 → Cmp (powerP last wrong (innerP last wrong d)) 4 bad3 e) : AllP last wrong e := by
  have a3 := fun d hd => cmp_minus (h d hd) (by omega)
  have b2 := fun d hd => b2_of (a3 d hd) (by omega)
  have a2 := fun d hd => a2_of (b2 d hd)
  have b1 := fun d hd => b1_of (a2 d hd) (by omega)
  have a1 := fun d hd => a1_of (b1 d hd)
  have a5 := fun d hd => a5_of a1 (by omega) d hd
  exact ⟨fun d hd => a5 d (by rw [if_pos (by omega)] at hd; exact hd), fun d hd => h d (by rw [if_neg (by omega)] at hd; exact hd), fun d hd => a3 d (by rw [if_neg (by omega)] at hd; exact hd), fun d hd => b2 d (by rw [if_neg (by omega)] at hd; exact hd), fun d hd => a2 d (by rw [if_neg (by omega)] at hd; exact hd), b1, a1⟩
theorem all3 (hl : e.lvl = 3) (h : ∀ d, e.high ≤ d + 1 → Cmp (minusP last wrong (innerP last wrong d)) 3 bad3 e) : AllP last wrong e := by
  have b2 := fun d hd => b2_of (h d hd) (by omega)
  have a2 := fun d hd => a2_of (b2 d hd)
  have b1 := fun d hd => b1_of (a2 d hd) (by omega)
  have a1 := fun d hd => a1_of (b1 d hd)
  have a5 := fun d hd => a5_of a1 (by omega) d hd
  have a4 := fun d hd => cmp_power (a5 d hd) (by omega)
  exact ⟨fun d hd => a5 d (by rw [if_pos (by omega)] at hd; exact hd), fun d hd => a4 d (by rw [if_pos (by omega)] at hd; exact hd), fun d hd => h d (by rw [if_neg (by omega)] at hd; exact hd), fun d hd => b2 d (by rw [if_neg (by omega)] at hd; exact hd), fun d hd => a2 d (by rw [if_neg (by omega)] at hd; exact hd), b1, a1⟩
theorem all2 (hl : e.lvl = 2) (h : ∀ d, e.high ≤ d + 1 → RowC last mulS (minusP last wrong (innerP last wrong d)) 2 bad3 e) : AllP last wrong e := by
  have a2 := fun d hd => a2_of (h d hd)
  have b1 := fun d hd => b1_of (a2 d hd) (by omega)
  have a1 := fun d hd => a1_of (b1 d hd)
  have a5 := fun d hd => a5_of a1 (by omega) d hd
  have a4 := fun d hd => cmp_power (a5 d hd) (by omega)
  have a3 := fun d hd => cmp_minus (a4 d hd) (by omega)
  exact ⟨fun d hd => a5 d (by rw [if_pos (by omega)] at hd; exact hd), fun d hd => a4 d (by rw [if_pos (by omega)] at hd; exact hd), fun d hd => a3 d (by rw [if_pos (by omega)] at hd; exact hd), fun d hd => h d (by rw [if_neg (by omega)] at hd; exact hd), fun d hd => a2 d (by rw [if_neg (by omega)] at hd; exact hd), b1, a1⟩
theorem all1 (hl : e.lvl = 1) (h : ∀ d, e.high ≤ d + 1 → RowC last addS (termP last wrong (innerP last wrong d)) 1 bad2 e) : AllP last wrong e := by
  have a1 := fun d hd => a1_of (h d hd)
  have a5 := fun d hd => a5_of a1 (by omega) d hd
  have a4 := fun d hd => cmp_power (a5 d hd) (by omega)
  have a3 := fun d hd => cmp_minus (a4 d hd) (by omega)
  have b2 := fun d hd => b2_of (a3 d hd) (by omega)
  exact ⟨fun d hd => a5 d (by rw [if_pos (by omega)] at hd; exact hd), fun d hd => a4 d (by rw [if_pos (by omega)] at hd; exact hd), fun d hd => a3 d (by rw [if_pos (by omega)] at hd; exact hd), fun d hd => b2 d (by rw [if_pos (by omega)] at hd; exact hd), fun d hd => a2_of (b2 d (by rw [if_pos (by omega)] at hd; exact hd)), h, a1⟩
theorem name_ne {t : List Nat} (h : isName t = true) : t ≠ [40] ∧ t ≠ [105] ∧ t ≠ [122] := by
  refine ⟨fun e => ?_, fun e => ?_, fun e => ?_⟩ <;> (subst e; revert h; decide)
theorem num_ne {t : List Nat} (h : isNum t = true) : t ≠ [40] ∧ t ≠ [105] ∧ t ≠ [122] ∧ ¬ isName t = true := by
  refine ⟨fun e => ?_, fun e => ?_, fun e => ?_, fun e => ?_⟩
  · subst e; revert h; decide
  · subst e; revert h; decide
  · subst e; revert h; decide
  · rcases t with _ | ⟨b, t⟩
    · cases h
    · have h1 : digB b = true := h
      unfold isName at e
      simp only [Bool.and_eq_true] at e
      have h2 : letB b = true := e.1.1.1
      unfold digB at h1
      unfold letB at h2
      have := of_decide_eq_true h1
      have := of_decide_eq_true h2
      omega
theorem addOn_fits {n : Nod} {x : Ex} {st : PS} {C R : List Tok} {at_ : Nat} (hT : st.T = C ++ R) (hC : ∃ t, txs C = [t]) (h1 : st.N.length + x.size ≤ 4096) (hx : x.flat st.N.length = [n]) (hh : x.hts = [1]) (hs : x.size = 1) : addOn n 1 at_ st = .ok (rtS st x) (aft st x R) := by
  obtain ⟨t, hC⟩ := hC
  obtain ⟨u, C', rfl, -, hC'⟩ := txs_cons hC
  have := txs_nil hC'
  subst this
  unfold addOn
  rw [addP_fits (by omega) (by omega)]
  have e1 : rtS st x = st.N.length := by unfold rtS; omega
  rw [e1]
  unfold aft PS.on
  rw [hx, hh]
  simp only [hT]
  rfl
theorem all_of : ∀ e : Ex, (∃ nm, OkX nm e) → AllP last wrong e
  | .num t, _ => all5 rfl fun d => by
    intro st C R hT hC ho hh hn hH hb
    have hC' : txs C = [t] := hC
    have hx : st.tx = t := by
      obtain ⟨u, C', rfl, hu, -⟩ := txs_cons hC'
      unfold PS.tx; rw [hT]; exact hu
    have hne := num_ne ho.1
    unfold atomP
    rw [hx, if_neg hne.1, if_neg hne.2.1, if_neg hne.2.2.1, if_neg hne.2.2.2, if_pos ho.1, addOn_fits (x := .num t) hT ⟨t, hC'⟩ hn rfl rfl rfl]
  | .i, _ => all5 rfl fun d => by
    intro st C R hT hC ho hh hn hH hb
    have hC' : txs C = [[105]] := hC
    have hx : st.tx = [105] := by
      obtain ⟨u, C', rfl, hu, -⟩ := txs_cons hC'
      unfold PS.tx; rw [hT]; exact hu
    unfold atomP
    rw [hx, if_neg (by decide), if_pos rfl, addOn_fits (x := .i) hT ⟨_, hC'⟩ hn rfl rfl rfl]
  | .z, _ => all5 rfl fun d => by
    intro st C R hT hC ho hh hn hH hb
    have hC' : txs C = [[122]] := hC
    have hx : st.tx = [122] := by
      obtain ⟨u, C', rfl, hu, -⟩ := txs_cons hC'
      unfold PS.tx; rw [hT]; exact hu
    unfold atomP
    rw [hx, if_neg (by decide), if_neg (by decide), if_pos rfl, addOn_fits (x := .z) hT ⟨_, hC'⟩ hn rfl rfl rfl]
  | .name t, _ => all5 rfl fun d => by
    intro st C R hT hC ho hh hn hH hb
    have hC' : txs C = [t] := hC
    have hx : st.tx = t := by
      obtain ⟨u, C', rfl, hu, -⟩ := txs_cons hC'
      unfold PS.tx; rw [hT]; exact hu
    have hne := name_ne ho.1
    unfold atomP
    rw [hx, if_neg hne.1, if_neg hne.2.1, if_neg hne.2.2, if_pos ho.1, if_pos ho.2.2, addOn_fits (x := .name t) hT ⟨t, hC'⟩ hn rfl rfl rfl]
  | .neg e, ⟨nm, ho⟩ => all3 rfl fun d hd => by
    have hd' : 1 + e.high ≤ d + 1 := hd
    exact cmp_neg ((all_of e ⟨nm, ho⟩).a3 d (by omega))
  | .pow e n, ⟨nm, ho⟩ => all4 rfl fun d hd => by
    have hd' : 1 + e.high ≤ d + 1 := hd
    exact cmp_pow ((all_of e ⟨nm, ho.1⟩).a5 d (by omega)) ho.2
  | .bin k x y, ⟨nm, ho⟩ => by
    have ax := all_of x ⟨nm, ho.2.1⟩
    have ay := all_of y ⟨nm, ho.2.2⟩
    have hk := ho.1
    by_cases h6 : k = 6 ∨ k = 7
    · refine all1 (if_pos h6) fun d hd => ?_
      have hd' : 1 + max x.high y.high ≤ d + 1 := hd
      exact row_bin rfl (rowP_good rfl (minusP_good (inner_good d))) (ax.b1 d (by omega)) (ay.a2 d (by omega)) (if_pos h6) (by rcases h6 with rfl | rfl <;> rfl) (by rcases h6 with rfl | rfl <;> (unfold bad2; decide))
    · have h8 : k = 8 ∨ k = 9 := by omega
      refine all2 (if_neg h6) fun d hd => ?_
      have hd' : 1 + max x.high y.high ≤ d + 1 := hd
      exact row_bin rfl (minusP_good (inner_good d)) (ax.b2 d (by omega)) (ay.a3 d (by omega)) (if_neg h6) (by rcases h8 with rfl | rfl <;> rfl) (by rcases h8 with rfl | rfl <;> (unfold bad3; decide))
end
/-! A whole text. -/
def tkD (x : Ex) : List (List Nat × Ex) → List (List Nat)
  | [] => x.tl 1
  | (n, e) :: D => [108, 101, 116] :: n :: [61] :: (e.tl 1 ++ [59] :: tkD x D)
theorem hd1 : ∀ {nm : List (List Nat)} {e : Ex}, OkX nm e → ∀ l, l ≤ 5 → ∃ t L, e.tl l = t :: L ∧ t ≠ [108, 101, 116] := by
  intro nm e h l hl
  by_cases hb : e.lvl < l
  · exact ⟨[40], _, Ex.tl_brk hb, by decide⟩
  · rw [Ex.tl_own hb]
    clear hb hl
    induction e with
    | num t => exact ⟨t, [], rfl, (hd_ne (.inr (.inr (.inr (.inr h.1))))).2⟩
    | i => exact ⟨_, [], rfl, by decide⟩
    | z => exact ⟨_, [], rfl, by decide⟩
    | name t => exact ⟨t, [], rfl, (hd_ne (.inr (.inr (.inr (.inl h.1))))).2⟩
    | neg e ih => exact ⟨[45], _, rfl, by decide⟩
    | pow e n ih =>
      obtain ⟨t, L, h1, h2⟩ := ih h.1
      rw [Ex.tks]
      unfold brk
      split
      · exact ⟨[40], _, rfl, by decide⟩
      · rw [h1]; exact ⟨t, _, rfl, h2⟩
    | bin k x y ihx ihy =>
      obtain ⟨t, L, h1, h2⟩ := ihx h.2.1
      rw [Ex.tks]
      by_cases hb : x.lvl < (if k = 6 ∨ k = 7 then 1 else 2)
      · rw [decide_eq_true hb]
        exact ⟨[40], _, rfl, by decide⟩
      · rw [decide_eq_false hb, h1]
        exact ⟨t, _, rfl, h2⟩
theorem textP_cmp {last : Nat} : ∀ (D : List (List Nat × Ex)) (x : Ex) (n : Nat) (st : PS), OkD st.names x D → txs st.T = tkD x D → st.T.length < n → st.N.length + (sizeD D + x.size) ≤ 4096 → st.H.length = st.N.length →
    ∃ H, textP last false (sumP last false 64) n st = some (.ok (st.N.length + (sizeD D + x.size) - 1) ⟨[], st.N ++ (flatD D st.N.length ++ x.flat (st.N.length + sizeD D)), H, st.L ++ letsD D st.N.length⟩)
  | [], x, n, st, ho, hT, hn, hz, hH => by
    rcases n with _ | n
    · omega
    have hT' : txs st.T = x.tl 1 := hT
    have ho' : OkX st.names x ∧ x.high ≤ 64 := ho
    obtain ⟨t, L, e1, e2⟩ := hd1 ho'.1 1 (by omega)
    have hx : st.tx ≠ [108, 101, 116] := by
      rw [e1] at hT'
      obtain ⟨u, C', h1, h2, -⟩ := txs_cons hT'
      unfold PS.tx
      rw [h1]
      show u.text ≠ _
      rw [h2]
      exact e2
    rw [textP, if_neg hx]
    unfold mapP
    have hz' : st.N.length + x.size ≤ 4096 := by have : sizeD [] = 0 := rfl; omega
    rw [(all_of x ⟨_, ho'.1⟩).a1 64 (by omega) st st.T [] (List.append_nil _).symm hT' ho'.1 ho'.2 hz' hH (by unfold bad1 bad2; decide)]
    simp only
    rw [if_pos ⟨rfl, trivial⟩]
    refine ⟨st.H ++ x.hts, ?_⟩
    have e3 : st.N.length + (sizeD [] + x.size) - 1 = rtS st x := by
      show st.N.length + (0 + x.size) - 1 = st.N.length + x.size - 1
      omega
    rw [e3]
    show some (PR.ok _ (⟨[], st.N ++ x.flat st.N.length, st.H ++ x.hts, st.L⟩ : PS)) = some (.ok _ ⟨[], st.N ++ ([] ++ x.flat (st.N.length + 0)), st.H ++ x.hts, st.L ++ []⟩)
    rw [List.nil_append, List.append_nil, Nat.add_zero]
  | (nm, e) :: D, x, n, st, ho, hT, hn, hz, hH => by
    rcases n with _ | n
    · omega
    obtain ⟨⟨o1, o2, o3, o4, o5⟩, o6⟩ := ho
    have hT' : txs st.T = [108, 101, 116] :: nm :: [61] :: (e.tl 1 ++ [59] :: tkD x D) := hT
    obtain ⟨t1, C1, hs1, ht1, hC1⟩ := txs_cons hT'
    obtain ⟨t2, C2, rfl, ht2, hC2⟩ := txs_cons hC1
    obtain ⟨t3, C3, rfl, ht3, hC3⟩ := txs_cons hC2
    obtain ⟨C4, C5, rfl, hC4, hC5⟩ := txs_app hC3
    obtain ⟨t6, C6, rfl, ht6, hC6⟩ := txs_cons hC5
    have hz2 : st.N.length + (e.size + sizeD D + x.size) ≤ 4096 := hz
    have x1 : st.tx = [108, 101, 116] := by unfold PS.tx; rw [hs1]; exact ht1
    have x2 : st.on.tx = nm := by unfold PS.tx PS.on; rw [hs1]; exact ht2
    have x3 : st.on.on.tx = [61] := by unfold PS.tx PS.on; rw [hs1]; exact ht3
    have x4 : st.on.on.on.T = C4 ++ (t6 :: C6) := by unfold PS.on; rw [hs1]; rfl
    rw [textP, if_pos x1]
    unfold letP
    rw [x2, if_pos o1, if_neg o3]
    have ht : takeP last false [61] st.on.on = .ok () st.on.on.on := by unfold takeP; rw [if_pos x3]
    rw [ht]
    simp only
    have ha := (all_of e ⟨_, o4⟩).a1 64 (last := last) (wrong := false) (by omega) st.on.on.on C4 (t6 :: C6) x4 hC4 o4 o5 (show st.N.length + e.size ≤ 4096 by omega) hH (by show ¬ bad1 t6.text; rw [ht6]; unfold bad1 bad2; decide)
    rw [ha]
    simp only
    have ht2' : takeP last false [59] (aft st.on.on.on e (t6 :: C6)) = .ok () (aft st.on.on.on e (t6 :: C6)).on := by unfold takeP; rw [if_pos (show (aft st.on.on.on e (t6 :: C6)).tx = [59] from ht6)]
    rw [ht2']
    simp only
    have hA := aft_ads (st := st.on.on.on) (e := e) (R := t6 :: C6) (show st.N.length + e.size ≤ 4096 by omega) o5
    have hN1 : (aft st.on.on.on e (t6 :: C6)).N.length = st.N.length + e.size := hA.nl
    have hlen : st.T.length = C4.length + C6.length + 4 := by rw [hs1]; simp; omega
    obtain ⟨H, hr⟩ := textP_cmp (last := last) D x n { (aft st.on.on.on e (t6 :: C6)).on with L := (aft st.on.on.on e (t6 :: C6)).on.L ++ [(nm, rtS st.on.on.on e)] } (by
      have : (PS.names { (aft st.on.on.on e (t6 :: C6)).on with L := (aft st.on.on.on e (t6 :: C6)).on.L ++ [(nm, rtS st.on.on.on e)] }) = st.names ++ [nm] := by
        unfold PS.names
        show (st.L ++ [(nm, rtS st.on.on.on e)]).map (fun (p : List Nat × Nat) => p.1) = _
        rw [List.map_append]; rfl
      rw [this]; exact o6) hC6 (show C6.length < n by omega) (by
        show (aft st.on.on.on e (t6 :: C6)).N.length + (sizeD D + x.size) ≤ 4096
        rw [hN1]; omega) (hA.hl hH)
    refine ⟨H, hr.trans ?_⟩
    show some (PR.ok ((aft st.on.on.on e (t6 :: C6)).N.length + (sizeD D + x.size) - 1) (⟨[], (st.N ++ e.flat st.N.length) ++ (flatD D (aft st.on.on.on e (t6 :: C6)).N.length ++ x.flat ((aft st.on.on.on e (t6 :: C6)).N.length + sizeD D)), H, (st.L ++ [(nm, st.N.length + e.size - 1)]) ++ letsD D (aft st.on.on.on e (t6 :: C6)).N.length⟩ : PS)) = some (.ok (st.N.length + (e.size + sizeD D + x.size) - 1) ⟨[], st.N ++ ((e.flat st.N.length ++ flatD D (st.N.length + e.size)) ++ x.flat (st.N.length + (e.size + sizeD D))), H, st.L ++ ((nm, st.N.length + e.size - 1) :: letsD D (st.N.length + e.size))⟩)
    rw [hN1, List.append_assoc, List.append_assoc, List.append_assoc, Nat.add_assoc, Nat.add_assoc, Nat.add_assoc]
    rfl
end Go.Proofs.YtnaadajcehfmiaaDoor
