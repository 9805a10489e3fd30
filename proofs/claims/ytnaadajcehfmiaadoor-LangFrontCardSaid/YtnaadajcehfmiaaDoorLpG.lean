/- Lang: a fault hangs on nothing behind its token. -/
import Derived.Test.YtnaadajcehfmiaaDoorLpF
namespace Go.Proofs.YtnaadajcehfmiaaDoor

section
variable {t : Tok} {R R' : List Tok} {last last' : Nat} {wrong wrong' : Bool}
def Lat (t : Tok) (f : PF) : Prop := ∀ st, Bhd t st.T → LateR t (f st)
def Prd (t : Tok) (R R' : List Tok) (f f' : PF) : Prop := ∀ st A, st.T = A ++ t :: R → OutR t R R' (f st) (f' (swT st (A ++ t :: R')))
theorem sw_tx {st : PS} {A : List Tok} (h : st.T = A ++ t :: R) : (swT st (A ++ t :: R')).tx = st.tx := by
  unfold PS.tx swT
  rw [h]
  cases A <;> rfl
theorem sw_pl {st : PS} {A : List Tok} (h : st.T = A ++ t :: R) : (swT st (A ++ t :: R')).pl last' = st.pl last := by
  unfold PS.pl swT
  rw [h]
  cases A <;> rfl
theorem bhd_pl {st : PS} (h : Bhd t st.T) (hl : t.at_ < last) : t.at_ < st.pl last := by
  rw [pl_eq]
  unfold plT
  rcases hT : st.T with _ | ⟨u, T⟩
  · exact hl
  · rw [hT] at h; exact h u (by simp)
theorem bhd_on {st : PS} (h : Bhd t st.T) : Bhd t st.on.T := fun u hu => h u (List.mem_of_mem_tail hu)
/-- A step on. -/
theorem on_out {α : Type} (hR : Bhd t R) {g g' : PS → Option (PR α)} (hl : ∀ st, Bhd t st.T → LateR t (g st)) (hg : ∀ st A, st.T = A ++ t :: R → OutR t R R' (g st) (g' (swT st (A ++ t :: R')))) {st : PS} {A : List Tok} (h : st.T = A ++ t :: R) : OutR t R R' (g st.on) (g' (swT st (A ++ t :: R')).on) := by
  rcases A with _ | ⟨a, A⟩
  · exact .inl (hl _ (by
      show Bhd t st.T.tail
      rw [h]; exact hR))
  · have h1 : st.on.T = A ++ t :: R := by
      show st.T.tail = _
      rw [h]; rfl
    have h2 : (swT st (a :: A ++ t :: R')).on = swT st.on (A ++ t :: R') := rfl
    rw [h2]
    exact hg _ _ h1
theorem unw_late {α : Type} (hl : t.at_ < last) {st : PS} (h : Bhd t st.T) : LateR t (some (unwP last wrong st : PR α)) := by
  unfold unwP
  rcases hT : st.T with _ | ⟨u, T⟩
  · exact .inl hl
  · rw [hT] at h
    exact .inl (h u (by simp))
theorem unw_out {α : Type} {st : PS} {A : List Tok} (h : st.T = A ++ t :: R) : OutR t R R' (some (unwP last wrong st : PR α)) (some (unwP last' wrong' (swT st (A ++ t :: R')))) := by
  unfold unwP swT
  rw [h]
  cases A <;> exact OutR.same
theorem addP_late {n : Nod} {x a : Nat} {st : PS} (h : Bhd t st.T) : LateR t (some (addP n x a st)) := by
  unfold addP
  split
  · exact .inr (.inl rfl)
  · split
    · exact .inr (.inr (.inl rfl))
    · exact h
theorem addP_out {n : Nod} {x a : Nat} {st : PS} {A : List Tok} (h : st.T = A ++ t :: R) : OutR t R R' (some (addP n x a st)) (some (addP n x a (swT st (A ++ t :: R')))) := by
  unfold addP
  have e : (swT st (A ++ t :: R')).N = st.N := rfl
  rw [e]
  by_cases h1 : 4096 ≤ st.N.length
  · rw [if_pos h1, if_pos h1]; exact OutR.same
  · rw [if_neg h1, if_neg h1]
    by_cases h2 : 64 < x
    · rw [if_pos h2, if_pos h2]; exact OutR.same
    · rw [if_neg h2, if_neg h2]
      exact .inr ⟨A, h, rfl⟩
theorem addOn_bind (n : Nod) (x a : Nat) (st : PS) : (some (addOn n x a st) : Option (PR Nat)) = bindP (some (addP n x a st)) (fun v st1 => some (.ok v st1.on)) := by
  unfold addOn bindP
  rcases addP n x a st with ⟨v, st1⟩ | ⟨y, z⟩ <;> rfl
theorem ok_on_late {v : Nat} {st : PS} (h : Bhd t st.T) : LateR t (some (PR.ok v st.on)) := bhd_on h
theorem ok_on_out (hR : Bhd t R) {v : Nat} {st : PS} {A : List Tok} (h : st.T = A ++ t :: R) : OutR t R R' (some (PR.ok v st.on)) (some (PR.ok v (swT st (A ++ t :: R')).on)) :=
  on_out hR (g := fun st => some (PR.ok v st)) (g' := fun st => some (PR.ok v st)) (fun _ h => h) (fun _ _ h => OutR.okk h) h
theorem addOn_late {n : Nod} {x a : Nat} {st : PS} (h : Bhd t st.T) : LateR t (some (addOn n x a st)) := by
  rw [addOn_bind]
  exact (addP_late h).bind fun v st1 h1 => bhd_on h1
theorem addOn_out (hR : Bhd t R) {n : Nod} {x a : Nat} {st : PS} {A : List Tok} (h : st.T = A ++ t :: R) : OutR t R R' (some (addOn n x a st)) (some (addOn n x a (swT st (A ++ t :: R')))) := by
  rw [addOn_bind, addOn_bind]
  exact (addP_out h).bind (fun v st1 h1 => ok_on_late h1) (fun v st1 A1 h1 => ok_on_out hR h1)
theorem take_late (hl : t.at_ < last) {y : List Nat} {st : PS} (h : Bhd t st.T) : LateR t (some (takeP last wrong y st)) := by
  unfold takeP
  split
  · exact bhd_on h
  · exact unw_late hl h
theorem take_out (hR : Bhd t R) {y : List Nat} {st : PS} {A : List Tok} (h : st.T = A ++ t :: R) : OutR t R R' (some (takeP last wrong y st)) (some (takeP last' wrong' y (swT st (A ++ t :: R')))) := by
  unfold takeP
  rw [sw_tx h]
  split
  · exact on_out hR (g := fun st => some (PR.ok () st)) (g' := fun st => some (PR.ok () st)) (fun _ h => h) (fun _ _ h => OutR.okk h) h
  · exact unw_out h
/-- What stands in brackets. -/
def Inn (t : Tok) (R R' : List Tok) (i i' : Option PF) : Prop := (i = none ∧ i' = none) ∨ ∃ f f', i = some f ∧ i' = some f' ∧ Lat t f ∧ Prd t R R' f f'
variable {i i' : Option PF}
theorem brk_eq (last : Nat) (wrong : Bool) (f : PF) (st : PS) : (match f st with
      | none => none
      | some (.no x y) => some (.no x y)
      | some (.ok v st1) =>
        match takeP last wrong [41] st1 with
        | .no x y => some (.no x y)
        | .ok _ st2 => some (.ok v st2) : Option (PR Nat)) = bindP (f st) (fun v st1 => bindP (some (takeP last wrong [41] st1)) (fun _ st2 => some (.ok v st2))) := by
  unfold bindP
  rcases f st with _ | (⟨v, st1⟩ | ⟨y, z⟩)
  · rfl
  · simp only
    rcases takeP last wrong [41] st1 with ⟨u, st2⟩ | ⟨y, z⟩ <;> rfl
  · rfl
theorem brk_late (hl : t.at_ < last) {f : PF} (hf : Lat t f) {st : PS} (h : Bhd t st.T) : LateR t (bindP (f st) (fun v st1 => bindP (some (takeP last wrong [41] st1)) (fun _ st2 => some (.ok v st2)))) :=
  (hf st h).bind fun _ _ h1 => (take_late hl h1).bind fun _ _ h2 => h2
theorem atomP_late (hl : t.at_ < last) (hi : Inn t R R' i i') : Lat t (atomP last wrong i) := by
  intro st h
  unfold atomP
  split
  · rcases hi with ⟨rfl, -⟩ | ⟨f, f', rfl, -, hf, -⟩
    · exact .inr (.inr (.inl rfl))
    · simp only
      have h2 := brk_late (wrong := wrong) hl hf (bhd_on h)
      rw [← brk_eq] at h2
      exact h2
  · split
    · exact addOn_late h
    · split
      · exact addOn_late h
      · split
        · split
          · exact addOn_late h
          · exact .inl (bhd_pl h hl)
        · split
          · exact addOn_late h
          · exact unw_late hl h
theorem atomP_prd (hR : Bhd t R) (hl : t.at_ < last) (hi : Inn t R R' i i') : Prd t R R' (atomP last wrong i) (atomP last' wrong' i') := by
  intro st A h
  unfold atomP
  rw [sw_tx h, sw_pl (last := last) (last' := last') h]
  split
  · rcases hi with ⟨rfl, rfl⟩ | ⟨f, f', rfl, rfl, hf, hp⟩
    · exact OutR.same
    · simp only
      have h2 := on_out (R' := R') hR (g := fun st => bindP (f st) (fun v st1 => bindP (some (takeP last wrong [41] st1)) (fun _ st2 => some (.ok v st2)))) (g' := fun st => bindP (f' st) (fun v st1 => bindP (some (takeP last' wrong' [41] st1)) (fun _ st2 => some (.ok v st2)))) (fun st h => brk_late hl hf h)
        (fun st A h => (hp st A h).bind (fun v st1 h1 => (take_late hl h1).bind fun _ st2 h2 => h2) (fun v st1 A1 h1 => (take_out hR h1).bind (fun _ st2 h2 => h2) (fun _ st2 A2 h2 => OutR.okk h2))) h
      rw [← brk_eq, ← brk_eq] at h2
      exact h2
  · split
    · exact addOn_out hR h
    · split
      · exact addOn_out hR h
      · split
        · have e : (swT st (A ++ t :: R')).names = st.names := rfl
          rw [e]
          split
          · exact addOn_out hR h
          · exact OutR.same
        · split
          · exact addOn_out hR h
          · exact unw_out h
theorem powerP_eq (last : Nat) (wrong : Bool) (i : Option PF) (st : PS) : powerP last wrong i st = bindP (atomP last wrong i st) (fun a st1 => some (powK last wrong a st1)) := by
  unfold powerP bindP
  rcases atomP last wrong i st with _ | (⟨v, st1⟩ | ⟨y, z⟩) <;> rfl
theorem powK_late (hl : t.at_ < last) {a : Nat} {st : PS} (h : Bhd t st.T) : LateR t (some (powK last wrong a st)) := by
  unfold powK
  split
  · split
    · split
      · exact .inl (bhd_pl (bhd_on h) hl)
      · exact addP_late (bhd_on (bhd_on h))
    · exact unw_late hl (bhd_on h)
  · exact h
theorem powK_out (hR : Bhd t R) (hl : t.at_ < last) {a : Nat} {st : PS} {A : List Tok} (h : st.T = A ++ t :: R) : OutR t R R' (some (powK last wrong a st)) (some (powK last' wrong' a (swT st (A ++ t :: R')))) := by
  unfold powK
  rw [sw_tx h, sw_pl (last := last) (last' := last') h]
  have ehi : (swT st (A ++ t :: R')).hi a = st.hi a := rfl
  rw [ehi]
  split
  · generalize st.hi a = hh
    generalize st.pl last = pp
    exact on_out hR (g := fun st1 => some (if isNum st1.tx = true then (match wholeT st1.tx with | none => PR.no (st1.pl last) 113 | some n => addP ⟨10, [], a, 0, n⟩ (1 + hh) pp st1.on) else unwP last wrong st1))
      (g' := fun st1 => some (if isNum st1.tx = true then (match wholeT st1.tx with | none => PR.no (st1.pl last') 113 | some n => addP ⟨10, [], a, 0, n⟩ (1 + hh) pp st1.on) else unwP last' wrong' st1))
      (fun st1 h1 => by
        split
        · split
          · exact .inl (bhd_pl h1 hl)
          · exact addP_late (bhd_on h1)
        · exact unw_late hl h1)
      (fun st1 A1 h1 => by
        rw [sw_tx h1]
        split
        · split
          · rw [sw_pl (last := last) (last' := last') h1]; exact OutR.same
          · rename_i n _
            exact on_out hR (g := fun st2 => some (addP ⟨10, [], a, 0, n⟩ (1 + hh) pp st2)) (g' := fun st2 => some (addP ⟨10, [], a, 0, n⟩ (1 + hh) pp st2)) (fun st2 h2 => addP_late h2) (fun st2 A2 h2 => addP_out h2) h1
        · exact unw_out h1) h
  · exact OutR.okk h
theorem powerP_late (hl : t.at_ < last) (hi : Inn t R R' i i') : Lat t (powerP last wrong i) := fun st h => by
  rw [powerP_eq]
  exact (atomP_late hl hi st h).bind fun a st1 h1 => powK_late hl h1
theorem powerP_prd (hR : Bhd t R) (hl : t.at_ < last) (hi : Inn t R R' i i') : Prd t R R' (powerP last wrong i) (powerP last' wrong' i') := fun st A h => by
  rw [powerP_eq, powerP_eq]
  exact (atomP_prd hR hl hi st A h).bind (fun a st1 h1 => powK_late hl h1) (fun a st1 A1 h1 => powK_out hR hl h1)
theorem negs_late : ∀ T : List Tok, Bhd t T → Bhd t (negs T).2
  | [], h => h
  | u :: T, h => by
    rw [negs]
    split
    · exact negs_late T (fun x hx => h x (by simp [hx]))
    · exact h
theorem negs_out (hR : Bhd t R) : ∀ A : List Tok, (Bhd t (negs (A ++ t :: R)).2) ∨ ∃ A1, (negs (A ++ t :: R)).2 = A1 ++ t :: R ∧ negs (A ++ t :: R') = ((negs (A ++ t :: R)).1, A1 ++ t :: R')
  | [] => by
    show Bhd t (negs (t :: R)).2 ∨ ∃ A1, (negs (t :: R)).2 = A1 ++ t :: R ∧ negs (t :: R') = ((negs (t :: R)).1, A1 ++ t :: R')
    rw [negs, negs]
    by_cases hx : t.text = [45]
    · rw [if_pos hx]
      exact .inl (negs_late R hR)
    · rw [if_neg hx, if_neg hx]
      exact .inr ⟨[], rfl, rfl⟩
  | u :: A => by
    show Bhd t (negs (u :: (A ++ t :: R))).2 ∨ ∃ A1, (negs (u :: (A ++ t :: R))).2 = A1 ++ t :: R ∧ negs (u :: (A ++ t :: R')) = ((negs (u :: (A ++ t :: R))).1, A1 ++ t :: R')
    rw [negs, negs]
    by_cases hx : u.text = [45]
    · rw [if_pos hx, if_pos hx]
      rcases negs_out hR A with h | ⟨A1, h1, h2⟩
      · exact .inl h
      · exact .inr ⟨A1, h1, by rw [h2]⟩
    · rw [if_neg hx, if_neg hx]
      exact .inr ⟨u :: A, rfl, rfl⟩
theorem negUp_late : ∀ (ps : List Nat) (a : Nat) (st : PS), Bhd t st.T → LateR t (some (negUp ps a st))
  | [], a, st, h => h
  | p :: ps, a, st, h => by
    rw [negUp]
    rcases hc : addP ⟨5, [], a, 0, 0⟩ (1 + st.hi a) p st with ⟨c, st2⟩ | ⟨y, z⟩
    · simp only
      exact negUp_late ps c st2 (by have := addP_late (t := t) (n := ⟨5, [], a, 0, 0⟩) (x := 1 + st.hi a) (a := p) h; rw [hc] at this; exact this)
    · have := addP_late (t := t) (n := ⟨5, [], a, 0, 0⟩) (x := 1 + st.hi a) (a := p) h
      rw [hc] at this; exact this
theorem negUp_eq (p : Nat) (ps : List Nat) (a : Nat) (st : PS) : (some (negUp (p :: ps) a st) : Option (PR Nat)) = bindP (some (addP ⟨5, [], a, 0, 0⟩ (1 + st.hi a) p st)) (fun c st1 => some (negUp ps c st1)) := by
  rw [negUp]
  unfold bindP
  rcases addP ⟨5, [], a, 0, 0⟩ (1 + st.hi a) p st with ⟨c, st2⟩ | ⟨y, z⟩ <;> rfl
theorem negUp_out : ∀ (ps : List Nat) (a : Nat) (st : PS) (A : List Tok), st.T = A ++ t :: R → OutR t R R' (some (negUp ps a st)) (some (negUp ps a (swT st (A ++ t :: R'))))
  | [], a, st, A, h => OutR.okk h
  | p :: ps, a, st, A, h => by
    rw [negUp_eq, negUp_eq]
    have ehi : (swT st (A ++ t :: R')).hi a = st.hi a := rfl
    rw [ehi]
    exact (addP_out h).bind (fun c st1 h1 => negUp_late ps c st1 h1) (fun c st1 A1 h1 => negUp_out ps c st1 A1 h1)
theorem minusP_eq (last : Nat) (wrong : Bool) (i : Option PF) (st : PS) : minusP last wrong i st = bindP (powerP last wrong i { st with T := (negs st.T).2 }) (fun a st1 => some (negUp (negs st.T).1.reverse a st1)) := by
  unfold minusP bindP
  rcases powerP last wrong i { st with T := (negs st.T).2 } with _ | (⟨v, st1⟩ | ⟨y, z⟩) <;> rfl
theorem minusP_late (hl : t.at_ < last) (hi : Inn t R R' i i') : Lat t (minusP last wrong i) := fun st h => by
  rw [minusP_eq]
  exact (powerP_late hl hi _ (negs_late st.T h)).bind fun a st1 h1 => negUp_late _ a st1 h1
theorem minusP_prd (hR : Bhd t R) (hl : t.at_ < last) (hi : Inn t R R' i i') : Prd t R R' (minusP last wrong i) (minusP last' wrong' i') := fun st A h => by
  rw [minusP_eq, minusP_eq]
  have e0 : (swT st (A ++ t :: R')).T = A ++ t :: R' := rfl
  rw [e0, h]
  rcases negs_out (R' := R') hR A with hn | ⟨A1, h1, h2⟩
  · exact .inl ((powerP_late hl hi _ hn).bind fun a st1 h1 => negUp_late _ a st1 h1)
  · rw [h2]
    exact (powerP_prd hR hl hi { st with T := (negs (A ++ t :: R)).2 } A1 h1).bind (fun a st1 h1 => negUp_late _ a st1 h1) (fun a st1 A2 h3 => negUp_out _ a st1 A2 h3)
theorem rowL_eq {sg : List Nat → Option Nat} {part : PF} (last n a : Nat) (st : PS) : rowL last sg part (n + 1) a st = (match sg st.tx with | none => some (.ok a st) | some k => bindP (part st.on) (fun b st1 => bindP (some (addP ⟨k, [], a, b, 0⟩ (1 + max (st1.hi a) (st1.hi b)) (st.pl last) st1)) (fun c st2 => rowL last sg part n c st2))) := by
  rw [rowL]
  rcases sg st.tx with _ | k
  · rfl
  · simp only
    unfold bindP
    rcases part st.on with _ | (⟨b, st1⟩ | ⟨y, z⟩)
    · rfl
    · simp only
      rcases addP ⟨k, [], a, b, 0⟩ (1 + max (st1.hi a) (st1.hi b)) (st.pl last) st1 with ⟨c, st2⟩ | ⟨y, z⟩ <;> rfl
    · rfl
theorem rowL_late {sg : List Nat → Option Nat} {part : PF} (hp : Lat t part) : ∀ (n a : Nat) (st : PS), Bhd t st.T → LateR t (rowL last sg part n a st)
  | 0, a, st, h => trivial
  | n + 1, a, st, h => by
    rw [rowL_eq]
    rcases sg st.tx with _ | k
    · exact h
    · exact (hp _ (bhd_on h)).bind fun b st1 h1 => (addP_late h1).bind fun c st2 h2 => rowL_late hp n c st2 h2
theorem rowL_out (hR : Bhd t R) {sg : List Nat → Option Nat} (hsg : sg [] = none) {part part' : PF} (hq : Good part') (hl : Lat t part) (hp : Prd t R R' part part') : ∀ (n m a : Nat) (st : PS) (A : List Tok), st.T = A ++ t :: R → (A ++ t :: R').length < m → OutR t R R' (rowL last sg part n a st) (rowL last' sg part' m a (swT st (A ++ t :: R')))
  | 0, m, a, st, A, h, hm => .inl trivial
  | n + 1, 0, a, st, A, h, hm => by omega
  | n + 1, m + 1, a, st, A, h, hm => by
    rw [rowL_eq, rowL_eq, sw_tx h, sw_pl (last := last) (last' := last') h]
    rcases hs : sg st.tx with _ | k
    · exact OutR.okk h
    · simp only
      generalize st.pl last = pp
      have hgg : ∀ st1 A1, st1.T = A1 ++ t :: R → (A1 ++ t :: R').length < m → OutR t R R' (bindP (part st1) (fun b st1 => bindP (some (addP ⟨k, [], a, b, 0⟩ (1 + max (st1.hi a) (st1.hi b)) pp st1)) (fun c st2 => rowL last sg part n c st2))) (bindP (part' (swT st1 (A1 ++ t :: R'))) (fun b st1 => bindP (some (addP ⟨k, [], a, b, 0⟩ (1 + max (st1.hi a) (st1.hi b)) pp st1)) (fun c st2 => rowL last' sg part' m c st2))) := by
        intro st1 A1 h1 hlen
        obtain ⟨r, hr, hg⟩ := hq (swT st1 (A1 ++ t :: R'))
        have hp1 := hp st1 A1 h1
        rcases hp1 with hp1 | hp1
        · exact .inl (LateR.bind hp1 fun b st2 h2 => (addP_late h2).bind fun c st3 h3 => rowL_late hl n c st3 h3)
        · rcases hpe : part st1 with _ | (⟨b, st2⟩ | ⟨y, z⟩)
          · exact .inl trivial
          · rw [hpe] at hp1
            obtain ⟨A2, h2, h3⟩ := hp1
            rw [h3] at hr
            injection hr with hr
            have hle := hg b _ hr.symm
            have hle : (A2 ++ t :: R').length ≤ (A1 ++ t :: R').length := hle
            rw [h3]
            show OutR t R R' (bindP (some (addP ⟨k, [], a, b, 0⟩ (1 + max (st2.hi a) (st2.hi b)) pp st2)) (fun c st2 => rowL last sg part n c st2)) (bindP (some (addP ⟨k, [], a, b, 0⟩ (1 + max (st2.hi a) (st2.hi b)) pp (swT st2 (A2 ++ t :: R')))) (fun c st2 => rowL last' sg part' m c st2))
            have hadd := addP_out (R' := R') (n := ⟨k, [], a, b, 0⟩) (x := 1 + max (st2.hi a) (st2.hi b)) (a := pp) h2
            rcases hadd with hadd | hadd
            · exact .inl (LateR.bind hadd fun c st3 h3 => rowL_late hl n c st3 h3)
            · rcases hae : addP ⟨k, [], a, b, 0⟩ (1 + max (st2.hi a) (st2.hi b)) pp st2 with ⟨c, st3⟩ | ⟨y, z⟩
              · rw [hae] at hadd
                obtain ⟨A3, h4, h5⟩ := hadd
                rw [h5]
                obtain ⟨-, h6⟩ := addP_ok hae
                have h7 : A3 ++ t :: R = A2 ++ t :: R := by rw [← h4, h6]; exact h2
                have h8 : A3 = A2 := List.append_cancel_right h7
                exact rowL_out hR hsg hq hl hp n m c st3 A3 h4 (by rw [h8]; omega)
              · rw [hae] at hadd
                rw [show some (addP ⟨k, [], a, b, 0⟩ (1 + max (st2.hi a) (st2.hi b)) pp (swT st2 (A2 ++ t :: R'))) = some (PR.no y z) from hadd]
                exact OutR.same
          · rw [hpe] at hp1
            rw [show part' (swT st1 (A1 ++ t :: R')) = some (PR.no y z) from hp1]
            exact OutR.same
      rcases A with _ | ⟨u, A⟩
      · exact .inl ((hl _ (by
          show Bhd t st.T.tail
          rw [h]; exact hR)).bind fun b st1 h1 => (addP_late h1).bind fun c st2 h2 => rowL_late hl n c st2 h2)
      · have h1 : st.on.T = A ++ t :: R := by
          show st.T.tail = _
          rw [h]; rfl
        exact hgg st.on A h1 (by rw [List.cons_append, List.length_cons] at hm; omega)
theorem rowP_eq {sg : List Nat → Option Nat} {part : PF} (last : Nat) (st : PS) : rowP last sg part st = bindP (part st) (fun a st1 => rowL last sg part (st1.T.length + 1) a st1) := by
  unfold rowP bindP
  rcases part st with _ | (⟨v, st1⟩ | ⟨y, z⟩) <;> rfl
theorem rowP_late {sg : List Nat → Option Nat} {part : PF} (hp : Lat t part) : Lat t (rowP last sg part) := fun st h => by
  rw [rowP_eq]
  exact (hp st h).bind fun a st1 h1 => rowL_late hp _ a st1 h1
theorem rowP_prd (hR : Bhd t R) {sg : List Nat → Option Nat} (hsg : sg [] = none) {part part' : PF} (hq : Good part') (hl : Lat t part) (hp : Prd t R R' part part') : Prd t R R' (rowP last sg part) (rowP last' sg part') := fun st A h => by
  rw [rowP_eq, rowP_eq]
  exact (hp st A h).bind (fun a st1 h1 => rowL_late hl _ a st1 h1) (fun a st1 A1 h1 => rowL_out hR hsg hq hl hp _ _ a st1 A1 h1 (Nat.lt_succ_self _))
theorem sumOf_late (hl : t.at_ < last) (hi : Inn t R R' i i') : Lat t (sumOf last wrong i) := rowP_late (rowP_late (minusP_late hl hi))
theorem sumOf_prd (hR : Bhd t R) (hl : t.at_ < last) (hi : Inn t R R' i i') (hg : ∀ f, i' = some f → Good f) : Prd t R R' (sumOf last wrong i) (sumOf last' wrong' i') :=
  rowP_prd hR rfl (rowP_good rfl (minusP_good hg)) (rowP_late (minusP_late hl hi)) (rowP_prd hR rfl (minusP_good hg) (minusP_late hl hi) (minusP_prd hR hl hi))
theorem sumP_both (hR : Bhd t R) (hl : t.at_ < last) : ∀ d, Lat t (sumP last wrong d) ∧ Prd t R R' (sumP last wrong d) (sumP last' wrong' d)
  | 0 => ⟨sumOf_late (R := R) (R' := R') hl (.inl ⟨rfl, rfl⟩), sumOf_prd hR hl (.inl ⟨rfl, rfl⟩) (fun f e => by cases e)⟩
  | d + 1 => by
    have ih := sumP_both hR hl d
    have hi : Inn t R R' (some (sumP last wrong d)) (some (sumP last' wrong' d)) := .inr ⟨_, _, rfl, rfl, ih.1, ih.2⟩
    exact ⟨sumOf_late hl hi, sumOf_prd hR hl hi (fun f e => by injection e with e; rw [← e]; exact sumP_good d)⟩
def letK (last : Nat) (wrong : Bool) (sum : PF) (nm : List Nat) (st : PS) : Option (PR Unit) :=
  bindP (some (takeP last wrong [61] st)) (fun _ st1 => bindP (sum st1) (fun a st2 => bindP (some (takeP last wrong [59] st2)) (fun _ st3 => some (.ok () { st3 with L := st3.L ++ [(nm, a)] }))))
theorem letP_eq (last : Nat) (wrong : Bool) (sum : PF) (st : PS) : letP last wrong sum st = if isName st.on.tx = true then (if st.on.tx ∈ st.names then some (.no (st.on.pl last) 112) else letK last wrong sum st.on.tx st.on.on) else some (unwP last wrong st.on) := by
  unfold letP letK bindP
  split
  · split
    · rfl
    · rcases takeP last wrong [61] st.on.on with ⟨u, st1⟩ | ⟨y, z⟩
      · simp only
        rcases sum st1 with _ | (⟨a, st2⟩ | ⟨y, z⟩)
        · rfl
        · simp only
          rcases takeP last wrong [59] st2 with ⟨u, st3⟩ | ⟨y, z⟩ <;> rfl
        · rfl
      · rfl
  · rfl
theorem letK_late (hl : t.at_ < last) {sum : PF} (hs : Lat t sum) {nm : List Nat} {st : PS} (h : Bhd t st.T) : LateR t (letK last wrong sum nm st) :=
  (take_late hl h).bind fun _ st1 h1 => (hs st1 h1).bind fun a st2 h2 => (take_late hl h2).bind fun _ st3 h3 => h3
theorem letK_out (hR : Bhd t R) (hl : t.at_ < last) {sum sum' : PF} (hs : Lat t sum) (hp : Prd t R R' sum sum') {nm : List Nat} {st : PS} {A : List Tok} (h : st.T = A ++ t :: R) : OutR t R R' (letK last wrong sum nm st) (letK last' wrong' sum' nm (swT st (A ++ t :: R'))) :=
  (take_out hR h).bind (fun _ st1 h1 => (hs st1 h1).bind fun a st2 h2 => (take_late hl h2).bind fun _ st3 h3 => h3)
    (fun _ st1 A1 h1 => (hp st1 A1 h1).bind (fun a st2 h2 => (take_late hl h2).bind fun _ st3 h3 => h3)
      (fun a st2 A2 h2 => (take_out hR h2).bind (fun _ st3 h3 => h3) (fun _ st3 A3 h3 => .inr ⟨A3, h3, rfl⟩)))
theorem letP_late (hl : t.at_ < last) {sum : PF} (hs : Lat t sum) {st : PS} (h : Bhd t st.T) : LateR t (letP last wrong sum st) := by
  rw [letP_eq]
  split
  · split
    · exact .inl (bhd_pl (bhd_on h) hl)
    · exact letK_late hl hs (bhd_on (bhd_on h))
  · exact unw_late hl (bhd_on h)
theorem letP_out (hR : Bhd t R) (hl : t.at_ < last) {sum sum' : PF} (hs : Lat t sum) (hp : Prd t R R' sum sum') {st : PS} {A : List Tok} (h : st.T = A ++ t :: R) : OutR t R R' (letP last wrong sum st) (letP last' wrong' sum' (swT st (A ++ t :: R'))) := by
  rw [letP_eq, letP_eq]
  have en : (swT st (A ++ t :: R')).names = st.names := rfl
  rw [en]
  generalize st.names = nms
  exact on_out hR (g := fun st1 => if isName st1.tx = true then (if st1.tx ∈ nms then some (.no (st1.pl last) 112) else letK last wrong sum st1.tx st1.on) else some (unwP last wrong st1))
    (g' := fun st1 => if isName st1.tx = true then (if st1.tx ∈ nms then some (.no (st1.pl last') 112) else letK last' wrong' sum' st1.tx st1.on) else some (unwP last' wrong' st1))
    (fun st1 h1 => by
      split
      · split
        · exact .inl (bhd_pl h1 hl)
        · exact letK_late hl hs (bhd_on h1)
      · exact unw_late hl h1)
    (fun st1 A1 h1 => by
      rw [sw_tx h1, sw_pl (last := last) (last' := last') h1]
      split
      · split
        · exact OutR.same
        · generalize st1.tx = nm
          exact on_out hR (g := fun st2 => letK last wrong sum nm st2) (g' := fun st2 => letK last' wrong' sum' nm st2) (fun st2 h2 => letK_late hl hs h2) (fun st2 A2 h2 => letK_out hR hl hs hp h2) h1
      · exact unw_out h1) h
theorem mapP_eq (last : Nat) (wrong : Bool) (sum : PF) (st : PS) : mapP last wrong sum st = bindP (sum st) (fun m st1 => if st1.T = [] ∧ wrong = false then some (.ok m st1) else some (unwP last wrong st1)) := by
  unfold mapP bindP
  rcases sum st with _ | (⟨v, st1⟩ | ⟨y, z⟩) <;> rfl
theorem textP_eq (last : Nat) (wrong : Bool) (sum : PF) (n : Nat) (st : PS) : textP last wrong sum (n + 1) st = if st.tx = [108, 101, 116] then bindP (letP last wrong sum st) (fun _ st1 => textP last wrong sum n st1) else mapP last wrong sum st := by
  rw [textP]
  split
  · unfold bindP
    rcases letP last wrong sum st with _ | (⟨v, st1⟩ | ⟨y, z⟩) <;> rfl
  · rfl
theorem textP_late (hl : t.at_ < last) {sum : PF} (hs : Lat t sum) : ∀ (n : Nat) (st : PS), Bhd t st.T → LateR t (textP last wrong sum n st)
  | 0, st, h => trivial
  | n + 1, st, h => by
    rw [textP_eq]
    split
    · exact (letP_late hl hs h).bind fun _ st1 h1 => textP_late hl hs n st1 h1
    · rw [mapP_eq]
      refine (hs st h).bind fun m st1 h1 => ?_
      split
      · exact h1
      · exact unw_late hl h1
theorem textP_out (hR : Bhd t R) (hl : t.at_ < last) {sum sum' : PF} (hs : Lat t sum) (hp : Prd t R R' sum sum') (hq : Good sum') : ∀ (n m : Nat) (st : PS) (A : List Tok), st.T = A ++ t :: R → (A ++ t :: R').length < m → OutR t R R' (textP last wrong sum n st) (textP last' wrong' sum' m (swT st (A ++ t :: R')))
  | 0, m, st, A, h, hm => .inl trivial
  | n + 1, 0, st, A, h, hm => by omega
  | n + 1, m + 1, st, A, h, hm => by
    rw [textP_eq, textP_eq, sw_tx h]
    split
    · rename_i hx
      have hne : (swT st (A ++ t :: R')).T ≠ [] := by
        show A ++ t :: R' ≠ []
        simp
      obtain ⟨r, hr, hg⟩ := letP_good (last := last') (wrong := wrong') hq hne
      have h1 := letP_out (R' := R') (wrong := wrong) (last' := last') (wrong' := wrong') hR hl hs hp h
      rcases h1 with h1 | h1
      · exact .inl (LateR.bind h1 fun _ st1 h2 => textP_late hl hs n st1 h2)
      · rcases hle : letP last wrong sum st with _ | (⟨u, st1⟩ | ⟨y, z⟩)
        · exact .inl trivial
        · rw [hle] at h1
          obtain ⟨A1, h2, h3⟩ := h1
          rw [h3] at hr
          injection hr with hr
          have hlt := hg u _ hr.symm
          have hlt : (A1 ++ t :: R').length < (A ++ t :: R').length := hlt
          rw [h3]
          exact textP_out hR hl hs hp hq n m st1 A1 h2 (by omega)
        · rw [hle] at h1
          rw [show letP last' wrong' sum' (swT st (A ++ t :: R')) = some (PR.no y z) from h1]
          exact OutR.same
    · rw [mapP_eq, mapP_eq]
      refine (hp st A h).bind (fun m st1 h1 => ?_) (fun m st1 A1 h1 => ?_)
      · split
        · exact h1
        · exact unw_late hl h1
      · rw [if_neg (by rw [h1]; simp), if_neg (by
          rintro ⟨h2, -⟩
          have h2 : A1 ++ t :: R' = [] := h2
          simp at h2)]
        exact unw_out h1
/-- A fault at a token, of no other kind than these, stays whatever comes behind the token. -/
theorem progP_prd (hR : Bhd t R) (hl : t.at_ < last) {A : List Tok} {c : Nat} (hc : c ≠ 4 ∧ c ≠ 114 ∧ c ≠ 110) (h : progP (A ++ t :: R) last wrong = some (.no t.at_ c)) : progP (A ++ t :: R') last' wrong' = some (.no t.at_ c) := by
  have hb := sumP_both (R' := R') (wrong := wrong) (last' := last') (wrong' := wrong') hR hl 64
  have h1 := textP_out (wrong := wrong) (last' := last') (wrong' := wrong') hR hl hb.1 hb.2 (sumP_good 64) ((A ++ t :: R).length + 1) ((A ++ t :: R').length + 1) ⟨A ++ t :: R, [], [], []⟩ A rfl (Nat.lt_succ_self _)
  have h0 : textP last wrong (sumP last wrong 64) ((A ++ t :: R).length + 1) ⟨A ++ t :: R, [], [], []⟩ = some (.no t.at_ c) := h
  rw [h0] at h1
  rcases h1 with h1 | h1
  · have h1 : Lt_ t t.at_ c := h1
    unfold Lt_ at h1
    omega
  · exact h1
end
end Go.Proofs.YtnaadajcehfmiaaDoor
