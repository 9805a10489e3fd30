/- Lang: the parts of a text, plainly. -/
import Derived.Test.YtnaadajcehfmiaaGreatDoorLxA
namespace Go.Proofs.YtnaadajcehfmiaaGreatDoor

/-- A part: its kind, its text, its parts' places, its power. -/
structure Nod where
  kind : Nat
  text : List Nat
  a : Nat
  b : Nat
  n : Nat
/-- A text that is being read: the tokens to come, the parts, how high each is, the lets. -/
structure PS where
  T : List Tok
  N : List Nod
  H : List Nat
  L : List (List Nat × Nat)
inductive PR (α : Type) where
  | ok (v : α) (st : PS)
  | no (at_ code : Nat)

def isName (t : List Nat) : Bool := (match t with | [] => false | b :: _ => letB b) && decide (t ≠ [105]) && decide (t ≠ [122]) && decide (t ≠ [108, 101, 116])
def isNum (t : List Nat) : Bool := match t with | [] => false | b :: _ => digB b
/-- A number from its digits. -/
def decL (t : List Nat) : Nat := t.foldl (fun n b => 10 * n + (b - 48)) 0
/-- The number that a token is as a power. -/
def wholeT (t : List Nat) : Option Nat := if t.length ≤ 2 ∧ 0 < t.length ∧ t.all digB = true ∧ ¬ (t.length = 2 ∧ t.head? = some 48) ∧ decL t ≤ 64 then some (decL t) else none
def PS.tx (st : PS) : List Nat := match st.T with | [] => [] | t :: _ => t.text
def PS.pl (last : Nat) (st : PS) : Nat := match st.T with | [] => last | t :: _ => t.at_
def PS.on (st : PS) : PS := { st with T := st.T.tail }
def PS.names (st : PS) : List (List Nat) := st.L.map (·.1)
def unwP {α : Type} (last : Nat) (wrong : Bool) (st : PS) : PR α := match st.T with | [] => .no last (if wrong then 110 else 111) | t :: _ => .no t.at_ 111
def takeP (last : Nat) (wrong : Bool) (x : List Nat) (st : PS) : PR Unit := if st.tx = x then .ok () st.on else unwP last wrong st
def addP (n : Nod) (h at_ : Nat) (st : PS) : PR Nat :=
  if 4096 ≤ st.N.length then .no at_ 4 else if 64 < h then .no at_ 114 else .ok st.N.length { st with N := st.N ++ [n], H := st.H ++ [h] }
def PS.hi (st : PS) (k : Nat) : Nat := st.H.getD k 0
def addOn (n : Nod) (h at_ : Nat) (st : PS) : PR Nat :=
  match addP n h at_ st with
  | .ok v st1 => .ok v st1.on
  | .no x y => .no x y
abbrev PF := PS → Option (PR Nat)
def atomP (last : Nat) (wrong : Bool) (inner : Option PF) : PF := fun st =>
  if st.tx = [40] then
    match inner with
    | none => some (.no (st.pl last) 114)
    | some f =>
      match f st.on with
      | none => none
      | some (.no x y) => some (.no x y)
      | some (.ok v st1) =>
        match takeP last wrong [41] st1 with
        | .no x y => some (.no x y)
        | .ok _ st2 => some (.ok v st2)
  else if st.tx = [105] then some (addOn ⟨2, [], 0, 0, 0⟩ 1 (st.pl last) st)
  else if st.tx = [122] then some (addOn ⟨3, [], 0, 0, 0⟩ 1 (st.pl last) st)
  else if isName st.tx = true then
    if st.tx ∈ st.names then some (addOn ⟨4, st.tx, 0, 0, 0⟩ 1 (st.pl last) st) else some (.no (st.pl last) 112)
  else if isNum st.tx = true then some (addOn ⟨1, st.tx, 0, 0, 0⟩ 1 (st.pl last) st)
  else some (unwP last wrong st)
def powK (last : Nat) (wrong : Bool) (a : Nat) (st : PS) : PR Nat :=
  if st.tx = [94] then
    if isNum st.on.tx = true then
      match wholeT st.on.tx with
      | none => .no (st.on.pl last) 113
      | some n => addP ⟨10, [], a, 0, n⟩ (1 + st.hi a) (st.pl last) st.on.on
    else unwP last wrong st.on
  else .ok a st
def powerP (last : Nat) (wrong : Bool) (inner : Option PF) : PF := fun st =>
  match atomP last wrong inner st with
  | none => none
  | some (.no x y) => some (.no x y)
  | some (.ok a st1) => some (powK last wrong a st1)
/-- The minus signs ahead: their places, and what comes behind them. -/
def negs : List Tok → List Nat × List Tok
  | [] => ([], [])
  | t :: T => if t.text = [45] then (t.at_ :: (negs T).1, (negs T).2) else ([], t :: T)
def negUp : List Nat → Nat → PS → PR Nat
  | [], a, st => .ok a st
  | p :: ps, a, st =>
    match addP ⟨5, [], a, 0, 0⟩ (1 + st.hi a) p st with
    | .no x y => .no x y
    | .ok c st1 => negUp ps c st1
def minusP (last : Nat) (wrong : Bool) (inner : Option PF) : PF := fun st =>
  match powerP last wrong inner { st with T := (negs st.T).2 } with
  | none => none
  | some (.no x y) => some (.no x y)
  | some (.ok a st1) => some (negUp (negs st.T).1.reverse a st1)
def rowL (last : Nat) (sg : List Nat → Option Nat) (part : PF) : Nat → Nat → PF
  | 0, _, _ => none
  | n + 1, a, st =>
    match sg st.tx with
    | none => some (.ok a st)
    | some k =>
      match part st.on with
      | none => none
      | some (.no x y) => some (.no x y)
      | some (.ok b st1) =>
        match addP ⟨k, [], a, b, 0⟩ (1 + max (st1.hi a) (st1.hi b)) (st.pl last) st1 with
        | .no x y => some (.no x y)
        | .ok c st2 => rowL last sg part n c st2
def rowP (last : Nat) (sg : List Nat → Option Nat) (part : PF) : PF := fun st =>
  match part st with
  | none => none
  | some (.no x y) => some (.no x y)
  | some (.ok a st1) => rowL last sg part (st1.T.length + 1) a st1
def mulS (t : List Nat) : Option Nat := if t = [42] then some 8 else if t = [47] then some 9 else none
def addS (t : List Nat) : Option Nat := if t = [43] then some 6 else if t = [45] then some 7 else none
def termP (last : Nat) (wrong : Bool) (inner : Option PF) : PF := rowP last mulS (minusP last wrong inner)
def sumOf (last : Nat) (wrong : Bool) (inner : Option PF) : PF := rowP last addS (termP last wrong inner)
/-- A sum with at most d brackets about each other inside. -/
def sumP (last : Nat) (wrong : Bool) : Nat → PF
  | 0 => sumOf last wrong none
  | d + 1 => sumOf last wrong (some (sumP last wrong d))
def innerP (last : Nat) (wrong : Bool) : Nat → Option PF
  | 0 => none
  | d + 1 => some (sumP last wrong d)
theorem sumP_eq (last : Nat) (wrong : Bool) (d : Nat) : sumP last wrong d = sumOf last wrong (innerP last wrong d) := by cases d <;> rfl
/-- A let, from its word on. -/
def letP (last : Nat) (wrong : Bool) (sum : PF) (st : PS) : Option (PR Unit) :=
  if isName st.on.tx = true then
    if st.on.tx ∈ st.names then some (.no (st.on.pl last) 112)
    else
      match takeP last wrong [61] st.on.on with
      | .no x y => some (.no x y)
      | .ok _ st1 =>
        match sum st1 with
        | none => none
        | some (.no x y) => some (.no x y)
        | some (.ok a st2) =>
          match takeP last wrong [59] st2 with
          | .no x y => some (.no x y)
          | .ok _ st3 => some (.ok () { st3 with L := st3.L ++ [(st.on.tx, a)] })
  else some (unwP last wrong st.on)
def mapP (last : Nat) (wrong : Bool) (sum : PF) : PF := fun st =>
  match sum st with
  | none => none
  | some (.no x y) => some (.no x y)
  | some (.ok m st1) => if st1.T = [] ∧ wrong = false then some (.ok m st1) else some (unwP last wrong st1)
def textP (last : Nat) (wrong : Bool) (sum : PF) : Nat → PF
  | 0, _ => none
  | n + 1, st =>
    if st.tx = [108, 101, 116] then
      match letP last wrong sum st with
      | none => none
      | some (.no x y) => some (.no x y)
      | some (.ok _ st1) => textP last wrong sum n st1
    else mapP last wrong sum st
/-- What tokens say. -/
def progP (T : List Tok) (last : Nat) (wrong : Bool) : Option (PR Nat) := textP last wrong (sumP last wrong 64) (T.length + 1) ⟨T, [], [], []⟩

/-! It always says something; what comes is never more. -/
def Good (f : PF) : Prop := ∀ st, ∃ r, f st = some r ∧ ∀ v st', r = .ok v st' → st'.T.length ≤ st.T.length
theorem on_len (st : PS) : st.on.T.length ≤ st.T.length := by unfold PS.on; simp
theorem on_lt {st : PS} (h : st.T ≠ []) : st.on.T.length + 1 = st.T.length := by
  unfold PS.on
  rcases hT : st.T with _ | ⟨t, T⟩
  · exact absurd hT h
  · simp
theorem tx_ne {st : PS} {b : Nat} {l : List Nat} (h : st.tx = b :: l) : st.T ≠ [] := fun e => by unfold PS.tx at h; rw [e] at h; cases h
theorem takeP_ok {last : Nat} {wrong : Bool} {x : List Nat} {st st' : PS} {u : Unit} (h : takeP last wrong x st = .ok u st') : st.tx = x ∧ st' = st.on := by
  unfold takeP at h
  split at h
  · rename_i hx
    injection h with h1 h2
    exact ⟨hx, h2.symm⟩
  · unfold unwP at h
    split at h <;> cases h
theorem addP_ok {n : Nod} {h at_ : Nat} {st st' : PS} {v : Nat} (e : addP n h at_ st = .ok v st') : v = st.N.length ∧ st' = { st with N := st.N ++ [n], H := st.H ++ [h] } := by
  unfold addP at e
  split at e
  · cases e
  · split at e
    · cases e
    · injection e with e1 e2
      exact ⟨e1.symm, e2.symm⟩
theorem addOn_ok {n : Nod} {h at_ : Nat} {st st' : PS} {v : Nat} (e : addOn n h at_ st = .ok v st') : st'.T.length ≤ st.T.length := by
  unfold addOn at e
  split at e
  · rename_i v1 st1 he
    injection e with e1 e2
    obtain ⟨-, rfl⟩ := addP_ok he
    rw [← e2]
    exact on_len { st with N := st.N ++ [n], H := st.H ++ [h] }
  · cases e
theorem unwP_ok {α : Type} {last : Nat} {wrong : Bool} {st st' : PS} {v : α} (h : unwP last wrong st = .ok v st') : False := by
  unfold unwP at h
  split at h <;> cases h
theorem atomP_good {last : Nat} {wrong : Bool} {inner : Option PF} (h : ∀ f, inner = some f → Good f) : Good (atomP last wrong inner) := by
  intro st
  unfold atomP
  split
  · rename_i hx
    rcases inner with _ | f
    · exact ⟨_, rfl, fun v st' e => by cases e⟩
    · obtain ⟨r, hr, hg⟩ := h f rfl st.on
      simp only [hr]
      rcases r with ⟨v, st1⟩ | ⟨x, y⟩
      · simp only
        rcases ht : takeP last wrong [41] st1 with ⟨u, st2⟩ | ⟨x, y⟩
        · refine ⟨_, rfl, fun v' st' e => ?_⟩
          injection e with e1 e2
          obtain ⟨-, rfl⟩ := takeP_ok ht
          have h1 := hg v st1 rfl
          have h2 := on_len st1
          have h3 := on_len st
          rw [← e2]; omega
        · exact ⟨_, rfl, fun v st' e => by cases e⟩
      · exact ⟨_, rfl, fun v st' e => by cases e⟩
  · split
    · exact ⟨_, rfl, fun v st' e => addOn_ok e⟩
    · split
      · exact ⟨_, rfl, fun v st' e => addOn_ok e⟩
      · split
        · split
          · exact ⟨_, rfl, fun v st' e => addOn_ok e⟩
          · exact ⟨_, rfl, fun v st' e => by cases e⟩
        · split
          · exact ⟨_, rfl, fun v st' e => addOn_ok e⟩
          · exact ⟨_, rfl, fun v st' e => (unwP_ok e).elim⟩
theorem powerP_good {last : Nat} {wrong : Bool} {inner : Option PF} (h : ∀ f, inner = some f → Good f) : Good (powerP last wrong inner) := by
  intro st
  obtain ⟨r, hr, hg⟩ := atomP_good (last := last) (wrong := wrong) h st
  unfold powerP
  simp only [hr]
  rcases r with ⟨a, st1⟩ | ⟨x, y⟩
  · refine ⟨_, rfl, fun v st' e => ?_⟩
    have h1 := hg a st1 rfl
    have h2 := on_len st1
    have h3 := on_len st1.on
    unfold powK at e
    split at e
    · split at e
      · split at e
        · cases e
        · obtain ⟨-, rfl⟩ := addP_ok e
          simp only; omega
      · exact (unwP_ok e).elim
    · injection e with e1 e2
      rw [← e2]; exact h1
  · exact ⟨_, rfl, fun v st' e => by cases e⟩
theorem negs_len : ∀ T : List Tok, (negs T).2.length ≤ T.length ∧ (negs T).1.length + (negs T).2.length = T.length := by
  intro T
  induction T with
  | nil => exact ⟨Nat.le_refl _, rfl⟩
  | cons t T ih =>
    rw [negs]
    split
    · simp only [List.length_cons]; omega
    · simp
theorem negUp_T : ∀ (ps : List Nat) (a : Nat) (st : PS) (v : Nat) (st' : PS), negUp ps a st = .ok v st' → st'.T = st.T := by
  intro ps
  induction ps with
  | nil =>
    intro a st v st' e
    rw [negUp] at e
    injection e with e1 e2
    rw [e2]
  | cons p ps ih =>
    intro a st v st' e
    rw [negUp] at e
    split at e
    · cases e
    · rename_i c st1 he
      obtain ⟨-, rfl⟩ := addP_ok he
      have h1 := ih _ _ _ _ e
      exact h1
theorem minusP_good {last : Nat} {wrong : Bool} {inner : Option PF} (h : ∀ f, inner = some f → Good f) : Good (minusP last wrong inner) := by
  intro st
  obtain ⟨r, hr, hg⟩ := powerP_good (last := last) (wrong := wrong) h { st with T := (negs st.T).2 }
  unfold minusP
  simp only [hr]
  rcases r with ⟨a, st1⟩ | ⟨x, y⟩
  · refine ⟨_, rfl, fun v st' e => ?_⟩
    have h1 := hg a st1 rfl
    rw [negUp_T _ _ _ _ _ e]
    exact Nat.le_trans h1 (negs_len st.T).1
  · exact ⟨_, rfl, fun v st' e => by cases e⟩
theorem rowL_good {last : Nat} {sg : List Nat → Option Nat} (hsg : sg [] = none) {part : PF} (hp : Good part) : ∀ (n a : Nat) (st : PS), st.T.length < n → ∃ r, rowL last sg part n a st = some r ∧ ∀ v st', r = .ok v st' → st'.T.length ≤ st.T.length := by
  intro n
  induction n with
  | zero => intro a st h; omega
  | succ n ih =>
    intro a st h
    rw [rowL]
    rcases hs : sg st.tx with _ | k
    · refine ⟨_, rfl, fun v st' e => ?_⟩
      injection e with e1 e2
      rw [e2]; exact Nat.le_refl _
    · have hne : st.T ≠ [] := fun e => by
        have : st.tx = [] := by unfold PS.tx; rw [e]
        rw [this, hsg] at hs
        cases hs
      have h0 := on_lt hne
      obtain ⟨r, hr, hg⟩ := hp st.on
      simp only [hr]
      rcases r with ⟨b, st1⟩ | ⟨x, y⟩
      · simp only
        have h1 := hg b st1 rfl
        rcases ha : addP ⟨k, [], a, b, 0⟩ (1 + max (st1.hi a) (st1.hi b)) (st.pl last) st1 with ⟨c, st2⟩ | ⟨x, y⟩
        · obtain ⟨-, hst⟩ := addP_ok ha
          have h2 : st2.T.length = st1.T.length := by rw [hst]
          obtain ⟨r2, hr2, hg2⟩ := ih c st2 (by omega)
          exact ⟨r2, hr2, fun v st' e => by have := hg2 v st' e; omega⟩
        · exact ⟨_, rfl, fun v st' e => by cases e⟩
      · exact ⟨_, rfl, fun v st' e => by cases e⟩
theorem rowP_good {last : Nat} {sg : List Nat → Option Nat} (hsg : sg [] = none) {part : PF} (hp : Good part) : Good (rowP last sg part) := by
  intro st
  obtain ⟨r, hr, hg⟩ := hp st
  unfold rowP
  simp only [hr]
  rcases r with ⟨a, st1⟩ | ⟨x, y⟩
  · have h1 := hg a st1 rfl
    obtain ⟨r2, hr2, hg2⟩ := rowL_good hsg hp (last := last) (st1.T.length + 1) a st1 (Nat.lt_succ_self _)
    exact ⟨r2, hr2, fun v st' e => Nat.le_trans (hg2 v st' e) h1⟩
  · exact ⟨_, rfl, fun v st' e => by cases e⟩
theorem sumOf_good {last : Nat} {wrong : Bool} {inner : Option PF} (h : ∀ f, inner = some f → Good f) : Good (sumOf last wrong inner) :=
  rowP_good rfl (rowP_good rfl (minusP_good h))
theorem sumP_good {last : Nat} {wrong : Bool} : ∀ d, Good (sumP last wrong d)
  | 0 => sumOf_good fun f e => by cases e
  | d + 1 => sumOf_good fun f e => by
    injection e with e
    rw [← e]
    exact sumP_good d
theorem letP_good {last : Nat} {wrong : Bool} {sum : PF} (hs : Good sum) {st : PS} (hne : st.T ≠ []) : ∃ r, letP last wrong sum st = some r ∧ ∀ u st', r = .ok u st' → st'.T.length < st.T.length := by
  have h0 := on_lt hne
  unfold letP
  split
  · split
    · exact ⟨_, rfl, fun u st' e => by cases e⟩
    · rcases ht : takeP last wrong [61] st.on.on with ⟨u, st1⟩ | ⟨x, y⟩
      · obtain ⟨-, rfl⟩ := takeP_ok ht
        obtain ⟨r, hr, hg⟩ := hs st.on.on.on
        simp only [hr]
        rcases r with ⟨a, st2⟩ | ⟨x, y⟩
        · simp only
          rcases ht2 : takeP last wrong [59] st2 with ⟨u2, st3⟩ | ⟨x, y⟩
          · obtain ⟨-, rfl⟩ := takeP_ok ht2
            refine ⟨_, rfl, fun u st' e => ?_⟩
            injection e with e1 e2
            have h1 := hg a st2 rfl
            have h2 := on_len st.on
            have h3 := on_len st.on.on
            have h4 := on_len st2
            rw [← e2]
            simp only
            omega
          · exact ⟨_, rfl, fun u st' e => by cases e⟩
        · exact ⟨_, rfl, fun u st' e => by cases e⟩
      · exact ⟨_, rfl, fun u st' e => by cases e⟩
  · exact ⟨_, rfl, fun u st' e => (unwP_ok e).elim⟩
theorem textP_good {last : Nat} {wrong : Bool} {sum : PF} (hs : Good sum) : ∀ (n : Nat) (st : PS), st.T.length < n → ∃ r, textP last wrong sum n st = some r := by
  intro n
  induction n with
  | zero => intro st h; omega
  | succ n ih =>
    intro st h
    rw [textP]
    split
    · rename_i hx
      obtain ⟨r, hr, hg⟩ := letP_good hs (last := last) (wrong := wrong) (tx_ne hx)
      rw [hr]
      rcases r with ⟨u, st1⟩ | ⟨x, y⟩
      · have := hg u st1 rfl
        exact ih _ (by omega)
      · exact ⟨_, rfl⟩
    · unfold mapP
      obtain ⟨r, hr, hg⟩ := hs st
      simp only [hr]
      rcases r with ⟨a, st2⟩ | ⟨x, y⟩
      · simp only
        split <;> exact ⟨_, rfl⟩
      · exact ⟨_, rfl⟩
/-! The lets stay. -/
def KeepL (f : PF) : Prop := ∀ st v st', f st = some (.ok v st') → st'.L = st.L
theorem addOn_L {n : Nod} {h at_ : Nat} {st st' : PS} {v : Nat} (e : addOn n h at_ st = .ok v st') : st'.L = st.L := by
  unfold addOn at e
  split at e
  · rename_i v1 st1 he
    injection e with e1 e2
    obtain ⟨-, rfl⟩ := addP_ok he
    rw [← e2]; rfl
  · cases e
theorem atomP_L {last : Nat} {wrong : Bool} {inner : Option PF} (h : ∀ f, inner = some f → KeepL f) : KeepL (atomP last wrong inner) := by
  intro st v st' e
  unfold atomP at e
  split at e
  · rcases inner with _ | f
    · cases e
    · simp only at e
      rcases hf : f st.on with _ | (⟨v1, st1⟩ | ⟨x, y⟩)
      · rw [hf] at e; cases e
      · rw [hf] at e
        simp only at e
        rcases ht : takeP last wrong [41] st1 with ⟨u, st2⟩ | ⟨x, y⟩
        · rw [ht] at e
          injection e with e
          injection e with e1 e2
          rw [← e2, (takeP_ok ht).2]
          have h1 := h f rfl st.on v1 st1 hf
          exact h1
        · rw [ht] at e; cases e
      · rw [hf] at e; cases e
  · split at e
    · exact addOn_L (Option.some.inj e)
    · split at e
      · exact addOn_L (Option.some.inj e)
      · split at e
        · split at e
          · exact addOn_L (Option.some.inj e)
          · cases e
        · split at e
          · exact addOn_L (Option.some.inj e)
          · exact (unwP_ok (Option.some.inj e)).elim
theorem powerP_L {last : Nat} {wrong : Bool} {inner : Option PF} (h : ∀ f, inner = some f → KeepL f) : KeepL (powerP last wrong inner) := by
  intro st v st' e
  unfold powerP at e
  rcases hf : atomP last wrong inner st with _ | (⟨a, st1⟩ | ⟨x, y⟩)
  · rw [hf] at e; cases e
  · rw [hf] at e
    have h1 := atomP_L h st a st1 hf
    have e : some (powK last wrong a st1) = some (.ok v st') := e
    have e := Option.some.inj e
    unfold powK at e
    split at e
    · split at e
      · split at e
        · cases e
        · obtain ⟨-, rfl⟩ := addP_ok e
          exact h1
      · exact (unwP_ok e).elim
    · injection e with e1 e2
      rw [← e2]; exact h1
  · rw [hf] at e; cases e
theorem negUp_L : ∀ (ps : List Nat) (a : Nat) (st : PS) (v : Nat) (st' : PS), negUp ps a st = .ok v st' → st'.L = st.L := by
  intro ps
  induction ps with
  | nil =>
    intro a st v st' e
    rw [negUp] at e
    injection e with e1 e2
    rw [e2]
  | cons p ps ih =>
    intro a st v st' e
    rw [negUp] at e
    split at e
    · cases e
    · rename_i c st1 he
      obtain ⟨-, rfl⟩ := addP_ok he
      have h1 := ih _ _ _ _ e
      exact h1
theorem minusP_L {last : Nat} {wrong : Bool} {inner : Option PF} (h : ∀ f, inner = some f → KeepL f) : KeepL (minusP last wrong inner) := by
  intro st v st' e
  unfold minusP at e
  rcases hf : powerP last wrong inner { st with T := (negs st.T).2 } with _ | (⟨a, st1⟩ | ⟨x, y⟩)
  · rw [hf] at e; cases e
  · rw [hf] at e
    have h1 := powerP_L h _ a st1 hf
    have e : some (negUp (negs st.T).1.reverse a st1) = some (.ok v st') := e
    rw [negUp_L _ _ _ _ _ (Option.some.inj e)]
    exact h1
  · rw [hf] at e; cases e
theorem rowL_L {last : Nat} {sg : List Nat → Option Nat} {part : PF} (hp : KeepL part) : ∀ (n a : Nat) (st : PS) (v : Nat) (st' : PS), rowL last sg part n a st = some (.ok v st') → st'.L = st.L := by
  intro n
  induction n with
  | zero => intro a st v st' e; cases e
  | succ n ih =>
    intro a st v st' e
    rw [rowL] at e
    rcases hs : sg st.tx with _ | k
    · rw [hs] at e
      injection e with e
      injection e with e1 e2
      rw [← e2]
    · rw [hs] at e
      simp only at e
      rcases hf : part st.on with _ | (⟨b, st1⟩ | ⟨x, y⟩)
      · rw [hf] at e; cases e
      · rw [hf] at e
        have h1 := hp _ b st1 hf
        simp only at e
        rcases ha : addP ⟨k, [], a, b, 0⟩ (1 + max (st1.hi a) (st1.hi b)) (st.pl last) st1 with ⟨c, st2⟩ | ⟨x, y⟩
        · rw [ha] at e
          obtain ⟨-, hst⟩ := addP_ok ha
          rw [ih _ _ _ _ e, hst]
          exact h1
        · rw [ha] at e; cases e
      · rw [hf] at e; cases e
theorem rowP_L {last : Nat} {sg : List Nat → Option Nat} {part : PF} (hp : KeepL part) : KeepL (rowP last sg part) := by
  intro st v st' e
  unfold rowP at e
  rcases hf : part st with _ | (⟨a, st1⟩ | ⟨x, y⟩)
  · rw [hf] at e; cases e
  · rw [hf] at e
    have e : rowL last sg part (st1.T.length + 1) a st1 = some (.ok v st') := e
    rw [rowL_L hp _ _ _ _ _ e]
    exact hp _ _ _ hf
  · rw [hf] at e; cases e
theorem sumOf_L {last : Nat} {wrong : Bool} {inner : Option PF} (h : ∀ f, inner = some f → KeepL f) : KeepL (sumOf last wrong inner) := rowP_L (rowP_L (minusP_L h))
theorem sumP_L {last : Nat} {wrong : Bool} : ∀ d, KeepL (sumP last wrong d)
  | 0 => sumOf_L fun f e => by cases e
  | d + 1 => sumOf_L fun f e => by
    injection e with e
    rw [← e]
    exact sumP_L d
theorem progP_some (T : List Tok) (last : Nat) (wrong : Bool) : ∃ r, progP T last wrong = some r := textP_good (sumP_good 64) _ _ (Nat.lt_succ_self _)
end Go.Proofs.YtnaadajcehfmiaaGreatDoor
