import Derived.Test.YtnaadajcehfmiaaGreatDoorLpD
import Derived.Test.YtnaadajcehfmiaaGreatDoorLsD
/- Lang: a text that goes on otherwise behind a token; a right text with a token behind it. -/
namespace Go.Proofs.YtnaadajcehfmiaaGreatDoor

/-! The tokens hang on the bytes up to one behind them. -/
section
variable {u u' : List Nat} {n : Nat}
end
/-! A right text with a token behind it that goes on with nothing. -/
section
variable {last last' : Nat} {wrong wrong' : Bool} {x : Tok} {inner inner' : Option PF}
end
/-! A text that goes on otherwise behind a token. -/
/-- A fault that is seen behind a token, or later than at its token. -/
def Lt_ (t : Tok) (a c : Nat) : Prop := t.at_ < a ∨ c = 4 ∨ c = 114 ∨ c = 110
def Bhd (t : Tok) (T : List Tok) : Prop := ∀ u, u ∈ T → t.at_ < u.at_
def LateR {α : Type} (t : Tok) : Option (PR α) → Prop
  | none => True
  | some (.ok _ st) => Bhd t st.T
  | some (.no a c) => Lt_ t a c
def swT (st : PS) (T : List Tok) : PS := { st with T := T }
def OutR {α : Type} (t : Tok) (R R' : List Tok) (r r' : Option (PR α)) : Prop :=
  LateR t r ∨ match r with
  | none => True
  | some (.ok v st) => ∃ A, st.T = A ++ t :: R ∧ r' = some (.ok v (swT st (A ++ t :: R')))
  | some (.no a c) => r' = some (.no a c)
def bindP {α β : Type} (r : Option (PR α)) (g : α → PS → Option (PR β)) : Option (PR β) :=
  match r with
  | none => none
  | some (.no a c) => some (.no a c)
  | some (.ok v st) => g v st
section
variable {t : Tok} {R R' : List Tok}
theorem LateR.bind {α β : Type} {r : Option (PR α)} {g : α → PS → Option (PR β)} (h : LateR t r) (hg : ∀ v st, Bhd t st.T → LateR t (g v st)) : LateR t (bindP r g) := by
  rcases r with _ | (⟨v, st⟩ | ⟨a, c⟩)
  · trivial
  · exact hg v st h
  · exact h
theorem OutR.bind {α β : Type} {r r' : Option (PR α)} {g g' : α → PS → Option (PR β)} (h : OutR t R R' r r') (hl : ∀ v st, Bhd t st.T → LateR t (g v st))
    (hg : ∀ v st A, st.T = A ++ t :: R → OutR t R R' (g v st) (g' v (swT st (A ++ t :: R')))) : OutR t R R' (bindP r g) (bindP r' g') := by
  rcases h with h | h
  · exact .inl (h.bind hl)
  · rcases r with _ | (⟨v, st⟩ | ⟨a, c⟩)
    · exact .inl trivial
    · obtain ⟨A, h1, h2⟩ := h
      rw [h2]
      exact hg v st A h1
    · rw [show r' = some (.no a c) from h]
      exact .inr rfl
theorem OutR.same {α : Type} {a c : Nat} : OutR t R R' (some (PR.no a c : PR α)) (some (.no a c)) := .inr rfl
end
end Go.Proofs.YtnaadajcehfmiaaGreatDoor
/- Lang: a fault hangs on nothing behind its token. -/
namespace Go.Proofs.YtnaadajcehfmiaaGreatDoor

section
variable {t : Tok} {R R' : List Tok} {last last' : Nat} {wrong wrong' : Bool}
theorem addOn_bind (n : Nod) (x a : Nat) (st : PS) : (some (addOn n x a st) : Option (PR Nat)) = bindP (some (addP n x a st)) (fun v st1 => some (.ok v st1.on)) := by
  unfold addOn bindP
  rcases addP n x a st with ⟨v, st1⟩ | ⟨y, z⟩ <;> rfl
variable {i i' : Option PF}
theorem brk_eq (last : Nat) (wrong : Bool) (f : PF) (st : PS) : (match f st with
      | none => none
      | some (.no x y) => some (.no x y)
      | some (.ok v st1) =>
        match takeP last wrong [41] st1 with
        | .no x y => some (.no x y)
        | .ok _ st2 => some (.ok v st2) : Option (PR Nat)) = bindP (f st) (fun v st1 => bindP (some (takeP last wrong [41] st1)) (fun _ st2 => some (.ok v st2))) := by
  unfold bindP
  rcases f st with _ | (⟨v, st1⟩ | ⟨y, z⟩)
  · rfl
  · simp only
    rcases takeP last wrong [41] st1 with ⟨u, st2⟩ | ⟨y, z⟩ <;> rfl
  · rfl
theorem powerP_eq (last : Nat) (wrong : Bool) (i : Option PF) (st : PS) : powerP last wrong i st = bindP (atomP last wrong i st) (fun a st1 => some (powK last wrong a st1)) := by
  unfold powerP bindP
  rcases atomP last wrong i st with _ | (⟨v, st1⟩ | ⟨y, z⟩) <;> rfl
theorem negUp_eq (p : Nat) (ps : List Nat) (a : Nat) (st : PS) : (some (negUp (p :: ps) a st) : Option (PR Nat)) = bindP (some (addP ⟨5, [], a, 0, 0⟩ (1 + st.hi a) p st)) (fun c st1 => some (negUp ps c st1)) := by
  rw [negUp]
  unfold bindP
  rcases addP ⟨5, [], a, 0, 0⟩ (1 + st.hi a) p st with ⟨c, st2⟩ | ⟨y, z⟩ <;> rfl
theorem minusP_eq (last : Nat) (wrong : Bool) (i : Option PF) (st : PS) : minusP last wrong i st = bindP (powerP last wrong i { st with T := (negs st.T).2 }) (fun a st1 => some (negUp (negs st.T).1.reverse a st1)) := by
  unfold minusP bindP
  rcases powerP last wrong i { st with T := (negs st.T).2 } with _ | (⟨v, st1⟩ | ⟨y, z⟩) <;> rfl
theorem rowL_eq {sg : List Nat → Option Nat} {part : PF} (last n a : Nat) (st : PS) : rowL last sg part (n + 1) a st = (match sg st.tx with | none => some (.ok a st) | some k => bindP (part st.on) (fun b st1 => bindP (some (addP ⟨k, [], a, b, 0⟩ (1 + max (st1.hi a) (st1.hi b)) (st.pl last) st1)) (fun c st2 => rowL last sg part n c st2))) := by
  rw [rowL]
  rcases sg st.tx with _ | k
  · rfl
  · simp only
    unfold bindP
    rcases part st.on with _ | (⟨b, st1⟩ | ⟨y, z⟩)
    · rfl
    · simp only
      rcases addP ⟨k, [], a, b, 0⟩ (1 + max (st1.hi a) (st1.hi b)) (st.pl last) st1 with ⟨c, st2⟩ | ⟨y, z⟩ <;> rfl
    · rfl
theorem rowP_eq {sg : List Nat → Option Nat} {part : PF} (last : Nat) (st : PS) : rowP last sg part st = bindP (part st) (fun a st1 => rowL last sg part (st1.T.length + 1) a st1) := by
  unfold rowP bindP
  rcases part st with _ | (⟨v, st1⟩ | ⟨y, z⟩) <;> rfl
def letK (last : Nat) (wrong : Bool) (sum : PF) (nm : List Nat) (st : PS) : Option (PR Unit) :=
  bindP (some (takeP last wrong [61] st)) (fun _ st1 => bindP (sum st1) (fun a st2 => bindP (some (takeP last wrong [59] st2)) (fun _ st3 => some (.ok () { st3 with L := st3.L ++ [(nm, a)] }))))
theorem letP_eq (last : Nat) (wrong : Bool) (sum : PF) (st : PS) : letP last wrong sum st = if isName st.on.tx = true then (if st.on.tx ∈ st.names then some (.no (st.on.pl last) 112) else letK last wrong sum st.on.tx st.on.on) else some (unwP last wrong st.on) := by
  unfold letP letK bindP
  split
  · split
    · rfl
    · rcases takeP last wrong [61] st.on.on with ⟨u, st1⟩ | ⟨y, z⟩
      · simp only
        rcases sum st1 with _ | (⟨a, st2⟩ | ⟨y, z⟩)
        · rfl
        · simp only
          rcases takeP last wrong [59] st2 with ⟨u, st3⟩ | ⟨y, z⟩ <;> rfl
        · rfl
      · rfl
  · rfl
theorem mapP_eq (last : Nat) (wrong : Bool) (sum : PF) (st : PS) : mapP last wrong sum st = bindP (sum st) (fun m st1 => if st1.T = [] ∧ wrong = false then some (.ok m st1) else some (unwP last wrong st1)) := by
  unfold mapP bindP
  rcases sum st with _ | (⟨v, st1⟩ | ⟨y, z⟩) <;> rfl
theorem textP_eq (last : Nat) (wrong : Bool) (sum : PF) (n : Nat) (st : PS) : textP last wrong sum (n + 1) st = if st.tx = [108, 101, 116] then bindP (letP last wrong sum st) (fun _ st1 => textP last wrong sum n st1) else mapP last wrong sum st := by
  rw [textP]
  split
  · unfold bindP
    rcases letP last wrong sum st with _ | (⟨v, st1⟩ | ⟨y, z⟩) <;> rfl
  · rfl
end
end Go.Proofs.YtnaadajcehfmiaaGreatDoor
/- Lang: where faults are; what LangFront says, plainly. -/
namespace Go.Proofs.YtnaadajcehfmiaaGreatDoor

def Sub0 (T0 T : List Tok) : Prop := ∀ u, u ∈ T → u ∈ T0
/-- A fault stands at a token or at the end. -/
def FP (T0 : List Tok) (last : Nat) (wrong : Bool) (a c : Nat) : Prop := (∃ u, u ∈ T0 ∧ u.at_ = a) ∨ (a = last ∧ (wrong = true → c = 110)) ∨ c = 4 ∨ c = 114
def PosR {α : Type} (T0 : List Tok) (last : Nat) (wrong : Bool) : Option (PR α) → Prop
  | none => True
  | some (.ok _ st) => Sub0 T0 st.T
  | some (.no a c) => FP T0 last wrong a c
section
variable {T0 : List Tok} {last : Nat} {wrong : Bool}
theorem PosR.bind {α β : Type} {r : Option (PR α)} {g : α → PS → Option (PR β)} (h : PosR T0 last wrong r) (hg : ∀ v st, Sub0 T0 st.T → PosR T0 last wrong (g v st)) : PosR T0 last wrong (bindP r g) := by
  rcases r with _ | (⟨v, st⟩ | ⟨a, c⟩)
  · trivial
  · exact hg v st h
  · exact h
theorem sub_on {st : PS} (h : Sub0 T0 st.T) : Sub0 T0 st.on.T := fun u hu => h u (List.mem_of_mem_tail hu)
variable {i : Option PF}
theorem negs_pos : ∀ T : List Tok, Sub0 T0 T → Sub0 T0 (negs T).2
  | [], h => h
  | u :: T, h => by
    rw [negs]
    split
    · exact negs_pos T (fun x hx => h x (by simp [hx]))
    · exact h
end
/-! What LangFront says. -/
end Go.Proofs.YtnaadajcehfmiaaGreatDoor
/- Lang: no fault stands behind the end. -/
namespace Go.Proofs.YtnaadajcehfmiaaGreatDoor

def BdR {α : Type} (T0 : List Tok) (M : Nat) : Option (PR α) → Prop
  | none => True
  | some (.ok _ st) => Sub0 T0 st.T
  | some (.no a _) => a ≤ M
section
variable {T0 : List Tok} {last M : Nat} {wrong : Bool}
def Bd (T0 : List Tok) (M : Nat) (f : PF) : Prop := ∀ st, Sub0 T0 st.T → BdR T0 M (f st)
theorem BdR.bind {α β : Type} {r : Option (PR α)} {g : α → PS → Option (PR β)} (h : BdR T0 M r) (hg : ∀ v st, Sub0 T0 st.T → BdR T0 M (g v st)) : BdR T0 M (bindP r g) := by
  rcases r with _ | (⟨v, st⟩ | ⟨a, c⟩)
  · trivial
  · exact hg v st h
  · exact h
/-- Where tokens may stand. -/
def BdT (T0 : List Tok) (last M : Nat) : Prop := (∀ u, u ∈ T0 → u.at_ ≤ M) ∧ last ≤ M
theorem pl_bd (hM : BdT T0 last M) {st : PS} (h : Sub0 T0 st.T) : st.pl last ≤ M := by
  unfold PS.pl
  rcases hT : st.T with _ | ⟨u, T⟩
  · exact hM.2
  · rw [hT] at h; exact hM.1 u (h u (by simp))
theorem unw_bd (hM : BdT T0 last M) {α : Type} {st : PS} (h : Sub0 T0 st.T) : BdR T0 M (some (unwP last wrong st : PR α)) := by
  unfold unwP
  rcases hT : st.T with _ | ⟨u, T⟩
  · exact hM.2
  · rw [hT] at h
    exact hM.1 u (h u (by simp))
theorem addP_bd {n : Nod} {x a : Nat} {st : PS} (ha : a ≤ M) (h : Sub0 T0 st.T) : BdR T0 M (some (addP n x a st)) := by
  unfold addP
  split
  · exact ha
  · split
    · exact ha
    · exact h
theorem addOn_bd {n : Nod} {x a : Nat} {st : PS} (ha : a ≤ M) (h : Sub0 T0 st.T) : BdR T0 M (some (addOn n x a st)) := by
  rw [addOn_bind]
  exact (addP_bd ha h).bind fun _ _ h1 => sub_on h1
theorem take_bd (hM : BdT T0 last M) {y : List Nat} {st : PS} (h : Sub0 T0 st.T) : BdR T0 M (some (takeP last wrong y st)) := by
  unfold takeP
  split
  · exact sub_on h
  · exact unw_bd hM h
def InnB (T0 : List Tok) (M : Nat) (i : Option PF) : Prop := i = none ∨ ∃ f, i = some f ∧ Bd T0 M f
variable {i : Option PF}
theorem atomP_bd (hM : BdT T0 last M) (hi : InnB T0 M i) : Bd T0 M (atomP last wrong i) := by
  intro st h
  have hp := pl_bd hM h
  unfold atomP
  split
  · rcases hi with rfl | ⟨f, rfl, hf⟩
    · exact hp
    · have h2 := (hf st.on (sub_on h)).bind (g := fun v st1 => bindP (some (takeP last wrong [41] st1)) (fun _ st2 => some (.ok v st2))) fun _ _ h1 => (take_bd hM h1).bind fun _ _ h2 => h2
      rw [← brk_eq] at h2
      exact h2
  · split
    · exact addOn_bd hp h
    · split
      · exact addOn_bd hp h
      · split
        · split
          · exact addOn_bd hp h
          · exact hp
        · split
          · exact addOn_bd hp h
          · exact unw_bd hM h
theorem powerP_bd (hM : BdT T0 last M) (hi : InnB T0 M i) : Bd T0 M (powerP last wrong i) := fun st h => by
  rw [powerP_eq]
  refine (atomP_bd hM hi st h).bind fun a st1 h1 => ?_
  unfold powK
  split
  · split
    · split
      · exact pl_bd hM (sub_on h1)
      · exact addP_bd (pl_bd hM h1) (sub_on (sub_on h1))
    · exact unw_bd hM (sub_on h1)
  · exact h1
theorem negs_bd (hM : BdT T0 last M) : ∀ T : List Tok, Sub0 T0 T → ∀ x, x ∈ (negs T).1 → x ≤ M
  | [], _, x, hx => by cases hx
  | u :: T, h, x, hx => by
    rw [negs] at hx
    split at hx
    · rcases List.mem_cons.1 hx with rfl | hx
      · exact hM.1 u (h u (by simp))
      · exact negs_bd hM T (fun y hy => h y (by simp [hy])) x hx
    · cases hx
theorem negUp_bd : ∀ (ps : List Nat) (a : Nat) (st : PS), (∀ x, x ∈ ps → x ≤ M) → Sub0 T0 st.T → BdR T0 M (some (negUp ps a st))
  | [], _, _, _, h => h
  | p :: ps, a, st, hx, h => by
    rw [negUp_eq]
    exact (addP_bd (hx p (by simp)) h).bind fun c st1 h1 => negUp_bd ps c st1 (fun x h => hx x (by simp [h])) h1
theorem minusP_bd (hM : BdT T0 last M) (hi : InnB T0 M i) : Bd T0 M (minusP last wrong i) := fun st h => by
  rw [minusP_eq]
  exact (powerP_bd hM hi _ (negs_pos st.T h)).bind fun a st1 h1 => negUp_bd _ a st1 (fun x hx => negs_bd hM st.T h x (List.mem_reverse.1 hx)) h1
theorem rowL_bd (hM : BdT T0 last M) {sg : List Nat → Option Nat} {part : PF} (hp : Bd T0 M part) : ∀ (n a : Nat) (st : PS), Sub0 T0 st.T → BdR T0 M (rowL last sg part n a st)
  | 0, _, _, _ => trivial
  | n + 1, a, st, h => by
    rw [rowL_eq]
    rcases sg st.tx with _ | k
    · exact h
    · exact (hp _ (sub_on h)).bind fun b st1 h1 => (addP_bd (pl_bd hM h) h1).bind fun c st2 h2 => rowL_bd hM hp n c st2 h2
theorem rowP_bd (hM : BdT T0 last M) {sg : List Nat → Option Nat} {part : PF} (hp : Bd T0 M part) : Bd T0 M (rowP last sg part) := fun st h => by
  rw [rowP_eq]
  exact (hp st h).bind fun a st1 h1 => rowL_bd hM hp _ a st1 h1
theorem sumP_bd (hM : BdT T0 last M) : ∀ d, Bd T0 M (sumP last wrong d)
  | 0 => rowP_bd hM (rowP_bd hM (minusP_bd hM (.inl rfl)))
  | d + 1 => rowP_bd hM (rowP_bd hM (minusP_bd hM (.inr ⟨_, rfl, sumP_bd hM d⟩)))
theorem letP_bd (hM : BdT T0 last M) {sum : PF} (hs : Bd T0 M sum) {st : PS} (h : Sub0 T0 st.T) : BdR T0 M (letP last wrong sum st) := by
  rw [letP_eq]
  split
  · split
    · exact pl_bd hM (sub_on h)
    · exact (take_bd hM (sub_on (sub_on h))).bind fun _ st1 h1 => (hs st1 h1).bind fun a st2 h2 => (take_bd hM h2).bind fun _ st3 h3 => h3
  · exact unw_bd hM (sub_on h)
theorem textP_bd (hM : BdT T0 last M) {sum : PF} (hs : Bd T0 M sum) : ∀ (n : Nat) (st : PS), Sub0 T0 st.T → BdR T0 M (textP last wrong sum n st)
  | 0, _, _ => trivial
  | n + 1, st, h => by
    rw [textP_eq]
    split
    · exact (letP_bd hM hs h).bind fun _ st1 h1 => textP_bd hM hs n st1 h1
    · rw [mapP_eq]
      refine (hs st h).bind fun m st1 h1 => ?_
      split
      · exact h1
      · exact unw_bd hM h1
theorem progP_bd {T : List Tok} {a c : Nat} (hM : BdT T last M) (h : progP T last wrong = some (.no a c)) : a ≤ M := by
  have h1 := textP_bd (T0 := T) (wrong := wrong) hM (sumP_bd (wrong := wrong) hM 64) (T.length + 1) ⟨T, [], [], []⟩ (show Sub0 T T from fun _ h => h)
  have h0 : textP last wrong (sumP last wrong 64) (T.length + 1) ⟨T, [], [], []⟩ = some (.no a c) := h
  rw [h0] at h1
  exact h1
end
theorem parseT_at {s : List Nat} {a c : Nat} (h : parseT s (.no a c)) : a ≤ 16384 := by
  rcases h with ⟨_, h⟩ | ⟨hl, T, last, wrong, hx, hp⟩
  · injection h with h _
    omega
  · have hla := hx.last
    refine progP_bd ⟨fun u hu => ?_, by omega⟩ hp
    have := hx.ne u hu
    omega
end Go.Proofs.YtnaadajcehfmiaaGreatDoor
