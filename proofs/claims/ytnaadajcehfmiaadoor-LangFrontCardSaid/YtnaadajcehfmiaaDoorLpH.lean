/- Lang: where faults are; what LangFront says, plainly. -/
import Derived.Test.YtnaadajcehfmiaaDoorLpG
import Derived.Test.YtnaadajcehfmiaaDoorLsD
namespace Go.Proofs.YtnaadajcehfmiaaDoor

def Sub0 (T0 T : List Tok) : Prop := ∀ u, u ∈ T → u ∈ T0
/-- A fault stands at a token or at the end. -/
def FP (T0 : List Tok) (last : Nat) (wrong : Bool) (a c : Nat) : Prop := (∃ u, u ∈ T0 ∧ u.at_ = a) ∨ (a = last ∧ (wrong = true → c = 110)) ∨ c = 4 ∨ c = 114
def PosR {α : Type} (T0 : List Tok) (last : Nat) (wrong : Bool) : Option (PR α) → Prop
  | none => True
  | some (.ok _ st) => Sub0 T0 st.T
  | some (.no a c) => FP T0 last wrong a c
section
variable {T0 : List Tok} {last : Nat} {wrong : Bool}
def Pos (T0 : List Tok) (last : Nat) (wrong : Bool) (f : PF) : Prop := ∀ st, Sub0 T0 st.T → PosR T0 last wrong (f st)
theorem PosR.bind {α β : Type} {r : Option (PR α)} {g : α → PS → Option (PR β)} (h : PosR T0 last wrong r) (hg : ∀ v st, Sub0 T0 st.T → PosR T0 last wrong (g v st)) : PosR T0 last wrong (bindP r g) := by
  rcases r with _ | (⟨v, st⟩ | ⟨a, c⟩)
  · trivial
  · exact hg v st h
  · exact h
theorem sub_on {st : PS} (h : Sub0 T0 st.T) : Sub0 T0 st.on.T := fun u hu => h u (List.mem_of_mem_tail hu)
theorem pl_fp {st : PS} (h : Sub0 T0 st.T) (hne : st.T ≠ []) (c : Nat) : FP T0 last wrong (st.pl last) c := by
  rw [pl_eq]
  unfold plT
  rcases hT : st.T with _ | ⟨u, T⟩
  · exact absurd hT hne
  · rw [hT] at h; exact .inl ⟨u, h u (by simp), rfl⟩
theorem nm_ne {st : PS} (h : isName st.tx = true) : st.T ≠ [] := tx_ne2 (fun e => by rw [e] at h; cases h)
theorem num_ne2 {st : PS} (h : isNum st.tx = true) : st.T ≠ [] := tx_ne2 (fun e => by rw [e] at h; cases h)
theorem unw_pos {α : Type} {st : PS} (h : Sub0 T0 st.T) : PosR T0 last wrong (some (unwP last wrong st : PR α)) := by
  unfold unwP
  rcases hT : st.T with _ | ⟨u, T⟩
  · exact .inr (.inl ⟨rfl, fun e => by rw [e]; rfl⟩)
  · rw [hT] at h
    exact .inl ⟨u, h u (by simp), rfl⟩
theorem addP_pos {n : Nod} {x a : Nat} {st : PS} (h : Sub0 T0 st.T) : PosR T0 last wrong (some (addP n x a st)) := by
  unfold addP
  split
  · exact .inr (.inr (.inl rfl))
  · split
    · exact .inr (.inr (.inr rfl))
    · exact h
theorem addOn_pos {n : Nod} {x a : Nat} {st : PS} (h : Sub0 T0 st.T) : PosR T0 last wrong (some (addOn n x a st)) := by
  rw [addOn_bind]
  exact (addP_pos h).bind fun _ _ h1 => sub_on h1
theorem take_pos {y : List Nat} {st : PS} (h : Sub0 T0 st.T) : PosR T0 last wrong (some (takeP last wrong y st)) := by
  unfold takeP
  split
  · exact sub_on h
  · exact unw_pos h
def InnQ (T0 : List Tok) (last : Nat) (wrong : Bool) (i : Option PF) : Prop := i = none ∨ ∃ f, i = some f ∧ Pos T0 last wrong f
variable {i : Option PF}
theorem atomP_pos (hi : InnQ T0 last wrong i) : Pos T0 last wrong (atomP last wrong i) := by
  intro st h
  unfold atomP
  split
  · rcases hi with rfl | ⟨f, rfl, hf⟩
    · exact .inr (.inr (.inr rfl))
    · have h2 := (hf st.on (sub_on h)).bind (g := fun v st1 => bindP (some (takeP last wrong [41] st1)) (fun _ st2 => some (.ok v st2))) fun _ _ h1 => (take_pos h1).bind fun _ _ h2 => h2
      rw [← brk_eq] at h2
      exact h2
  · split
    · exact addOn_pos h
    · split
      · exact addOn_pos h
      · split
        · rename_i hn
          split
          · exact addOn_pos h
          · exact pl_fp h (nm_ne hn) _
        · split
          · exact addOn_pos h
          · exact unw_pos h
theorem powerP_pos (hi : InnQ T0 last wrong i) : Pos T0 last wrong (powerP last wrong i) := fun st h => by
  rw [powerP_eq]
  refine (atomP_pos hi st h).bind fun a st1 h1 => ?_
  unfold powK
  split
  · split
    · rename_i hn
      split
      · exact pl_fp (sub_on h1) (num_ne2 hn) _
      · exact addP_pos (sub_on (sub_on h1))
    · exact unw_pos (sub_on h1)
  · exact h1
theorem negs_pos : ∀ T : List Tok, Sub0 T0 T → Sub0 T0 (negs T).2
  | [], h => h
  | u :: T, h => by
    rw [negs]
    split
    · exact negs_pos T (fun x hx => h x (by simp [hx]))
    · exact h
theorem negUp_pos : ∀ (ps : List Nat) (a : Nat) (st : PS), Sub0 T0 st.T → PosR T0 last wrong (some (negUp ps a st))
  | [], _, _, h => h
  | p :: ps, a, st, h => by
    rw [negUp_eq]
    exact (addP_pos h).bind fun c st1 h1 => negUp_pos ps c st1 h1
theorem minusP_pos (hi : InnQ T0 last wrong i) : Pos T0 last wrong (minusP last wrong i) := fun st h => by
  rw [minusP_eq]
  exact (powerP_pos hi _ (negs_pos st.T h)).bind fun a st1 h1 => negUp_pos _ a st1 h1
theorem rowL_pos {sg : List Nat → Option Nat} {part : PF} (hp : Pos T0 last wrong part) : ∀ (n a : Nat) (st : PS), Sub0 T0 st.T → PosR T0 last wrong (rowL last sg part n a st)
  | 0, _, _, _ => trivial
  | n + 1, a, st, h => by
    rw [rowL_eq]
    rcases sg st.tx with _ | k
    · exact h
    · exact (hp _ (sub_on h)).bind fun b st1 h1 => (addP_pos h1).bind fun c st2 h2 => rowL_pos hp n c st2 h2
theorem rowP_pos {sg : List Nat → Option Nat} {part : PF} (hp : Pos T0 last wrong part) : Pos T0 last wrong (rowP last sg part) := fun st h => by
  rw [rowP_eq]
  exact (hp st h).bind fun a st1 h1 => rowL_pos hp _ a st1 h1
theorem sumP_pos : ∀ d, Pos T0 last wrong (sumP last wrong d)
  | 0 => rowP_pos (rowP_pos (minusP_pos (.inl rfl)))
  | d + 1 => rowP_pos (rowP_pos (minusP_pos (.inr ⟨_, rfl, sumP_pos d⟩)))
theorem letP_pos {sum : PF} (hs : Pos T0 last wrong sum) {st : PS} (h : Sub0 T0 st.T) : PosR T0 last wrong (letP last wrong sum st) := by
  rw [letP_eq]
  split
  · rename_i hn
    split
    · exact pl_fp (sub_on h) (nm_ne hn) _
    · exact (take_pos (sub_on (sub_on h))).bind fun _ st1 h1 => (hs st1 h1).bind fun a st2 h2 => (take_pos h2).bind fun _ st3 h3 => h3
  · exact unw_pos (sub_on h)
theorem textP_pos {sum : PF} (hs : Pos T0 last wrong sum) : ∀ (n : Nat) (st : PS), Sub0 T0 st.T → PosR T0 last wrong (textP last wrong sum n st)
  | 0, _, _ => trivial
  | n + 1, st, h => by
    rw [textP_eq]
    split
    · exact (letP_pos hs h).bind fun _ st1 h1 => textP_pos hs n st1 h1
    · rw [mapP_eq]
      refine (hs st h).bind fun m st1 h1 => ?_
      split
      · exact h1
      · exact unw_pos h1
theorem progP_pos {T : List Tok} {a c : Nat} (h : progP T last wrong = some (.no a c)) : FP T last wrong a c := by
  have h1 := textP_pos (last := last) (wrong := wrong) (sumP_pos 64) (T.length + 1) ⟨T, [], [], []⟩ (show Sub0 T T from fun _ h => h)
  have h0 : textP last wrong (sumP last wrong 64) (T.length + 1) ⟨T, [], [], []⟩ = some (.no a c) := h
  rw [h0] at h1
  exact h1
end
/-! What LangFront says. -/
theorem TkO.split {last : Nat} : ∀ (A : List Tok) {t : Tok} {R : List Tok}, TkO last (A ++ t :: R) → Bhd t R ∧ t.at_ < last ∧ (∀ u, u ∈ A → u.at_ < t.at_) ∧ TkO last (t :: R)
  | [], t, R, h => by
    have key : ∀ (R : List Tok) (p : Nat), p < plT last R → TkO last R → (∀ u, u ∈ R → p < u.at_) ∧ p < last := by
      intro R
      induction R with
      | nil => intro p hp _; exact ⟨fun u hu => (by cases hu), hp⟩
      | cons v R ih =>
        intro p hp h
        have hv : 0 < v.text.length := List.length_pos_iff.2 h.1.2.1
        have h2 := h.2.1
        have hp : p < v.at_ := hp
        have h3 := ih p (by omega) h.2.2
        refine ⟨fun u hu => ?_, h3.2⟩
        rcases List.mem_cons.1 hu with rfl | hu
        · exact hp
        · exact h3.1 u hu
    have h : TkO last (t :: R) := h
    have ht : 0 < t.text.length := List.length_pos_iff.2 h.1.2.1
    have h2 := h.2.1
    have h3 := key R t.at_ (by omega) h.2.2
    exact ⟨h3.1, h3.2, fun u hu => (by cases hu), h⟩
  | v :: A, t, R, h => by
    have h : TkO last (v :: (A ++ t :: R)) := h
    have ih := TkO.split A h.2.2
    refine ⟨ih.1, ih.2.1, fun u hu => ?_, ih.2.2.2⟩
    rcases List.mem_cons.1 hu with rfl | hu
    · have hv : 0 < u.text.length := List.length_pos_iff.2 h.1.2.1
      have h2 := h.2.1
      rcases A with _ | ⟨w, A⟩
      · have h2 : u.at_ + u.text.length + gapT u (t :: R) ≤ t.at_ := h2
        omega
      · have h2 : u.at_ + u.text.length + gapT u (w :: (A ++ t :: R)) ≤ w.at_ := h2
        have := ih.2.2.1 w (by simp)
        omega
    · exact ih.2.2.1 u hu
theorem endA_snoc (t : Tok) : ∀ (A : List Tok) (i : Nat), endA i (A ++ [t]) = t.at_ + t.text.length
  | [], _ => rfl
  | _ :: A, _ => endA_snoc t A _
theorem lx_last {s : List Nat} {i : Nat} {T : List Tok} {l : Nat} (h : Lx s i T l false) : l = s.length := by
  generalize hb : false = b at h
  induction h with
  | done => rfl
  | bad => cases hb
  | tok _ _ _ ih => exact ih hb
def toldR2 (T : List Tok) (l : Nat) (b : Bool) : List (Tok × Nat) := T.map (fun t => (t, 0)) ++ (if b then [(⟨l, []⟩, 110)] else [])
def toldT2 (s : List Nat) (xs : List (Tok × Nat)) : Prop := s.length ≤ 16384 → ∃ T l b, Lx s 0 T l b ∧ xs = toldR2 T l b
/-- Where the last token ends that begins no later than a place. -/
def endF (a : Nat) (xs : List (Tok × Nat)) (e : Nat) : Nat := xs.foldl (fun e x => if x.1.at_ ≤ a then x.1.at_ + x.1.text.length else e) e
theorem endF_app (a : Nat) (xs ys : List (Tok × Nat)) (e : Nat) : endF a (xs ++ ys) e = endF a ys (endF a xs e) := List.foldl_append
theorem endF_late {a : Nat} : ∀ (xs : List (Tok × Nat)) (e : Nat), (∀ x, x ∈ xs → a < x.1.at_) → endF a xs e = e
  | [], _, _ => rfl
  | x :: xs, e, h => by
    show endF a xs (if x.1.at_ ≤ a then _ else e) = e
    rw [if_neg (by have := h x (by simp); omega)]
    exact endF_late xs e (fun y hy => h y (by simp [hy]))
/-- The token at which a fault is. -/
structure FrT (s : List Nat) (a c : Nat) (xs : List (Tok × Nat)) (e : Nat) : Prop where
  ee : endF a xs a = e
  le : e ≤ s.length
  other : ∀ more : List Nat, Byt more → (s.take e ++ 32 :: more).length ≤ 16384 → parseF (s.take e ++ 32 :: more) = .no a c
theorem front {s : List Nat} (hs : Byt s) {a c : Nat} (hp : parseF s = .no a c) (hc : c ≠ 4 ∧ c ≠ 114 ∧ c ≠ 110) (ha : a < s.length) {xs : List (Tok × Nat)} (hx : toldT2 s xs) : ∃ e, FrT s a c xs e := by
  rcases parseF_ok s with ⟨_, h1⟩ | ⟨hl, T, last, wrong, hL, hP⟩
  · rw [hp] at h1
    injection h1 with h1 h2
    exact absurd h2 hc.1
  · rw [hp] at hP
    have hk := (Lx.ok hs hL).1
    rcases progP_pos hP with ⟨t, ht, rfl⟩ | ⟨rfl, h2⟩ | h | h
    · obtain ⟨A, R, rfl⟩ := List.append_of_mem ht
      obtain ⟨hR, htl, hA, -⟩ := TkO.split A hk
      have hE := endA_ge (A ++ [t]) (T := R) (by rw [List.append_assoc]; exact hL) (Nat.zero_le _)
      rw [endA_snoc] at hE
      refine ⟨t.at_ + t.text.length, ?_, hE.2.1, fun more hm hlm => ?_⟩
      · obtain ⟨T', l', b', hL', rfl⟩ := hx hl
        obtain ⟨rfl, rfl, rfl⟩ := hL.uniq hL'
        unfold toldR2
        rw [List.map_append, List.append_assoc, endF_app, List.map_cons, List.cons_append]
        show endF t.at_ (R.map (fun t => (t, 0)) ++ _) (if t.at_ ≤ t.at_ then t.at_ + t.text.length else _) = _
        rw [if_pos (Nat.le_refl _)]
        refine endF_late _ _ fun x hx => ?_
        rcases List.mem_append.1 hx with hx | hx
        · obtain ⟨u, hu, rfl⟩ := List.mem_map.1 hx
          exact hR u hu
        · split at hx
          · rw [List.mem_singleton.1 hx]; exact htl
          · cases hx
      · have hBs : Byt (s.take (t.at_ + t.text.length) ++ 32 :: more) := fun b hb => by
          rcases List.mem_append.1 hb with hb | hb
          · exact hs b (List.mem_of_mem_take hb)
          · rcases List.mem_cons.1 hb with rfl | hb
            · omega
            · exact hm b hb
        have hle2 : t.at_ + t.text.length ≤ (s.take (t.at_ + t.text.length) ++ 32 :: more).length := by
          rw [List.length_append, List.length_take, Nat.min_eq_left hE.2.1]; omega
        obtain ⟨R', l', b', h1, -⟩ := Lx.ex _ _ hle2 (Nat.le_refl _)
        have h2 := lx_pre hs hE.2.1 (c := 32) (by decide) more (A ++ [t]) (R := R) (by rw [List.append_assoc]; exact hL) (Nat.zero_le _) (by rw [endA_snoc]; exact Nat.le_refl _) (by rw [endA_snoc]; exact h1)
        rw [List.append_assoc] at h2
        have h3 := progP_prd (R' := R') (last' := l') (wrong' := b') hR htl hc hP
        exact parseF_uniq (.inr ⟨hlm, _, _, _, h2, h3⟩)
    · exfalso
      have hw : wrong = false := by
        cases wrong
        · rfl
        · exact absurd (h2 rfl) hc.2.2
      subst hw
      have : a = s.length := lx_last hL
      omega
    · exact absurd h hc.1
    · exact absurd h hc.2.1
/-- The tokens behind a right text. -/
def moreX : List (List Nat) := [[122], [50], [40], [41], [61], [59], [108, 101, 116], [97, 98, 99], [105]]
theorem moreX_ok {x : List Nat} (h : x ∈ moreX) : VT x ∧ XTok ⟨0, x⟩ := by
  unfold moreX at h
  simp only [List.mem_cons, List.not_mem_nil, or_false] at h
  rcases h with rfl | rfl | rfl | rfl | rfl | rfl | rfl | rfl | rfl <;> exact ⟨⟨by decide, by simp, fun c hc => (by simp at hc; omega)⟩, ⟨by decide, rfl, rfl⟩⟩
theorem right_more {s : List Nat} (hs : Byt s) {m : Nat} {st : PS} (hp : parseF s = .ok m st) {x : List Nat} (hx : x ∈ moreX) (hl : (s ++ 10 :: x).length ≤ 16384) : parseF (s ++ 10 :: x) = .no (s.length + 1) 111 := by
  rcases parseF_ok s with ⟨_, h1⟩ | ⟨_, T, last, wrong, hL, hP⟩
  · rw [hp] at h1; cases h1
  · rw [hp] at hP
    obtain ⟨h1, h2⟩ := moreX_ok hx
    obtain ⟨D, y, hM⟩ := textP_snd (sumP_snd 64) _ ⟨T, [], [], []⟩ m st hP (Lx.ok hs hL).1 rfl
    have hw := hM.r
    subst hw
    have h3 := lx_more hs h1 hL
    have h4 := progP_ext (last' := (s ++ 10 :: x).length) (wrong' := false) (x := ⟨s.length + 1, x⟩) ⟨h2.p, h2.m, h2.a⟩ hP
    exact parseF_uniq (.inr ⟨hl, _, _, _, h3, h4⟩)
end Go.Proofs.YtnaadajcehfmiaaDoor
