/- Rows that rise: each once, by size. -/
import Derived.Test.YtoaggmegmgdgbaaLamA
namespace Go.Proofs.Ytoaggmegmgdgbaa

section
variable {α : Type} (lt : α → α → Prop)
/-- Strictly rising. -/
def Rises (l : List α) : Prop := l.Pairwise lt
/-- Two rising rows with the same members are one. -/
theorem rises_ext {lt : α → α → Prop} (hirr : ∀ x, ¬ lt x x) (htr : ∀ x y z, lt x y → lt y z → lt x z) : ∀ {l m : List α}, Rises lt l → Rises lt m → (∀ x, x ∈ l ↔ x ∈ m) → l = m
  | [], [], _, _, _ => rfl
  | [], y :: m, _, _, h => absurd ((h y).2 (List.mem_cons_self ..)) (by simp)
  | x :: l, [], _, _, h => absurd ((h x).1 (List.mem_cons_self ..)) (by simp)
  | x :: l, y :: m, hl, hm, h => by
    obtain ⟨hl1, hl2⟩ := List.pairwise_cons.1 hl
    obtain ⟨hm1, hm2⟩ := List.pairwise_cons.1 hm
    have e : x = y := by
      rcases List.mem_cons.1 ((h x).1 (List.mem_cons_self ..)) with e | e
      · exact e
      rcases List.mem_cons.1 ((h y).2 (List.mem_cons_self ..)) with e2 | e2
      · exact e2.symm
      exact absurd (htr _ _ _ (hm1 _ e) (hl1 _ e2)) (hirr _)
    subst e
    congr 1
    refine rises_ext hirr htr hl2 hm2 fun z => ⟨fun hz => ?_, fun hz => ?_⟩
    · rcases List.mem_cons.1 ((h z).1 (List.mem_cons_of_mem _ hz)) with e | e
      · subst e; exact absurd (hl1 _ hz) (hirr _)
      · exact e
    · rcases List.mem_cons.1 ((h z).2 (List.mem_cons_of_mem _ hz)) with e | e
      · subst e; exact absurd (hm1 _ hz) (hirr _)
      · exact e
end

section
variable {α : Type} [DecidableEq α]
/-- Neighbours that are alike, once. -/
def compactL : List α → List α
  | [] => []
  | [x] => [x]
  | x :: y :: r => if x = y then compactL (y :: r) else x :: compactL (y :: r)
theorem mem_compactL : ∀ {l : List α} {x : α}, x ∈ compactL l ↔ x ∈ l
  | [], x => Iff.rfl
  | [a], x => Iff.rfl
  | a :: b :: r, x => by
    rw [compactL]
    split
    · rename_i e
      subst e
      rw [mem_compactL]
      simp
    · rw [List.mem_cons, mem_compactL]
      simp only [List.mem_cons]
theorem compactL_rises {lt : α → α → Prop} (hlin : ∀ x y, ¬ lt y x → x = y ∨ lt x y) (htr : ∀ x y z, lt x y → lt y z → lt x z) : ∀ {l : List α}, l.Pairwise (fun x y => ¬ lt y x) → Rises lt (compactL l)
  | [], _ => List.Pairwise.nil
  | [a], _ => List.pairwise_singleton _ _
  | a :: b :: r, h => by
    obtain ⟨h1, h2⟩ := List.pairwise_cons.1 h
    rw [compactL]
    split
    · exact compactL_rises hlin htr h2
    · rename_i hne
      have hab : lt a b := (hlin _ _ (h1 b (List.mem_cons_self ..))).resolve_left hne
      refine List.pairwise_cons.2 ⟨fun x hx => ?_, compactL_rises hlin htr h2⟩
      rcases List.mem_cons.1 (mem_compactL.1 hx) with e | e
      · rw [e]; exact hab
      · rcases hlin _ _ ((List.pairwise_cons.1 h2).1 x e) with e2 | e2
        · rw [← e2]; exact hab
        · exact htr _ _ _ hab e2
theorem compactL_snoc : ∀ {l : List α} {x y : α}, compactL (l ++ [x, y]) = if x = y then compactL (l ++ [x]) else compactL (l ++ [x]) ++ [y]
  | [], x, y => by
    by_cases e : x = y
    · subst e; simp [compactL]
    · simp [compactL, e]
  | [a], x, y => by
    by_cases e : x = y
    · subst e
      by_cases e2 : a = x
      · subst e2; simp [compactL]
      · simp [compactL, e2]
    · by_cases e2 : a = x
      · subst e2; simp [compactL, e]
      · simp [compactL, e, e2]
  | a :: b :: r, x, y => by
    have h := compactL_snoc (l := b :: r) (x := x) (y := y)
    have e1 : ∀ t : List α, compactL (a :: b :: t) = if a = b then compactL (b :: t) else a :: compactL (b :: t) := fun t => by simp [compactL]
    simp only [List.cons_append] at h ⊢
    rw [e1, e1, h]
    split <;> split <;> rfl
end

/-- One angle stands below another. -/
def below_ (p q : Nat × Nat) : Prop := cmpP p q < 0
theorem below_irr (p : Nat × Nat) : ¬ below_ p p := by unfold below_; rw [cmpP_refl]; omega

/-- Where an angle would stand: from the right. -/
def posR (out : List (Nat × Nat)) (x : Nat × Nat) : Nat → Nat
  | 0 => 0
  | k + 1 => if 0 < cmpP (out.getD k (0, 0)) x then posR out x k else k + 1
theorem posR_le (out : List (Nat × Nat)) (x : Nat × Nat) : ∀ k, posR out x k ≤ k
  | 0 => Nat.le_refl _
  | k + 1 => by
    rw [posR]
    split
    · have := posR_le out x k; omega
    · exact Nat.le_refl _
/-- What stands right of it is above it. -/
theorem posR_right (out : List (Nat × Nat)) (x : Nat × Nat) : ∀ k i, posR out x k ≤ i → i < k → 0 < cmpP (out.getD i (0, 0)) x
  | 0, i, _, h => by omega
  | k + 1, i, h1, h2 => by
    rw [posR] at h1
    split at h1
    · rename_i h
      by_cases e : i = k
      · rw [e]; exact h
      · exact posR_right out x k i h1 (by omega)
    · omega
theorem posR_stop (out : List (Nat × Nat)) (x : Nat × Nat) : ∀ k, 0 < posR out x k → ¬ 0 < cmpP (out.getD (posR out x k - 1) (0, 0)) x
  | 0, h => by cases h
  | k + 1, h => by
    rw [posR] at h ⊢
    split
    · rename_i h2
      rw [if_pos h2] at h
      exact posR_stop out x k h
    · rename_i h2
      simpa using h2
/-- An angle is laid among others. -/
def insR (out : List (Nat × Nat)) (x : Nat × Nat) : List (Nat × Nat) :=
  if 0 < posR out x out.length ∧ out.getD (posR out x out.length - 1) (0, 0) = x then out else out.take (posR out x out.length) ++ x :: out.drop (posR out x out.length)
/-- Angles, each once, by size. -/
def riseL (l : List (Nat × Nat)) : List (Nat × Nat) := l.foldl insR []
theorem insR_mem {out : List (Nat × Nat)} {x y : Nat × Nat} : y ∈ insR out x ↔ y = x ∨ y ∈ out := by
  unfold insR
  have hp := posR_le out x out.length
  split
  · rename_i h
    obtain ⟨h1, h2⟩ := h
    have hx : x ∈ out := by
      rw [← h2, List.getD_eq_getElem?_getD, List.getElem?_eq_getElem (by omega)]
      exact List.getElem_mem _
    exact ⟨.inr, fun h => h.elim (fun e => by rw [e]; exact hx) id⟩
  · rw [List.mem_append, List.mem_cons]
    have h3 : y ∈ out ↔ y ∈ out.take (posR out x out.length) ∨ y ∈ out.drop (posR out x out.length) := by
      rw [← List.mem_append, List.take_append_drop]
    rw [h3]
    constructor
    · rintro (h | h | h)
      · exact .inr (.inl h)
      · exact .inl h
      · exact .inr (.inr h)
    · rintro (h | h | h)
      · exact .inr (.inl h)
      · exact .inl h
      · exact .inr (.inr h)
theorem riseL_mem {l : List (Nat × Nat)} {y : Nat × Nat} : y ∈ riseL l ↔ y ∈ l := by
  have h : ∀ (l out : List (Nat × Nat)), y ∈ l.foldl insR out ↔ y ∈ out ∨ y ∈ l := by
    intro l
    induction l with
    | nil => intro out; simp
    | cons a r ih =>
      intro out
      rw [List.foldl_cons, ih, insR_mem, List.mem_cons]
      constructor
      · rintro ((h | h) | h)
        · exact .inr (.inl h)
        · exact .inl h
        · exact .inr (.inr h)
      · rintro (h | h | h)
        · exact .inl (.inr h)
        · exact .inl (.inl h)
        · exact .inr h
  unfold riseL
  rw [h]
  simp
theorem insR_rises {out : List (Nat × Nat)} {x : Nat × Nat} (hx : Ang x) (ho : ∀ y, y ∈ out → Ang y) (h : Rises below_ out) : Rises below_ (insR out x) := by
  have hp := posR_le out x out.length
  unfold insR
  split
  · exact h
  · rename_i hno
    have hd : out.take (posR out x out.length) ++ out.drop (posR out x out.length) = out := List.take_append_drop _ _
    obtain ⟨p, hpe⟩ : ∃ p, p = posR out x out.length := ⟨_, rfl⟩
    have hgt : ∀ y, y ∈ out.drop p → below_ x y := fun y hy => by
      obtain ⟨i, hi, e⟩ := List.mem_iff_getElem.1 hy
      rw [List.length_drop] at hi
      have h1 := posR_right out x out.length (p + i) (by omega) (by omega)
      rw [List.getD_eq_getElem?_getD, List.getElem?_eq_getElem (show p + i < out.length by omega)] at h1
      rw [List.getElem_drop] at e
      simp only [Option.getD_some] at h1
      rw [e] at h1
      unfold below_
      rw [cmpP_anti]
      exact h1
    have hlt : ∀ y, y ∈ out.take p → below_ y x := fun y hy => by
      have hp0 : 0 < p := by
        rcases Nat.eq_zero_or_pos p with e | e
        · rw [e] at hy; simp at hy
        · exact e
      have hlast : p - 1 < out.length := by omega
      have h1 := posR_stop out x out.length (by omega)
      rw [← hpe] at h1 hno
      have hg : out.getD (p - 1) (0, 0) = out[p - 1] := by rw [List.getD_eq_getElem?_getD, List.getElem?_eq_getElem hlast]; rfl
      rw [hg] at h1 hno
      have hz : below_ out[p - 1] x := by
        have hne : out[p - 1] ≠ x := fun e => hno ⟨hp0, e⟩
        have hA := ho _ (List.getElem_mem hlast)
        rcases cmpP_bd out[p - 1] x with e | e | e
        · unfold below_; omega
        · exact absurd ((cmpP_eq hA hx).1 e) hne
        · omega
      obtain ⟨i, hi, e⟩ := List.mem_iff_getElem.1 hy
      rw [List.length_take] at hi
      rw [List.getElem_take] at e
      rw [← e]
      by_cases ei : i = p - 1
      · subst ei; exact hz
      · exact cmpP_trans (ho _ (List.getElem_mem hlast)).pos hx.pos (List.pairwise_iff_getElem.1 h i (p - 1) (by omega) hlast (by omega)) hz
    rw [← hpe] at hd ⊢
    have h2 : (out.take p ++ out.drop p).Pairwise below_ := by rw [hd]; exact h
    obtain ⟨a1, a2, a3⟩ := List.pairwise_append.1 h2
    refine List.pairwise_append.2 ⟨a1, List.pairwise_cons.2 ⟨hgt, a2⟩, fun y hy z hz => ?_⟩
    rcases List.mem_cons.1 hz with e | e
    · rw [e]; exact hlt y hy
    · exact a3 y hy z e
theorem riseL_rises {l : List (Nat × Nat)} (hl : ∀ y, y ∈ l → Ang y) : Rises below_ (riseL l) := by
  have h : ∀ (l out : List (Nat × Nat)), (∀ y, y ∈ l → Ang y) → (∀ y, y ∈ out → Ang y) → Rises below_ out → Rises below_ (l.foldl insR out) := by
    intro l
    induction l with
    | nil => intro out _ _ h; exact h
    | cons a r ih =>
      intro out h1 h2 h3
      rw [List.foldl_cons]
      have ha := h1 a (List.mem_cons_self ..)
      refine ih _ (fun y hy => h1 y (List.mem_cons_of_mem _ hy)) (fun y hy => ?_) (insR_rises ha h2 h3)
      rcases insR_mem.1 hy with e | e
      · rw [e]; exact ha
      · exact h2 y e
  exact h l [] hl (fun y hy => by cases hy) List.Pairwise.nil
end Go.Proofs.Ytoaggmegmgdgbaa
