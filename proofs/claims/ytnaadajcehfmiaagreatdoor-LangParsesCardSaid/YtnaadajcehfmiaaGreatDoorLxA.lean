/- Lang: the tokens of a text, plainly. -/
import Derived.Test.YtnaadajcehfmiaaGreatDoorLxB
namespace Go.Proofs.YtnaadajcehfmiaaGreatDoor

def digB (b : Nat) : Bool := decide (48 ≤ b ∧ b ≤ 57)
def letB (b : Nat) : Bool := decide (97 ≤ b ∧ b ≤ 122)
def blkB (b : Nat) : Bool := b == 32 || b == 9 || b == 10 || b == 13
def sgnB (b : Nat) : Bool := b == 43 || b == 45 || b == 42 || b == 47 || b == 94 || b == 40 || b == 41 || b == 61 || b == 59
def wrdB (b : Nat) : Bool := letB b || digB b

/-- How many bytes ahead are such. -/
def runL (p : Nat → Bool) : List Nat → Nat
  | [] => 0
  | b :: l => if p b then runL p l + 1 else 0
/-- How many bytes are blanks or lie in notes (nt: in a note). -/
def skipL : Bool → List Nat → Nat
  | _, [] => 0
  | nt, b :: l => if nt then (if b = 10 then skipL false l + 1 else skipL true l + 1) else if blkB b then skipL false l + 1 else if b = 35 then skipL true l + 1 else 0
/-- Where the run that begins at i ends. -/
def runT (p : Nat → Bool) (s : List Nat) (i : Nat) : Nat := i + runL p (s.drop i)
def skipT (nt : Bool) (s : List Nat) (i : Nat) : Nat := i + skipL nt (s.drop i)

section
variable {p : Nat → Bool} {s : List Nat} {i b : Nat} {nt : Bool}
theorem drop_at (h : s[i]? = some b) : s.drop i = b :: s.drop (i + 1) := by
  obtain ⟨hi, e⟩ := List.getElem?_eq_some_iff.1 h
  rw [List.drop_eq_getElem_cons hi, e]
theorem drop_none (h : s[i]? = none) : s.drop i = [] := List.drop_eq_nil_of_le (List.getElem?_eq_none_iff.1 h)
theorem runT_step (h : s[i]? = some b) (hp : p b = true) : runT p s i = runT p s (i + 1) := by
  unfold runT
  rw [drop_at h, runL, if_pos hp]; omega
theorem runT_stop (h : s[i]? = some b) (hp : p b = false) : runT p s i = i := by
  unfold runT
  rw [drop_at h, runL, if_neg (by rw [hp]; exact Bool.false_ne_true)]; rfl
theorem runT_end (h : s[i]? = none) : runT p s i = i := by
  unfold runT
  rw [drop_none h, runL]; rfl
theorem runL_le (l : List Nat) : runL p l ≤ l.length := by
  induction l with
  | nil => exact Nat.le_refl _
  | cons b l ih =>
    rw [runL, List.length_cons]
    split <;> omega
theorem skipL_le (l : List Nat) : ∀ nt, skipL nt l ≤ l.length := by
  induction l with
  | nil => intro nt; cases nt <;> exact Nat.le_refl _
  | cons b l ih =>
    intro nt
    have h1 := ih false
    have h2 := ih true
    rw [skipL, List.length_cons]
    split <;> split <;> (try split) <;> omega
theorem runT_le (h : i ≤ s.length) : runT p s i ≤ s.length := by
  have := runL_le (p := p) (s.drop i)
  rw [List.length_drop] at this
  unfold runT; omega
theorem runT_ge : i ≤ runT p s i := by unfold runT; omega
theorem skipT_le (h : i ≤ s.length) : skipT nt s i ≤ s.length := by
  have := skipL_le (s.drop i) nt
  rw [List.length_drop] at this
  unfold skipT; omega
theorem skipT_ge : i ≤ skipT nt s i := by unfold skipT; omega
theorem skipT_blk (h : s[i]? = some b) (hb : blkB b = true) : skipT false s i = skipT false s (i + 1) := by
  unfold skipT
  rw [drop_at h, skipL, if_neg Bool.false_ne_true, if_pos hb]; omega
theorem skipT_note (h : s[i]? = some 35) : skipT false s i = skipT true s i := by
  unfold skipT
  rw [drop_at h, skipL, if_neg Bool.false_ne_true, if_neg (by decide), if_pos rfl, skipL, if_pos rfl, if_neg (by decide)]
theorem skipT_in (h : s[i]? = some b) (hb : b ≠ 10) : skipT true s i = skipT true s (i + 1) := by
  unfold skipT
  rw [drop_at h, skipL, if_pos rfl, if_neg hb]; omega
theorem skipT_nl (h : s[i]? = some 10) : skipT true s i = skipT false s i := by
  unfold skipT
  rw [drop_at h, skipL, if_pos rfl, if_pos rfl, skipL, if_neg Bool.false_ne_true, if_pos (by decide)]
theorem skipT_end (h : s[i]? = none) : skipT nt s i = i := by
  unfold skipT
  rw [drop_none h, skipL]; rfl
theorem skipT_stop (h : s[i]? = some b) (hb : blkB b = false) (h35 : b ≠ 35) : skipT false s i = i := by
  unfold skipT
  rw [drop_at h, skipL, if_neg Bool.false_ne_true, if_neg (by rw [hb]; exact Bool.false_ne_true), if_neg h35]; rfl
end

/-- Behind a point: where the digits end; no digits: nowhere. -/
def fracT (s : List Nat) (i : Nat) : Option Nat := if s[i]? = some 46 then (if runT digB s (i + 1) = i + 1 then none else some (runT digB s (i + 1))) else some i
/-- Where the digits behind an e begin. -/
def sigT (s : List Nat) (i : Nat) : Nat := if s[i]? = some 43 ∨ s[i]? = some 45 then i + 1 else i
def expT (s : List Nat) (i : Nat) : Option Nat :=
  if s[i]? = some 101 then (if 1 ≤ runT digB s (sigT s (i + 1)) - sigT s (i + 1) ∧ runT digB s (sigT s (i + 1)) - sigT s (i + 1) ≤ 4 then some (runT digB s (sigT s (i + 1))) else none) else some i
def numT (s : List Nat) (i : Nat) : Option Nat := (fracT s (runT digB s i)).bind (expT s)
/-- Where the token that begins at i ends; none: no token begins there. -/
def tokT (s : List Nat) (i : Nat) : Option Nat :=
  match s[i]? with
  | none => some i
  | some b => if digB b then numT s i else if letB b then (if runT wrdB s i - i ≤ 16 then some (runT wrdB s i) else none) else if sgnB b then some (i + 1) else none

theorem fracT_some {s : List Nat} {i k : Nat} (h : fracT s i = some k) : i ≤ k := by
  unfold fracT at h
  split at h
  · split at h
    · cases h
    · injection h with h; have := runT_ge (p := digB) (s := s) (i := i + 1); omega
  · injection h with h; omega
theorem sigT_ge {s : List Nat} {i : Nat} : i ≤ sigT s i ∧ sigT s i ≤ i + 1 := by unfold sigT; split <;> omega
theorem expT_some {s : List Nat} {i k : Nat} (h : expT s i = some k) : i ≤ k := by
  unfold expT at h
  split at h
  · split at h
    · injection h with h
      have h1 := runT_ge (p := digB) (s := s) (i := sigT s (i + 1))
      have h2 := sigT_ge (s := s) (i := i + 1)
      omega
    · cases h
  · injection h with h; omega
theorem lt_of_some {s : List Nat} {i b : Nat} (h : s[i]? = some b) : i < s.length := (List.getElem?_eq_some_iff.1 h).1
theorem sigT_le {s : List Nat} {i : Nat} (h : i ≤ s.length) : sigT s i ≤ s.length := by
  unfold sigT
  split
  · rename_i h1
    rcases h1 with h1 | h1 <;> (have := lt_of_some h1; omega)
  · exact h
theorem fracT_le {s : List Nat} {i k : Nat} (h : fracT s i = some k) (hi : i ≤ s.length) : k ≤ s.length := by
  unfold fracT at h
  split at h
  · rename_i h1
    split at h
    · cases h
    · injection h with h
      have := runT_le (p := digB) (s := s) (i := i + 1) (by have := lt_of_some h1; omega)
      omega
  · injection h with h; omega
theorem expT_le {s : List Nat} {i k : Nat} (h : expT s i = some k) (hi : i ≤ s.length) : k ≤ s.length := by
  unfold expT at h
  split at h
  · rename_i h1
    split at h
    · injection h with h
      have h3 := runT_le (p := digB) (s := s) (i := sigT s (i + 1)) (sigT_le (by have := lt_of_some h1; omega))
      omega
    · cases h
  · injection h with h; omega
theorem numT_bounds {s : List Nat} {i k : Nat} (h : numT s i = some k) (hi : i ≤ s.length) : runT digB s i ≤ k ∧ k ≤ s.length := by
  unfold numT at h
  rcases hf : fracT s (runT digB s i) with _ | m
  · rw [hf] at h; cases h
  · rw [hf] at h
    have h : expT s m = some k := h
    have h1 := fracT_some hf
    have h2 := expT_some h
    exact ⟨by omega, expT_le h (fracT_le hf (runT_le hi))⟩
/-- A token that begins ahead of the end has bytes, and ends ahead of it. -/
theorem tokT_bounds {s : List Nat} {i k : Nat} (h : tokT s i = some k) (hi : i < s.length) : i < k ∧ k ≤ s.length := by
  unfold tokT at h
  have hb : s[i]? = some s[i] := List.getElem?_eq_getElem hi
  rw [hb] at h
  simp only at h
  by_cases hd : digB s[i] = true
  · rw [if_pos hd] at h
    have h1 := numT_bounds h (Nat.le_of_lt hi)
    have h2 := runT_step (p := digB) hb hd
    have h3 := runT_ge (p := digB) (s := s) (i := i + 1)
    omega
  · rw [if_neg hd] at h
    by_cases hl : letB s[i] = true
    · rw [if_pos hl] at h
      have h2 := runT_step (p := wrdB) hb (by unfold wrdB; rw [hl]; rfl)
      have h3 := runT_ge (p := wrdB) (s := s) (i := i + 1)
      have h4 := runT_le (p := wrdB) (s := s) (i := i) (Nat.le_of_lt hi)
      split at h
      · injection h with h; omega
      · cases h
    · rw [if_neg hl] at h
      split at h
      · injection h with h; omega
      · cases h

/-- A token: where it begins, its bytes. -/
structure Tok where
  at_ : Nat
  text : List Nat
/-- The bytes from i to k. -/
def cutL (s : List Nat) (i k : Nat) : List Nat := (s.drop i).take (k - i)
theorem cutL_len {s : List Nat} {i k : Nat} (h : k ≤ s.length) : (cutL s i k).length = k - i := by
  unfold cutL
  rw [List.length_take, List.length_drop]; omega
/-- The tokens from i on, where they end, and whether there is what is no token. -/
inductive Lx (s : List Nat) : Nat → List Tok → Nat → Bool → Prop
  | done {i : Nat} (h : skipT false s i = s.length) : Lx s i [] s.length false
  | bad {i : Nat} (h : skipT false s i < s.length) (ht : tokT s (skipT false s i) = none) : Lx s i [] (skipT false s i) true
  | tok {i k : Nat} {T : List Tok} {l : Nat} {b : Bool} (h : skipT false s i < s.length) (ht : tokT s (skipT false s i) = some k) (hn : Lx s k T l b) : Lx s i (⟨skipT false s i, cutL s (skipT false s i) k⟩ :: T) l b
/-- Every token has bytes; it lies ahead of the end. -/
theorem Lx.ne {s : List Nat} {i : Nat} {T : List Tok} {l : Nat} {b : Bool} (h : Lx s i T l b) : ∀ t, t ∈ T → t.text ≠ [] ∧ t.text.length ≤ s.length ∧ t.at_ < s.length ∧ (∃ k, t.text = cutL s t.at_ k ∧ k ≤ s.length ∧ t.at_ ≤ k) := by
  induction h with
  | done => intro t ht; cases ht
  | bad => intro t ht; cases ht
  | @tok i k T l b h ht hn ih =>
    intro t hm
    rcases List.mem_cons.1 hm with rfl | hm
    · have h3 := tokT_bounds ht h
      have h4 := cutL_len (i := skipT false s i) h3.2
      refine ⟨fun e => ?_, by simp only; omega, h, _, rfl, h3.2, by simp only; omega⟩
      simp only at e
      rw [e] at h4
      simp at h4
      omega
    · exact ih t hm
theorem Lx.last {s : List Nat} {i : Nat} {T : List Tok} {l : Nat} {b : Bool} (h : Lx s i T l b) : l ≤ s.length := by
  induction h with
  | done => exact Nat.le_refl _
  | bad h => exact Nat.le_of_lt h
  | tok _ _ _ ih => exact ih
end Go.Proofs.YtnaadajcehfmiaaGreatDoor
