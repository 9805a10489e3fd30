/- Lang: each part is another one's just once. -/
import Derived.Test.YtnaadajcehfmiaaDoorLpD
namespace Go.Proofs.YtnaadajcehfmiaaDoor

instance : Inhabited Nod := ⟨⟨0, [], 0, 0, 0⟩⟩
def bmp (U : List Nat) (k : Nat) : List Nat := U.set k (U[k]! + 1)
def stU (U : List Nat) (r : Nod) : List Nat :=
  if 6 ≤ r.kind ∧ r.kind ≤ 9 then bmp (bmp U r.a) r.b else if r.kind = 5 ∨ r.kind = 10 then bmp U r.a else U
def usU (U : List Nat) (N : List Nod) : List Nat := N.foldl stU U
theorem bmp_len (U : List Nat) (k : Nat) : (bmp U k).length = U.length := List.length_set
theorem stU_len (U : List Nat) (r : Nod) : (stU U r).length = U.length := by
  unfold stU
  (repeat' split) <;> simp [bmp_len]
theorem usU_len (N : List Nod) : ∀ U : List Nat, (usU U N).length = U.length := by
  induction N with
  | nil => intro U; rfl
  | cons r N ih => intro U; show (usU (stU U r) N).length = _; rw [ih, stU_len]
theorem usU_app (U : List Nat) (N M : List Nod) : usU U (N ++ M) = usU (usU U N) M := List.foldl_append
theorem bmp_ne {U : List Nat} {k j : Nat} (h : j ≠ k) : (bmp U k)[j]! = U[j]! := get_set_ne h
theorem bmp_eq {U : List Nat} {k : Nat} (h : k < U.length) : (bmp U k)[k]! = U[k]! + 1 := get_set_eq h
/-- None is great. -/
theorem bmp_le {U : List Nat} {k c : Nat} (h : ∀ j : Nat, U[j]! ≤ c) : ∀ j : Nat, (bmp U k)[j]! ≤ c + 1 := by
  intro j
  by_cases hj : j = k
  · subst hj
    unfold bmp
    rw [List.getElem!_eq_getElem?_getD, List.getElem?_set]
    have hj := h j
    rw [if_pos rfl]
    split
    · show U[j]! + 1 ≤ _; omega
    · show 0 ≤ _; omega
  · rw [bmp_ne hj]; have := h j; omega
theorem stU_le {U : List Nat} {r : Nod} {c : Nat} (h : ∀ j : Nat, U[j]! ≤ c) : ∀ j : Nat, (stU U r)[j]! ≤ c + 2 := by
  intro j
  unfold stU
  split
  · exact bmp_le (bmp_le h) j
  · split
    · have := bmp_le (k := r.a) h j; omega
    · have := h j; omega
theorem usU_le : ∀ (N : List Nod) (U : List Nat) (c : Nat), (∀ j : Nat, U[j]! ≤ c) → ∀ j : Nat, (usU U N)[j]! ≤ c + 2 * N.length
  | [], U, c, h, j => by have := h j; simpa [usU] using this
  | r :: N, U, c, h, j => by
    have := usU_le N (stU U r) (c + 2) (stU_le h) j
    show (usU (stU U r) N)[j]! ≤ _
    rw [List.length_cons]; omega
/-- A tree's parts: all but the last are another one's once. -/
structure UsI (b : Nat) (U U' : List Nat) (e : Ex) : Prop where
  l : U'.length = U.length
  one : ∀ j, b ≤ j → j + 1 < b + e.size → U'[j]! = 1
  r : ∀ j, b + e.size ≤ j + 1 → U'[j]! = 0
  o : ∀ j, j < b → U'[j]! = U[j]!
theorem us_flat {nm : List (List Nat)} : ∀ (e : Ex), OkX nm e → ∀ (b : Nat) (U : List Nat), (∀ j, b ≤ j → U[j]! = 0) → b + e.size ≤ U.length → UsI b U (usU U (e.flat b)) e
  | .num t, _, b, U, hU, _ => ⟨rfl, fun j h1 h2 => by have h2 : j + 1 < b + 1 := h2; omega, fun j h => hU j (by have h : b + 1 ≤ j + 1 := h; omega), fun _ _ => rfl⟩
  | .i, _, b, U, hU, _ => ⟨rfl, fun j h1 h2 => by have h2 : j + 1 < b + 1 := h2; omega, fun j h => hU j (by have h : b + 1 ≤ j + 1 := h; omega), fun _ _ => rfl⟩
  | .z, _, b, U, hU, _ => ⟨rfl, fun j h1 h2 => by have h2 : j + 1 < b + 1 := h2; omega, fun j h => hU j (by have h : b + 1 ≤ j + 1 := h; omega), fun _ _ => rfl⟩
  | .name t, _, b, U, hU, _ => ⟨rfl, fun j h1 h2 => by have h2 : j + 1 < b + 1 := h2; omega, fun j h => hU j (by have h : b + 1 ≤ j + 1 := h; omega), fun _ _ => rfl⟩
  | .neg e, ho, b, U, hU, hl => by
    have hp := e.size_pos
    have hl' : b + (e.size + 1) ≤ U.length := hl
    have h1 := us_flat e ho b U hU (by omega)
    have e0 : usU U ((Ex.neg e).flat b) = bmp (usU U (e.flat b)) (b + e.size - 1) := by
      show usU U (e.flat b ++ [⟨5, [], b + e.size - 1, 0, 0⟩]) = _
      rw [usU_app]; rfl
    rw [e0]
    refine ⟨by rw [bmp_len, h1.l], fun j h2 h3 => ?_, fun j h2 => ?_, fun j h2 => ?_⟩
    · have h3 : j + 1 < b + (e.size + 1) := h3
      by_cases hj : j = b + e.size - 1
      · subst hj
        rw [bmp_eq (by rw [h1.l]; omega), h1.r _ (by omega)]
      · rw [bmp_ne hj]; exact h1.one j h2 (by omega)
    · have h2 : b + (e.size + 1) ≤ j + 1 := h2
      rw [bmp_ne (by omega)]; exact h1.r j (by omega)
    · rw [bmp_ne (by omega)]; exact h1.o j h2
  | .pow e n, ho, b, U, hU, hl => by
    have hp := e.size_pos
    have hl' : b + (e.size + 1) ≤ U.length := hl
    have h1 := us_flat e ho.1 b U hU (by omega)
    have e0 : usU U ((Ex.pow e n).flat b) = bmp (usU U (e.flat b)) (b + e.size - 1) := by
      show usU U (e.flat b ++ [⟨10, [], b + e.size - 1, 0, n⟩]) = _
      rw [usU_app]; rfl
    rw [e0]
    refine ⟨by rw [bmp_len, h1.l], fun j h2 h3 => ?_, fun j h2 => ?_, fun j h2 => ?_⟩
    · have h3 : j + 1 < b + (e.size + 1) := h3
      by_cases hj : j = b + e.size - 1
      · subst hj
        rw [bmp_eq (by rw [h1.l]; omega), h1.r _ (by omega)]
      · rw [bmp_ne hj]; exact h1.one j h2 (by omega)
    · have h2 : b + (e.size + 1) ≤ j + 1 := h2
      rw [bmp_ne (by omega)]; exact h1.r j (by omega)
    · rw [bmp_ne (by omega)]; exact h1.o j h2
  | .bin k x y, ho, b, U, hU, hl => by
    have hpx := x.size_pos
    have hpy := y.size_pos
    have hl' : b + (x.size + y.size + 1) ≤ U.length := hl
    have h1 := us_flat x ho.2.1 b U hU (by omega)
    have h2 := us_flat y ho.2.2 (b + x.size) (usU U (x.flat b)) (fun j hj => h1.r j (by omega)) (by rw [h1.l]; omega)
    have e0 : usU U ((Ex.bin k x y).flat b) = bmp (bmp (usU (usU U (x.flat b)) (y.flat (b + x.size))) (b + x.size - 1)) (b + x.size + y.size - 1) := by
      show usU U (x.flat b ++ y.flat (b + x.size) ++ [⟨k, [], b + x.size - 1, b + x.size + y.size - 1, 0⟩]) = _
      rw [usU_app, usU_app]
      show stU _ _ = _
      unfold stU
      rw [if_pos ho.1]
    rw [e0]
    have hox := h2.o (b + x.size - 1) (by omega)
    rw [h1.r _ (by omega)] at hox
    refine ⟨by rw [bmp_len, bmp_len, h2.l, h1.l], fun j h3 h4 => ?_, fun j h3 => ?_, fun j h3 => ?_⟩
    · have h4 : j + 1 < b + (x.size + y.size + 1) := h4
      by_cases hj : j = b + x.size + y.size - 1
      · subst hj
        rw [bmp_eq (by rw [bmp_len, h2.l, h1.l]; omega), bmp_ne (by omega), h2.r _ (by omega)]
      · rw [bmp_ne hj]
        by_cases hj2 : j = b + x.size - 1
        · subst hj2
          rw [bmp_eq (by rw [h2.l, h1.l]; omega), hox]
        · rw [bmp_ne hj2]
          rcases Nat.lt_or_ge j (b + x.size) with h5 | h5
          · rw [h2.o j h5]; exact h1.one j h3 (by omega)
          · exact h2.one j h5 (by omega)
    · have h3 : b + (x.size + y.size + 1) ≤ j + 1 := h3
      rw [bmp_ne (by omega), bmp_ne (by omega)]; exact h2.r j (by omega)
    · rw [bmp_ne (by omega), bmp_ne (by omega), h2.o j (by omega)]; exact h1.o j h3
/-- The lets' parts are named once. -/
def ltU (U : List Nat) (L : List (List Nat × Nat)) : List Nat := L.foldl (fun U l => bmp U l.2) U
theorem ltU_len (L : List (List Nat × Nat)) : ∀ U : List Nat, (ltU U L).length = U.length := by
  induction L with
  | nil => intro U; rfl
  | cons l L ih => intro U; show (ltU (bmp U l.2) L).length = _; rw [ih, bmp_len]
theorem ltU_le : ∀ (L : List (List Nat × Nat)) (U : List Nat) (c : Nat), (∀ j : Nat, U[j]! ≤ c) → ∀ j : Nat, (ltU U L)[j]! ≤ c + L.length
  | [], U, c, h, j => by have := h j; simpa [ltU] using this
  | l :: L, U, c, h, j => by
    have := ltU_le L (bmp U l.2) (c + 1) (bmp_le h) j
    show (ltU (bmp U l.2) L)[j]! ≤ _
    rw [List.length_cons]; omega
theorem ltU_ne : ∀ (L : List (List Nat × Nat)) (U : List Nat) (j : Nat), (∀ l, l ∈ L → l.2 ≠ j) → (ltU U L)[j]! = U[j]!
  | [], _, _, _ => rfl
  | l :: L, U, j, h => by
    show (ltU (bmp U l.2) L)[j]! = _
    rw [ltU_ne L _ j (fun k hk => h k (by simp [hk])), bmp_ne (fun e => h l (by simp) e.symm)]
theorem letsD_ge : ∀ (D : List (List Nat × Ex)) (b : Nat), ∀ l, l ∈ letsD D b → b ≤ l.2 ∧ l.2 < b + sizeD D
  | [], _, l, hl => by cases hl
  | (n, e) :: D, b, l, hl => by
    have hp := e.size_pos
    rcases List.mem_cons.1 hl with rfl | hl
    · show b ≤ b + e.size - 1 ∧ b + e.size - 1 < b + (e.size + sizeD D)
      omega
    · have := letsD_ge D (b + e.size) l hl
      show b ≤ l.2 ∧ l.2 < b + (e.size + sizeD D)
      omega
theorem us_all {x : Ex} : ∀ (D : List (List Nat × Ex)) (nm : List (List Nat)) (b : Nat) (U : List Nat), OkD nm x D → (∀ j, b ≤ j → U[j]! = 0) → b + (sizeD D + x.size) ≤ U.length →
    (∀ j, b ≤ j → j + 1 < b + (sizeD D + x.size) → (usU U (flatD D b ++ x.flat (b + sizeD D)))[j]! + (if ∃ l, l ∈ letsD D b ∧ l.2 = j then 1 else 0) = 1) ∧
    (∀ j, b + (sizeD D + x.size) ≤ j + 1 → (usU U (flatD D b ++ x.flat (b + sizeD D)))[j]! = 0) ∧ (∀ j, j < b → (usU U (flatD D b ++ x.flat (b + sizeD D)))[j]! = U[j]!)
  | [], nm, b, U, ho, hU, hl => by
    have hz : sizeD [] = 0 := rfl
    have h1 := us_flat x ho.1 b U hU (by omega)
    have e : flatD [] b ++ x.flat (b + sizeD []) = x.flat b := rfl
    rw [e]
    refine ⟨fun j h2 h3 => ?_, fun j h2 => h1.r j (by omega), h1.o⟩
    rw [if_neg (by rintro ⟨l, hl, -⟩; cases hl)]
    exact h1.one j h2 (by omega)
  | (n, e) :: D, nm, b, U, ⟨⟨o1, o2, o3, o4, o5⟩, o6⟩, hU, hl => by
    have hp := e.size_pos
    have hpx := x.size_pos
    have hz : sizeD ((n, e) :: D) = e.size + sizeD D := rfl
    have h1 := us_flat e o4 b U hU (by omega)
    obtain ⟨h2, h3, h4⟩ := us_all D (nm ++ [n]) (b + e.size) (usU U (e.flat b)) o6 (fun j hj => h1.r j (by omega)) (by rw [h1.l]; omega)
    have e0 : usU U (flatD ((n, e) :: D) b ++ x.flat (b + sizeD ((n, e) :: D))) = usU (usU U (e.flat b)) (flatD D (b + e.size) ++ x.flat (b + e.size + sizeD D)) := by
      show usU U ((e.flat b ++ flatD D (b + e.size)) ++ x.flat (b + (e.size + sizeD D))) = _
      rw [List.append_assoc, usU_app, ← Nat.add_assoc]
    rw [e0]
    refine ⟨fun j h5 h6 => ?_, fun j h5 => h3 j (by omega), fun j h5 => by rw [h4 j (by omega)]; exact h1.o j h5⟩
    rcases Nat.lt_or_ge j (b + e.size) with h7 | h7
    · rw [h4 j h7]
      by_cases hj : j = b + e.size - 1
      · rw [h1.r j (by omega), if_pos ⟨(n, b + e.size - 1), List.mem_cons_self .., hj.symm⟩]
      · rw [h1.one j h5 (by omega), if_neg]
        rintro ⟨l, hl, hlj⟩
        rcases List.mem_cons.1 hl with rfl | hl
        · exact hj hlj.symm
        · have := letsD_ge D (b + e.size) l hl; omega
    · have h8 := h2 j h7 (by omega)
      have hiff : (∃ l, l ∈ letsD ((n, e) :: D) b ∧ l.2 = j) ↔ (∃ l, l ∈ letsD D (b + e.size) ∧ l.2 = j) := by
        constructor
        · rintro ⟨l, hl, hlj⟩
          rcases List.mem_cons.1 hl with rfl | hl
          · have hlj : b + e.size - 1 = j := hlj
            omega
          · exact ⟨l, hl, hlj⟩
        · rintro ⟨l, hl, hlj⟩
          exact ⟨l, List.mem_cons_of_mem _ hl, hlj⟩
      by_cases hc : ∃ l, l ∈ letsD D (b + e.size) ∧ l.2 = j
      · rw [if_pos (hiff.2 hc)]; rw [if_pos hc] at h8; exact h8
      · rw [if_neg (fun h => hc (hiff.1 h))]; rw [if_neg hc] at h8; exact h8
theorem ltU_D : ∀ (D : List (List Nat × Ex)) (b : Nat) (U : List Nat) (j : Nat), b + sizeD D ≤ U.length → (ltU U (letsD D b))[j]! = U[j]! + (if ∃ l, l ∈ letsD D b ∧ l.2 = j then 1 else 0)
  | [], b, U, j, h => by
    rw [if_neg (by rintro ⟨l, hl, -⟩; cases hl)]; rfl
  | (n, e) :: D, b, U, j, h => by
    have hp := e.size_pos
    have h' : b + (e.size + sizeD D) ≤ U.length := h
    show (ltU (bmp U (b + e.size - 1)) (letsD D (b + e.size)))[j]! = _
    rw [ltU_D D (b + e.size) _ j (by rw [bmp_len]; omega)]
    by_cases hj : j = b + e.size - 1
    · rw [if_neg (by rintro ⟨l, hl, hlj⟩; have := letsD_ge D (b + e.size) l hl; omega), if_pos ⟨(n, b + e.size - 1), List.mem_cons_self .., hj.symm⟩, hj, bmp_eq (by omega)]
    · rw [bmp_ne hj]
      have hiff : (∃ l, l ∈ letsD ((n, e) :: D) b ∧ l.2 = j) ↔ (∃ l, l ∈ letsD D (b + e.size) ∧ l.2 = j) := by
        constructor
        · rintro ⟨l, hl, hlj⟩
          rcases List.mem_cons.1 hl with rfl | hl
          · exact absurd hlj.symm hj
          · exact ⟨l, hl, hlj⟩
        · rintro ⟨l, hl, hlj⟩
          exact ⟨l, List.mem_cons_of_mem _ hl, hlj⟩
      by_cases hc : ∃ l, l ∈ letsD D (b + e.size) ∧ l.2 = j
      · rw [if_pos (hiff.2 hc), if_pos hc]
      · rw [if_neg (fun h => hc (hiff.1 h)), if_neg hc]
/-- What the parts of a text name. -/
structure NdF (N : List Nod) : Prop where
  k : ∀ i, (h : i < N.length) → 1 ≤ N[i].kind ∧ N[i].kind ≤ 10
  b : ∀ i, (h : i < N.length) → 6 ≤ N[i].kind → N[i].kind ≤ 9 → N[i].a < i ∧ N[i].b < i
  a : ∀ i, (h : i < N.length) → (N[i].kind = 5 ∨ N[i].kind = 10) → N[i].a < i
section
variable {D : List (List Nat × Ex)} {x : Ex} {N : List Nod} {L : List (List Nat × Nat)} {m : Nat}
/-- All parts are another one's once. -/
theorem Prg.used (h : Prg D x N L m) : (usU (List.replicate N.length 0) N).length = N.length ∧ (∀ j, j < N.length → (bmp (ltU (usU (List.replicate N.length 0) N) L) m)[j]! = 1) ∧ (∀ l, l ∈ L → l.2 < N.length) ∧ m + 1 = N.length := by
  have hl := h.len
  have hm := h.em
  have hpx := x.size_pos
  have h0 : ∀ j : Nat, (List.replicate N.length 0)[j]! = 0 := fun j => by
    rw [List.getElem!_eq_getElem?_getD, List.getElem?_replicate]
    split <;> rfl
  obtain ⟨h1, h2, h3⟩ := us_all (x := x) D [] 0 (List.replicate N.length 0) h.ok (fun j _ => h0 j) (by rw [List.length_replicate]; omega)
  rw [Nat.zero_add, Nat.zero_add, ← h.eN] at h1 h2
  have hle : (usU (List.replicate N.length 0) N).length = N.length := by rw [usU_len, List.length_replicate]
  have h4 := fun j => ltU_D D 0 (usU (List.replicate N.length 0) N) j (by rw [hle]; omega)
  rw [← h.eL] at h4 h1
  refine ⟨hle, fun j hj => ?_, fun l hL => ?_, by omega⟩
  · by_cases hjm : j = m
    · subst hjm
      rw [bmp_eq (by rw [ltU_len, hle]; omega), h4, h2 j (by omega), if_neg]
      rintro ⟨l, hL, hlj⟩
      rw [h.eL] at hL
      have := letsD_ge D 0 l hL
      omega
    · rw [bmp_ne hjm, h4]
      exact h1 j (Nat.zero_le _) (by omega)
  · rw [h.eL] at hL
    have := letsD_ge D 0 l hL
    omega
theorem ndF_of {N : List Nod} (hw : ∀ i, i < (N.map Nod.raw).length → ((1 ≤ (N.map Nod.raw)[i]!.kind ∧ (N.map Nod.raw)[i]!.kind ≤ 10) ∧ (bndK (N.map Nod.raw)[i]!.kind < 5 → ∃ ka : Nat, (N.map Nod.raw)[i]!.a = (ka : Int) ∧ ka < i) ∧ (bndK (N.map Nod.raw)[i]!.kind < 3 → ∃ kb : Nat, (N.map Nod.raw)[i]!.b = (kb : Int) ∧ kb < i))) : NdF N := by
  have key : ∀ i, (hi : i < N.length) → (N.map Nod.raw)[i]! = N[i].raw := fun i hi => by
    rw [List.getElem!_eq_getElem?_getD, List.getElem?_map, List.getElem?_eq_getElem hi]; rfl
  refine ⟨fun i hi => ?_, fun i hi h6 h9 => ?_, fun i hi hk => ?_⟩
  · have := (hw i (by rw [List.length_map]; exact hi)).1
    rw [key i hi] at this
    exact this
  · have h1 := hw i (by rw [List.length_map]; exact hi)
    rw [key i hi] at h1
    have hb : bndK N[i].raw.kind < 3 := by
      show bndK N[i].kind < 3
      unfold bndK
      split
      · omega
      · rw [if_pos (by omega)]; omega
    obtain ⟨ka, e1, e2⟩ := h1.2.1 (by omega)
    obtain ⟨kb, e3, e4⟩ := h1.2.2 hb
    have e1 : (N[i].a : Int) = (ka : Int) := e1
    have e3 : (N[i].b : Int) = (kb : Int) := e3
    omega
  · have h1 := hw i (by rw [List.length_map]; exact hi)
    rw [key i hi] at h1
    have hb : bndK N[i].raw.kind < 5 := by
      show bndK N[i].kind < 5
      rcases hk with hk | hk <;> (rw [hk]; decide)
    obtain ⟨ka, e1, e2⟩ := h1.2.1 hb
    have e1 : (N[i].a : Int) = (ka : Int) := e1
    omega
end
end Go.Proofs.YtnaadajcehfmiaaDoor
