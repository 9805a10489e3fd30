/- Lang: what is read is written, and read again. -/
import Derived.Test.YtnaadajcehfmiaaDoorLpC
import Derived.Test.YtnaadajcehfmiaaDoorLsA
namespace Go.Proofs.YtnaadajcehfmiaaDoor

def brkP (c : Bool) (f : List Nat → Pcs) (p : List Nat) : Pcs := if c then (p, [40]) :: (f [] ++ [([], [41])]) else f p
def brkB (c : Bool) (C : List Nat) : List Nat := if c then [40] ++ C ++ [41] else C
def spT (ti : Bool) (k : Nat) : List Nat := if ti = true then [] else if k = 6 ∨ k = 7 then [32] else []
/-- The tokens, with the blanks ahead of each. -/
def Ex.pcs (ti : Bool) : Ex → List Nat → Pcs
  | .num t => fun p => [(p, t)]
  | .i => fun p => [(p, [105])]
  | .z => fun p => [(p, [122])]
  | .name t => fun p => [(p, t)]
  | .neg e => fun p => (p, [45]) :: brkP (decide (e.lvl < 3)) (e.pcs ti) []
  | .pow e n => fun p => brkP (decide (e.lvl < 5)) (e.pcs ti) p ++ [([], [94]), ([], digL n)]
  | .bin k x y => fun p => brkP (decide (x.lvl < if k = 6 ∨ k = 7 then 1 else 2)) (x.pcs ti) p ++ (spT ti k, sgT k) :: brkP (decide (y.lvl < if k = 6 ∨ k = 7 then 2 else 3)) (y.pcs ti) (spT ti k)
/-- The bytes. -/
def Ex.byt (ti : Bool) : Ex → List Nat
  | .num t => t
  | .i => [105]
  | .z => [122]
  | .name t => t
  | .neg e => [45] ++ brkB (decide (e.lvl < 3)) (e.byt ti)
  | .pow e n => brkB (decide (e.lvl < 5)) (e.byt ti) ++ [94] ++ digL n
  | .bin k x y => brkB (decide (x.lvl < if k = 6 ∨ k = 7 then 1 else 2)) (x.byt ti) ++ sgnW ti k ++ brkB (decide (y.lvl < if k = 6 ∨ k = 7 then 2 else 3)) (y.byt ti)
theorem brkP_tks {c : Bool} {f : List Nat → Pcs} {p : List Nat} {C : List (List Nat)} (h : ∀ q, (f q).map (·.2) = C) : (brkP c f p).map (·.2) = brk c C := by
  unfold brkP brk
  cases c
  · exact h p
  · show [40] :: (f [] ++ [([], [41])]).map (fun (q : List Nat × List Nat) => q.2) = _
    rw [List.map_append, h]; rfl
theorem Ex.pcs_tks (ti : Bool) : ∀ (e : Ex) (p : List Nat), (e.pcs ti p).map (·.2) = e.tks
  | .num _, _ => rfl
  | .i, _ => rfl
  | .z, _ => rfl
  | .name _, _ => rfl
  | .neg e, p => by
    show [45] :: (brkP _ _ _).map (·.2) = _
    rw [brkP_tks (fun q => Ex.pcs_tks ti e q)]; rfl
  | .pow e n, p => by
    show (brkP _ _ _ ++ _).map (·.2) = _
    rw [List.map_append, brkP_tks (fun q => Ex.pcs_tks ti e q)]; rfl
  | .bin k x y, p => by
    show (brkP _ _ _ ++ _ :: brkP _ _ _).map (·.2) = _
    rw [List.map_append, List.map_cons, brkP_tks (fun q => Ex.pcs_tks ti x q), brkP_tks (fun q => Ex.pcs_tks ti y q)]; rfl
theorem brkP_cat {c : Bool} {f : List Nat → Pcs} {p C : List Nat} (h : ∀ q, catP (f q) = q ++ C) : catP (brkP c f p) = p ++ brkB c C := by
  unfold brkP brkB
  cases c
  · exact h p
  · show p ++ ([40] ++ catP (f [] ++ [([], [41])])) = _
    rw [catP_app, h]
    simp [catP]
theorem sgn_sp {ti : Bool} {k : Nat} (hk : 6 ≤ k ∧ k ≤ 9) : sgnW ti k = spT ti k ++ sgT k ++ spT ti k := by
  have hc : k = 6 ∨ k = 7 ∨ k = 8 ∨ k = 9 := by omega
  rcases hc with rfl | rfl | rfl | rfl <;> cases ti <;> rfl
theorem Ex.pcs_cat (ti : Bool) {nm : List (List Nat)} : ∀ (e : Ex), OkX nm e → ∀ (p : List Nat), catP (e.pcs ti p) = p ++ e.byt ti
  | .num _, _, p => by simp [Ex.pcs, Ex.byt, catP]
  | .i, _, p => by simp [Ex.pcs, Ex.byt, catP]
  | .z, _, p => by simp [Ex.pcs, Ex.byt, catP]
  | .name _, _, p => by simp [Ex.pcs, Ex.byt, catP]
  | .neg e, h, p => by
    show p ++ ([45] ++ catP (brkP _ _ _)) = _
    rw [brkP_cat (fun q => Ex.pcs_cat ti e h q)]
    simp [Ex.byt]
  | .pow e n, h, p => by
    show catP (brkP _ _ _ ++ _) = _
    rw [catP_app, brkP_cat (fun q => Ex.pcs_cat ti e h.1 q)]
    simp [Ex.byt, catP]
  | .bin k x y, h, p => by
    show catP (brkP _ _ _ ++ _ :: brkP _ _ _) = _
    rw [catP_app, brkP_cat (fun q => Ex.pcs_cat ti x h.2.1 q)]
    show _ ++ (spT ti k ++ (sgT k ++ catP (brkP _ _ _))) = _
    rw [brkP_cat (fun q => Ex.pcs_cat ti y h.2.2 q)]
    simp only [Ex.byt, sgn_sp h.1, List.append_assoc]
theorem sg_VT {b : Nat} (h : sgnB b = true) : VT [b] := by
  obtain ⟨h1, h2, -⟩ := sgn_not h
  refine ⟨?_, by simp, fun c hc => ?_⟩
  · unfold tokT
    simp only [List.getElem?_cons_zero]
    rw [if_neg (by rw [h1]; exact Bool.false_ne_true), if_neg (by rw [h2]; exact Bool.false_ne_true), if_pos h]
    rfl
  · rw [List.mem_singleton.1 hc]
    unfold sgnB at h
    simp [or_assoc] at h
    omega
theorem VT_iz {b : Nat} (h : b = 105 ∨ b = 122) : VT [b] := by
  rcases h with rfl | rfl <;> exact ⟨by decide, by simp, fun c hc => by rw [List.mem_singleton.1 hc]; omega⟩
theorem sgT_one {k : Nat} : ∃ b, sgT k = [b] ∧ sgnB b = true := by
  unfold sgT
  split
  · exact ⟨_, rfl, by decide⟩
  · split
    · exact ⟨_, rfl, by decide⟩
    · split <;> exact ⟨_, rfl, by decide⟩
theorem stop_cons {b : Nat} {r : List Nat} (h : wrdB b = false ∧ b ≠ 46) : StopB (b :: r) := fun c hc => by
  have : b = c := by injection hc
  rw [← this]; exact h
theorem stop_sg {b : Nat} {r : List Nat} (h : sgnB b = true) : StopB (b :: r) := stop_cons (sgn_not h).2.2.2.2
theorem stop_nil : StopB [] := fun c hc => by cases hc
theorem sp_blk {ti : Bool} {k : Nat} : ∀ b, b ∈ spT ti k → blkB b = true := by
  intro b hb
  unfold spT at hb
  split at hb
  · cases hb
  · split at hb
    · rw [List.mem_singleton.1 hb]; decide
    · cases hb
theorem stop_sp {ti : Bool} {k : Nat} {r : List Nat} (h : StopB r) : StopB (spT ti k ++ r) := by
  unfold spT
  split
  · exact h
  · split
    · exact stop_cons (by decide)
    · exact h
theorem VT_digL {n : Nat} (h : n ≤ 64) : VT (digL n) := by
  have key : ∀ n : Fin 65, tokT (digL n.1) 0 = some (digL n.1).length := by decide
  refine ⟨key ⟨n, by omega⟩, ?_, byt_digL (by omega)⟩
  unfold digL
  split <;> simp
theorem brkP_ok {c : Bool} {f : List Nat → Pcs} {p r : List Nat} (hp : ∀ b, b ∈ p → blkB b = true) (hr : StopB r) (h : ∀ q r, (∀ b, b ∈ q → blkB b = true) → StopB r → PcOk r (f q)) : PcOk r (brkP c f p) := by
  unfold brkP
  cases c
  · exact h p r hp hr
  · refine ⟨hp, sg_VT (by decide), .inl ⟨40, rfl, by decide⟩, PcOk.app ?_ ⟨fun b hb => (by cases hb), sg_VT (by decide), .inl ⟨41, rfl, by decide⟩, trivial⟩⟩
    exact h [] _ (fun b hb => (by cases hb)) (stop_sg (b := 41) (by decide))
theorem Ex.pcs_ok (ti : Bool) {nm : List (List Nat)} : ∀ (e : Ex), OkX nm e → ∀ (p r : List Nat), (∀ b, b ∈ p → blkB b = true) → StopB r → PcOk r (e.pcs ti p)
  | .num t, h, p, r, hp, hr => ⟨hp, h.2, .inr hr, trivial⟩
  | .i, _, p, r, hp, hr => ⟨hp, VT_iz (by omega), .inr hr, trivial⟩
  | .z, _, p, r, hp, hr => ⟨hp, VT_iz (by omega), .inr hr, trivial⟩
  | .name t, h, p, r, hp, hr => ⟨hp, h.2.1, .inr hr, trivial⟩
  | .neg e, h, p, r, hp, hr => ⟨hp, sg_VT (by decide), .inl ⟨45, rfl, by decide⟩, brkP_ok (fun b hb => (by cases hb)) hr fun q r hq hr => Ex.pcs_ok ti e h q r hq hr⟩
  | .pow e n, h, p, r, hp, hr => by
    refine PcOk.app (brkP_ok hp (stop_sg (b := 94) (by decide)) fun q r hq hr => Ex.pcs_ok ti e h.1 q r hq hr) ?_
    exact ⟨fun b hb => (by cases hb), sg_VT (by decide), .inl ⟨94, rfl, by decide⟩, fun b hb => (by cases hb), VT_digL h.2, .inr hr, trivial⟩
  | .bin k x y, h, p, r, hp, hr => by
    obtain ⟨b, hb, hs⟩ := sgT_one (k := k)
    refine PcOk.app (brkP_ok hp ?_ fun q r hq hr => Ex.pcs_ok ti x h.2.1 q r hq hr) ?_
    · show StopB ((spT ti k ++ (sgT k ++ _)) ++ r)
      rw [List.append_assoc, hb]
      exact stop_sp (stop_sg hs)
    · exact ⟨sp_blk, by show VT (sgT k); rw [hb]; exact sg_VT hs, .inl ⟨b, hb, hs⟩, brkP_ok sp_blk hr fun q r hq hr => Ex.pcs_ok ti y h.2.2 q r hq hr⟩
theorem brkB_len {c : Prop} [Decidable c] {C : List Nat} : (brkB (decide c) C).length = C.length + if c then 2 else 0 := by
  unfold brkB
  by_cases h : c
  · rw [decide_eq_true h, if_pos rfl, if_pos h]; simp
  · rw [decide_eq_false h, if_neg (by simp), if_neg h]; rfl
theorem Ex.byt_len {nm : List (List Nat)} : ∀ e : Ex, OkX nm e → (e.byt true).length = e.wt
  | .num _, _ => rfl
  | .i, _ => rfl
  | .z, _ => rfl
  | .name _, _ => rfl
  | .neg e, h => by
    show ([45] ++ brkB (decide (e.lvl < 3)) (e.byt true)).length = _
    rw [List.length_append, brkB_len, Ex.byt_len e h]; rfl
  | .pow e n, h => by
    show (brkB (decide (e.lvl < 5)) (e.byt true) ++ [94] ++ digL n).length = _
    rw [List.length_append, List.length_append, brkB_len, Ex.byt_len e h.1]; rfl
  | .bin k x y, h => by
    show (brkB (decide (x.lvl < if k = 6 ∨ k = 7 then 1 else 2)) (x.byt true) ++ sgnW true k ++ brkB (decide (y.lvl < if k = 6 ∨ k = 7 then 2 else 3)) (y.byt true)).length = _
    have hs : (sgnW true k).length = 1 := by
      have hk := h.1
      have hc : k = 6 ∨ k = 7 ∨ k = 8 ∨ k = 9 := by omega
      rcases hc with rfl | rfl | rfl | rfl <;> rfl
    rw [List.length_append, List.length_append, brkB_len, brkB_len, Ex.byt_len x h.2.1, Ex.byt_len y h.2.2, hs]; rfl
/-! What is written of parts that lie in a row. -/
def Qc (x y : List Nat) : Prop := x = y ∨ (16384 < x.length ∧ 16384 < y.length)
theorem Qc.app {x y : List Nat} (h : Qc x y) (c : List Nat) : Qc (x ++ c) (y ++ c) := by
  rcases h with rfl | ⟨h1, h2⟩
  · exact .inl rfl
  · exact .inr ⟨by rw [List.length_append]; omega, by rw [List.length_append]; omega⟩
def Ex.root : Ex → Nat → Nod
  | .num t, _ => ⟨1, t, 0, 0, 0⟩
  | .i, _ => ⟨2, [], 0, 0, 0⟩
  | .z, _ => ⟨3, [], 0, 0, 0⟩
  | .name t, _ => ⟨4, t, 0, 0, 0⟩
  | .neg e, b => ⟨5, [], b + e.size - 1, 0, 0⟩
  | .pow e n, b => ⟨10, [], b + e.size - 1, 0, n⟩
  | .bin k x y, b => ⟨k, [], b + x.size - 1, b + x.size + y.size - 1, 0⟩
theorem Ex.flat_root (e : Ex) (b : Nat) : (e.flat b)[e.size - 1]? = some (e.root b) := by
  cases e with
  | neg e => simp [Ex.flat, Ex.size, Ex.root, ← Ex.flat_len e b]
  | pow e n => simp [Ex.flat, Ex.size, Ex.root, ← Ex.flat_len e b]
  | bin k x y =>
    have h : (x.flat b ++ y.flat (b + x.size)).length = x.size + y.size := by rw [List.length_append, Ex.flat_len, Ex.flat_len]
    simp only [Ex.flat, Ex.size, Ex.root, Nat.add_sub_cancel]
    rw [← h, List.getElem?_append_right (Nat.le_refl _)]
    simp
  | _ => rfl
theorem root_at {A B : List RNo} {e : Ex} {b : Nat} (hA : A.length = b) : (A ++ ((e.flat b).map Nod.raw ++ B))[b + e.size - 1]! = (e.root b).raw := by
  have hs := e.size_pos
  have h1 : (A ++ ((e.flat b).map Nod.raw ++ B))[b + e.size - 1]? = some (e.root b).raw := by
    rw [List.getElem?_append_right (by omega), hA, show b + e.size - 1 - b = e.size - 1 by omega, List.getElem?_append_left (by rw [List.length_map, Ex.flat_len]; omega), List.getElem?_map, Ex.flat_root]
    rfl
  rw [List.getElem!_eq_getElem?_getD, h1]
  rfl
theorem root_bnd {nm : List (List Nat)} {e : Ex} (h : OkX nm e) (b : Nat) : bndK (e.root b).raw.kind = e.lvl := by
  cases e with
  | bin k x y =>
    have hk := h.1
    show bndK k = if k = 6 ∨ k = 7 then 1 else 2
    unfold bndK
    split
    · rfl
    · rw [if_pos (by omega)]
  | _ => rfl
theorem Ex.high_size : ∀ e : Ex, e.high ≤ e.size
  | .num _ => Nat.le_refl _
  | .i => Nat.le_refl _
  | .z => Nat.le_refl _
  | .name _ => Nat.le_refl _
  | .neg e => by have := Ex.high_size e; show 1 + e.high ≤ e.size + 1; omega
  | .pow e _ => by have := Ex.high_size e; show 1 + e.high ≤ e.size + 1; omega
  | .bin _ x y => by have := Ex.high_size x; have := Ex.high_size y; show 1 + max x.high y.high ≤ x.size + y.size + 1; omega
def PartQ (N : List RNo) (ti : Bool) (f at_ : Nat) (lv : Nat) (C : List Nat) : Prop := ∀ least x y, Qc x y → Qc (partW N ti f at_ least x) (y ++ brkB (decide (lv < least)) C)
theorem part_step {N : List RNo} {ti : Bool} {f at_ lv : Nat} {C : List Nat} (hb : bndK N[at_]!.kind = lv) (hk : ∀ x y, Qc x y → Qc (kindW (partW N ti f) ti N[at_]! x) (y ++ C)) : PartQ N ti (f + 1) at_ lv C := by
  intro least x y h
  rw [partW]
  by_cases hx : 16384 < x.length
  · rw [if_pos hx]
    refine .inr ⟨hx, ?_⟩
    rw [List.length_append]
    rcases h with rfl | ⟨-, h⟩ <;> omega
  · rw [if_neg hx, hb]
    unfold brkB
    by_cases hl : lv < least
    · rw [if_pos hl, decide_eq_true hl, if_pos rfl]
      have := (hk _ _ (h.app [40])).app [41]
      simp only [List.append_assoc] at this ⊢
      exact this
    · rw [if_neg hl, decide_eq_false hl, if_neg (by simp)]
      exact hk _ _ h
theorem part_byt (ti : Bool) {nm : List (List Nat)} {N : List RNo} : ∀ (e : Ex), OkX nm e → ∀ (f b : Nat) (A B : List RNo), N = A ++ ((e.flat b).map Nod.raw ++ B) → A.length = b → e.high ≤ f → PartQ N ti f (b + e.size - 1) e.lvl (e.byt ti)
  | e, ho, f, b, A, B, hN, hA, hf => by
    have hp := e.high_pos
    rcases f with _ | f
    · omega
    have hr : N[b + e.size - 1]! = (e.root b).raw := by rw [hN]; exact root_at hA
    refine part_step (by rw [hr]; exact root_bnd ho b) ?_
    rw [hr]
    intro x y h
    cases e with
    | num t => exact h.app t
    | i => exact h.app [105]
    | z => exact h.app [122]
    | name t => exact h.app t
    | neg e =>
      have hN2 : N = A ++ ((e.flat b).map Nod.raw ++ ([Nod.raw ⟨5, [], b + e.size - 1, 0, 0⟩] ++ B)) := by rw [hN]; simp [Ex.flat]
      have h1 := part_byt ti e ho f b A _ hN2 hA (by have : 1 + e.high ≤ f + 1 := hf; omega) 3 _ _ (h.app [45])
      rw [List.append_assoc] at h1
      exact h1
    | pow e n =>
      have hN2 : N = A ++ ((e.flat b).map Nod.raw ++ ([Nod.raw ⟨10, [], b + e.size - 1, 0, n⟩] ++ B)) := by rw [hN]; simp [Ex.flat]
      have h1 := part_byt ti e ho.1 f b A _ hN2 hA (by have : 1 + e.high ≤ f + 1 := hf; omega) 5 _ _ h
      have h2 := (h1.app [94]).app (digL n)
      have e1 : y ++ (Ex.pow e n).byt ti = y ++ brkB (decide (e.lvl < 5)) (e.byt ti) ++ [94] ++ digL n := by
        show y ++ (brkB _ _ ++ [94] ++ digL n) = _
        simp only [List.append_assoc]
      rw [e1]
      exact h2
    | bin k u v =>
      have hk := ho.1
      have hN2 : N = A ++ ((u.flat b).map Nod.raw ++ ((v.flat (b + u.size)).map Nod.raw ++ ([Nod.raw ⟨k, [], b + u.size - 1, b + u.size + v.size - 1, 0⟩] ++ B))) := by rw [hN]; simp [Ex.flat]
      have hN3 : N = (A ++ (u.flat b).map Nod.raw) ++ ((v.flat (b + u.size)).map Nod.raw ++ ([Nod.raw ⟨k, [], b + u.size - 1, b + u.size + v.size - 1, 0⟩] ++ B)) := by rw [hN2, List.append_assoc]
      have hf2 : 1 + max u.high v.high ≤ f + 1 := hf
      have h1 := part_byt ti u ho.2.1 f b A _ hN2 hA (by omega) (if k = 6 ∨ k = 7 then 1 else 2) _ _ h
      have h2 := h1.app (sgnW ti k)
      have h3 := part_byt ti v ho.2.2 f (b + u.size) _ _ hN3 (by rw [List.length_append, List.length_map, Ex.flat_len, hA]) (by omega) (if k = 6 ∨ k = 7 then 2 else 3) _ _ h2
      have e1 : kindW (partW N ti f) ti ((Ex.bin k u v).root b).raw x = pairW (partW N ti f) ((Ex.bin k u v).root b).raw (sgnW ti k) (if k = 6 ∨ k = 7 then 1 else 2) x := by
        show kindW (partW N ti f) ti (Nod.raw ⟨k, [], _, _, 0⟩) x = _
        unfold kindW
        have hk2 : (Nod.raw ⟨k, [], b + u.size - 1, b + u.size + v.size - 1, 0⟩).kind = k := rfl
        rw [hk2, if_neg (by omega), if_neg (by omega), if_neg (by omega), if_neg (by omega)]
        split
        · rfl
        · rw [if_pos (by omega)]; rfl
      rw [e1]
      unfold pairW
      have e2 : (if k = 6 ∨ k = 7 then 1 else 2) + 1 = (if k = 6 ∨ k = 7 then 2 else 3) := by split <;> rfl
      rw [e2]
      have e3 : y ++ (Ex.bin k u v).byt ti = y ++ brkB (decide (u.lvl < if k = 6 ∨ k = 7 then 1 else 2)) (u.byt ti) ++ sgnW ti k ++ brkB (decide (v.lvl < if k = 6 ∨ k = 7 then 2 else 3)) (v.byt ti) := by
        show y ++ (brkB _ _ ++ sgnW ti k ++ brkB _ _) = _
        simp only [List.append_assoc]
      rw [e3]
      exact h3
def bytD (ti : Bool) (x : Ex) : List (List Nat × Ex) → List Nat
  | [] => x.byt ti
  | (n, e) :: D => [108, 101, 116, 32] ++ n ++ isW ti ++ e.byt ti ++ enW ti ++ bytD ti x D
def rawL (l : List Nat × Nat) : RLt := ⟨l.1, l.2⟩
theorem brkB_one (e : Ex) (C : List Nat) : brkB (decide (e.lvl < 1)) C = C := by
  rw [decide_eq_false (by have := e.lvl_le; omega)]; rfl
theorem Qc.le {x y : List Nat} (h : Qc x y) (hy : y.length ≤ 16384) : x = y := by
  rcases h with h | h
  · exact h
  · omega
theorem lets_byt (ti : Bool) {N : List RNo} {f : Nat} : ∀ (D : List (List Nat × Ex)) (nm : List (List Nat)) (zx : Ex) (b : Nat) (A : List RNo) (x y : List Nat), OkD nm zx D → N = A ++ (flatD D b ++ zx.flat (b + sizeD D)).map Nod.raw → A.length = b → N.length ≤ f → Qc x y →
    ((letsW (partW N ti f) ti ((letsD D b).map rawL) x).bind fun c => if (partW N ti f (b + sizeD D + zx.size - 1) 1 c).length ≤ 16384 then some (partW N ti f (b + sizeD D + zx.size - 1) 1 c) else none) = if (y ++ bytD ti zx D).length ≤ 16384 then some (y ++ bytD ti zx D) else none
  | [], nm, zx, b, A, x, y, ho, hN, hA, hf, h => by
    have hN2 : N = A ++ ((zx.flat b).map Nod.raw ++ []) := by rw [hN]; simp [flatD, sizeD]
    have hNl : N.length = b + zx.size := by rw [hN2, List.append_nil, List.length_append, List.length_map, Ex.flat_len, hA]
    have h1 := part_byt ti zx ho.1 f b A [] hN2 hA (by have := zx.high_size; omega) 1 x y h
    rw [brkB_one] at h1
    show (if (partW N ti f (b + 0 + zx.size - 1) 1 x).length ≤ 16384 then some (partW N ti f (b + 0 + zx.size - 1) 1 x) else none) = _
    rw [Nat.add_zero]
    show _ = if (y ++ zx.byt ti).length ≤ 16384 then some (y ++ zx.byt ti) else none
    rcases h1 with h1 | ⟨h1, h2⟩
    · rw [h1]
    · rw [if_neg (by omega), if_neg (by omega)]
  | (n, e) :: D, nm, zx, b, A, x, y, ho, hN, hA, hf, h => by
    obtain ⟨⟨o1, o2, o3, o4, o5⟩, o6⟩ := ho
    have hN2 : N = A ++ ((e.flat b).map Nod.raw ++ (flatD D (b + e.size) ++ zx.flat (b + (e.size + sizeD D))).map Nod.raw) := by rw [hN]; simp [flatD, sizeD]
    have hN3 : N = (A ++ (e.flat b).map Nod.raw) ++ (flatD D (b + e.size) ++ zx.flat (b + e.size + sizeD D)).map Nod.raw := by rw [hN2, List.append_assoc, Nat.add_assoc]
    have hA3 : (A ++ (e.flat b).map Nod.raw).length = b + e.size := by rw [List.length_append, List.length_map, Ex.flat_len, hA]
    have hNl : b + e.size ≤ N.length := by rw [hN3, List.length_append, hA3]; omega
    have h1 := part_byt ti e o4 f b A _ hN2 hA (by have := e.high_size; omega) 1 _ _ (h.app ([108, 101, 116, 32] ++ n ++ isW ti))
    rw [brkB_one] at h1
    have h2 := h1.app (enW ti)
    have e0 : y ++ bytD ti zx ((n, e) :: D) = (y ++ ([108, 101, 116, 32] ++ n ++ isW ti) ++ e.byt ti ++ enW ti) ++ bytD ti zx D := by
      show y ++ ([108, 101, 116, 32] ++ n ++ isW ti ++ e.byt ti ++ enW ti ++ bytD ti zx D) = _
      simp only [List.append_assoc]
    rw [e0]
    have e1 : b + sizeD ((n, e) :: D) + zx.size - 1 = b + e.size + sizeD D + zx.size - 1 := by show b + (e.size + sizeD D) + zx.size - 1 = _; omega
    rw [e1]
    show Option.bind (letsW (partW N ti f) ti (rawL (n, b + e.size - 1) :: (letsD D (b + e.size)).map rawL) x) _ = _
    rw [letsW]
    have e2 : (rawL (n, b + e.size - 1)).at_.toNat = b + e.size - 1 := rfl
    have e3 : (rawL (n, b + e.size - 1)).name = n := rfl
    rw [e2, e3]
    generalize hX : partW N ti f (b + e.size - 1) 1 (x ++ ([108, 101, 116, 32] ++ n ++ isW ti)) ++ enW ti = X at h2 ⊢
    generalize hY : y ++ ([108, 101, 116, 32] ++ n ++ isW ti) ++ e.byt ti ++ enW ti = Y at h2 ⊢
    by_cases hl : 16384 < X.length
    · rw [if_pos hl]
      have : 16384 < Y.length := by
        rcases h2 with h2 | h2
        · rw [← h2]; exact hl
        · exact h2.2
      rw [if_neg (by rw [List.length_append]; omega)]
      rfl
    · rw [if_neg hl]
      exact lets_byt ti D (nm ++ [n]) zx (b + e.size) _ X Y o6 hN3 hA3 hf h2
/-- Parts that were read. -/
structure Prg (D : List (List Nat × Ex)) (x : Ex) (N : List Nod) (L : List (List Nat × Nat)) (m : Nat) : Prop where
  eN : N = flatD D 0 ++ x.flat (sizeD D)
  eL : L = letsD D 0
  em : m + 1 = sizeD D + x.size
  ok : OkD [] x D
  z : N.length ≤ 4096
  w : wtD x D ≤ 16384
section
variable {D : List (List Nat × Ex)} {x : Ex} {N : List Nod} {L : List (List Nat × Nat)} {m : Nat}
theorem Prg.len (h : Prg D x N L m) : N.length = sizeD D + x.size := by rw [h.eN, List.length_append, flatD_len, Ex.flat_len]
/-- What is written of them. -/
theorem Prg.write (h : Prg D x N L m) (ti : Bool) : writeW (N.map Nod.raw) (L.map rawL) m ti = if (bytD ti x D).length ≤ 16384 then some (bytD ti x D) else none := by
  have h1 := lets_byt ti (N := N.map Nod.raw) (f := (N.map Nod.raw).length) D [] x 0 [] [] [] h.ok (by rw [h.eN, Nat.zero_add]; rfl) rfl (Nat.le_refl _) (.inl rfl)
  rw [Nat.zero_add, ← h.eL, ← h.em, Nat.add_sub_cancel] at h1
  exact h1
theorem VT_let : VT [108, 101, 116] := ⟨by decide, by simp, fun b hb => by simp at hb; omega⟩
theorem OkD.pcs {x : Ex} (ti : Bool) : ∀ (D : List (List Nat × Ex)) (nm : List (List Nat)), OkD nm x D → ∀ (p : List Nat), (∀ b, b ∈ p → blkB b = true) → ∃ ps, PcOk [] ps ∧ catP ps = p ++ bytD ti x D ∧ ps.map (·.2) = tkD x D
  | [], nm, h, p, hp => ⟨x.pcs ti p, x.pcs_ok ti h.1 p [] hp stop_nil, x.pcs_cat ti h.1 p, by rw [x.pcs_tks]; exact (Ex.tl_own (by have := x.lvl_le; omega)).symm⟩
  | (n, e) :: D, nm, ⟨⟨o1, o2, o3, o4, o5⟩, o6⟩, p, hp => by
    obtain ⟨ps, h1, h2, h3⟩ := OkD.pcs ti D (nm ++ [n]) o6 (if ti then [] else [10]) (by cases ti <;> simp <;> decide)
    have hb : ∀ b, b ∈ (if ti then [] else [32] : List Nat) → blkB b = true := by cases ti <;> simp <;> decide
    have hst : ∀ r, StopB ((if ti then [] else [32] : List Nat) ++ (61 :: r)) := by
      intro r
      cases ti
      · exact stop_cons (by decide)
      · exact stop_sg (b := 61) (by decide)
    refine ⟨(p, [108, 101, 116]) :: ([32], n) :: ((if ti then [] else [32]), [61]) :: (e.pcs ti (if ti then [] else [32]) ++ ([], [59]) :: ps), ⟨hp, VT_let, .inr (stop_cons (by decide)), by simp; decide, o2, .inr (by
      show StopB ((_ ++ ([61] ++ _)) ++ [])
      rw [List.append_assoc]
      exact hst _), hb, sg_VT (by decide), .inl ⟨61, rfl, by decide⟩, PcOk.app (e.pcs_ok ti o4 _ _ hb (stop_sg (b := 59) (by decide))) ⟨fun b hb => (by cases hb), sg_VT (by decide), .inl ⟨59, rfl, by decide⟩, h1⟩⟩, ?_, ?_⟩
    · show p ++ ([108, 101, 116] ++ ([32] ++ (n ++ ((if ti then [] else [32]) ++ ([61] ++ catP (e.pcs ti (if ti then [] else [32]) ++ ([], [59]) :: ps)))))) = _
      rw [catP_app, e.pcs_cat ti o4]
      show p ++ ([108, 101, 116] ++ ([32] ++ (n ++ ((if ti then [] else [32]) ++ ([61] ++ ((if ti then [] else [32]) ++ e.byt ti ++ ([] ++ ([59] ++ catP ps)))))))) = p ++ ([108, 101, 116, 32] ++ n ++ isW ti ++ e.byt ti ++ enW ti ++ bytD ti x D)
      rw [h2]
      cases ti <;> simp [isW, enW]
    · show [108, 101, 116] :: n :: [61] :: (e.pcs ti _ ++ ([], [59]) :: ps).map (·.2) = _
      rw [List.map_append, e.pcs_tks, List.map_cons, h3]
      show _ = [108, 101, 116] :: n :: [61] :: (e.tl 1 ++ [59] :: tkD x D)
      rw [Ex.tl_own (by have := e.lvl_le; omega)]
theorem tkD_len : ∀ (C : List Tok) (n : Nat), C.length = n → C.length < n + 1 := fun C n h => by omega
/-- It is read again. -/
theorem Prg.back (h : Prg D x N L m) (ti : Bool) (_hl : (bytD ti x D).length ≤ 16384) : ∃ H, ∃ T last, Lx (bytD ti x D) 0 T last false ∧ progP T last false = some (.ok m ⟨[], N, H, L⟩) := by
  obtain ⟨ps, h1, h2, h3⟩ := OkD.pcs ti D [] h.ok [] (fun b hb => (by cases hb))
  rw [List.nil_append] at h2
  obtain ⟨T, hT, hx⟩ := lx_pcs ps 0 (Nat.zero_le _) (by rw [List.drop_zero, h2]) h1
  have hN := h.len
  have hz := h.z
  obtain ⟨H, hr⟩ := textP_cmp (last := (bytD ti x D).length) D x (T.length + 1) ⟨T, [], [], []⟩ h.ok (by show txs T = _; rw [hx, h3]) (Nat.lt_succ_self _) (by show 0 + _ ≤ 4096; omega) rfl
  refine ⟨H, T, _, hT, hr.trans ?_⟩
  have e1 : ([] : List Nod).length + (sizeD D + x.size) - 1 = m := by have := h.em; show 0 + (sizeD D + x.size) - 1 = m; omega
  rw [e1]
  have e2 : ([] : List Nod) ++ (flatD D ([] : List Nod).length ++ x.flat (([] : List Nod).length + sizeD D)) = N := by
    rw [h.eN]
    show [] ++ (flatD D 0 ++ x.flat (0 + sizeD D)) = _
    rw [Nat.zero_add]; rfl
  have e3 : ([] : List (List Nat × Nat)) ++ letsD D ([] : List Nod).length = L := by rw [h.eL]; rfl
  show some (PR.ok m ⟨[], ([] : List Nod) ++ _, H, ([] : List (List Nat × Nat)) ++ _⟩) = _
  rw [e2, e3]
theorem wtD_len (x : Ex) : ∀ (D : List (List Nat × Ex)) (nm : List (List Nat)), OkD nm x D → (bytD true x D).length = wtD x D
  | [], nm, h => by
    show (x.byt true).length = x.wl 1
    rw [x.byt_len h.1]
    unfold Ex.wl
    rw [if_neg (by have := x.lvl_le; omega)]; rfl
  | (n, e) :: D, nm, ⟨⟨o1, o2, o3, o4, o5⟩, o6⟩ => by
    show ([108, 101, 116, 32] ++ n ++ isW true ++ e.byt true ++ enW true ++ bytD true x D).length = 6 + n.length + e.wl 1 + wtD x D
    have e1 : e.wl 1 = e.wt := by
      unfold Ex.wl
      rw [if_neg (by have := e.lvl_le; omega)]; rfl
    have i1 : (isW true).length = 1 := rfl
    have i2 : (enW true).length = 1 := rfl
    simp only [List.length_append, List.length_cons, List.length_nil]
    rw [wtD_len x D _ o6, e.byt_len o4, e1, i1, i2]
    omega
/-- What a text says, if it has no fault, are parts that were read. -/
theorem prg_of {s : List Nat} (hs : Byt s) {T : List Tok} {last : Nat} {wrong : Bool} {m : Nat} {st : PS} (hl : s.length ≤ 16384) (hx : Lx s 0 T last wrong) (h : progP T last wrong = some (.ok m st)) : ∃ D x, Prg D x st.N st.L m := by
  have hk := Lx.ok hs hx
  obtain ⟨D, x, hM⟩ := textP_snd (sumP_snd 64) _ ⟨T, [], [], []⟩ m st h hk.1 rfl
  refine ⟨D, x, ?_, ?_, ?_, hM.ok, hM.z, ?_⟩
  · rw [hM.N]
    show [] ++ (flatD D 0 ++ x.flat (0 + sizeD D)) = _
    rw [Nat.zero_add]; rfl
  · rw [hM.L]; rfl
  · have := hM.m
    have e : m + 1 = 0 + sizeD D + x.size := this
    omega
  · have := hM.w
    have := hx.last
    omega
end
/-! The heights. -/
theorem get_set_ne {α : Type} [Inhabited α] {l : List α} {a j : Nat} {v : α} (h : j ≠ a) : (l.set a v)[j]! = l[j]! := by
  rw [List.getElem!_eq_getElem?_getD, List.getElem!_eq_getElem?_getD, List.getElem?_set_ne (fun e => h e.symm)]
theorem get_set_eq {α : Type} [Inhabited α] {l : List α} {a : Nat} {v : α} (h : a < l.length) : (l.set a v)[a]! = v := by
  rw [List.getElem!_eq_getElem?_getD, List.getElem?_set_self h]; rfl
/-- What the heights' loop keeps. -/
structure ShI (b : Nat) (U : List Bool) (H : List Nat) (U' : List Bool) (H' : List Nat) (e : Ex) : Prop where
  ul : U'.length = U.length
  hl : H'.length = H.length
  u : ∀ j, b + e.size - 1 ≤ j → U'[j]! = false
  h : H'[b + e.size - 1]! = e.high
  o : ∀ j, j < b → U'[j]! = U[j]! ∧ H'[j]! = H[j]!
theorem sh_atom {r : RNo} {b : Nat} {U : List Bool} {H : List Nat} {rest : List RNo} {e : Ex} (hk : bndK r.kind = 5) (h1 : 1 ≤ r.kind ∧ r.kind < 10) (ht : r.text.length ≤ 16384) (hs : e.size = 1) (hh : e.high = 1) (hU : ∀ j, b ≤ j → U[j]! = false) (hb : b < H.length) :
    ∃ U' H', shL (r :: rest) b U H = shL rest (b + e.size) U' H' ∧ ShI b U H U' H' e := by
  refine ⟨U, H.set b 1, ?_, rfl, List.length_set, fun j hj => hU j (by omega), ?_, fun j hj => ⟨rfl, get_set_ne (by omega)⟩⟩
  · rw [shL, if_neg (by unfold shK; omega)]
    have e1 : shX U H b r = (1, U) := by unfold shX; rw [if_pos hk]
    rw [e1, if_neg (by unfold shapB; omega), hs]
  · rw [hs, hh, Nat.add_sub_cancel, get_set_eq hb]
theorem not_bad {U : List Bool} {a i : Nat} (h1 : a < i) (h2 : U[a]! = false) : ¬ badO U (a : Int) i := by
  rintro (h | h | h)
  · omega
  · omega
  · have e : ((a : Int)).toNat = a := rfl
    rw [e, h2] at h; cases h
theorem sh_flat {nm : List (List Nat)} : ∀ (e : Ex), OkX nm e → e.high ≤ 64 → e.wt ≤ 16384 → ∀ (b : Nat) (U : List Bool) (H : List Nat) (rest : List RNo), (∀ j, b ≤ j → U[j]! = false) → b + e.size ≤ H.length → b + e.size ≤ U.length →
    ∃ U' H', shL ((e.flat b).map Nod.raw ++ rest) b U H = shL rest (b + e.size) U' H' ∧ ShI b U H U' H' e
  | .num t, ho, hh, hw, b, U, H, rest, hU, hH, hU2 => sh_atom (e := .num t) (r := ⟨1, t, 0, 0, 0⟩) rfl (by simp) hw rfl rfl hU hH
  | .i, ho, hh, hw, b, U, H, rest, hU, hH, hU2 => sh_atom (e := .i) (r := ⟨2, [], 0, 0, 0⟩) rfl (by simp) (by simp) rfl rfl hU hH
  | .z, ho, hh, hw, b, U, H, rest, hU, hH, hU2 => sh_atom (e := .z) (r := ⟨3, [], 0, 0, 0⟩) rfl (by simp) (by simp) rfl rfl hU hH
  | .name t, ho, hh, hw, b, U, H, rest, hU, hH, hU2 => sh_atom (e := .name t) (r := ⟨4, t, 0, 0, 0⟩) rfl (by simp) hw rfl rfl hU hH
  | .neg e, ho, hh, hw, b, U, H, rest, hU, hH, hU2 => by
    have hp := e.size_pos
    have hh' : 1 + e.high ≤ 64 := hh
    have hw' : 1 + (e.wt + if e.lvl < 3 then 2 else 0) ≤ 16384 := hw
    have hH' : b + (e.size + 1) ≤ H.length := hH
    have hU' : b + (e.size + 1) ≤ U.length := hU2
    obtain ⟨U1, H1, h1, h2⟩ := sh_flat e ho (by omega) (by omega) b U H (Nod.raw ⟨5, [], b + e.size - 1, 0, 0⟩ :: rest) hU (by omega) (by omega)
    have hnb := not_bad (i := b + e.size) (show b + e.size - 1 < b + e.size by omega) (h2.u _ (Nat.le_refl _))
    have ei : ((b + e.size - 1 : Nat) : Int).toNat = b + e.size - 1 := rfl
    refine ⟨U1.set (b + e.size - 1) true, H1.set (b + e.size) (1 + e.high), ?_, by rw [List.length_set, h2.ul], by rw [List.length_set, h2.hl], ?_, ?_, ?_⟩
    · have e0 : (Ex.neg e).flat b = e.flat b ++ [⟨5, [], b + e.size - 1, 0, 0⟩] := rfl
      rw [e0, List.map_append, List.append_assoc]
      refine h1.trans ?_
      rw [shL, if_neg (by unfold shK; simp [Nod.raw])]
      have e1 : shX U1 H1 (b + e.size) (Nod.raw ⟨5, [], b + e.size - 1, 0, 0⟩) = (1 + e.high, U1.set (b + e.size - 1) true) := by
        unfold shX
        rw [if_neg (by show ¬ bndK 5 = 5; decide), if_pos (by show 3 ≤ bndK 5; decide)]
        unfold ofH ofU
        show (1 + (if badO U1 ((b + e.size - 1 : Nat) : Int) (b + e.size) then 64 else _), (if badO U1 ((b + e.size - 1 : Nat) : Int) (b + e.size) then U1 else _)) = _
        rw [if_neg hnb, if_neg hnb]
        show (1 + H1[((b + e.size - 1 : Nat) : Int).toNat]!, U1.set ((b + e.size - 1 : Nat) : Int).toNat true) = _
        rw [ei, h2.h]
      rw [e1, if_neg (by unfold shapB; show ¬ (64 < 1 + e.high ∨ (5 = 10 ∧ _)); omega)]
      rfl
    · intro j hj
      have hj' : b + (e.size + 1) - 1 ≤ j := hj
      rw [get_set_ne (by omega)]
      exact h2.u j (by omega)
    · show (H1.set (b + e.size) (1 + e.high))[b + (e.size + 1) - 1]! = 1 + e.high
      rw [show b + (e.size + 1) - 1 = b + e.size by omega, get_set_eq (by rw [h2.hl]; omega)]
    · intro j hj
      rw [get_set_ne (by omega), get_set_ne (by omega)]
      exact h2.o j hj
  | .pow e n, ho, hh, hw, b, U, H, rest, hU, hH, hU2 => by
    have hp := e.size_pos
    have hh' : 1 + e.high ≤ 64 := hh
    have hw' : (e.wt + if e.lvl < 5 then 2 else 0) + 1 + (digL n).length ≤ 16384 := hw
    have hH' : b + (e.size + 1) ≤ H.length := hH
    have hU' : b + (e.size + 1) ≤ U.length := hU2
    obtain ⟨U1, H1, h1, h2⟩ := sh_flat e ho.1 (by omega) (by omega) b U H (Nod.raw ⟨10, [], b + e.size - 1, 0, n⟩ :: rest) hU (by omega) (by omega)
    have hnb := not_bad (i := b + e.size) (show b + e.size - 1 < b + e.size by omega) (h2.u _ (Nat.le_refl _))
    have ei : ((b + e.size - 1 : Nat) : Int).toNat = b + e.size - 1 := rfl
    refine ⟨U1.set (b + e.size - 1) true, H1.set (b + e.size) (1 + e.high), ?_, by rw [List.length_set, h2.ul], by rw [List.length_set, h2.hl], ?_, ?_, ?_⟩
    · have e0 : (Ex.pow e n).flat b = e.flat b ++ [⟨10, [], b + e.size - 1, 0, n⟩] := rfl
      rw [e0, List.map_append, List.append_assoc]
      refine h1.trans ?_
      rw [shL, if_neg (by unfold shK; simp [Nod.raw])]
      have e1 : shX U1 H1 (b + e.size) (Nod.raw ⟨10, [], b + e.size - 1, 0, n⟩) = (1 + e.high, U1.set (b + e.size - 1) true) := by
        unfold shX
        rw [if_neg (by show ¬ bndK 10 = 5; decide), if_pos (by show 3 ≤ bndK 10; decide)]
        unfold ofH ofU
        show (1 + (if badO U1 ((b + e.size - 1 : Nat) : Int) (b + e.size) then 64 else _), (if badO U1 ((b + e.size - 1 : Nat) : Int) (b + e.size) then U1 else _)) = _
        rw [if_neg hnb, if_neg hnb]
        show (1 + H1[((b + e.size - 1 : Nat) : Int).toNat]!, U1.set ((b + e.size - 1 : Nat) : Int).toNat true) = _
        rw [ei, h2.h]
      have hn := ho.2
      rw [e1, if_neg (by unfold shapB; show ¬ (64 < 1 + e.high ∨ (10 = 10 ∧ ((n : Int) < 0 ∨ 64 < (n : Int)))); omega)]
      rfl
    · intro j hj
      have hj' : b + (e.size + 1) - 1 ≤ j := hj
      rw [get_set_ne (by omega)]
      exact h2.u j (by omega)
    · show (H1.set (b + e.size) (1 + e.high))[b + (e.size + 1) - 1]! = 1 + e.high
      rw [show b + (e.size + 1) - 1 = b + e.size by omega, get_set_eq (by rw [h2.hl]; omega)]
    · intro j hj
      rw [get_set_ne (by omega), get_set_ne (by omega)]
      exact h2.o j hj
  | .bin k x y, ho, hh, hw, b, U, H, rest, hU, hH, hU2 => by
    have hpx := x.size_pos
    have hpy := y.size_pos
    have hk := ho.1
    have hh' : 1 + max x.high y.high ≤ 64 := hh
    have hw' : (x.wt + if x.lvl < (if k = 6 ∨ k = 7 then 1 else 2) then 2 else 0) + 1 + (y.wt + if y.lvl < (if k = 6 ∨ k = 7 then 2 else 3) then 2 else 0) ≤ 16384 := hw
    have hH' : b + (x.size + y.size + 1) ≤ H.length := hH
    have hU' : b + (x.size + y.size + 1) ≤ U.length := hU2
    obtain ⟨U1, H1, h1, h2⟩ := sh_flat x ho.2.1 (by omega) (by omega) b U H ((y.flat (b + x.size)).map Nod.raw ++ (Nod.raw ⟨k, [], b + x.size - 1, b + x.size + y.size - 1, 0⟩ :: rest)) hU (by omega) (by omega)
    obtain ⟨U2, H2, h3, h4⟩ := sh_flat y ho.2.2 (by omega) (by omega) (b + x.size) U1 H1 (Nod.raw ⟨k, [], b + x.size - 1, b + x.size + y.size - 1, 0⟩ :: rest) (fun j hj => h2.u j (by omega)) (by rw [h2.hl]; omega) (by rw [h2.ul]; omega)
    have hox := h4.o (b + x.size - 1) (by omega)
    have hnb1 := not_bad (U := U2) (i := b + x.size + y.size) (show b + x.size - 1 < b + x.size + y.size by omega) (by rw [hox.1]; exact h2.u _ (Nat.le_refl _))
    have hnb2 := not_bad (U := U2.set (b + x.size - 1) true) (i := b + x.size + y.size) (show b + x.size + y.size - 1 < b + x.size + y.size by omega) (by rw [get_set_ne (by omega)]; exact h4.u _ (Nat.le_refl _))
    have ei1 : ((b + x.size - 1 : Nat) : Int).toNat = b + x.size - 1 := rfl
    have ei2 : ((b + x.size + y.size - 1 : Nat) : Int).toNat = b + x.size + y.size - 1 := rfl
    have hb12 : bndK k ≤ 2 ∧ bndK k ≠ 5 := by
      unfold bndK
      split
      · omega
      · rw [if_pos (by omega)]; omega
    refine ⟨(U2.set (b + x.size - 1) true).set (b + x.size + y.size - 1) true, H2.set (b + x.size + y.size) (1 + max x.high y.high), ?_, by rw [List.length_set, List.length_set, h4.ul, h2.ul], by rw [List.length_set, h4.hl, h2.hl], ?_, ?_, ?_⟩
    · have e0 : (Ex.bin k x y).flat b = x.flat b ++ y.flat (b + x.size) ++ [⟨k, [], b + x.size - 1, b + x.size + y.size - 1, 0⟩] := rfl
      rw [e0, List.map_append, List.map_append, List.append_assoc, List.append_assoc]
      refine h1.trans (h3.trans ?_)
      rw [shL, if_neg (by unfold shK; show ¬ (k < 1 ∨ 10 < k ∨ 16384 < ([] : List Nat).length); simp; omega)]
      have e1 : shX U2 H2 (b + x.size + y.size) (Nod.raw ⟨k, [], b + x.size - 1, b + x.size + y.size - 1, 0⟩) = (1 + max x.high y.high, (U2.set (b + x.size - 1) true).set (b + x.size + y.size - 1) true) := by
        have f1 : ofU U2 ((b + x.size - 1 : Nat) : Int) (b + x.size + y.size) = U2.set (b + x.size - 1) true := by
          unfold ofU
          rw [if_neg hnb1, ei1]
        have f2 : ofH U2 H2 ((b + x.size - 1 : Nat) : Int) (b + x.size + y.size) = x.high := by
          unfold ofH
          rw [if_neg hnb1, ei1, hox.2, h2.h]
        have f3 : ofU (U2.set (b + x.size - 1) true) ((b + x.size + y.size - 1 : Nat) : Int) (b + x.size + y.size) = (U2.set (b + x.size - 1) true).set (b + x.size + y.size - 1) true := by
          unfold ofU
          rw [if_neg hnb2, ei2]
        have f4 : ofH (U2.set (b + x.size - 1) true) H2 ((b + x.size + y.size - 1 : Nat) : Int) (b + x.size + y.size) = y.high := by
          unfold ofH
          rw [if_neg hnb2, ei2, h4.h]
        unfold shX
        rw [if_neg (by show ¬ bndK k = 5; exact hb12.2), if_neg (by show ¬ 3 ≤ bndK k; omega)]
        show (1 + max (ofH U2 H2 ((b + x.size - 1 : Nat) : Int) _) (ofH (ofU U2 ((b + x.size - 1 : Nat) : Int) _) H2 ((b + x.size + y.size - 1 : Nat) : Int) _), ofU (ofU U2 ((b + x.size - 1 : Nat) : Int) _) ((b + x.size + y.size - 1 : Nat) : Int) _) = _
        rw [f1, f2, f3, f4]
      rw [e1, if_neg (by unfold shapB; show ¬ (64 < 1 + max x.high y.high ∨ (k = 10 ∧ _)); omega)]
      have e9 : b + x.size + y.size + 1 = b + (Ex.bin k x y).size := by show _ = b + (x.size + y.size + 1); omega
      rw [e9]
    · intro j hj
      have hj' : b + (x.size + y.size + 1) - 1 ≤ j := hj
      rw [get_set_ne (by omega), get_set_ne (by omega)]
      exact h4.u j (by omega)
    · show (H2.set (b + x.size + y.size) (1 + max x.high y.high))[b + (x.size + y.size + 1) - 1]! = 1 + max x.high y.high
      rw [show b + (x.size + y.size + 1) - 1 = b + x.size + y.size by omega, get_set_eq (by rw [h4.hl, h2.hl]; omega)]
    · intro j hj
      rw [get_set_ne (by omega), get_set_ne (by omega), get_set_ne (by omega)]
      have o1 := h4.o j (by omega)
      have o2 := h2.o j hj
      exact ⟨o1.1.trans o2.1, o1.2.trans o2.2⟩
theorem wl_wt (e : Ex) : e.wt ≤ e.wl 1 := by unfold Ex.wl; omega
theorem sh_flatD : ∀ (D : List (List Nat × Ex)) (nm : List (List Nat)) (x : Ex) (b : Nat) (U : List Bool) (H : List Nat), OkD nm x D → wtD x D ≤ 16384 → (∀ j, b ≤ j → U[j]! = false) → b + (sizeD D + x.size) ≤ H.length → b + (sizeD D + x.size) ≤ U.length →
    shL ((flatD D b ++ x.flat (b + sizeD D)).map Nod.raw) b U H = true
  | [], nm, x, b, U, H, ho, hw, hU, hH, hU2 => by
    have hw' : x.wl 1 ≤ 16384 := hw
    have hz : sizeD [] = 0 := rfl
    obtain ⟨U', H', h1, -⟩ := sh_flat x ho.1 ho.2 (Nat.le_trans (wl_wt x) hw') b U H [] hU (by omega) (by omega)
    rw [List.append_nil] at h1
    show shL (([] ++ x.flat (b + 0)).map Nod.raw) b U H = true
    rw [List.nil_append, Nat.add_zero, h1]
    rfl
  | (n, e) :: D, nm, x, b, U, H, ⟨⟨o1, o2, o3, o4, o5⟩, o6⟩, hw, hU, hH, hU2 => by
    have hw' : 6 + n.length + e.wl 1 + wtD x D ≤ 16384 := hw
    have hH' : b + (e.size + sizeD D + x.size) ≤ H.length := hH
    have hU' : b + (e.size + sizeD D + x.size) ≤ U.length := hU2
    have hwt := wl_wt e
    have hp := e.size_pos
    obtain ⟨U', H', h1, h2⟩ := sh_flat e o4 o5 (by omega) b U H ((flatD D (b + e.size) ++ x.flat (b + e.size + sizeD D)).map Nod.raw) hU (by omega) (by omega)
    have h3 := sh_flatD D (nm ++ [n]) x (b + e.size) U' H' o6 (by omega) (fun j hj => h2.u j (by omega)) (by rw [h2.hl]; omega) (by rw [h2.ul]; omega)
    rw [h3] at h1
    show shL (((e.flat b ++ flatD D (b + e.size)) ++ x.flat (b + (e.size + sizeD D))).map Nod.raw) b U H = true
    rw [List.append_assoc, List.map_append, ← Nat.add_assoc]
    exact h1
theorem letsD_ok : ∀ (D : List (List Nat × Ex)) (nm : List (List Nat)) (x : Ex) (b nn : Nat), OkD nm x D → wtD x D ≤ 16384 → b + (sizeD D + x.size) ≤ nn → ltL nn ((letsD D b).map rawL) = true
  | [], _, _, _, _, _, _, _ => rfl
  | (n, e) :: D, nm, x, b, nn, ⟨⟨o1, o2, o3, o4, o5⟩, o6⟩, hw, hn => by
    have hw' : 6 + n.length + e.wl 1 + wtD x D ≤ 16384 := hw
    have hn' : b + (e.size + sizeD D + x.size) ≤ nn := hn
    have hp := e.size_pos
    have hpx := x.size_pos
    show (if letBad nn (rawL (n, b + e.size - 1)) then false else ltL nn ((letsD D (b + e.size)).map rawL)) = true
    rw [if_neg (by
      unfold letBad
      show ¬ (((b + e.size - 1 : Nat) : Int) < 0 ∨ (nn : Int) ≤ ((b + e.size - 1 : Nat) : Int) ∨ 16384 < n.length)
      omega)]
    exact letsD_ok D (nm ++ [n]) x (b + e.size) nn o6 (by omega) (by omega)
theorem letsD_len : ∀ (D : List (List Nat × Ex)) (b : Nat), (letsD D b).length ≤ sizeD D
  | [], _ => Nat.le_refl _
  | (n, e) :: D, b => by
    have := letsD_len D (b + e.size)
    have := e.size_pos
    show (letsD D (b + e.size)).length + 1 ≤ e.size + sizeD D
    omega
theorem repl_get {nn j : Nat} : (List.replicate nn false)[j]! = false := by
  rw [List.getElem!_eq_getElem?_getD, List.getElem?_replicate]
  split <;> rfl
theorem Prg.shape {D : List (List Nat × Ex)} {x : Ex} {N : List Nod} {L : List (List Nat × Nat)} {m : Nat} (h : Prg D x N L m) : shapeW (N.map Nod.raw) (L.map rawL) (m : Int) = true := by
  have hl := h.len
  have hz := h.z
  have hm := h.em
  have hLl : L.length ≤ sizeD D := by rw [h.eL]; exact letsD_len D 0
  have hpx := x.size_pos
  unfold shapeW
  rw [List.length_map, List.length_map, if_neg (by unfold shapP; omega)]
  have h1 := sh_flatD D [] x 0 (List.replicate N.length false) (List.replicate N.length 0) h.ok h.w (fun j _ => repl_get) (by rw [List.length_replicate]; omega) (by rw [List.length_replicate]; omega)
  rw [Nat.zero_add, ← h.eN] at h1
  rw [h1, if_pos rfl, h.eL]
  exact letsD_ok D [] x 0 N.length h.ok h.w (by omega)
end Go.Proofs.YtnaadajcehfmiaaDoor
