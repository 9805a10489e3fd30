/- A range over a function whose iterator keeps cells of its own: the iterator's contract, and the law for the loop. -/
import Derived.RangeFuncCalls
import Derived.Below
import Derived.Deep.QuietTactic
import Derived.Lib.QuietBelow
import Derived.OrdersIn
namespace Go.Proofs.YtnaadajcehfmiaaGreatDoor
open Go Go.RowKit

/-- B is A, but for the blocks from lo up to hi and for new ones. -/
structure OutB (lo hi : Nat) (A B : World) : Prop where
  os : B.os = A.os
  tape : B.tape = A.tape
  output : B.output = A.output
  size : A.heap.size ≤ B.heap.size
  block : ∀ k, k < A.heap.size → ¬ (lo ≤ k ∧ k < hi) → B.heap[k]? = A.heap[k]?

section
variable {lo hi : Nat} {A B C : World}
theorem OutB.refl (lo hi : Nat) (A : World) : OutB lo hi A A := ⟨rfl, rfl, rfl, Nat.le_refl _, fun _ _ _ => rfl⟩
theorem OutB.trans (h : OutB lo hi A B) (k : OutB lo hi B C) : OutB lo hi A C :=
  ⟨k.os.trans h.os, k.tape.trans h.tape, k.output.trans h.output, Nat.le_trans h.size k.size, fun i hi hn => (k.block i (Nat.lt_of_lt_of_le hi h.size) hn).trans (h.block i hi hn)⟩
theorem OutB.wide {lo' hi' : Nat} (h : OutB lo hi A B) (h1 : lo' ≤ lo) (h2 : hi ≤ hi') : OutB lo' hi' A B :=
  ⟨h.os, h.tape, h.output, h.size, fun k hk hn => h.block k hk (fun e => hn (by omega))⟩
theorem OutB.alloc (h : OutB lo hi A B) (o : Obj) : OutB lo hi A (B.alloc o) :=
  h.trans ⟨rfl, rfl, rfl, by simp, fun k hk _ => Below.heap_alloc B o k hk⟩
theorem OutB.put (h : OutB lo hi A B) {r : Nat} (h1 : lo ≤ r) (h2 : r < hi) (o : Obj) : OutB lo hi A (B.putObj r o) :=
  h.trans ⟨rfl, rfl, rfl, by simp, fun k _ hn => World.putObj_heap_other (fun e => hn (by omega))⟩
theorem OutB.setCell (h : OutB lo hi A B) {p : Addr} (h1 : lo ≤ p.block) (h2 : p.block < hi) (v : Value) : OutB lo hi A (B.setCell p v) :=
  h.trans ⟨rfl, rfl, rfl, by simp [World.setCell], fun k _ hn => Below.heap_setCell B p v k (fun e => hn (by omega))⟩
theorem OutB.below (h : OutB lo hi A B) (hb : Below B.heap.size B C) : OutB lo hi A C :=
  h.trans ⟨hb.os, hb.tape, hb.output, hb.size, fun k hk _ => hb.block k hk⟩
theorem OutB.toBelow (h : OutB lo hi A B) {n : Nat} (h1 : n ≤ lo) (h2 : n ≤ A.heap.size) : Below n A B :=
  ⟨h.os, h.tape, h.output, h.size, fun k hk => h.block k (by omega) (by omega)⟩
theorem OutB.grown (h : OutB lo hi A B) {r : Option Nat} (hg : B.grownBy C r) (hr : ∀ k, r = some k → lo ≤ k ∧ k < hi) : OutB lo hi A C :=
  h.trans ⟨hg.os, hg.tape, hg.output, hg.size, fun k hk hn => hg.block k hk (fun e => hn (hr k e.symm))⟩
end

/-- The blocks of S lie as they lay. -/
structure KeepB (S : Nat → Prop) (A B : World) : Prop where
  size : A.heap.size ≤ B.heap.size
  block : ∀ k, S k → B.heap[k]? = A.heap[k]?

section
variable {S S' : Nat → Prop} {A B C : World}
theorem KeepB.refl (S : Nat → Prop) (A : World) : KeepB S A A := ⟨Nat.le_refl _, fun _ _ => rfl⟩
theorem KeepB.trans (h : KeepB S A B) (k : KeepB S B C) : KeepB S A C := ⟨Nat.le_trans h.size k.size, fun i hi => (k.block i hi).trans (h.block i hi)⟩
theorem KeepB.less (h : KeepB S A B) (hs : ∀ k, S' k → S k) : KeepB S' A B := ⟨h.size, fun k hk => h.block k (hs k hk)⟩
theorem KeepB.alloc (h : KeepB S A B) (hS : ∀ k, S k → k < B.heap.size) (o : Obj) : KeepB S A (B.alloc o) :=
  h.trans ⟨by simp, fun k hk => Below.heap_alloc B o k (hS k hk)⟩
theorem KeepB.setCell (h : KeepB S A B) {p : Addr} (hp : ¬ S p.block) (v : Value) : KeepB S A (B.setCell p v) :=
  h.trans ⟨by simp [World.setCell], fun k hk => Below.heap_setCell B p v k (fun e => hp (by rw [← e]; exact hk))⟩
theorem KeepB.below (h : KeepB S A B) {n : Nat} (hb : Below n B C) (hS : ∀ k, S k → k < n) : KeepB S A C := h.trans ⟨hb.size, fun k hk => hb.block k (hS k hk)⟩
theorem KeepB.grown (h : KeepB S A B) {r : Option Nat} (hg : B.grownBy C r) (hS : ∀ k, S k → k < B.heap.size) (hr : ∀ k, r = some k → ¬ S k) : KeepB S A C :=
  h.trans ⟨hg.size, fun k hk => hg.block k (hS k hk) (fun e => hr k e.symm hk)⟩
theorem KeepB.put (h : KeepB S A B) {r : Nat} (hr : ¬ S r) (o : Obj) : KeepB S A (B.putObj r o) :=
  h.trans ⟨by simp, fun k hk => World.putObj_heap_other (fun e => hr (by rw [← e]; exact hk))⟩
theorem KeepB.drewN (h : KeepB S A B) (n : Nat) : KeepB S A (B.drewN n) := ⟨h.size, h.block⟩
theorem KeepB.drew (h : KeepB S A B) : KeepB S A B.drew := ⟨h.size, h.block⟩
end

/-- The contract of an iterator that tells xs, one by one, in that order; the first blocks that it lays, m of them for some m, are its own; it leans on the blocks C. -/
def IterB {α : Type} (P : Program) (g : Nat) (lb : Array Value) (encs : α → Array Value) (xs : List α) (C : Nat → Prop) (w0 : World) : Prop :=
  ∀ (l : Nat) (J Jx : Nat → List α → World → Prop) (W : World), Below w0.heap.size w0 W →
    (∀ m s A B, J m s A → OutB W.heap.size (W.heap.size + m) A B → J m s B) → (∀ m s A B, Jx m s A → OutB W.heap.size (W.heap.size + m) A B → Jx m s B) →
    (∀ m pre x W1, J m pre W1 → W.heap.size + m ≤ W1.heap.size → (pre ++ [x]) <+: xs →
      YieldAt Fence.wide 0 P l (encs x) W1 fun e W' =>
        (e = .returned (.bool true) ∧ J m (pre ++ [x]) W' ∧ KeepB (fun k => C k ∨ W.heap.size ≤ k ∧ k < W.heap.size + m) W1 W') ∨ (e = .returned (.bool false) ∧ Jx m (pre ++ [x]) W')) →
    (∀ m, J m [] W) →
    CallsIn Fence.wide 0 P g (#[.func (.yield l) #[] #[]] ++ lb) W fun e W' => (∃ v, e = .returned v) ∧ ∃ m, J m xs W' ∨ ∃ pre, pre <+: xs ∧ Jx m pre W'

/-- How a round may be left. -/
def iterPost {α : Type} (S : Nat → Prop) (I : List α → World → Prop) (Ix : Code → List α → World → Prop) (xs : List α) (W : World) : Exit → Act → World → Prop
  | .normal, _, W' => KeepB S W W' ∧ I xs W'
  | .ret, _, W' => KeepB S W W' ∧ Ix .ret xs W'
  | .exit id, _, W' => KeepB S W W' ∧ Ix (.exit id) xs W'
  | .goto t, _, W' => KeepB S W W' ∧ Ix (.goto t) xs W'
  | .panic _, _, _ => False
  | .outgrown, _, _ => False

/-- 'for x := range g { body }', g an iterator with its contract. -/
theorem wpIn_iterB {α : Type} {P : Program} {g : Operand} {ps : Array Tmp} {assign body : Code} {Q : Exit → Act → World → Prop} {a : Act} {w : World}
    {gf : Nat} {lb : Array Value} (hg : a.eval g = .func (.func gf) #[] lb) (eg : ∀ args w, (callFunc gf args).run P w = .ok (.enter gf args) w)
    {encs : α → Array Value} {xs : List α} {C : Nat → Prop} {w0 : World} (hit : IterB P gf lb encs xs C w0) (hb0 : Below w0.heap.size w0 w) (hC : ∀ k, C k → k < w.heap.size)
    (hps : ∀ x, (encs x).size = ps.size)
    (I : Nat → List α → World → Prop) (Ix : Nat → Code → List α → World → Prop)
    (hI : ∀ m s A B, I m s A → OutB w.heap.size (w.heap.size + 2 + m) A B → I m s B) (hIx : ∀ m c s A B, Ix m c s A → OutB w.heap.size (w.heap.size + 2 + m) A B → Ix m c s B)
    (h0 : ∀ m, I m [] w)
    (hround : ∀ (m l : Nat) (pre : List α) (x : α) (W : World), I m pre W → w.heap.size + 2 + m ≤ W.heap.size → (pre ++ [x]) <+: xs →
      ∀ K : Act → World → Prop, (∀ a' W', KeepB (fun k => C k ∨ w.heap.size ≤ k ∧ k < w.heap.size + 2 + m) W W' →
          (∀ o, body.wpIn (Fence.wide.inRound l) 0 P (iterPost (fun k => C k ∨ w.heap.size ≤ k ∧ k < w.heap.size + 2 + m) (I m) (Ix m) (pre ++ [x]) (W'.putObj (w.heap.size + 1) o)) a' (W'.putObj (w.heap.size + 1) o)) → K a' W') →
      assign.wpIn (Fence.wide.inRound l) 0 P (Exit.then K (fun _ _ _ => False)) { tmps := (ps.zip (encs x)).foldl (fun t (p, v) => t.setIfInBounds p v) a.tmps, defers := [] } W)
    (hdone : ∀ (m : Nat) (W : World), I m xs W → W.heap[w.heap.size]? = some (.deferred (some [])) → Q .normal { a with defers := { target := .collected w.heap.size, args := #[] } :: a.defers } W)
    (hstop : ∀ (m : Nat) (c : Code) (pre : List α) (W : World), pre <+: xs → Ix m c pre W → W.heap[w.heap.size]? = some (.deferred (some [])) → c.wpIn Fence.wide 0 P Q { a with defers := { target := .collected w.heap.size, args := #[] } :: a.defers } W) :
    (Code.rangeFunc g ps assign body).wpIn Fence.wide 0 P Q a w := by
  refine wpIn_rangeFunc ?_
  intro fn hfn
  obtain ⟨rec, hrec⟩ : ∃ rec : LoopState → Option Code → Loop, rec = fun st pe => { state := st, pending := pe, fn, tmps := a.tmps, params := ps, assign, body, defers := w.heap.size } := ⟨_, rfl⟩
  obtain ⟨W1, hW1⟩ : ∃ W1, (w.alloc (.deferred (some []))).alloc (.loop (rec .ready none)) = W1 := ⟨_, rfl⟩
  have z1 : W1.heap.size = w.heap.size + 2 := by rw [← hW1]; simp
  have hL1 : W1.heap[w.heap.size + 1]? = some (.loop (rec .ready none)) := by
    rw [← hW1]; have := World.alloc_heap_new (w.alloc (.deferred (some []))) (.loop (rec .ready none)); rwa [World.size_alloc] at this
  have hK1 : W1.heap[w.heap.size]? = some (.deferred (some [])) := by
    rw [← hW1]; exact (Below.heap_alloc _ _ _ (by simp)).trans (World.alloc_heap_new w _)
  have hI1 : ∀ m, I m [] W1 := fun m => hI _ _ _ _ (h0 m) (by rw [← hW1]; exact ((OutB.refl _ _ w).alloc _).alloc _)
  have hb1 : Below w0.heap.size w0 W1 := by
    rw [← hW1]; exact hb0.trans ((((Below.refl _ w).alloc (Nat.le_refl _) _).alloc (by simp) _).mono hb0.size)
  refine ⟨w.heap.size + 1, [{ target := .collected w.heap.size, args := #[] }], W1, { target := .fn (.func gf) lb, args := #[.func (.yield (w.heap.size + 1)) #[] #[]] }, W1, gf,
    #[.func (.yield (w.heap.size + 1)) #[] #[]] ++ lb, W1, ?_, ?_, ?_, ?_, fun h => (by cases h), ?_⟩
  · rw [← hW1, hrec]; exact run_enterLoop_outer _ _ _ _ _
  · simp only [resolve, hg]
    simp [go_sem]
  · intro _ _; trivial
  · simp [invoke, go_sem, eg]
  have out1 : ∀ {m : Nat} {A B : World}, OutB W1.heap.size (W1.heap.size + m) A B → OutB w.heap.size (w.heap.size + 2 + m) A B := fun h => h.wide (by omega) (by omega)
  have bk : ∀ {m : Nat} {A B : World} {k : Nat} {o : Obj}, OutB W1.heap.size (W1.heap.size + m) A B → k < w.heap.size + 2 → A.heap[k]? = some o → B.heap[k]? = some o := fun h hk ho =>
    (h.block _ (Array.getElem?_eq_some_iff.1 ho).1 (by omega)).trans ho
  refine (hit (w.heap.size + 1)
    (fun m pre W => I m pre W ∧ W.heap[w.heap.size + 1]? = some (.loop (rec .ready none)) ∧ W.heap[w.heap.size]? = some (.deferred (some [])))
    (fun m pre W => ∃ c, Ix m c pre W ∧ W.heap[w.heap.size + 1]? = some (.loop (rec .done (some c))) ∧ W.heap[w.heap.size]? = some (.deferred (some [])))
    W1 hb1
    (fun m s A B hs ho => ⟨hI m s A B hs.1 (out1 ho), bk ho (by omega) hs.2.1, bk ho (by omega) hs.2.2⟩)
    (fun m s A B hs ho => by
      obtain ⟨c, hc, hl, hk⟩ := hs
      exact ⟨c, hIx m c s A B hc (out1 ho), bk ho (by omega) hl, bk ho (by omega) hk⟩)
    ?_ (fun m => ⟨hI1 m, hL1, hK1⟩)).mono ?_
  · rintro m pre x W ⟨hi, hl, hk⟩ hsz hpre
    have hy := run_yield (P := P) (args := encs x) hl (by rw [hrec]; exact hps x)
    rw [hrec] at hy
    refine ⟨fn, _, assign, body, hy, roundIn_of_wpIn hfn (hround m _ pre x W hi (by omega) hpre _ ?_)⟩
    clear hy
    intro a' Wa hka hbody
    have hla : Wa.heap[w.heap.size + 1]? = some (.loop (rec .ready none)) := (hka.block _ (.inr (by omega))).trans hl
    have hda : Wa.heap[w.heap.size]? = some (.deferred (some [])) := (hka.block _ (.inr (by omega))).trans hk
    have hlt : w.heap.size + 1 < Wa.heap.size := (Array.getElem?_eq_some_iff.1 hla).1
    refine ⟨_, run_beginRound hla (by rw [hrec]), ?_⟩
    have hl2 : (Wa.putObj (w.heap.size + 1) (.loop { rec .ready none with state := .busy })).heap[w.heap.size + 1]? = some (.loop { rec .ready none with state := .busy }) := World.putObj_heap_same hlt
    have hk2 : (Wa.putObj (w.heap.size + 1) (.loop { rec .ready none with state := .busy })).heap[w.heap.size]? = some (.deferred (some [])) := (World.putObj_heap_other (by omega)).trans hda
    refine wpIn_mono (hbody _) ?_
    have fin : ∀ (jump : Option Code) (W3 : World), KeepB (fun k => C k ∨ w.heap.size ≤ k ∧ k < w.heap.size + 2 + m) (Wa.putObj (w.heap.size + 1) (.loop { rec .ready none with state := .busy })) W3 →
        (Instr.endRound (w.heap.size + 1) jump).run P W3 = .ok (.bool jump.isNone) (W3.putObj (w.heap.size + 1) (.loop (rec (if jump.isNone then .ready else .done) jump))) ∧
        (W3.putObj (w.heap.size + 1) (.loop (rec (if jump.isNone then .ready else .done) jump))).heap[w.heap.size + 1]? = some (.loop (rec (if jump.isNone then .ready else .done) jump)) ∧
        (W3.putObj (w.heap.size + 1) (.loop (rec (if jump.isNone then .ready else .done) jump))).heap[w.heap.size]? = some (.deferred (some [])) ∧
        OutB w.heap.size (w.heap.size + 2 + m) W3 (W3.putObj (w.heap.size + 1) (.loop (rec (if jump.isNone then .ready else .done) jump))) ∧
        KeepB (fun k => C k ∨ W1.heap.size ≤ k ∧ k < W1.heap.size + m) W (W3.putObj (w.heap.size + 1) (.loop (rec (if jump.isNone then .ready else .done) jump))) := fun jump W3 hk3 => by
      have hl3 := (hk3.block _ (.inr (by omega))).trans hl2
      have hd3 := (hk3.block _ (.inr (by omega))).trans hk2
      have hr := run_endRound (P := P) jump hl3
      rw [hrec] at hr
      have hno : ¬ (fun k => C k ∨ W1.heap.size ≤ k ∧ k < W1.heap.size + m) (w.heap.size + 1) := by
        rintro (h | ⟨h, -⟩)
        · have := hC _ h; omega
        · omega
      have hles : ∀ k, (C k ∨ W1.heap.size ≤ k ∧ k < W1.heap.size + m) → (C k ∨ w.heap.size ≤ k ∧ k < w.heap.size + 2 + m) := fun k h => h.imp id (fun h => by omega)
      refine ⟨by rw [hrec]; exact hr, World.putObj_heap_same (Array.getElem?_eq_some_iff.1 hl3).1, (World.putObj_heap_other (by omega)).trans hd3, (OutB.refl _ _ W3).put (by omega) (by omega) _, ?_⟩
      exact ((((hka.less hles).put hno _).trans (hk3.less hles))).put hno _
    rintro e a3 W3 hp
    cases e with
    | normal =>
      obtain ⟨hk3, hi3⟩ := hp
      obtain ⟨hr, hl4, hk4, ho4, hkp⟩ := fin none W3 hk3
      exact ⟨_, _, hr, .inl ⟨rfl, ⟨hI _ _ _ _ hi3 ho4, hl4, hk4⟩, hkp⟩⟩
    | ret =>
      obtain ⟨hk3, hi3⟩ := hp
      obtain ⟨hr, hl4, hk4, ho4, -⟩ := fin (some .ret) W3 hk3
      exact ⟨_, _, hr, .inr ⟨rfl, .ret, hIx _ _ _ _ _ hi3 ho4, hl4, hk4⟩⟩
    | exit id =>
      obtain ⟨hk3, hi3⟩ := hp
      obtain ⟨hr, hl4, hk4, ho4, -⟩ := fin (some (.exit id)) W3 hk3
      exact ⟨_, _, hr, .inr ⟨rfl, .exit id, hIx _ _ _ _ _ hi3 ho4, hl4, hk4⟩⟩
    | goto t =>
      obtain ⟨hk3, hi3⟩ := hp
      obtain ⟨hr, hl4, hk4, ho4, -⟩ := fin (some (.goto t)) W3 hk3
      exact ⟨_, _, hr, .inr ⟨rfl, .goto t, hIx _ _ _ _ _ hi3 ho4, hl4, hk4⟩⟩
    | panic ch => exact hp.elim
    | outgrown => exact hp.elim
  · rintro e W2 ⟨⟨v, rfl⟩, m, (⟨hi, hl, hk⟩ | ⟨pre, hpre, c, hi, hl, hk⟩)⟩
    · have hr := run_endLoop (P := P) hl (by rw [hrec]; simp)
      rw [hrec] at hr
      exact ⟨none, _, hr, hdone m _ (hI _ _ _ _ hi ((OutB.refl _ _ W2).put (by omega) (by omega) _)) ((World.putObj_heap_other (by omega)).trans hk)⟩
    · have hr := run_endLoop (P := P) hl (by rw [hrec]; simp)
      rw [hrec] at hr
      exact ⟨some c, _, hr, hstop m c pre _ hpre (hIx _ _ _ _ _ hi ((OutB.refl _ _ W2).put (by omega) (by omega) _)) ((World.putObj_heap_other (by omega)).trans hk)⟩

end Go.Proofs.YtnaadajcehfmiaaGreatDoor
