/- A range over a function whose iterator keeps cells of its own: the iterator's contract, and the law for the loop. -/
import Derived.RangeFuncCalls
import Derived.Below
import Derived.Deep.QuietTactic
import Derived.Lib.QuietBelow
import Derived.OrdersIn
namespace Go.Proofs.YtnaadajcehfmiaaDoor
open Go Go.RowKit

/-- B is A, but for the blocks from lo up to hi and for new ones. -/
structure OutB (lo hi : Nat) (A B : World) : Prop where
  os : B.os = A.os
  tape : B.tape = A.tape
  output : B.output = A.output
  size : A.heap.size ≤ B.heap.size
  block : ∀ k, k < A.heap.size → ¬ (lo ≤ k ∧ k < hi) → B.heap[k]? = A.heap[k]?

section
variable {lo hi : Nat} {A B C : World}
theorem OutB.refl (lo hi : Nat) (A : World) : OutB lo hi A A := ⟨rfl, rfl, rfl, Nat.le_refl _, fun _ _ _ => rfl⟩
theorem OutB.trans (h : OutB lo hi A B) (k : OutB lo hi B C) : OutB lo hi A C :=
  ⟨k.os.trans h.os, k.tape.trans h.tape, k.output.trans h.output, Nat.le_trans h.size k.size, fun i hi hn => (k.block i (Nat.lt_of_lt_of_le hi h.size) hn).trans (h.block i hi hn)⟩
theorem OutB.wide {lo' hi' : Nat} (h : OutB lo hi A B) (h1 : lo' ≤ lo) (h2 : hi ≤ hi') : OutB lo' hi' A B :=
  ⟨h.os, h.tape, h.output, h.size, fun k hk hn => h.block k hk (fun e => hn (by omega))⟩
theorem OutB.alloc (h : OutB lo hi A B) (o : Obj) : OutB lo hi A (B.alloc o) :=
  h.trans ⟨rfl, rfl, rfl, by simp, fun k hk _ => Below.heap_alloc B o k hk⟩
theorem OutB.put (h : OutB lo hi A B) {r : Nat} (h1 : lo ≤ r) (h2 : r < hi) (o : Obj) : OutB lo hi A (B.putObj r o) :=
  h.trans ⟨rfl, rfl, rfl, by simp, fun k _ hn => World.putObj_heap_other (fun e => hn (by omega))⟩
theorem OutB.setCell (h : OutB lo hi A B) {p : Addr} (h1 : lo ≤ p.block) (h2 : p.block < hi) (v : Value) : OutB lo hi A (B.setCell p v) :=
  h.trans ⟨rfl, rfl, rfl, by simp [World.setCell], fun k _ hn => Below.heap_setCell B p v k (fun e => hn (by omega))⟩
theorem OutB.below (h : OutB lo hi A B) (hb : Below B.heap.size B C) : OutB lo hi A C :=
  h.trans ⟨hb.os, hb.tape, hb.output, hb.size, fun k hk _ => hb.block k hk⟩
theorem OutB.toBelow (h : OutB lo hi A B) {n : Nat} (h1 : n ≤ lo) (h2 : n ≤ A.heap.size) : Below n A B :=
  ⟨h.os, h.tape, h.output, h.size, fun k hk => h.block k (by omega) (by omega)⟩
theorem OutB.grown (h : OutB lo hi A B) {r : Option Nat} (hg : B.grownBy C r) (hr : ∀ k, r = some k → lo ≤ k ∧ k < hi) : OutB lo hi A C :=
  h.trans ⟨hg.os, hg.tape, hg.output, hg.size, fun k hk hn => hg.block k hk (fun e => hn (hr k e.symm))⟩
end

/-- The blocks of S lie as they lay. -/
structure KeepB (S : Nat → Prop) (A B : World) : Prop where
  size : A.heap.size ≤ B.heap.size
  block : ∀ k, S k → B.heap[k]? = A.heap[k]?

section
variable {S S' : Nat → Prop} {A B C : World}
theorem KeepB.refl (S : Nat → Prop) (A : World) : KeepB S A A := ⟨Nat.le_refl _, fun _ _ => rfl⟩
theorem KeepB.trans (h : KeepB S A B) (k : KeepB S B C) : KeepB S A C := ⟨Nat.le_trans h.size k.size, fun i hi => (k.block i hi).trans (h.block i hi)⟩
theorem KeepB.less (h : KeepB S A B) (hs : ∀ k, S' k → S k) : KeepB S' A B := ⟨h.size, fun k hk => h.block k (hs k hk)⟩
theorem KeepB.alloc (h : KeepB S A B) (hS : ∀ k, S k → k < B.heap.size) (o : Obj) : KeepB S A (B.alloc o) :=
  h.trans ⟨by simp, fun k hk => Below.heap_alloc B o k (hS k hk)⟩
theorem KeepB.setCell (h : KeepB S A B) {p : Addr} (hp : ¬ S p.block) (v : Value) : KeepB S A (B.setCell p v) :=
  h.trans ⟨by simp [World.setCell], fun k hk => Below.heap_setCell B p v k (fun e => hp (by rw [← e]; exact hk))⟩
theorem KeepB.below (h : KeepB S A B) {n : Nat} (hb : Below n B C) (hS : ∀ k, S k → k < n) : KeepB S A C := h.trans ⟨hb.size, fun k hk => hb.block k (hS k hk)⟩
theorem KeepB.grown (h : KeepB S A B) {r : Option Nat} (hg : B.grownBy C r) (hS : ∀ k, S k → k < B.heap.size) (hr : ∀ k, r = some k → ¬ S k) : KeepB S A C :=
  h.trans ⟨hg.size, fun k hk => hg.block k (hS k hk) (fun e => hr k e.symm hk)⟩
theorem KeepB.put (h : KeepB S A B) {r : Nat} (hr : ¬ S r) (o : Obj) : KeepB S A (B.putObj r o) :=
  h.trans ⟨by simp, fun k hk => World.putObj_heap_other (fun e => hr (by rw [← e]; exact hk))⟩
theorem KeepB.drewN (h : KeepB S A B) (n : Nat) : KeepB S A (B.drewN n) := ⟨h.size, h.block⟩
theorem KeepB.drew (h : KeepB S A B) : KeepB S A B.drew := ⟨h.size, h.block⟩
end

/-- The contract of an iterator that tells xs, one by one, in that order; the first blocks that it lays, m of them for some m, are its own; it leans on the blocks C. -/
def IterB {α : Type} (P : Program) (g : Nat) (lb : Array Value) (encs : α → Array Value) (xs : List α) (C : Nat → Prop) (w0 : World) : Prop :=
  ∀ (l : Nat) (J Jx : Nat → List α → World → Prop) (W : World), Below w0.heap.size w0 W →
    (∀ m s A B, J m s A → OutB W.heap.size (W.heap.size + m) A B → J m s B) → (∀ m s A B, Jx m s A → OutB W.heap.size (W.heap.size + m) A B → Jx m s B) →
    (∀ m pre x W1, J m pre W1 → W.heap.size + m ≤ W1.heap.size → (pre ++ [x]) <+: xs →
      YieldAt Fence.wide 0 P l (encs x) W1 fun e W' =>
        (e = .returned (.bool true) ∧ J m (pre ++ [x]) W' ∧ KeepB (fun k => C k ∨ W.heap.size ≤ k ∧ k < W.heap.size + m) W1 W') ∨ (e = .returned (.bool false) ∧ Jx m (pre ++ [x]) W')) →
    (∀ m, J m [] W) →
    CallsIn Fence.wide 0 P g (#[.func (.yield l) #[] #[]] ++ lb) W fun e W' => (∃ v, e = .returned v) ∧ ∃ m, J m xs W' ∨ ∃ pre, pre <+: xs ∧ Jx m pre W'

/-- How a round may be left. -/
def iterPost {α : Type} (S : Nat → Prop) (I : List α → World → Prop) (Ix : Code → List α → World → Prop) (xs : List α) (W : World) : Exit → Act → World → Prop
  | .normal, _, W' => KeepB S W W' ∧ I xs W'
  | .ret, _, W' => KeepB S W W' ∧ Ix .ret xs W'
  | .exit id, _, W' => KeepB S W W' ∧ Ix (.exit id) xs W'
  | .goto t, _, W' => KeepB S W W' ∧ Ix (.goto t) xs W'
  | .panic _, _, _ => False
  | .outgrown, _, _ => False

/-- 'for x := range g { body }', g an iterator with its contract. -/
theorem wpIn_iterB {α : Type} {P : Program} {g : Operand} {ps : Array Tmp} {assign body : Code} {Q : Exit → Act → World → Prop} {a : Act} {w : World}
    {gf : Nat} {lb : Array Value} (hg : a.eval g = .func (.func gf) #[] lb) (eg : ∀ args w, (callFunc gf args).run P w = .ok (.enter gf args) w)
    {encs : α → Array Value} {xs : List α} {C : Nat → Prop} {w0 : World} (hit : IterB P gf lb encs xs C w0) (hb0 : Below w0.heap.size w0 w) (hC : ∀ k, C k → k < w.heap.size)
    (hps : ∀ x, (encs x).size = ps.size)
    (I : Nat → List α → World → Prop) (Ix : Nat → Code → List α → World → Prop)
    (hI : ∀ m s A B, I m s A → OutB w.heap.size (w.heap.size + 2 + m) A B → I m s B) (hIx : ∀ m c s A B, Ix m c s A → OutB w.heap.size (w.heap.size + 2 + m) A B → Ix m c s B)
    (h0 : ∀ m, I m [] w)
    (hround : ∀ (m l : Nat) (pre : List α) (x : α) (W : World), I m pre W → w.heap.size + 2 + m ≤ W.heap.size → (pre ++ [x]) <+: xs →
      ∀ K : Act → World → Prop, (∀ a' W', KeepB (fun k => C k ∨ w.heap.size ≤ k ∧ k < w.heap.size + 2 + m) W W' →
          (∀ o, body.wpIn (Fence.wide.inRound l) 0 P (iterPost (fun k => C k ∨ w.heap.size ≤ k ∧ k < w.heap.size + 2 + m) (I m) (Ix m) (pre ++ [x]) (W'.putObj (w.heap.size + 1) o)) a' (W'.putObj (w.heap.size + 1) o)) → K a' W') →
      assign.wpIn (Fence.wide.inRound l) 0 P (Exit.then K (fun _ _ _ => False)) { tmps := (ps.zip (encs x)).foldl (fun t (p, v) => t.setIfInBounds p v) a.tmps, defers := [] } W)
    (hdone : ∀ (m : Nat) (W : World), I m xs W → W.heap[w.heap.size]? = some (.deferred (some [])) → Q .normal { a with defers := { target := .collected w.heap.size, args := #[] } :: a.defers } W)
    (hstop : ∀ (m : Nat) (c : Code) (pre : List α) (W : World), pre <+: xs → Ix m c pre W → W.heap[w.heap.size]? = some (.deferred (some [])) → c.wpIn Fence.wide 0 P Q { a with defers := { target := .collected w.heap.size, args := #[] } :: a.defers } W) :
    (Code.rangeFunc g ps assign body).wpIn Fence.wide 0 P Q a w := by
  refine wpIn_rangeFunc ?_
  intro fn hfn
  obtain ⟨rec, hrec⟩ : ∃ rec : LoopState → Option Code → Loop, rec = fun st pe => { state := st, pending := pe, fn, tmps := a.tmps, params := ps, assign, body, defers := w.heap.size } := ⟨_, rfl⟩
  obtain ⟨W1, hW1⟩ : ∃ W1, (w.alloc (.deferred (some []))).alloc (.loop (rec .ready none)) = W1 := ⟨_, rfl⟩
  have z1 : W1.heap.size = w.heap.size + 2 := by rw [← hW1]; simp
  have hL1 : W1.heap[w.heap.size + 1]? = some (.loop (rec .ready none)) := by
    rw [← hW1]; have := World.alloc_heap_new (w.alloc (.deferred (some []))) (.loop (rec .ready none)); rwa [World.size_alloc] at this
  have hK1 : W1.heap[w.heap.size]? = some (.deferred (some [])) := by
    rw [← hW1]; exact (Below.heap_alloc _ _ _ (by simp)).trans (World.alloc_heap_new w _)
  have hI1 : ∀ m, I m [] W1 := fun m => hI _ _ _ _ (h0 m) (by rw [← hW1]; exact ((OutB.refl _ _ w).alloc _).alloc _)
  have hb1 : Below w0.heap.size w0 W1 := by
    rw [← hW1]; exact hb0.trans ((((Below.refl _ w).alloc (Nat.le_refl _) _).alloc (by simp) _).mono hb0.size)
  refine ⟨w.heap.size + 1, [{ target := .collected w.heap.size, args := #[] }], W1, { target := .fn (.func gf) lb, args := #[.func (.yield (w.heap.size + 1)) #[] #[]] }, W1, gf,
    #[.func (.yield (w.heap.size + 1)) #[] #[]] ++ lb, W1, ?_, ?_, ?_, ?_, fun h => (by cases h), ?_⟩
  · rw [← hW1, hrec]; exact run_enterLoop_outer _ _ _ _ _
  · simp only [resolve, hg]
    simp [go_sem]
  · intro _ _; trivial
  · simp [invoke, go_sem, eg]
  have out1 : ∀ {m : Nat} {A B : World}, OutB W1.heap.size (W1.heap.size + m) A B → OutB w.heap.size (w.heap.size + 2 + m) A B := fun h => h.wide (by omega) (by omega)
  have bk : ∀ {m : Nat} {A B : World} {k : Nat} {o : Obj}, OutB W1.heap.size (W1.heap.size + m) A B → k < w.heap.size + 2 → A.heap[k]? = some o → B.heap[k]? = some o := fun h hk ho =>
    (h.block _ (Array.getElem?_eq_some_iff.1 ho).1 (by omega)).trans ho
  refine (hit (w.heap.size + 1)
    (fun m pre W => I m pre W ∧ W.heap[w.heap.size + 1]? = some (.loop (rec .ready none)) ∧ W.heap[w.heap.size]? = some (.deferred (some [])))
    (fun m pre W => ∃ c, Ix m c pre W ∧ W.heap[w.heap.size + 1]? = some (.loop (rec .done (some c))) ∧ W.heap[w.heap.size]? = some (.deferred (some [])))
    W1 hb1
    (fun m s A B hs ho => ⟨hI m s A B hs.1 (out1 ho), bk ho (by omega) hs.2.1, bk ho (by omega) hs.2.2⟩)
    (fun m s A B hs ho => by
      obtain ⟨c, hc, hl, hk⟩ := hs
      exact ⟨c, hIx m c s A B hc (out1 ho), bk ho (by omega) hl, bk ho (by omega) hk⟩)
    ?_ (fun m => ⟨hI1 m, hL1, hK1⟩)).mono ?_
  · rintro m pre x W ⟨hi, hl, hk⟩ hsz hpre
    have hy := run_yield (P := P) (args := encs x) hl (by rw [hrec]; exact hps x)
    rw [hrec] at hy
    refine ⟨fn, _, assign, body, hy, roundIn_of_wpIn hfn (hround m _ pre x W hi (by omega) hpre _ ?_)⟩
    clear hy
    intro a' Wa hka hbody
    have hla : Wa.heap[w.heap.size + 1]? = some (.loop (rec .ready none)) := (hka.block _ (.inr (by omega))).trans hl
    have hda : Wa.heap[w.heap.size]? = some (.deferred (some [])) := (hka.block _ (.inr (by omega))).trans hk
    have hlt : w.heap.size + 1 < Wa.heap.size := (Array.getElem?_eq_some_iff.1 hla).1
    refine ⟨_, run_beginRound hla (by rw [hrec]), ?_⟩
    have hl2 : (Wa.putObj (w.heap.size + 1) (.loop { rec .ready none with state := .busy })).heap[w.heap.size + 1]? = some (.loop { rec .ready none with state := .busy }) := World.putObj_heap_same hlt
    have hk2 : (Wa.putObj (w.heap.size + 1) (.loop { rec .ready none with state := .busy })).heap[w.heap.size]? = some (.deferred (some [])) := (World.putObj_heap_other (by omega)).trans hda
    refine wpIn_mono (hbody _) ?_
    have fin : ∀ (jump : Option Code) (W3 : World), KeepB (fun k => C k ∨ w.heap.size ≤ k ∧ k < w.heap.size + 2 + m) (Wa.putObj (w.heap.size + 1) (.loop { rec .ready none with state := .busy })) W3 →
        (Instr.endRound (w.heap.size + 1) jump).run P W3 = .ok (.bool jump.isNone) (W3.putObj (w.heap.size + 1) (.loop (rec (if jump.isNone then .ready else .done) jump))) ∧
        (W3.putObj (w.heap.size + 1) (.loop (rec (if jump.isNone then .ready else .done) jump))).heap[w.heap.size + 1]? = some (.loop (rec (if jump.isNone then .ready else .done) jump)) ∧
        (W3.putObj (w.heap.size + 1) (.loop (rec (if jump.isNone then .ready else .done) jump))).heap[w.heap.size]? = some (.deferred (some [])) ∧
        OutB w.heap.size (w.heap.size + 2 + m) W3 (W3.putObj (w.heap.size + 1) (.loop (rec (if jump.isNone then .ready else .done) jump))) ∧
        KeepB (fun k => C k ∨ W1.heap.size ≤ k ∧ k < W1.heap.size + m) W (W3.putObj (w.heap.size + 1) (.loop (rec (if jump.isNone then .ready else .done) jump))) := fun jump W3 hk3 => by
      have hl3 := (hk3.block _ (.inr (by omega))).trans hl2
      have hd3 := (hk3.block _ (.inr (by omega))).trans hk2
      have hr := run_endRound (P := P) jump hl3
      rw [hrec] at hr
      have hno : ¬ (fun k => C k ∨ W1.heap.size ≤ k ∧ k < W1.heap.size + m) (w.heap.size + 1) := by
        rintro (h | ⟨h, -⟩)
        · have := hC _ h; omega
        · omega
      have hles : ∀ k, (C k ∨ W1.heap.size ≤ k ∧ k < W1.heap.size + m) → (C k ∨ w.heap.size ≤ k ∧ k < w.heap.size + 2 + m) := fun k h => h.imp id (fun h => by omega)
      refine ⟨by rw [hrec]; exact hr, World.putObj_heap_same (Array.getElem?_eq_some_iff.1 hl3).1, (World.putObj_heap_other (by omega)).trans hd3, (OutB.refl _ _ W3).put (by omega) (by omega) _, ?_⟩
      exact ((((hka.less hles).put hno _).trans (hk3.less hles))).put hno _
    rintro e a3 W3 hp
    cases e with
    | normal =>
      obtain ⟨hk3, hi3⟩ := hp
      obtain ⟨hr, hl4, hk4, ho4, hkp⟩ := fin none W3 hk3
      exact ⟨_, _, hr, .inl ⟨rfl, ⟨hI _ _ _ _ hi3 ho4, hl4, hk4⟩, hkp⟩⟩
    | ret =>
      obtain ⟨hk3, hi3⟩ := hp
      obtain ⟨hr, hl4, hk4, ho4, -⟩ := fin (some .ret) W3 hk3
      exact ⟨_, _, hr, .inr ⟨rfl, .ret, hIx _ _ _ _ _ hi3 ho4, hl4, hk4⟩⟩
    | exit id =>
      obtain ⟨hk3, hi3⟩ := hp
      obtain ⟨hr, hl4, hk4, ho4, -⟩ := fin (some (.exit id)) W3 hk3
      exact ⟨_, _, hr, .inr ⟨rfl, .exit id, hIx _ _ _ _ _ hi3 ho4, hl4, hk4⟩⟩
    | goto t =>
      obtain ⟨hk3, hi3⟩ := hp
      obtain ⟨hr, hl4, hk4, ho4, -⟩ := fin (some (.goto t)) W3 hk3
      exact ⟨_, _, hr, .inr ⟨rfl, .goto t, hIx _ _ _ _ _ hi3 ho4, hl4, hk4⟩⟩
    | panic ch => exact hp.elim
    | outgrown => exact hp.elim
  · rintro e W2 ⟨⟨v, rfl⟩, m, (⟨hi, hl, hk⟩ | ⟨pre, hpre, c, hi, hl, hk⟩)⟩
    · have hr := run_endLoop (P := P) hl (by rw [hrec]; simp)
      rw [hrec] at hr
      exact ⟨none, _, hr, hdone m _ (hI _ _ _ _ hi ((OutB.refl _ _ W2).put (by omega) (by omega) _)) ((World.putObj_heap_other (by omega)).trans hk)⟩
    · have hr := run_endLoop (P := P) hl (by rw [hrec]; simp)
      rw [hrec] at hr
      exact ⟨some c, _, hr, hstop m c pre _ hpre (hIx _ _ _ _ _ hi ((OutB.refl _ _ W2).put (by omega) (by omega) _)) ((World.putObj_heap_other (by omega)).trans hk)⟩

/-- No operation defers a call. -/
def noDefer (ops : Array Oper) : Bool := ops.all fun o => match o.op with | .defer _ => false | _ => true
theorem noDefer_get {ops : Array Oper} (h : noDefer ops = true) {i : Nat} {o : Oper} (ho : ops[i]? = some o) : ∀ c, o.op ≠ .defer c := by
  intro c hc
  obtain ⟨hi, he⟩ := Array.getElem?_eq_some_iff.1 ho
  have := Array.all_eq_true.1 h i hi
  rw [he, hc] at this
  cases this

/-- A quiet operation, met in a round. -/
theorem wpIn_of_quiet_round {P : Program} {C : World → Prop} {r : Nat} {o : Oper} {a : Act} {K : Act → Prop} {K' : Act → World → Prop} {Q' : Exit → Act → World → Prop} {w : World} (hd : ∀ c, o.op ≠ .defer c) (hw : C w)
    (h : ∀ a w', C w' → K a → K' a w') (hh : o.quiet P a C K) : o.wpIn (Fence.wide.inRound r) 0 P a w K' Q' := by
  refine ⟨fun _ _ => trivial, ?_⟩
  rw [Fence.inRound_round, Oper.semAt_eq _ _ _ hd]
  obtain ⟨v, h1, h2⟩ := hh
  have h3 := h1 w hw
  unfold Oper.quietAt at h3
  generalize (execOp a.eval o).run P w = q at *
  cases q with
  | ok n w' =>
    cases n <;> simp only [Oper.quietUpon] at h3 <;> simp only [Oper.uponIn]
    case value u =>
      obtain ⟨rfl, rfl⟩ := h3
      exact h _ _ hw h2
    case skip =>
      obtain ⟨rfl, rfl⟩ := h3
      exact h _ _ hw h2
    case enter f args =>
      obtain ⟨rfl, hc⟩ := h3
      exact ⟨fun h => (by cases h), CallsIn.inRound r ((callsIn_wide.2 hc).mono fun e w'' ⟨he, hw''⟩ => by subst he; exact h _ _ hw'' h2)⟩
  | halt x w' => simp only [Oper.quietUpon] at h3

theorem wpAnyIn_of_quiet_round {P : Program} {md : Region.Mode} {ops : Array Oper} {C : World → Prop} {r : Nat} {Q : Act → Prop} {Q' : Exit → Act → World → Prop} (hd : noDefer ops = true) (hQ : ∀ a w, C w → Q a → Q' .normal a w) :
    ∀ (fuel : Nat) (listed : Array Bool) (a : Act) (w : World), C w → wpAnyQ P md ops C Q fuel listed a → wpAnyIn (Fence.wide.inRound r) 0 P md ops Q' fuel listed a w
  | 0, _, _, _, hw, h => ⟨h.1, hQ _ _ hw h.2⟩
  | fuel + 1, _, _, _, hw, h => ⟨fun h0 => hQ _ _ hw (h.1 h0), fun i hi => by
    have hh := h.2 i hi
    unfold qOp at hh
    unfold wpOpIn
    split
    · rename_i ho
      simp only [ho] at hh
      exact wpAnyIn_of_quiet_round hd hQ fuel _ _ _ hw hh
    · rename_i o ho
      simp only [ho] at hh
      split
      · rename_i hw'
        simp only [hw', if_true] at hh
        exact wpIn_of_quiet_round (noDefer_get hd ho) hw (fun a' w' hw' => wpAnyIn_of_quiet_round hd hQ fuel _ a' w' hw') hh
      · rename_i hw'
        simp only [hw'] at hh
        exact ⟨fun _ _ => trivial, wpAnyIn_of_quiet_round hd hQ fuel _ _ _ hw hh⟩⟩

/-- A region that draws its order, in a round: one walk in the order of the text. -/
theorem wpIn_region_quiet_round {P : Program} {id r : Nat} {Q : Exit → Act → World → Prop} {a : Act} {w : World} {l : List Oper} (hm : P.follows .mixedOrders = true) (hB : Region.lexB .any l.toArray = true) (hd : noDefer l.toArray = true)
    (h : wpQuiet P l.toArray (fun w' => ∃ p : Regrown, w' = Go.Sort.grow (redrawn w p.d) p.os) (fun a' => ∀ w', (∃ p : Regrown, w' = Go.Sort.grow (redrawn w p.d) p.os) → Q .normal a' w') l a) : (Code.region id l.toArray true).wpIn (Fence.wide.inRound r) 0 P Q a w := by
  have hB' := hB
  simp only [Region.lexB, Bool.and_eq_true] at hB'
  refine wpIn_region_any hm (wpAnyIn_of_quiet_round (C := fun w' => ∃ p : Regrown, w' = Go.Sort.grow (redrawn w p.d) p.os) (Q := fun a' => ∀ w', (∃ p : Regrown, w' = Go.Sort.grow (redrawn w p.d) p.os) → Q .normal a' w') hd (fun _ w' hw' h => h w' hw') _ _ _ _ ⟨⟨w.drawn + 1, #[]⟩, by rw [Go.Sort.grow_empty]; rfl⟩ ?_)
  have := wpAnyQ_lex (P := P) (C := fun w' => ∃ p : Regrown, w' = Go.Sort.grow (redrawn w p.d) p.os) (md := .any) hB'.1 l 0 (Array.replicate l.toArray.size false) a (by simp) (by simpa using hB'.2) h
  simpa using this

/-- The ways of a piece that holds one range over a function meet; Good says what the world is. -/
theorem wp_meet {P : Program} {c : Code} {K : Act → World → Prop} {Q : Exit → Act → World → Prop} {a : Act} {w : World} (D : Nat) (Good : World → Prop)
    (h1 : c.wp P (Exit.then (fun a' w' => a' = { a with defers := { target := .collected D, args := #[] } :: a.defers } ∧ Good w') Q) a w)
    (h2 : ∀ w', Good w' → K { a with defers := { target := .collected D, args := #[] } :: a.defers } w') : c.wp P (Exit.then K Q) a w :=
  wp_mono h1 fun e a' w' h => by
    cases e with
    | normal => rw [h.1]; exact h2 _ h.2
    | _ => exact h

/-- All rows of m bools. -/
def bools : Nat → List (List Bool)
  | 0 => [[]]
  | m + 1 => (bools m).flatMap fun L => [true :: L, false :: L]
theorem mem_bools : ∀ {m : Nat} {L : List Bool}, L.length = m → L ∈ bools m
  | 0, L, h => by rw [List.length_eq_zero_iff.1 h]; simp [bools]
  | m + 1, [], h => by simp at h
  | m + 1, b :: L, h => by
    have := mem_bools (m := m) (L := L) (by simpa using h)
    simp only [bools, List.mem_flatMap]
    exact ⟨L, this, by cases b <;> simp⟩

/-- The first operations of a region come up by themselves, until ex is met. -/
def headB (md : Region.Mode) (ops ops6 : Array Oper) (k : Nat) (inv ex : List Bool → Bool) : Bool :=
  (bools ops6.size).all fun L => !inv L || ex L || (decide (Region.ready md ops (L ++ List.replicate k false).toArray = Region.ready md ops6 L.toArray) && !decide (Region.ready md ops6 L.toArray = []) && (Region.ready md ops6 L.toArray).all fun i => inv (L.set i true))

theorem wpAnyIn_head {P : Program} {md : Region.Mode} {ops ops6 : Array Oper} {C : World → Prop} {r k : Nat} {Q : Act → Prop} {Q' : Exit → Act → World → Prop} {inv ex : List Bool → Bool} (hd : noDefer ops6 = true)
    (hs : ∀ (i : Nat) (o : Oper), ops6[i]? = some o → ops[i]? = some o ∧ o.guard = none) (hB : headB md ops ops6 k inv ex = true)
    (hend : ∀ fuel L a w, L.length = ops6.size → L.count false = fuel → ex L = true → C w → wpAnyQ P md ops6 C Q fuel L.toArray a → wpAnyIn (Fence.wide.inRound r) 0 P md ops Q' (fuel + k) (L ++ List.replicate k false).toArray a w) :
    ∀ (fuel : Nat) (L : List Bool) (a : Act) (w : World), L.length = ops6.size → L.count false = fuel → inv L = true → C w → wpAnyQ P md ops6 C Q fuel L.toArray a →
      wpAnyIn (Fence.wide.inRound r) 0 P md ops Q' (fuel + k) (L ++ List.replicate k false).toArray a w
  | fuel, L, a, w, hl, hc, hi, hw, h => by
    by_cases hx : ex L = true
    · exact hend fuel L a w hl hc hx hw h
    have hh := List.all_eq_true.1 hB L (mem_bools hl)
    simp only [hi, Bool.not_true, Bool.false_or, hx] at hh
    simp only [Bool.and_eq_true, decide_eq_true_eq, Bool.not_eq_true', decide_eq_false_iff_not, List.all_eq_true] at hh
    obtain ⟨⟨hr1, hr2⟩, hr3⟩ := hh
    match fuel, hc, h with
    | 0, hc, h => exact absurd h.1 hr2
    | fuel + 1, hc, h =>
      rw [show fuel + 1 + k = (fuel + k) + 1 by omega]
      unfold wpAnyIn
      rw [hr1]
      refine ⟨fun h0 => absurd h0 hr2, fun i hi => ?_⟩
      have hq := h.2 i hi
      have hinv := hr3 i hi
      have hi' := hi
      simp only [Region.ready, List.mem_filter, List.mem_range, Bool.and_eq_true, Bool.not_eq_true'] at hi'
      obtain ⟨him, hLi, -⟩ := hi'
      have hLi2 : L[i]? = some false := by
        rw [Array.getD_eq_getD_getElem?] at hLi
        rw [List.getElem?_toArray] at hLi
        have : i < L.length := by omega
        rw [List.getElem?_eq_getElem this] at hLi ⊢
        simpa using hLi
      obtain ⟨o, ho⟩ : ∃ o, ops6[i]? = some o := ⟨_, Array.getElem?_eq_getElem him⟩
      obtain ⟨ho2, hg⟩ := hs i o ho
      unfold qOp at hq
      rw [ho] at hq
      simp only at hq
      have hwant : ∀ y, Region.wanted o y = true := fun y => by simp [Region.wanted, hg]
      rw [if_pos (hwant _)] at hq
      unfold wpOpIn
      rw [ho2]
      simp only
      rw [if_pos (hwant _)]
      refine wpIn_of_quiet_round (noDefer_get hd ho) hw (fun a' w' hw' hk => ?_) hq
      have e1 : (L ++ List.replicate k false).toArray.setIfInBounds i true = (L.set i true ++ List.replicate k false).toArray := by
        have : i < L.length := by omega
        simp [List.set_append_left, this]
      have e2 : L.toArray.setIfInBounds i true = (L.set i true).toArray := by simp
      rw [e1]
      rw [e2] at hk
      refine wpAnyIn_head hd hs hB hend fuel (L.set i true) a' w' (by simpa using hl) ?_ hinv hw' hk
      have hlt : i < L.length := by omega
      have hLe : L[i] = false := by rw [List.getElem?_eq_getElem hlt] at hLi2; exact Option.some.inj hLi2
      rw [List.count_set hlt, hLe, hc]
      simp
termination_by fuel => fuel

/-- A region that draws its order, in a round: m operations that only read, up to where another may come up; k more. -/
theorem wpIn_region_take_round {P : Program} {id r : Nat} (m k : Nat) (inv ex : List Bool → Bool) {Q : Exit → Act → World → Prop} {a : Act} {w : World} {l : List Oper} (Qz : Act → Prop) (hm : P.follows .mixedOrders = true) (hB : Region.lexB .any (l.take m).toArray = true) (hd : noDefer (l.take m).toArray = true)
    (hg : (l.take m).all (fun o => o.guard.isNone) = true) (hh : headB .any l.toArray (l.take m).toArray k inv ex = true) (hi : inv (List.replicate (l.take m).length false) = true) (hk : l.length = (l.take m).length + k)
    (h : wpQuiet P (l.take m).toArray (fun w' => ∃ p : Regrown, w' = Go.Sort.grow (redrawn w p.d) p.os) Qz (l.take m) a)
    (hend : ∀ fuel L a' w', L.length = (l.take m).toArray.size → L.count false = fuel → ex L = true → (∃ p : Regrown, w' = Go.Sort.grow (redrawn w p.d) p.os) →
      wpAnyQ P .any (l.take m).toArray (fun w' => ∃ p : Regrown, w' = Go.Sort.grow (redrawn w p.d) p.os) Qz fuel L.toArray a' → wpAnyIn (Fence.wide.inRound r) 0 P .any l.toArray Q (fuel + k) (L ++ List.replicate k false).toArray a' w') :
    (Code.region id l.toArray true).wpIn (Fence.wide.inRound r) 0 P Q a w := by
  have hB' := hB
  simp only [Region.lexB, Bool.and_eq_true] at hB'
  refine wpIn_region_any hm ?_
  have h1 := wpAnyQ_lex (P := P) (C := fun w' => ∃ p : Regrown, w' = Go.Sort.grow (redrawn w p.d) p.os) (md := .any) hB'.1 (l.take m) 0 (Array.replicate (l.take m).toArray.size false) a (by simp) (by simpa using hB'.2) h
  have hs : ∀ (i : Nat) (o : Oper), (l.take m).toArray[i]? = some o → l.toArray[i]? = some o ∧ o.guard = none := fun i o ho => by
    rw [List.getElem?_toArray] at ho ⊢
    have hi := (List.getElem?_eq_some_iff.1 ho).1
    have h1 := List.all_eq_true.1 hg o (List.mem_of_getElem? ho)
    rw [List.getElem?_take_of_lt (by rw [List.length_take] at hi; omega)] at ho
    exact ⟨ho, by simpa using h1⟩
  have h2 := wpAnyIn_head (k := k) (r := r) (Q' := Q) (Q := Qz) (C := fun w' => ∃ p : Regrown, w' = Go.Sort.grow (redrawn w p.d) p.os) hd hs hh hend (l.take m).length (List.replicate (l.take m).length false) a { w with drawn := w.drawn + 1 } (by simp) (by simp) hi ⟨⟨w.drawn + 1, #[]⟩, by rw [Go.Sort.grow_empty]; rfl⟩ (by simpa using h1)
  have e : (List.replicate (l.take m).length false ++ List.replicate k false) = List.replicate l.length false := by rw [hk, List.replicate_append_replicate]
  rw [e] at h2
  rw [show (l.toArray.size) = (l.take m).length + k by simpa using hk, show (l.take m).length + k = l.length from hk.symm]
  rw [← hk] at h2
  simpa using h2

/-- What the head of a region lays into its temporaries. -/
def putAll (vs : List (Tmp × Value)) (a : Act) : Act := vs.foldl (fun b p => b.put (some p.1) p.2) a
theorem wpIn_region_puts_round {P : Program} {id r : Nat} (m k : Nat) (inv ex : List Bool → Bool) (vs : List (Tmp × Value)) {Q : Exit → Act → World → Prop} {a : Act} {w : World} {l : List Oper} (hm : P.follows .mixedOrders = true) (hB : Region.lexB .any (l.take m).toArray = true) (hd : noDefer (l.take m).toArray = true)
    (hg : (l.take m).all (fun o => o.guard.isNone) = true) (hh : headB .any l.toArray (l.take m).toArray k inv ex = true) (hi : inv (List.replicate (l.take m).length false) = true) (hk : l.length = (l.take m).length + k)
    (h : wpQuiet P (l.take m).toArray (fun w' => ∃ p : Regrown, w' = Go.Sort.grow (redrawn w p.d) p.os) (fun a' => a' = putAll vs a) (l.take m) a)
    (hend : ∀ fuel L a' w', L.length = (l.take m).toArray.size → L.count false = fuel → ex L = true → (∃ p : Regrown, w' = Go.Sort.grow (redrawn w p.d) p.os) →
      wpAnyQ P .any (l.take m).toArray (fun w' => ∃ p : Regrown, w' = Go.Sort.grow (redrawn w p.d) p.os) (fun a' => a' = putAll vs a) fuel L.toArray a' → wpAnyIn (Fence.wide.inRound r) 0 P .any l.toArray Q (fuel + k) (L ++ List.replicate k false).toArray a' w') :
    (Code.region id l.toArray true).wpIn (Fence.wide.inRound r) 0 P Q a w := wpIn_region_take_round m k inv ex _ hm hB hd hg hh hi hk h hend

/-- append, met in a round, its run known. -/
theorem wpIn_append_round {P : Program} {r : Nat} {o : Oper} {a : Act} {W wa : World} {va vs vx : Value} {K : Act → World → Prop} {Q' : Exit → Act → World → Prop} (s x : Operand) (t : TypeId)
    (ho : o.op = .call { callee := .builtin .append, args := #[s, x], argTypes := #[t, t] }) (hv : a.eval s = vs) (hx : a.eval x = vx)
    (hrun : (Builtin.append_ #[t, t] o.type #[vs, vx]).run P W = .ok va wa) (hK : K (a.put o.dst va) wa) : o.wpIn (Fence.wide.inRound r) 0 P a W K Q' := by
  refine ⟨fun _ _ => trivial, ?_⟩
  rw [Fence.inRound_round, Oper.semAt_eq _ _ _ (by rw [ho]; intro c h; cases h)]
  simp [execOp, ho, resolve, invoke, builtin, hv, hx, hrun, Result.andThen, Oper.uponIn]
  exact hK

theorem arr_unset {T S : Array Value} {i : Nat} {v : Value} (h : T.setIfInBounds i v = S) : T = S.setIfInBounds i (T.getD i undef) := by
  subst h
  refine Array.ext (by simp) fun k h1 h2 => ?_
  rw [Array.getElem_setIfInBounds]
  · split
    · rename_i e
      subst e
      simp [Array.getD, h1]
    · rename_i e
      rw [Array.getElem_setIfInBounds (by simpa using h1), if_neg e]
  · simpa using h1
end Go.Proofs.YtnaadajcehfmiaaDoor
