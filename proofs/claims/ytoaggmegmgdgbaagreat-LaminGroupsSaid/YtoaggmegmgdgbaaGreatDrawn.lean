import Derived.Test.YtoaggmegmgdgbaaGreatLamB
import Derived.Calls
import Derived.Lone
namespace Go.Proofs.YtoaggmegmgdgbaaGreat
open Go
def NoLess {α : Type} (w : World) : Result α → Prop
  | .ok _ w' => w.drawn ≤ w'.drawn
  | .halt _ w' => w.drawn ≤ w'.drawn
theorem NoLess.mono {α : Type} {w w1 : World} {r : Result α} (h : w.drawn ≤ w1.drawn) (k : NoLess w1 r) : NoLess w r := by
  cases r <;> exact Nat.le_trans h k
theorem ask_drawn {α : Type} (w : World) (x : Ask α) : w.drawn ≤ (w.ask x).2.drawn := by
  induction x generalizing w with
  | done a => exact Nat.le_refl _
  | ask what range k ih =>
    unfold World.ask
    dsimp only
    split
    · exact ih _ w
    · exact Nat.le_trans (Nat.le_succ _) (ih _ { w with drawn := w.drawn + 1 })
theorem sys_drawn (w : World) (c : Sys) : w.drawn ≤ (w.sys c).2.drawn := by
  have h := ask_drawn w (Kernel.perform c w.os)
  unfold World.sys
  split
  · exact Nat.le_refl _
  · rename_i e
    rw [e] at h
    exact h
theorem viewStore_drawn {p : Program} {w w' : World} {at_ : Addr} {u : TypeId} {k : Addr} {v : Value} {atomic : Bool} {l : List Addr} (h : w.viewStore p at_ u k v atomic = .ok (w', l)) : w'.drawn = w.drawn := by
  unfold World.viewStore at h
  simp only [bind, Except.bind, pure, Except.pure, throw, throwThe, MonadExceptOf.throw] at h
  repeat' (split at h)
  all_goals first
    | (cases h; rfl)
    | cases h
theorem farStore_drawn {p : Program} {w w' : World} {a : Addr} {v : Value} {atomic : Bool} {l : List Addr} (h : w.farStore p a v atomic = .ok (w', l)) : w'.drawn = w.drawn := by
  unfold World.farStore at h
  split at h
  · split at h
    · rename_i r e
      cases h
      exact viewStore_drawn e
    · cases h
  · cases h
theorem run_drawn {α : Type} (p : Program) (x : Sem α) (w : World) : NoLess w (x.run p w) := by
  induction x generalizing w with
  | pure a => exact Nat.le_refl _
  | load m a k ih =>
    unfold Sem.run
    split
    · exact ih _ w
    · split
      · exact ih _ w
      · exact Nat.le_refl _
  | store m a v k ih =>
    have H : ∀ w1 : World, w1.drawn = w.drawn → NoLess w (k.run p w1) := fun w1 e => NoLess.mono (Nat.le_of_eq e.symm) (ih w1)
    have H2 : ∀ u, NoLess w (match w.cell? a with
      | some _ => if w.frozen? a then .halt (.unsupported (.unsafePointer "a write to bytes that a string shares")) w else k.run p (w.setCell a u)
      | none => match w.farStore p a u (m == .atomic) with
        | .ok (w, _) => k.run p w
        | .error h => .halt h w) := fun u => by
      split
      · split
        · exact Nat.le_refl _
        · exact H _ rfl
      · split
        · rename_i e
          exact H _ (farStore_drawn e)
        · exact Nat.le_refl _
    cases v
    all_goals first
      | exact H2 _
      | exact Nat.le_refl w.drawn
  | new o k ih => exact NoLess.mono (w1 := { w with heap := w.heap.push o }) (Nat.le_refl _) (ih _ _)
  | shape r k ih => exact ih _ w
  | freeze a n k ih => exact NoLess.mono (w1 := w.freeze a n) (by unfold World.freeze; split <;> exact Nat.le_refl _) (ih _)
  | frozen a k ih => exact ih _ w
  | getObj r k ih =>
    unfold Sem.run
    split
    · exact Nat.le_refl _
    · exact ih _ w
    · exact Nat.le_refl _
  | setObj r o k ih =>
    unfold Sem.run
    split
    · exact Nat.le_refl _
    · exact NoLess.mono (w1 := { w with heap := w.heap.setIfInBounds r o }) (Nat.le_refl _) (ih _)
    · exact Nat.le_refl _
  | choose q k ih =>
    unfold Sem.run
    split
    · exact ih _ w
    · exact NoLess.mono (w1 := { w with drawn := w.drawn + 1 }) (Nat.le_succ _) (ih _ _)
  | sys c k ih => exact NoLess.mono (sys_drawn w c) (ih _ _)
  | program k ih => exact ih _ w
  | mark m k ih => exact ih w
  | halt h => exact Nat.le_refl _
open Go
def GOk (w : World) : GStep → Prop
  | .ended .. => True
  | .go _ w' _ => w.drawn ≤ w'.drawn
  | .comm _ _ _ _ w' _ => w.drawn ≤ w'.drawn
  | .spawn _ _ w' _ => w.drawn ≤ w'.drawn
  | .count _ w' _ => w.drawn ≤ w'.drawn
  | .timer _ _ w' _ => w.drawn ≤ w'.drawn
  | .alone _ _ w' _ => w.drawn ≤ w'.drawn
  | .newcoro _ _ _ w' _ => w.drawn ≤ w'.drawn
  | .coroswitch _ _ _ w' _ => w.drawn ≤ w'.drawn
  | .collect _ w' _ => w.drawn ≤ w'.drawn
  | .watch _ w' _ => w.drawn ≤ w'.drawn
theorem GOk.after {w : World} {s : GStep} (h : GOk w s) (es : Array Event) : GOk w (s.after es) := by
  cases s <;> first | exact h | trivial
theorem GOk.mono {w w1 : World} {s : GStep} (h : w.drawn ≤ w1.drawn) (k : GOk w1 s) : GOk w s := by
  cases s <;> first | exact Nat.le_trans h k | trivial
theorem GOk.ite {w : World} {c : Prop} [Decidable c] {a b : GStep} (h1 : GOk w a) (h2 : GOk w b) : GOk w (if c then a else b) := by split <;> assumption
theorem runT_drawn {α : Type} (p : Program) (x : Sem α) (w : World) (es : Array Event) : NoLess w (x.runT p w es).1 := by
  rw [Sem.runT_fst]; exact run_drawn p x w
theorem dieOf_ok (fr : Frame) (ahead : List ByteArray) (m : String) (b : Bool) (w : World) : GOk w (dieOf fr ahead m b w) := Nat.le_refl _
theorem endThrow_ok (fr : Frame) (m : String) (w : World) : GOk w (endThrow fr m w) := Nat.le_refl _
theorem endPrinting_ok (p : Program) (fr : Frame) (v : Value) (w : World) : GOk w (endPrinting p fr v w) := by
  unfold endPrinting
  dsimp only
  split
  · exact endThrow_ok _ _ _
  · trivial
theorem endWith_ok (w : World) (fd : Nat) (text : ByteArray) (o : Outcome) : GOk w (endWith w fd text o) := by
  unfold endWith
  dsimp only
  repeat' split
  all_goals trivial
theorem endFatal_ok (p : Program) (fr : Frame) (callers : List Frame) (dying : Option Dying) (m : String) (w : World) : GOk w (endFatal p fr callers dying m w) := by
  unfold endFatal
  dsimp only
  generalize hx : Sem.run p _ w = r
  have h : NoLess w r := by rw [← hx]; exact run_drawn p _ w
  clear hx
  cases r <;> simp only [NoLess] at h <;> try dsimp only
  all_goals repeat' split
  all_goals (try injections)
  all_goals (try subst_vars)
  all_goals first | trivial | exact h | exact GOk.mono h (dieOf_ok _ _ _ _ _)
theorem writeOn_ok (p : Program) (fr : Frame) (d : Dying) (f : Fatal) (w : World) : GOk w (writeOn p fr d f w) := by
  unfold writeOn
  dsimp only
  split
  · trivial
  · generalize hx : Sem.runT p _ w #[] = r
    have h : NoLess w r.1 := by rw [← hx]; exact runT_drawn p _ w _
    clear hx
    obtain ⟨r, es⟩ := r
    dsimp only at h ⊢
    cases r <;> simp only [NoLess] at h <;> try dsimp only
    all_goals repeat' split
    all_goals (try injections)
    all_goals (try subst_vars)
    all_goals first | trivial | exact h | exact GOk.mono h (dieOf_ok _ _ _ _ _)
theorem die_ok (p : Program) (fr : Frame) (d : Dying) (w : World) : GOk w (die p fr d w) := by
  unfold die
  split
  · exact writeOn_ok _ _ _ _ _
  · split
    · split
      · exact Nat.le_refl _
      · exact endWith_ok _ _ _ _
    · dsimp only
      split
      · exact Nat.le_refl _
      · generalize hx : Sem.run p _ w = r
        have h : NoLess w r := by rw [← hx]; exact run_drawn p _ w
        clear hx
        cases r <;> simp only [NoLess] at h <;> try dsimp only
        all_goals repeat' split
        all_goals (try injections)
        all_goals (try subst_vars)
        all_goals first | trivial | exact h
      · generalize hx : Sem.runT p _ w #[] = r
        have h : NoLess w r.1 := by rw [← hx]; exact runT_drawn p _ w _
        clear hx
        obtain ⟨r, es⟩ := r
        dsimp only at h ⊢
        refine GOk.after ?_ _
        cases r <;> simp only [NoLess] at h <;> try dsimp only
        all_goals repeat' split
        all_goals (try injections)
        all_goals (try subst_vars)
        all_goals first | trivial | exact h | exact GOk.mono h (endPrinting_ok _ _ _ _) | exact GOk.mono h (endThrow_ok _ _ _)
      all_goals first | trivial | exact Nat.le_refl _ | exact endPrinting_ok _ _ _ _
theorem doReturn_ok (p : Program) (main : Bool) (fr : Frame) (callers : List Frame) (dying : Option Dying) (v : Value) (w : World) : GOk w (doReturn p main fr callers dying v w) := by
  unfold doReturn
  repeat' split
  all_goals first | trivial | exact Nat.le_refl _
theorem callDeferred_ok (p : Program) (fr : Frame) (callers : List Frame) (dying : Option Dying) (d : Deferred) (w : World) : GOk w (callDeferred p fr callers dying d w) := by
  unfold callDeferred
  refine GOk.ite trivial ?_
  · generalize hx : Sem.runT p _ w #[] = r
    have h : NoLess w r.1 := by rw [← hx]; exact runT_drawn p _ w _
    clear hx
    obtain ⟨r, es⟩ := r
    dsimp only at h ⊢
    refine GOk.after ?_ _
    cases r <;> simp only [NoLess] at h <;> try dsimp only
    all_goals repeat' split
    all_goals (try injections)
    all_goals (try subst_vars)
    all_goals first | trivial | exact h | exact GOk.mono h (endFatal_ok _ _ _ _ _ _) | exact GOk.mono h (endThrow_ok _ _ _)
theorem unwind_ok (p : Program) (main : Bool) (fr : Frame) (callers : List Frame) (dying : Option Dying) (w : World) : GOk w (unwind p main fr callers dying w) := by
  unfold unwind
  split
  · generalize hx : Sem.runT p _ w #[] = r
    have h : NoLess w r.1 := by rw [← hx]; exact runT_drawn p _ w _
    clear hx
    obtain ⟨r, es⟩ := r
    dsimp only at h ⊢
    refine GOk.after ?_ _
    cases r <;> simp only [NoLess] at h <;> try dsimp only
    all_goals repeat' split
    all_goals (try injections)
    all_goals (try subst_vars)
    all_goals first | trivial | exact h
  · exact callDeferred_ok _ _ _ _ _ _
  · split
    · trivial
    · split
      · trivial
      · split
        · exact Nat.le_refl _
        · split
          · split
            · exact Nat.le_refl _
            · generalize hx : Sem.run p _ w = r
              have h : NoLess w r := by rw [← hx]; exact run_drawn p _ w
              clear hx
              cases r <;> simp only [NoLess] at h <;> try dsimp only
              all_goals repeat' split
              all_goals (try injections)
              all_goals (try subst_vars)
              all_goals first | trivial | exact h
          · split
            · exact endPrinting_ok _ _ _ _
            · trivial
    · split
      · exact doReturn_ok _ _ _ _ _ _ _
      · generalize hx : Sem.runT p _ w #[] = r
        have h : NoLess w r.1 := by rw [← hx]; exact runT_drawn p _ w _
        clear hx
        obtain ⟨r, es⟩ := r
        dsimp only at h ⊢
        refine GOk.after ?_ _
        cases r <;> simp only [NoLess] at h <;> try dsimp only
        all_goals repeat' split
        all_goals (try injections)
        all_goals (try subst_vars)
        all_goals first | trivial | exact h | exact GOk.mono h (doReturn_ok _ _ _ _ _ _ _) | exact GOk.mono h (endFatal_ok _ _ _ _ _ _) | exact GOk.mono h (endThrow_ok _ _ _)
open Go
theorem early_ok (p : Program) (fr : Frame) (callers : List Frame) (dying : Option Dying) (g : Nat) (w : World) : GOk w (early p fr callers dying g w) := by
  unfold early
  dsimp only
  generalize hx : Sem.run p (choose (.early g)) w = r
  have h : NoLess w r := by rw [← hx]; exact run_drawn p _ w
  clear hx
  cases r <;> simp only [NoLess] at h
  all_goals repeat' split
  all_goals (try injections)
  all_goals (try subst_vars)
  all_goals first | trivial | exact Nat.le_refl _ | exact h
theorem apply_ok (p : Program) (fr : Frame) (callers : List Frame) (dying : Option Dying) (s : Sem Next) (w : World) (listen : Bool) : GOk w (stepG.apply p listen fr callers dying s w) := by
  unfold stepG.apply
  dsimp only
  generalize hx : (if listen = true then Sem.runT p s w #[] else (Sem.run p s w, #[])) = r
  have h : NoLess w r.1 := by
    rw [← hx]
    split
    · exact runT_drawn p _ w _
    · exact run_drawn p _ w
  clear hx
  obtain ⟨r, es⟩ := r
  dsimp only at h ⊢
  refine GOk.after ?_ _
  cases r with
  | halt hh w1 =>
    simp only [NoLess] at h
    cases hh <;> try dsimp only
    all_goals repeat' split
    all_goals (try injections)
    all_goals (try subst_vars)
    all_goals first | trivial | exact h | exact GOk.mono h (endFatal_ok _ _ _ _ _ _) | exact GOk.mono h (endThrow_ok _ _ _) | exact GOk.mono h (early_ok _ _ _ _ _ _)
  | ok nx w1 =>
    simp only [NoLess] at h
    cases nx <;> try dsimp only
    all_goals repeat' split
    all_goals (try injections)
    all_goals (try subst_vars)
    all_goals first | trivial | exact h | exact GOk.mono h (endThrow_ok _ _ _)
theorem oper_ok (p : Program) (fr : Frame) (callers : List Frame) (dying : Option Dying) (w : World) (listen : Bool) : GOk w (stepG.oper p listen fr callers dying w) := by
  unfold stepG.oper
  split
  · trivial
  · split
    · exact apply_ok _ _ _ _ _ _ _
    · exact apply_ok _ _ _ _ _ _ _
theorem GOk.elim {α : Type} {w : World} {o : Option α} {a : GStep} {f : α → GStep} (ha : GOk w a) (hf : ∀ x, GOk w (f x)) : GOk w (o.elim a f) := by cases o; exact ha; exact hf _
theorem exec_ok (p : Program) (main : Bool) (fr : Frame) (callers : List Frame) (dying : Option Dying) (w : World) (listen : Bool) : GOk w (stepG.exec p main listen fr callers dying w) := by
  have HL : ∀ jump : Option Code, ∀ G : GStep, (match fr.roundOf with
      | none => G
      | some l =>
        let (r, es) := (Instr.endRound l jump).runT p w #[]
        GStep.after (seen p fr.fn es) <| match r with
        | .ok v w => doReturn p main fr callers dying v w
        | .halt _ w => .ended (.stuck "range over a function: no such loop" (fr.pos p)) w) = (match fr.roundOf with
      | none => G
      | some l => GStep.after (seen p fr.fn ((Instr.endRound l jump).runT p w #[]).2) <| match ((Instr.endRound l jump).runT p w #[]).1 with
        | .ok v w => doReturn p main fr callers dying v w
        | .halt _ w => .ended (.stuck "range over a function: no such loop" (fr.pos p)) w) := fun _ _ => rfl
  have HK : ∀ (jump : Option Code) (G : GStep), GOk w G → GOk w (match fr.roundOf with
      | none => G
      | some l =>
        let (r, es) := (Instr.endRound l jump).runT p w #[]
        GStep.after (seen p fr.fn es) <| match r with
        | .ok v w => doReturn p main fr callers dying v w
        | .halt _ w => .ended (.stuck "range over a function: no such loop" (fr.pos p)) w) := fun jump G hG => by
    split
    · exact hG
    · rename_i l _
      generalize hx : Sem.runT p (Instr.endRound l jump) w #[] = r
      have h : NoLess w r.1 := by rw [← hx]; exact runT_drawn p _ w _
      clear hx
      obtain ⟨r, es⟩ := r
      dsimp only at h ⊢
      refine GOk.after ?_ _
      cases r
      · exact GOk.mono h (doReturn_ok _ _ _ _ _ _ _)
      · trivial
  clear HL
  unfold stepG.exec
  dsimp only
  split
  all_goals first
    | trivial
    | exact Nat.le_refl _
    | exact apply_ok _ _ _ _ _ _ _
    | (exact HK _ _ (by first | trivial | exact Nat.le_refl _ | (split <;> first | trivial | exact Nat.le_refl _)))
    | skip
  all_goals first
    | (split <;> first | trivial | exact Nat.le_refl _ | exact oper_ok _ _ _ _ _ _)
    | (refine GOk.elim ?_ (fun _ => Nat.le_refl _); exact HK _ _ (by first | trivial | exact Nat.le_refl _ | (split <;> first | trivial | exact Nat.le_refl _)))
    | (refine GOk.elim trivial (fun _ => apply_ok _ _ _ _ _ _ _))
    | (refine GOk.after ?_ _
       generalize hx : (Sem.runT p _ w #[]).fst = r
       have h : NoLess w r := by rw [← hx]; exact runT_drawn p _ w _
       clear hx
       cases r <;> simp only [NoLess] at h <;> try dsimp only
       all_goals repeat' split
       all_goals (try injections)
       all_goals (try subst_vars)
       all_goals first | trivial | exact h | exact GOk.mono h (apply_ok _ _ _ _ _ _ _))
    | (generalize hx : Sem.run p (choose _) w = r
       have h : NoLess w r := by rw [← hx]; exact run_drawn p _ w
       clear hx
       split
       · exact Nat.le_refl _
       · cases r <;> simp only [NoLess] at h
         · exact h
         · trivial)
    | skip
theorem stepG_ok (p : Program) (main : Bool) (g : Goroutine) (w : World) (listen : Bool) : GOk w (stepG p main g w listen) := by
  unfold stepG
  dsimp only
  split
  · exact die_ok _ _ _ _
  · exact exec_ok _ _ _ _ _ _ _
  · exact unwind_ok _ _ _ _ _ _
open Go
theorem waitingAt_drawn {rest : Rest} {cases : Array CommCase} {w w' : World} (h : waitingAt rest cases w = some w') : w.drawn ≤ w'.drawn := by
  unfold waitingAt at h
  split at h
  · split at h
    · cases h; exact Nat.le_refl _
    · cases h
  · cases h; exact Nat.le_refl _
theorem communicate_drawn (p : Program) (rest : Rest) (gs : Array Goroutine) (i : Nat) (g : Goroutine) (cases : Array CommCase) (blocking : Bool)
    (shape : CommShape) (w : World) (m' : Machine) (h : (communicate p rest gs i g cases blocking shape w).1 = .next m') : w.drawn ≤ m'.world.drawn := by
  unfold communicate at h
  simp only [] at h
  generalize hx : Sem.run p _ w = r at h
  have hr : NoLess w r := by rw [← hx]; exact run_drawn p _ w
  clear hx
  split at h
  · simp at h
  · split at h
    · split at h
      · split at h
        · rename_i e
          simp only [Stepped.next.injEq] at h; subst h; exact waitingAt_drawn e
        · simp at h
      · simp only [Stepped.next.injEq] at h; subst h; exact Nat.le_refl _
    · cases r with
      | halt hh w1 => simp at h
      | ok a w1 =>
        simp only [NoLess] at hr
        refine Nat.le_trans hr ?_
        clear hr
        obtain ⟨k, c, way⟩ := a
        simp only [] at h
        generalize hz : Sem.run p (runtimePanic _ : Sem Unit) w1 = r2 at h
        have h2 : NoLess w1 r2 := by rw [← hz]; exact run_drawn p _ w1
        clear hz
        split at h
        · cases r2 <;> simp only [NoLess] at h2
          · simp at h
          · split at h
            · rename_i e
              injection e with e1 e2
              subst e2
              simp only [Stepped.next.injEq] at h; subst h; exact h2
            · simp at h
        all_goals clear h2
        all_goals repeat' first
          | (simp at h; done)
          | (simp only [Stepped.next.injEq] at h; subst h; exact Nat.le_refl _)
          | (generalize hy : Sem.run p (choose _) w1 = r3 at h
             have h3 : NoLess w1 r3 := by rw [← hy]; exact run_drawn p _ w1
             clear hy
             cases r3 <;> simp only [NoLess] at h3
             · simp only [] at h; simp only [Stepped.next.injEq] at h; subst h; exact h3
             · simp at h)
          | split at h
theorem look_drawn (p : Program) (gs : Array Goroutine) (rest : Rest) (w : World) (m' : Machine)
    (h : look p gs rest w = .next m') : w.drawn ≤ m'.world.drawn := by
  unfold look at h
  simp only [] at h
  split at h
  · split at h
    · simp at h
    · split at h
      · simp at h
      · generalize hx : Sem.run p _ w = r at h
        have hr : NoLess w r := by rw [← hx]; exact run_drawn p _ w
        clear hx
        cases r <;> simp only [NoLess] at hr
        · simp only [Stepped.next.injEq] at h; subst h; exact hr
        · split at h <;> simp_all
  · simp at h
theorem retime_drawn (m : Machine) (k : Nat) (t : Timer) (a b : Nat) : (retime m k t a b).2.world.drawn = m.world.drawn := by
  unfold retime
  dsimp only [Machine.withTimers]
  repeat' split
  all_goals first | rfl | (unfold drain; split <;> rfl)
theorem named_drawn {m : Machine} {var : Addr} {f : Nat → Timer → Value × Machine} {v : Value} {m' : Machine} {n : Nat} (hf : ∀ k t, (f k t).2.world.drawn = n) (h : timerOp.named m var f = .ok (v, m')) : m'.world.drawn = n := by
  unfold timerOp.named at h
  split at h
  · rename_i k _
    simp only [Except.ok.injEq] at h
    have := hf k (m.rest.timers.getD k default)
    rw [h] at this
    exact this
  · simp at h
theorem opened_drawn {m m' : Machine} {var : Addr} (h : timerOp.opened m var = some m') : m'.world.drawn = m.world.drawn := by
  unfold timerOp.opened at h
  split at h
  · split at h
    · cases h; rfl
    · cases h
  · cases h; rfl
theorem timerOp_drawn {m m' : Machine} {op : TimerOp} {v : Value} (h : timerOp m op = .ok (v, m')) : m'.world.drawn = m.world.drawn := by
  unfold timerOp at h
  split at h
  · split at h
    · cases h; rfl
    · split at h
      · split at h
        · cases h
        · cases h; rfl
      · cases h
  · exact named_drawn (fun k t => retime_drawn _ _ _ _ _) h
  · split at h
    · rename_i m1 e
      exact (named_drawn (fun k t => retime_drawn m1 _ _ _ _) h).trans (opened_drawn e)
    · cases h
  · dsimp only at h
    cases h; rfl
theorem machT_drawn (p : Program) (m m' : Machine) (i : Nat) (b : Bool) (h : (runT p m i b).1 = .next m') : m.world.drawn ≤ m'.world.drawn := by
  simp only [runT] at h
  revert h
  generalize m.gs.swapAt! _ _ = gg
  have hg := stepG_ok p (i == 0) gg.1 m.world b
  revert hg
  generalize stepG p _ gg.1 m.world b = s
  intro hg h
  cases s <;> simp only [GOk] at hg <;> simp only [] at h
  all_goals try (refine Nat.le_trans hg ?_)
  all_goals first
    | (simp at h; done)
    | exact communicate_drawn _ _ _ _ _ _ _ _ _ _ h
    | exact look_drawn _ _ _ _ _ h
    | (simp only [Stepped.next.injEq] at h; subst h; exact Nat.le_refl _)
    | (repeat' first
        | (simp at h; done)
        | (simp only [Stepped.next.injEq] at h; subst h; exact Nat.le_refl _)
        | (rename_i e; simp only [Stepped.next.injEq] at h; subst h; exact Nat.le_of_eq (timerOp_drawn e).symm)
        | (rename_i e; injection e with e1 e2 e3; subst e2; simp only [Stepped.next.injEq] at h; subst h; exact Nat.le_refl _)
        | split at h)
    | skip
theorem serve_drawn (p : Program) (m m' : Machine) (k : Nat) (h : serve p m k = .next m') : m.world.drawn ≤ m'.world.drawn := by
  unfold serve at h
  simp only [] at h
  repeat' first
    | (simp at h; done)
    | (simp only [Stepped.next.injEq] at h; subst h; exact Nat.le_refl _)
    | split at h
def MOk (m : Machine) : Move → Prop
  | .goroutine m' _ => m.world.drawn ≤ m'.world.drawn
  | .machine (.next m') _ => m.world.drawn ≤ m'.world.drawn
  | .machine _ _ => True
theorem MOk.mono {m m1 : Machine} {v : Move} (h : m.world.drawn ≤ m1.world.drawn) (k : MOk m1 v) : MOk m v := by
  rcases v with ⟨m', i⟩ | ⟨s, ops⟩
  · exact Nat.le_trans h k
  · cases s
    · exact Nat.le_trans h k
    · trivial
theorem pick_drawn (p : Program) (m : Machine) (rs : List Nat) : MOk m (match (choose (.sched rs.length)).run p m.world with
      | .halt _ w => .machine (.ended (.stuck "sched" "") w)
      | .ok k world =>
        if rs.length ≤ 1 then .goroutine { m with world } (rs.getD k 0) else
        match (choose (.extern "sched.slice" 65536)).run p world with
        | .halt _ w => .machine (.ended (.stuck "sched.slice" "") w)
        | .ok n world => .goroutine { m with world, rest := { m.rest with slice := if n = 0 then none else some (rs.getD k 0, n) } } (rs.getD k 0)) := by
  have h1 := run_drawn p (choose (.sched rs.length)) m.world
  generalize Sem.run p (choose (.sched rs.length)) m.world = r at h1 ⊢
  cases r <;> simp only [NoLess] at h1
  · rename_i k w1
    dsimp only
    split
    · exact h1
    · have h2 := run_drawn p (choose (.extern "sched.slice" 65536)) w1
      generalize Sem.run p (choose (.extern "sched.slice" 65536)) w1 = r at h2 ⊢
      cases r <;> simp only [NoLess] at h2
      · exact Nat.le_trans h1 h2
      · trivial
  · trivial
open Go
theorem askOn_drawn (p : Program) (m : Machine) : MOk m (askOn p m) := by
  unfold askOn
  dsimp only
  generalize hx : Sem.run p (if (due m.rest.timers m.world.os.mono).isEmpty = true then pure 0 else _ : Sem Nat) m.world = r
  have h1 : NoLess m.world r := by rw [← hx]; exact run_drawn p _ m.world
  clear hx
  cases r <;> simp only [NoLess] at h1
  · rename_i k w1
    dsimp only
    refine MOk.mono (m1 := { m with world := w1 }) h1 ?_
    split
    · generalize hs : serve p _ _ = s
      cases s
      · exact serve_drawn _ _ _ _ hs
      · trivial
    · split
      · split
        · exact Nat.le_refl _
        · split
          · exact Nat.le_refl _
          · repeat' split
            all_goals trivial
      · split
        · exact pick_drawn p { m with world := w1 } _
        · rename_i t _
          generalize hy : Sem.run p (choose _) w1 = r2
          have h2 : NoLess w1 r2 := by rw [← hy]; exact run_drawn p _ w1
          clear hy
          cases r2 <;> simp only [NoLess] at h2
          · rename_i k2 w2
            rcases k2 with _ | _ | k2
            · exact MOk.mono (m1 := { m with world := w2 }) h2 (pick_drawn p { m with world := w2 } _)
            · exact h2
            · exact MOk.mono (m1 := Machine.advanceTo { m with world := w2 } (t - (k2 + 1))) h2 (pick_drawn p (Machine.advanceTo { m with world := w2 } (t - (k2 + 1))) _)
          · trivial
  · trivial
theorem mask_drawn (p : Program) (m : Machine) : MOk m (ask p m) := by
  unfold ask
  split
  · generalize hx : Sem.run p (choose _) m.world = r
    have h1 : NoLess m.world r := by rw [← hx]; exact run_drawn p _ m.world
    clear hx
    cases r <;> simp only [NoLess] at h1
    · rename_i k w1
      rcases k with _ | _ | k
      · exact MOk.mono (m1 := { m with world := w1 }) h1 (askOn_drawn p _)
      · show MOk m (match look p m.gs m.rest w1 with | .next m => askOn p m | e => Move.machine e)
        cases hl : look p m.gs m.rest w1 with
        | next m2 => exact MOk.mono (Nat.le_trans h1 (look_drawn _ _ _ _ _ hl)) (askOn_drawn p m2)
        | ended o w2 => trivial
      · exact MOk.mono (m1 := { m with world := w1 }) h1 (askOn_drawn p _)
    · trivial
  · exact askOn_drawn p m
theorem move_drawn (p : Program) (m : Machine) : MOk m (move p m) := by
  unfold move
  split
  · split
    · exact Nat.le_refl _
    · trivial
  · split
    · split
      · exact Nat.le_refl _
      · rename_i i n _ _
        exact MOk.mono (m1 := { m with rest := { m.rest with slice := none } }) (Nat.le_refl _) (mask_drawn p _)
    · exact mask_drawn p m
theorem step_drawn (p : Program) (m m' : Machine) (h : step p m = .next m') : m.world.drawn ≤ m'.world.drawn := by
  unfold step stepT at h
  have hm := move_drawn p m
  revert hm h
  generalize move p m = v
  intro h hm
  rcases v with ⟨m1, i⟩ | ⟨s, ops⟩
  · exact Nat.le_trans hm (machT_drawn p m1 m' i true h)
  · simp only at h
    subst h
    exact hm
theorem runN_drawn (p : Program) (n : Nat) (m m' : Machine) (h : runN p n m = .next m') : m.world.drawn ≤ m'.world.drawn := by
  induction n generalizing m with
  | zero => simp only [runN, Stepped.next.injEq] at h; subst h; exact Nat.le_refl _
  | succ n ih =>
    unfold runN at h
    cases hs : step p m with
    | next m1 => rw [hs] at h; exact Nat.le_trans (step_drawn p m m1 hs) (ih m1 h)
    | ended o w => rw [hs] at h; cases h
theorem Calls.drawn {P : Program} {f : FuncId} {args : Array Value} {w : World} {R : Ending → World → Prop} (h : Calls P f args w R) : Calls P f args w fun e w' => R e w' ∧ (e = .outgrown ∨ w.drawn ≤ w'.drawn) := fun cs => by
  obtain ⟨e, w', fr, h1, h2, h3, h4⟩ := h cs
  refine ⟨e, w', fr, ⟨h1, ?_⟩, h2, h3, h4⟩
  cases e with
  | outgrown => exact .inl rfl
  | returned v =>
    obtain ⟨n, hn⟩ := h2
    exact .inr (runN_drawn P n _ _ hn)
  | panicked c =>
    obtain ⟨n, hn⟩ := h2
    exact .inr (runN_drawn P n _ _ hn)
open Go.Sort Go.RowKit in
theorem grown_of_below {w w' : World} (h : Below w.heap.size w w') (hd : w.drawn ≤ w'.drawn) : ∃ q os, w' = grow (w.drewN q) os := by
  obtain ⟨p, hp⟩ := regrown_of_below h
  have e : w'.drawn = p.d := by rw [hp]; rfl
  refine ⟨p.d - w.drawn, p.os, ?_⟩
  rw [hp]
  have : redrawn w p.d = w.drewN (p.d - w.drawn) := by
    unfold redrawn World.drewN
    congr 1
    omega
  rw [this]
open Go.Sort Go.RowKit in
theorem Calls.grown_of {P : Program} {f : FuncId} {args : Array Value} {w : World} {v : Value} (h : Calls P f args w (RetVal v w)) : Calls P f args w fun e w' => e = .returned v ∧ ∃ q os, w' = grow (w.drewN q) os :=
  (Calls.drawn h).mono fun e w' ⟨⟨he, hb⟩, hd⟩ => ⟨he, by
    rcases hd with hd | hd
    · rw [he] at hd; cases hd
    · exact grown_of_below hb hd⟩
end Go.Proofs.YtoaggmegmgdgbaaGreat
