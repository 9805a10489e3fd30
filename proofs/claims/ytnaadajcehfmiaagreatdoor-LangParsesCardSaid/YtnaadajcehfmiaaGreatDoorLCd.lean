import Derived.Test.YtnaadajcehfmiaaGreatDoorRows
import Derived.ProofKit
import Derived.Lib.SmallJoins
import Derived.Test.YtnaadajcehfmiaaGreatDoorMem
import Derived.ChangeSlices
import Derived.SizedLaws
import Derived.Test.YtnaadajcehfmiaaGreatDoorTie
import Derived.Test.YtnaadajcehfmiaaGreatDoorCards
import Derived.OpenShut
import Derived.LaidMore
import Derived.Lay
import Derived.SevenTiedAt
import Derived.Stop.Joined
import Derived.Test.YtnaadajcehfmiaaGreatDoorLsD
import Derived.Deep.Slices
import Derived.Deep.Strs
import Derived.ChangeSame
import Derived.ChangeMaps5
import Derived.MakeChecks
/- From a call's outcome to a row: the law returned true, and of the old world nothing has turned. · A ratio as an argument. · A slice of bytes as an argument: what it reads as. · Five parameters. · A row's last steps: a leaf as an argument. -/
namespace Go.Proofs.YtnaadajcehfmiaaGreatDoor
open Go.ChangeShapes Go.WideShapes Go.ChangeAt Go.RowKit

theorem own_none : ownKnob Tryz.prog.godebug = none := by kernel_rfl
theorem laid_out : laidOutB Tryz.prog = true := by kernel_rfl

section
variable {H : Type} {enc : TypeId × Value → H} {P : Program}
/-- What the arguments read as, they read as later too. -/
theorem args_later (hl : laidOutB P = true) {W W' : World} (hb : Below W.heap.size W W') :
    ∀ {ts : List TypeId} {vs : List Value} {ds : List (DataW H)} {ps : List MemPlace}, (ts.all fun t => P.readableRec t && decide (t < P.types.size)) = true →
      DataW.TrodAll enc P W 0 (fun _ => true) true ts vs ds ps → (∀ x ∈ ps, x.block < W.heap.size) → DataW.TrodAll enc P W' 0 (fun b => decide (b < W.heap.size)) true ts vs ds ps
  | [], [], [], _, _, h, _ => h
  | [], _ :: _, _, _, _, h, _ => h.elim
  | [], [], _ :: _, _, _, h, _ => h.elim
  | _ :: _, [], _, _, _, h, _ => h.elim
  | _ :: _, _ :: _, [], _, _, h, _ => h.elim
  | t :: ts, v :: vs, d :: ds, ps, ht, ⟨p, q, h1, h2, h3⟩, hlt => by
    simp only [List.all_cons, Bool.and_eq_true, decide_eq_true_eq] at ht
    obtain ⟨⟨r1, r2⟩, r3⟩ := ht
    exact ⟨p, q, Below.trod hl r1 r2 h1 hb (fun x hx => hlt x (by rw [h3]; simp [hx])), args_later hl hb (by simpa using r3) h2 (fun x hx => hlt x (by rw [h3]; simp [hx])), h3⟩

/-- The row's last step, for a law that is true and leaves its arguments alone. -/
theorem post_law {f : Func} {s : ChangeSpec} {apart fresh handsOn : Bool} {W W' : World} {args : Array Value} {v : Value} {ds gs : List (DataW H)} {before : List MemPlace}
    (hl : laidOutB P = true) (hts : (f.params.toList.all fun t => P.readableRec t && decide (t < P.types.size)) = true) (hvs : s.vars = [])
    (hW : DataW.Whole enc P f.params.toList s.vars apart W args.toList ds gs before) (hb : Below W.heap.size W W')
    (hfa : (s.fn H (ds ++ gs)).args = ds) (hfv : (s.fn H (ds ++ gs)).vars = gs)
    (hres : ∀ (b : Nat) (sp : Nat → Bool) (hd : Bool), DataW.TrodAll enc P W' b sp hd f.resultTypes.toList (v.resultList f.resultTypes.size) (s.fn H (ds ++ gs)).results []) :
    s.post enc P f apart fresh handsOn false W args v W' := by
  have hlt : ∀ p ∈ before, p.block < W.heap.size := fun p hp => hW.lt p hp
  obtain ⟨p, q, h1, h2, h3, -, -⟩ := id hW
  refine ⟨ds, gs, before, [], p, q, hW, hres _ _ _, ?_, ?_, hb.frame _, fun h => nomatch h⟩
  · rw [hfa]
    exact args_later hl hb hts h1 (fun x hx => hlt x (by rw [h3]; simp [hx]))
  · rw [hfv]
    rw [hvs] at h2 ⊢
    obtain ⟨rfl, rfl⟩ := trodVars_none h2
    rfl
end
end Go.Proofs.YtnaadajcehfmiaaGreatDoor

namespace Go.Proofs.YtnaadajcehfmiaaGreatDoor
open Go.ChangeShapes Go.WideShapes Go.ChangeAt Go.RowKit

end Go.Proofs.YtnaadajcehfmiaaGreatDoor

namespace Go.Proofs.YtnaadajcehfmiaaGreatDoor
open Go.ChangeShapes Go.WideShapes Go.ChangeAt Go.RowKit

end Go.Proofs.YtnaadajcehfmiaaGreatDoor

namespace Go.Proofs.YtnaadajcehfmiaaGreatDoor
open Go.ChangeShapes Go.WideShapes Go.ChangeAt Go.RowKit

end Go.Proofs.YtnaadajcehfmiaaGreatDoor
/- For the Lang rows: parts as an argument; a string as an argument; what the listed variables hold. -/
namespace Go.Proofs.YtnaadajcehfmiaaGreatDoor
open Go.ChangeShapes Go.WideShapes Go.ChangeAt Go.RowKit Go.Deep

section
variable {H : Type} {enc : TypeId × Value → H} {W : World} {base : Nat}
set_option maxRecDepth 100000 in
theorem lgtext_open {ts : List TypeId} {ds : List (DataW H)} {j : Nat} {v : Value} {d : DataW H} {ps : List MemPlace} (hv : Value.okWide Tryz.prog W .any base 9 v)
    (h : DataW.Trod enc Tryz.prog W 0 (fun _ => true) true 9 v d ps) (hsz : (DataW.weightsEach Tryz.prog ts ds).all (· ≤ reachBytes) = true) (ht : ts[j]? = some 9) (hd : ds[j]? = some d) :
    ∃ s : ByteArray, v = .string s ∧ s.size ≤ 140737488351232 := by
  obtain ⟨s, rfl, rfl, rfl, -⟩ := Go.ChangeMaps.open_string Tryz.underlying9 hv h
  refine ⟨s, rfl, ?_⟩
  have := List.all_eq_true.1 hsz _ (DataW.weights_mem_each ht hd s.size (by simp [DataW.weights]))
  simpa [show reachBytes = 140737488351232 from rfl] using this
end
/-! What is listed. -/
theorem laid_mem {P : Program} {w : World} {n : String} {d : DataW Unit} : ∀ {l : List (String × DataW Unit)} {ps : List MemPlace}, DataW.LaidVars P w l ps → (n, d) ∈ l →
    ∃ g t cs fuel p, P.globalNamed n = some g ∧ (P.globals[g]?).map (·.type) = some t ∧ w.var? P n = some cs ∧ DataW.trod (fun _ => ()) P w 0 (fun _ => true) false fuel t cs.toList = some (d, p)
  | [], _, _, h => by cases h
  | (n', d') :: l, ps, ⟨g, t, cs, fuel, p, q, h1, h2, h3, h4, h5, _⟩, h => by
    rcases List.mem_cons.1 h with h | h
    · injection h with e1 e2
      subst e1
      subst e2
      exact ⟨g, t, cs, fuel, p, h1, h2, h3, h4⟩
    · exact laid_mem h5 h
theorem iface_cells {H : Type} {enc : TypeId × Value → H} {P : Program} {w : World} {base : Nat} {sp : Nat → Bool} {held : Bool} {fuel : Nat} {t : TypeId} {ms : Array (String × TypeId)} {cs : List Value} {x : DataW H × List MemPlace}
    (hi : P.underlying t = some (.interface ms)) (h : DataW.trod enc P w base sp held fuel t cs = some x) : cs = [.nilIface] ∨ ∃ u v, cs = [.iface u v] := by
  cases fuel with
  | zero => simp [DataW.trod] at h
  | succ n =>
    rcases cs with _ | ⟨c, _ | ⟨c2, r⟩⟩
    · simp [DataW.trod, hi] at h
    · cases c <;> simp [DataW.trod, hi] at h <;> simp
    · cases c <;> simp [DataW.trod, hi] at h
theorem laid_err {P : Program} {w : World} {l : List (String × DataW Unit)} {n : String} {d : DataW Unit} {g : Nat} {t : TypeId} {ms : Array (String × TypeId)} (h : laidMet P l w) (hm : (n, d) ∈ l) (hg : P.globalNamed n = some g) (ht : (P.globals[g]?).map (·.type) = some t) (hi : P.underlying t = some (.interface ms)) : (itErr g).P w := by
  obtain ⟨ps, hv, -, -⟩ := h
  obtain ⟨g', t', cs, fuel, p, h1, h2, h3, h4⟩ := laid_mem hv hm
  obtain rfl := Option.some.inj (hg.symm.trans h1)
  obtain rfl := Option.some.inj (ht.symm.trans h2)
  have hc := World.var?_cell h1 h3 0
  rcases iface_cells hi h4 with e | ⟨u, v, e⟩
  · refine ⟨.nilIface, ?_, .inl rfl⟩
    rw [hc, ← Array.getElem?_toList, e]; rfl
  · refine ⟨.iface u v, ?_, .inr ⟨_, _, rfl⟩⟩
    rw [hc, ← Array.getElem?_toList, e]; rfl
theorem laid_tab {P : Program} {w : World} {l : List (String × DataW Unit)} {n : String} {k : IntKind} {zs : List Int} {g : Nat} {t e : TypeId} {m : Nat} (h : laidMet P l w) (hm : (n, Lib.tabData k zs) ∈ l) (hg : P.globalNamed n = some g) (hty : (P.globals[g]?).map (·.type) = some t) (ht : P.underlying t = some (.array m e)) (he : P.underlying e = some (.int k)) (hce : P.cellsOf e = 1) (hct : P.cellsOf t = m) : Lib.TabIs P w n k zs := by
  obtain ⟨ps, hv, -, -⟩ := h
  obtain ⟨g', t', cs, fuel, p, h1, h2, h3, h4⟩ := laid_mem hv hm
  obtain rfl := Option.some.inj (hg.symm.trans h1)
  obtain rfl := Option.some.inj (hty.symm.trans h2)
  unfold Lib.TabIs
  rw [h3, ← Lib.cells_of_tab ht he hce hct h4]
/-- What a row's list gives. -/
theorem env_laid {w : World} {l : List (String × DataW Unit)} {d1 d2 : DataW Unit} (h : laidMet Tryz.prog l w) (h0 : ("strings.asciiSpace", Lib.tabData .u8 Lib.asciiSpaceTab) ∈ l) (h1 : ("strconv.ErrSyntax", d1) ∈ l) (h2 : ("strconv.ErrRange", d2) ∈ l) : EnvL w :=
  ⟨laid_tab h h0 (g := 1) (t := 113) (by kernel_rfl) (by kernel_rfl) Tryz.underlying113 Tryz.underlying5 (by kernel_rfl) (by kernel_rfl),
   laid_err h h1 (t := 94) (by kernel_rfl) (by kernel_rfl) Tryz.underlying94, laid_err h h2 (t := 94) (by kernel_rfl) (by kernel_rfl) Tryz.underlying94⟩
end Go.Proofs.YtnaadajcehfmiaaGreatDoor
