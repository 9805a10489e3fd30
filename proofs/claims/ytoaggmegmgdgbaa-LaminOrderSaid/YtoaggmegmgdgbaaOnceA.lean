/- slices.SortFunc at angles and at leaves. -/
import Derived.Test.YtoaggmegmgdgbaaLamG
import Derived.Test.YtoaggmegmgdgbaaSort
import Derived.Test.YtoaggmegmgdgbaaDrawn
namespace Go.Proofs.Ytoaggmegmgdgbaa
open Go.Shelf Go.RowKit Go.Lib Go.Sort

/-- An angle. -/
abbrev AngT := { p : Nat × Nat // Ang p }
instance : Inhabited AngT := ⟨⟨(0, 1), by decide, by decide, by decide⟩⟩
/-- An angle's cells. -/
def encA (x : AngT) : List Value := [.bool false, .string (natS x.1.1), .string (natS x.1.2)]
def cfA (x y : AngT) : Int := cmpP x.1 y.1
theorem swoA : SWO (ltOf cfA) where
  irrefl x := by simp [ltOf, cfA, cmpP_refl]
  trans x y z h1 h2 := decide_eq_true (cmpP_trans y.2.pos z.2.pos (of_decide_eq_true h1) (of_decide_eq_true h2))
  ntrans x y z h1 h2 := by
    have h1 := of_decide_eq_false h1
    have h2 := of_decide_eq_false h2
    refine decide_eq_false (fun h => ?_)
    have h : cmpP x.1 z.1 < 0 := h
    have h1 : ¬ cmpP x.1 y.1 < 0 := h1
    have h2 : ¬ cmpP y.1 z.1 < 0 := h2
    rcases cmpP_bd x.1 y.1 with e | e | e
    · omega
    · have := (cmpP_eq x.2 y.2).1 e
      rw [this] at h
      exact h2 h
    · have h3 : cmpP y.1 x.1 < 0 := cmpP_anti.2 (by omega)
      exact h2 (cmpP_trans x.2.pos z.2.pos h3 h)
theorem cmpLaysA (blk off size : Nat) (w : World) : CmpLays Try.prog 31 #[] encA 3 cfA blk off size w :=
  fun _ _ _ _ x y => Calls.grown_of (lcmp_any x.1 y.1 _ x.2 y.2)

set_option maxHeartbeats 1000000 in
/-- slices.SortFunc of angles. -/
theorem lsortA (blk off cap : Nat) (d : Array AngT) (w : World) (hH : HoldsK encA 3 w blk off d) (hblk : blk < w.heap.size) (hsz : d.size < 4611686018427387904) :
    Calls Try.prog 46 #[.slice (some ⟨blk, off, none⟩) d.size cap, .func (.func 31) #[] #[]] w fun e w' => e = .returned (.tuple #[]) ∧ ∃ d' n os, PermIn 0 d.size d d' ∧ SortedIn (ltOf cfA) 0 d.size d' ∧ w' = sortWorldK encA 3 w blk off n d' os := by
  have eg : ∀ args w, (callFunc 31 args).run Try.prog w = .ok (.enter 31 args) w := enters_of Try.func31 (by kernel_rfl) rfl
  exact AnyQ.slices_SortFunc Try.sortRat 3 Try.isAgg25 Try.sizeOf25 encA (fun _ => rfl) (fun x v hv => by simp [encA] at hv; rcases hv with rfl | rfl | rfl <;> rfl) cfA swoA 31 #[] blk off cap d w eg (cmpLaysA blk off d.size w) hH hblk hsz
end Go.Proofs.Ytoaggmegmgdgbaa
