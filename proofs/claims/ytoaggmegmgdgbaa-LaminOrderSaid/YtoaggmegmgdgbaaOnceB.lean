/- slices.SortFunc at leaves. -/
import Derived.Test.YtoaggmegmgdgbaaOnceA
namespace Go.Proofs.Ytoaggmegmgdgbaa
open Go.Shelf Go.RowKit Go.Lib Go.Sort

/-- Two angles. -/
abbrev LfT := { l : Lf // AngL l }
instance : Inhabited LfT := ⟨⟨((0, 1), (0, 1)), ⟨by decide, by decide, by decide⟩, ⟨by decide, by decide, by decide⟩⟩⟩
def encL (x : LfT) : List Value := leafE x.1
def cfL (x y : LfT) : Int := ordL x.1 y.1
theorem ordL_lt {l m : Lf} (hl : AngL l) (hm : AngL m) : ordL l m < 0 ↔ cmpP l.1 m.1 < 0 ∨ (l.1 = m.1 ∧ cmpP l.2 m.2 < 0) := by
  unfold ordL
  split
  · rename_i h
    have := (cmpP_eq hl.1 hm.1).1 h
    constructor
    · exact fun h2 => .inr ⟨this, h2⟩
    · rintro (h2 | ⟨-, h2⟩)
      · omega
      · exact h2
  · rename_i h
    constructor
    · exact fun h2 => .inl h2
    · rintro (h2 | ⟨h2, -⟩)
      · exact h2
      · exact absurd ((cmpP_eq hl.1 hm.1).2 h2) h
theorem ordL_trans {l m k : Lf} (hl : AngL l) (hm : AngL m) (hk : AngL k) (h1 : ordL l m < 0) (h2 : ordL m k < 0) : ordL l k < 0 := by
  rw [ordL_lt hl hm] at h1
  rw [ordL_lt hm hk] at h2
  rw [ordL_lt hl hk]
  rcases h1 with h1 | ⟨e1, h1⟩ <;> rcases h2 with h2 | ⟨e2, h2⟩
  · exact .inl (cmpP_trans hm.1.pos hk.1.pos h1 h2)
  · exact .inl (e2 ▸ h1)
  · exact .inl (e1 ▸ h2)
  · exact .inr ⟨e1.trans e2, cmpP_trans hm.2.pos hk.2.pos h1 h2⟩
theorem ordL_tri {l m : Lf} (hl : AngL l) (hm : AngL m) : ordL l m < 0 ∨ l = m ∨ ordL m l < 0 := by
  rw [ordL_lt hl hm, ordL_lt hm hl]
  rcases cmpP_bd l.1 m.1 with e | e | e
  · exact .inl (.inl (by omega))
  · have e1 := (cmpP_eq hl.1 hm.1).1 e
    rcases cmpP_bd l.2 m.2 with f | f | f
    · exact .inl (.inr ⟨e1, by omega⟩)
    · exact .inr (.inl (Prod.ext e1 ((cmpP_eq hl.2 hm.2).1 f)))
    · exact .inr (.inr (.inr ⟨e1.symm, cmpP_anti.2 (by omega)⟩))
  · exact .inr (.inr (.inl (cmpP_anti.2 (by omega))))
theorem ordL_refl {l : Lf} : ordL l l = 0 := by simp [ordL, cmpP_refl]
theorem swoL : SWO (ltOf cfL) where
  irrefl x := by simp [ltOf, cfL, ordL_refl]
  trans x y z h1 h2 := decide_eq_true (ordL_trans x.2 y.2 z.2 (of_decide_eq_true h1) (of_decide_eq_true h2))
  ntrans x y z h1 h2 := by
    have h1 := of_decide_eq_false h1
    have h2 := of_decide_eq_false h2
    refine decide_eq_false (fun h => ?_)
    have h : ordL x.1 z.1 < 0 := h
    have h1 : ¬ ordL x.1 y.1 < 0 := h1
    have h2 : ¬ ordL y.1 z.1 < 0 := h2
    rcases ordL_tri x.2 y.2 with e | e | e
    · exact h1 e
    · rw [e] at h
      exact h2 h
    · exact h2 (ordL_trans y.2 x.2 z.2 e h)
theorem leaf_one' (l : Lf) : ∀ u ∈ leafE l, u.oneCell' = true := fun u hu => by
  simp only [leafE, List.mem_cons, List.not_mem_nil, or_false] at hu
  rcases hu with rfl | rfl | rfl | rfl | rfl | rfl <;> rfl
theorem cmpLaysL (blk off size : Nat) (w : World) : CmpLays Try.prog 35 #[] encL 6 cfL blk off size w :=
  fun _ _ _ _ x y => Calls.grown_of (lorder_any x.1 y.1 _ x.2 y.2)

end Go.Proofs.Ytoaggmegmgdgbaa
