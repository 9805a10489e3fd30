/- filigreelaw21.AngleBack: the walk. -/
import Derived.Test.YtbddlbhanpjdnaaDoorBackP
import Derived.Deep.CutRange
namespace Go.Proofs.YtbddlbhanpjdnaaDoor
open Go.RowKit Go.Sort

theorem kind_le : ∀ (f n d c : Nat), 0 < n → n ≤ f → (kindF f n d c).2 ≤ n := by
  intro f
  induction f with
  | zero => intro n d c h0 h; omega
  | succ f ih =>
    intro n d c h0 h
    by_cases hg : Nat.gcd n d = 1
    · rw [kindF_end hg]; exact (ordG_le h0).2
    · rw [kindF_go hg]
      have g0 : 0 < Nat.gcd n d := Nat.gcd_pos_of_pos_left _ h0
      have h1 : 0 < n / Nat.gcd n d := Nat.div_pos (Nat.gcd_le_left _ h0) g0
      have h2 : n / Nat.gcd n d < n := Nat.div_lt_self h0 (by omega)
      have := ih (n / Nat.gcd n d) d (c + 1) h1 (by omega)
      omega

theorem ba_eqB {a b : ByteArray} (h : a.toList = b.toList) : a = b := by
  rw [ByteArray.toList_eq, ByteArray.toList_eq] at h
  cases a; cases b
  simp at h ⊢
  exact h
theorem turnsB_rd {ng : Bool} {nu de : ByteArray} {d n : Nat} (ha : okA ng nu de = true) (hr : roundB (d : Int) = true) :
    turnsV ng nu de (d : Int) (n : Int) = .tuple #[.agg #[.bool false, .string (natS (rd (turnX (be (sl nu)) (be (sl de)) d n) (be (sl de))).1), .string (natS (rd (turnX (be (sl nu)) (be (sl de)) d n) (be (sl de))).2)], .int .i64 0] := by
  unfold turnsV
  rw [if_pos ha, hr]
  simp [ratV, rd]
theorem turnsB_no {ng : Bool} {nu de : ByteArray} {d n : Int} (h : ¬ (okA ng nu de = true ∧ roundB d = true)) :
    ∃ c : Int, c ≠ 0 ∧ turnsV ng nu de d n = .tuple #[.agg #[.bool false, .string ⟨#[]⟩, .string ⟨#[]⟩], .int .i64 c] := by
  unfold turnsV
  split
  · split
    · rename_i h1 h2
      simp at h2
      exact absurd ⟨h1, h2.1⟩ h
    · exact ⟨2, by decide, rfl⟩
  · exact ⟨210, by decide, rfl⟩
theorem own_formsB {w : World} {base : Nat} {T : TypeId} {size : Nat} {v : Value} {n : Nat} {xs : List Value} (h : w.ownsRow base T size v n xs) : (v = .slice none 0 0 ∧ n = 0) ∨ ∃ g cap, v = .slice (some ⟨g, 0, none⟩) n cap := own_forms h

end Go.Proofs.YtbddlbhanpjdnaaDoor
