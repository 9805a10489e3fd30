/- A row's last steps: a leaf as an argument. -/
import Derived.Test.YtoaggmegmgdgbaaLift
namespace Go.Proofs.Ytoaggmegmgdgbaa
open Go.ChangeShapes Go.WideShapes Go.ChangeAt Go.RowKit

theorem array6 {α : Type} {cs : Array α} (h : cs.size = 6) : ∃ c0 c1 c2 c3 c4 c5, cs = #[c0, c1, c2, c3, c4, c5] := by
  obtain ⟨l⟩ := cs
  match l, h with
  | [a, b, c, d, e, f], _ => exact ⟨a, b, c, d, e, f, rfl⟩
set_option maxRecDepth 100000 in
theorem leaf_open {W : World} {base : Nat} {v : Value} (h : Value.okWide Try.prog W .any base 27 v) :
    ∃ (n1 : Bool) (a1 d1 : ByteArray) (n2 : Bool) (a2 d2 : ByteArray), v = .agg #[.bool n1, .string a1, .string d1, .bool n2, .string a2, .string d2] ∧ a1.size ≤ 9223372036854775807 ∧ d1.size ≤ 9223372036854775807 ∧ a2.size ≤ 9223372036854775807 ∧ d2.size ≤ 9223372036854775807 := by
  simp only [Value.okWide, Try.underlying27] at h
  obtain ⟨cs, rfl, hs, ts, h1, -, h3⟩ := h
  have e1 : Try.prog.cellTypes Try.prog.depth 27 = some [4, 23, 23, 4, 23, 23] := by kernel_rfl
  have e2 : Try.prog.cellsOf 27 = 6 := by kernel_rfl
  rw [e1] at h1
  injection h1 with h1
  subst h1
  rw [e2] at hs
  obtain ⟨c0, c1, c2, c3, c4, c5, rfl⟩ := array6 hs
  obtain ⟨u0, hu0, k0⟩ := h3 0 c0 rfl
  obtain ⟨u1, hu1, k1⟩ := h3 1 c1 rfl
  obtain ⟨u2, hu2, k2⟩ := h3 2 c2 rfl
  obtain ⟨u3, hu3, k3⟩ := h3 3 c3 rfl
  obtain ⟨u4, hu4, k4⟩ := h3 4 c4 rfl
  obtain ⟨u5, hu5, k5⟩ := h3 5 c5 rfl
  simp at hu0 hu1 hu2 hu3 hu4 hu5
  subst hu0 hu1 hu2 hu3 hu4 hu5
  simp only [Cell.okWide, Cell.ok, Try.underlying4] at k0 k3
  simp only [Cell.okWide, Cell.ok, Try.underlying23] at k1 k2 k4 k5
  cases c0 <;> try exact k0.elim
  cases c1 <;> try exact k1.elim
  cases c2 <;> try exact k2.elim
  cases c3 <;> try exact k3.elim
  cases c4 <;> try exact k4.elim
  cases c5 <;> try exact k5.elim
  have mx : IntKind.i64.max = ((9223372036854775807 : Nat) : Int) := by decide
  refine ⟨_, _, _, _, _, _, rfl, Int.ofNat_le.1 ?_, Int.ofNat_le.1 ?_, Int.ofNat_le.1 ?_, Int.ofNat_le.1 ?_⟩
  · rw [← mx]; exact k1
  · rw [← mx]; exact k2
  · rw [← mx]; exact k4
  · rw [← mx]; exact k5
end Go.Proofs.Ytoaggmegmgdgbaa
