/- A ratio as an argument. -/
import Derived.Test.YtciafmnideihjaaLift
import Derived.Lib.SmallJoins
namespace Go.Proofs.Ytciafmnideihjaa
open Go.ChangeShapes Go.WideShapes Go.ChangeAt Go.RowKit

set_option maxRecDepth 100000 in
theorem ratio_open {W : World} {base : Nat} {v : Value} (h : Value.okWide Try.prog W .any base 24 v) :
    ∃ (ng : Bool) (nu de : ByteArray), v = .agg #[.bool ng, .string nu, .string de] ∧ nu.size ≤ 9223372036854775807 ∧ de.size ≤ 9223372036854775807 := by
  simp only [Value.okWide, Try.underlying24] at h
  obtain ⟨cs, rfl, hs, ts, h1, -, h3⟩ := h
  have e1 : Try.prog.cellTypes Try.prog.depth 24 = some [4, 22, 22] := by kernel_rfl
  have e2 : Try.prog.cellsOf 24 = 3 := by kernel_rfl
  rw [e1] at h1
  injection h1 with h1
  subst h1
  rw [e2] at hs
  obtain ⟨c0, c1, c2, rfl⟩ := Go.Joins.array3 hs
  obtain ⟨u0, hu0, k0⟩ := h3 0 c0 rfl
  obtain ⟨u1, hu1, k1⟩ := h3 1 c1 rfl
  obtain ⟨u2, hu2, k2⟩ := h3 2 c2 rfl
  simp at hu0 hu1 hu2
  subst hu0 hu1 hu2
  simp only [Cell.okWide, Cell.ok, Try.underlying4] at k0
  simp only [Cell.okWide, Cell.ok, Try.underlying22] at k1 k2
  cases c0 <;> try exact k0.elim
  cases c1 <;> try exact k1.elim
  cases c2 <;> try exact k2.elim
  have mx : IntKind.i64.max = ((9223372036854775807 : Nat) : Int) := by decide
  refine ⟨_, _, _, rfl, Int.ofNat_le.1 ?_, Int.ofNat_le.1 ?_⟩
  · rw [← mx]; exact k1
  · rw [← mx]; exact k2
end Go.Proofs.Ytciafmnideihjaa
