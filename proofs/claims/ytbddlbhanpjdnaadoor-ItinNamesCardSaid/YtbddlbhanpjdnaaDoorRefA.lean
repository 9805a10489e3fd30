/- The document's answer: filigreeref02.May, Small; filigreeref21.gcd, Of, Cmp. · The document's answer: filigreeref21.Of. -/
import Derived.Test.YtbddlbhanpjdnaaDoorAngN
import Derived.BigQuiet
import Derived.Deep.CutBlock
namespace Go.Proofs.YtbddlbhanpjdnaaDoor
open Go.RowKit

end Go.Proofs.YtbddlbhanpjdnaaDoor

namespace Go.Proofs.YtbddlbhanpjdnaaDoor
open Go.RowKit

theorem okA_ref (neg : Bool) (num den : ByteArray) :
    okA neg num den = (smallB num && smallB den && !neg && decide (1 ≤ be (sl den)) && decide (be (sl den) ≤ 2147483647) && decide (be (sl num) < be (sl den)) && decide (Nat.gcd (be (sl num)) (be (sl den)) = 1)) := by
  rw [Bool.eq_iff_iff]
  simp only [okA, ratioMay, smallB, Bool.and_eq_true, Bool.or_eq_true, decide_eq_true_eq, Bool.not_eq_true']
  constructor
  · rintro ⟨⟨⟨⟨⟨⟨⟨⟨⟨h1, h2⟩, h3⟩, h4⟩, -⟩, h5⟩, -, h6⟩, -, h7⟩, h8⟩, h9⟩
    exact ⟨⟨⟨⟨⟨⟨⟨h1, h6⟩, h2, h7⟩, h5⟩, h3⟩, h9⟩, h8⟩, h4⟩
  · rintro ⟨⟨⟨⟨⟨⟨⟨h1, h6⟩, h2, h7⟩, h5⟩, h3⟩, h9⟩, h8⟩, h4⟩
    exact ⟨⟨⟨⟨⟨⟨⟨⟨⟨h1, h2⟩, h3⟩, h4⟩, Or.inl h5⟩, h5⟩, h1, h6⟩, h2, h7⟩, h8⟩, h9⟩

end Go.Proofs.YtbddlbhanpjdnaaDoor
