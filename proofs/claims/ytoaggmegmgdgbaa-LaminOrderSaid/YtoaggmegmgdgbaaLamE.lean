/- Package lamin: turned, Turn. -/
import Derived.Test.YtoaggmegmgdgbaaLamD
namespace Go.Proofs.Ytoaggmegmgdgbaa
open Go.RowKit Go.Sort

/-- What Turn tells. -/
def TurnLf (n1 : Bool) (a1 d1 : ByteArray) (n2 : Bool) (a2 d2 : ByteArray) (d : Int) : Value × Bool × Int :=
  if chkLf n1 a1 d1 n2 a2 d2 = 0 then turnLf ((be (sl a1), be (sl d1)), (be (sl a2), be (sl d2))) d else (leaf0, false, chkLf n1 a1 d1 n2 a2 d2)
theorem turnLf_form (l : Lf) (d : Int) : ∃ (c : (Bool × ByteArray × ByteArray) × (Bool × ByteArray × ByteArray)) (b : Bool) (e : Int), turnLf l d = (.agg #[.bool c.1.1, .string c.1.2.1, .string c.1.2.2, .bool c.2.1, .string c.2.2.1, .string c.2.2.2], b, e) := by
  unfold turnLf
  split
  · split
    · exact ⟨((false, ⟨#[]⟩, ⟨#[]⟩), (false, ⟨#[]⟩, ⟨#[]⟩)), _, _, rfl⟩
    · exact ⟨((false, natS _, natS _), (false, natS _, natS _)), _, _, rfl⟩
  · exact ⟨((false, ⟨#[]⟩, ⟨#[]⟩), (false, ⟨#[]⟩, ⟨#[]⟩)), _, _, rfl⟩

end Go.Proofs.Ytoaggmegmgdgbaa
