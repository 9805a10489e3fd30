import Derived.Test.YtoaggmegmgdgbaaGreatLamR
import Derived.Test.YtoaggmegmgdgbaaGreatLamK
import Derived.Deep.CutBlock
import Derived.Deep.CutRange
namespace Go.Proofs.YtoaggmegmgdgbaaGreat
open Go.RowKit Go.Sort
section
variable {A B : World} {r : Nat → Prop} {g : Nat} {T : TypeId} {cs : Array Value} {base x : Nat} {v : Value} {L : List Lf}
end
open Go.RowKit Go.Sort
section
variable {A B : World} {base x : Nat} {v : Value} {L : List Lf}
end
end Go.Proofs.YtoaggmegmgdgbaaGreat
