import Derived.Test.YtoaggmegmgdgbaaGreatRefA
import Derived.Deep.CutBlock
import Derived.Test.YtoaggmegmgdgbaaGreatAngN
namespace Go.Proofs.YtoaggmegmgdgbaaGreat
open Go.RowKit
open Go.RowKit
open Go.RowKit
open Go.RowKit Go.Sort
end Go.Proofs.YtoaggmegmgdgbaaGreat
