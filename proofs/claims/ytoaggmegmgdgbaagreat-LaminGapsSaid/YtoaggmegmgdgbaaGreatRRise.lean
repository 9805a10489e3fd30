import Derived.Test.YtoaggmegmgdgbaaGreatRPutB
import Derived.Test.YtoaggmegmgdgbaaGreatOnceJ
import Derived.Test.YtoaggmegmgdgbaaGreatGapA
import Derived.Deep.CutBlock
import Derived.Deep.CutRange
namespace Go.Proofs.YtoaggmegmgdgbaaGreat
open Go.RowKit Go.Sort
end Go.Proofs.YtoaggmegmgdgbaaGreat
