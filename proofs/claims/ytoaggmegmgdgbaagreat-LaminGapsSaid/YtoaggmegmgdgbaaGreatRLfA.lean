import Derived.Test.YtoaggmegmgdgbaaGreatLamE
import Derived.Test.YtoaggmegmgdgbaaGreatRefA
import Derived.Test.YtoaggmegmgdgbaaGreatBack
import Derived.Deep.CutBlock
import Derived.Deep.CutRange
import Derived.Deep.RegionHeld3
namespace Go.Proofs.YtoaggmegmgdgbaaGreat
open Go.RowKit Go.Sort
end Go.Proofs.YtoaggmegmgdgbaaGreat
