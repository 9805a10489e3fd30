import Derived.Test.YtoaggmegmgdgbaaGreatLamB
import Derived.Test.YtoaggmegmgdgbaaGreatIter
import Derived.RangeFuncNested
import Derived.RangeFuncBound
import Derived.Shelf.Abstract
import Derived.Shelf.RegionOpen
import Derived.OwnWalkIn
import Derived.TacticsInMore
import Derived.LoopNIn
import Derived.LoopIn
namespace Go.Proofs.YtoaggmegmgdgbaaGreat
open Go.RowKit Go.Sort
end Go.Proofs.YtoaggmegmgdgbaaGreat
