import Derived.Test.YtoaggmegmgdgbaaGreatRLfA
import Derived.Test.YtoaggmegmgdgbaaGreatLamP
import Derived.Test.YtoaggmegmgdgbaaGreatLamH
import Derived.Deep.CutBlock
import Derived.Test.YtoaggmegmgdgbaaGreatOnceJ
namespace Go.Proofs.YtoaggmegmgdgbaaGreat
open Go.RowKit Go.Sort
open Go.RowKit Go.Sort
end Go.Proofs.YtoaggmegmgdgbaaGreat
