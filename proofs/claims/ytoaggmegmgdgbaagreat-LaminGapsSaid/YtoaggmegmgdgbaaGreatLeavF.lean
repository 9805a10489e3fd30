import Derived.Test.YtoaggmegmgdgbaaGreatLamR
import Derived.Test.YtoaggmegmgdgbaaGreatLamO
import Derived.Test.YtoaggmegmgdgbaaGreatLeav
import Derived.Test.YtoaggmegmgdgbaaGreatLeave
import Derived.Deep.CutBlock
import Derived.Deep.CutRange
namespace Go.Proofs.YtoaggmegmgdgbaaGreat
open Go.RowKit Go.Sort
attribute [local go_sem] Oper.semAt_some
end Go.Proofs.YtoaggmegmgdgbaaGreat
