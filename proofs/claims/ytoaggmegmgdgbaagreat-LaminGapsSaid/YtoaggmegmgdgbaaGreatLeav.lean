import Derived.Test.YtoaggmegmgdgbaaGreatLamR
import Derived.Test.YtoaggmegmgdgbaaGreatLeave
namespace Go.Proofs.YtoaggmegmgdgbaaGreat
open Go.RowKit Go.Sort
attribute [local go_sem] Oper.semAt_some
end Go.Proofs.YtoaggmegmgdgbaaGreat
