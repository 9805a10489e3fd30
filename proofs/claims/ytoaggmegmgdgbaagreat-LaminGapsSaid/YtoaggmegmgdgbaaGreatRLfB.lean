import Derived.Test.YtoaggmegmgdgbaaGreatRLfA
namespace Go.Proofs.YtoaggmegmgdgbaaGreat
open Go.RowKit Go.Sort
end Go.Proofs.YtoaggmegmgdgbaaGreat
