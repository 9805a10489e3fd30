import Derived.Test.YtoaggmegmgdgbaaGreatAngH
namespace Go.Proofs.YtoaggmegmgdgbaaGreat
open Go.RowKit
end Go.Proofs.YtoaggmegmgdgbaaGreat
