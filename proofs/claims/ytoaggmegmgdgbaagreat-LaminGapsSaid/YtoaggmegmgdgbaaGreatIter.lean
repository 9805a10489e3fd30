import Derived.RangeFuncCalls
import Derived.Below
import Derived.Deep.QuietTactic
import Derived.Lib.QuietBelow
import Derived.OrdersIn
namespace Go.Proofs.YtoaggmegmgdgbaaGreat
open Go Go.RowKit
section
variable {lo hi : Nat} {A B C : World}
end
section
variable {S S' : Nat → Prop} {A B C : World}
end
end Go.Proofs.YtoaggmegmgdgbaaGreat
