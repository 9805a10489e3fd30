import Derived.Test.YtoaggmegmgdgbaaGreatLamB
import Derived.StillTail
import Derived.OrdersHeld
import Derived.Lib.QuietBelow
namespace Go.Proofs.YtoaggmegmgdgbaaGreat
open Go.RowKit Go.Sort
section
variable {P : Program} {ops : Array Oper} {md : Region.Mode} {C : World → Prop}
end
section
variable {P : Program} {ops : Array Oper} {md : Region.Mode} {C : World → Prop}
end
end Go.Proofs.YtoaggmegmgdgbaaGreat
