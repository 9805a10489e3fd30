/- For the rows whose statements are tied cards: what they import. -/
import Derived.Test.YtbddlbhanpjdnaaDoorTie
import Derived.Test.YtbddlbhanpjdnaaDoorCards
import Derived.Test.YtbddlbhanpjdnaaDoorLift
import Derived.OpenShut
import Derived.LaidMore
import Derived.Lay
import Derived.SevenTiedAt
import Derived.Stop.Joined
namespace Go.Proofs.YtbddlbhanpjdnaaDoor
open Go.ChangeShapes Go.WideShapes Go.ChangeAt Go.RowKit

/-- No arguments. -/
theorem args_nil {args : Array Value} (h : args.toList = []) : args = #[] := by cases args; simp_all
end Go.Proofs.YtbddlbhanpjdnaaDoor
