/- For the rows whose statements are tied cards: what they import. -/
import Derived.Test.YtnaadajcehfmiaaDoorTie
import Derived.Test.YtnaadajcehfmiaaDoorCards
import Derived.Test.YtnaadajcehfmiaaDoorLiftL
import Derived.OpenShut
import Derived.LaidMore
import Derived.Lay
import Derived.SevenTiedAt
import Derived.Stop.Joined
namespace Go.Proofs.YtnaadajcehfmiaaDoor
open Go.ChangeShapes Go.WideShapes Go.ChangeAt Go.RowKit

/-- No arguments. -/
theorem args_nil {args : Array Value} (h : args.toList = []) : args = #[] := by cases args; simp_all
end Go.Proofs.YtnaadajcehfmiaaDoor
