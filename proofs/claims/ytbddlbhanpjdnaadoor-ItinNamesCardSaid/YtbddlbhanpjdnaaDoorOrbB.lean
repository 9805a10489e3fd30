/- Package filigreeref21: Orbit. -/
import Derived.Test.YtbddlbhanpjdnaaDoorOrbP
import Derived.Test.YtbddlbhanpjdnaaDoorR02C
namespace Go.Proofs.YtbddlbhanpjdnaaDoor
open Go.RowKit Go.Sort

end Go.Proofs.YtbddlbhanpjdnaaDoor
