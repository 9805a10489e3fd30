/- Package wide: Neg, Mul, Add, Sub, Quo, Mod, Uint64. -/
import Derived.Test.YtbddlbhanpjdnaaDoorQTail
import Derived.Deep.CutBlock
namespace Go.Proofs.YtbddlbhanpjdnaaDoor
open Go.RowKit Go.Sort

theorem below_after {w w1 : World} {B : Nat} (hB : B ≤ w.heap.size) (hb : Below w.drew.heap.size w.drew w1) : Below B w w1 := (Below.refl B w).drew.trans (hb.mono hB)
theorem bs_after {w w1 : World} {p o : Nat} (h : BS w p o) (hb : Below w.drew.heap.size w.drew w1) : BS w1 p o := BS.below (w := w.drew) h hb

end Go.Proofs.YtbddlbhanpjdnaaDoor

