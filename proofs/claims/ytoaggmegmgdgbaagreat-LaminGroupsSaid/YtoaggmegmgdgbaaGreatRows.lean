/-
  No cell of these rows narrows 'for every input' (looked for: loops, veiled, ifaces, maps, wideKeys, modest, calm, conditions, laid).
  DERIVED. THE GIVEN ROWS OF THIS SEAT. 8 by the template 'for every input the law returns true; each argument reads behind the call as it read before'; 0 by the template 'total and deterministic' (their statements: YtoaggmegmgdgbaaGreatTotals.lean).
  GIVEN WITH THE SEED: the statements are not yours to turn. If you find one false, say at which input.
  Laid BY PROGRAM, IN A SANDBOX (cutbox-rows.mjs): the forced cells as the released guide's own fill.sh prints them over the translation ffb742b6903418ea… (all of the seat's roots in one cut). By AI agents, Wed Nov 11 2026. No macro, syntax, notation, axiom, sorry.
-/
import Derived.Test.YtoaggmegmgdgbaaGreatChecked
import GoSem.Claim
import GoSem.ClaimJoined
import GoSem.ClaimMapViews
import Derived.JoinedTies
import Derived.KernelRfl
namespace Go.Proofs.YtoaggmegmgdgbaaGreat
/- THE CELL 'sum', in the pinned program and in every row, IS THE sha256 OF THE DUMP (.gsa) THAT YtoaggmegmgdgbaaGreatProg.lean LOADS. Nothing in Lean hashes anything: it is a label: what it is worth is what the hold of that sum in a sandbox is worth. -/
noncomputable def Tryz.pinned : Pinned := { name := "ytoaggmegmgdgbaagreat", sum := "ffb742b6903418ea3f6ef6b7cbcbba18d3f9e70fd88273eb087c2bc29c09ab13", checked := Tryz.checked }
namespace Rows
def none {H : Type} : Left H := { results := [], args := [] }

/-- 'filigreelaw23.LaminHulls': WHATEVER THE INPUT: true; the input reads as it did. -/
def laminHullsSpec : ChangeSpec := { name := "laminHulls", fn := fun _ => fun
  | [d] => { results := [.lit (.bool true)], args := [d] }
  | _ => none }
def laminHullsRow : OpenClaim := { program := "ytoaggmegmgdgbaagreat", sum := "ffb742b6903418ea3f6ef6b7cbcbba18d3f9e70fd88273eb087c2bc29c09ab13", func := "filigree/filigreelaw23.LaminHulls", spec := "laminHulls", inPlace := ["slices.overlaps[filigree/api.Leaf]"], unfollowed := true, recurses := true, plainKeys := false, apart := false }
def LaminHullsSaid : Prop := laminHullsRow.holds Tryz.pinned (OpenSpec.ofChange laminHullsSpec)

/-- ITS FALSE NEIGHBOUR: 'it returns false'. Refute it at one input. -/
def laminHullsWrong : ChangeSpec := { name := "laminHulls", fn := fun _ => fun
  | [d] => { results := [.lit (.bool false)], args := [d] }
  | _ => none }
def LaminHullsWrongFalsely : Prop := laminHullsRow.holds Tryz.pinned (OpenSpec.ofChange laminHullsWrong)

/-- 'filigreelaw23.LaminLeaves': WHATEVER THE INPUT: true; the input reads as it did. -/
def laminLeavesSpec : ChangeSpec := { name := "laminLeaves", fn := fun _ => fun
  | [d1, d2, d3, d4, d5] => { results := [.lit (.bool true)], args := [d1, d2, d3, d4, d5] }
  | _ => none }
def laminLeavesRow : OpenClaim := { program := "ytoaggmegmgdgbaagreat", sum := "ffb742b6903418ea3f6ef6b7cbcbba18d3f9e70fd88273eb087c2bc29c09ab13", func := "filigree/filigreelaw23.LaminLeaves", spec := "laminLeaves", inPlace := ["slices.overlaps[filigree/api.Leaf]"], unfollowed := true, recurses := true, named := ["math/bits.divideError", "math/bits.overflowError"], plainKeys := false, apart := false }
def LaminLeavesSaid : Prop := laminLeavesRow.holds Tryz.pinned (OpenSpec.ofChange laminLeavesSpec)

/-- ITS FALSE NEIGHBOUR: 'it returns false'. Refute it at one input. -/
def laminLeavesWrong : ChangeSpec := { name := "laminLeaves", fn := fun _ => fun
  | [d1, d2, d3, d4, d5] => { results := [.lit (.bool false)], args := [d1, d2, d3, d4, d5] }
  | _ => none }
def LaminLeavesWrongFalsely : Prop := laminLeavesRow.holds Tryz.pinned (OpenSpec.ofChange laminLeavesWrong)

/-- 'filigreelaw23.LaminGaps': WHATEVER THE INPUT: true; the input reads as it did. -/
def laminGapsSpec : ChangeSpec := { name := "laminGaps", fn := fun _ => fun
  | [d1, d2, d3] => { results := [.lit (.bool true)], args := [d1, d2, d3] }
  | _ => none }
def laminGapsRow : OpenClaim := { program := "ytoaggmegmgdgbaagreat", sum := "ffb742b6903418ea3f6ef6b7cbcbba18d3f9e70fd88273eb087c2bc29c09ab13", func := "filigree/filigreelaw23.LaminGaps", spec := "laminGaps", inPlace := ["slices.overlaps[filigree/api.Leaf]"], unfollowed := true, recurses := true, plainKeys := false, apart := false }
def LaminGapsSaid : Prop := laminGapsRow.holds Tryz.pinned (OpenSpec.ofChange laminGapsSpec)

/-- ITS FALSE NEIGHBOUR: 'it returns false'. Refute it at one input. -/
def laminGapsWrong : ChangeSpec := { name := "laminGaps", fn := fun _ => fun
  | [d1, d2, d3] => { results := [.lit (.bool false)], args := [d1, d2, d3] }
  | _ => none }
def LaminGapsWrongFalsely : Prop := laminGapsRow.holds Tryz.pinned (OpenSpec.ofChange laminGapsWrong)

/-- 'filigreelaw23.LaminTurned': WHATEVER THE INPUT: true; the input reads as it did. -/
def laminTurnedSpec : ChangeSpec := { name := "laminTurned", fn := fun _ => fun
  | [d1, d2] => { results := [.lit (.bool true)], args := [d1, d2] }
  | _ => none }
def laminTurnedRow : OpenClaim := { program := "ytoaggmegmgdgbaagreat", sum := "ffb742b6903418ea3f6ef6b7cbcbba18d3f9e70fd88273eb087c2bc29c09ab13", func := "filigree/filigreelaw23.LaminTurned", spec := "laminTurned", inPlace := ["slices.overlaps[filigree/api.Leaf]"], unfollowed := true, recurses := true, named := ["math/bits.divideError", "math/bits.overflowError"], plainKeys := false, apart := false }
def LaminTurnedSaid : Prop := laminTurnedRow.holds Tryz.pinned (OpenSpec.ofChange laminTurnedSpec)

/-- ITS FALSE NEIGHBOUR: 'it returns false'. Refute it at one input. -/
def laminTurnedWrong : ChangeSpec := { name := "laminTurned", fn := fun _ => fun
  | [d1, d2] => { results := [.lit (.bool false)], args := [d1, d2] }
  | _ => none }
def LaminTurnedWrongFalsely : Prop := laminTurnedRow.holds Tryz.pinned (OpenSpec.ofChange laminTurnedWrong)

/-- 'filigreelaw23.LaminPlays': WHATEVER THE INPUT: true; the input reads as it did. -/
def laminPlaysSpec : ChangeSpec := { name := "laminPlays", fn := fun _ => fun
  | [d] => { results := [.lit (.bool true)], args := [d] }
  | _ => none }
def laminPlaysRow : OpenClaim := { program := "ytoaggmegmgdgbaagreat", sum := "ffb742b6903418ea3f6ef6b7cbcbba18d3f9e70fd88273eb087c2bc29c09ab13", func := "filigree/filigreelaw23.LaminPlays", spec := "laminPlays", inPlace := ["slices.overlaps[filigree/api.Leaf]"], unfollowed := true, recurses := true, named := ["math/bits.divideError", "math/bits.overflowError"], plainKeys := false, apart := false }
def LaminPlaysSaid : Prop := laminPlaysRow.holds Tryz.pinned (OpenSpec.ofChange laminPlaysSpec)

/-- ITS FALSE NEIGHBOUR: 'it returns false'. Refute it at one input. -/
def laminPlaysWrong : ChangeSpec := { name := "laminPlays", fn := fun _ => fun
  | [d] => { results := [.lit (.bool false)], args := [d] }
  | _ => none }
def LaminPlaysWrongFalsely : Prop := laminPlaysRow.holds Tryz.pinned (OpenSpec.ofChange laminPlaysWrong)

/-- 'filigreelaw23.LaminNil': WHATEVER THE INPUT: true; the input reads as it did. -/
def laminNilSpec : ChangeSpec := { name := "laminNil", fn := fun _ => fun
  | [d1, d2] => { results := [.lit (.bool true)], args := [d1, d2] }
  | _ => none }
def laminNilRow : OpenClaim := { program := "ytoaggmegmgdgbaagreat", sum := "ffb742b6903418ea3f6ef6b7cbcbba18d3f9e70fd88273eb087c2bc29c09ab13", func := "filigree/filigreelaw23.LaminNil", spec := "laminNil", inPlace := ["slices.overlaps[filigree/api.Leaf]"], unfollowed := true, recurses := true, named := ["math/bits.divideError", "math/bits.overflowError"], plainKeys := false, apart := false }
def LaminNilSaid : Prop := laminNilRow.holds Tryz.pinned (OpenSpec.ofChange laminNilSpec)

/-- ITS FALSE NEIGHBOUR: 'it returns false'. Refute it at one input. -/
def laminNilWrong : ChangeSpec := { name := "laminNil", fn := fun _ => fun
  | [d1, d2] => { results := [.lit (.bool false)], args := [d1, d2] }
  | _ => none }
def LaminNilWrongFalsely : Prop := laminNilRow.holds Tryz.pinned (OpenSpec.ofChange laminNilWrong)

/-- 'filigreelaw23.LaminGroups': WHATEVER THE INPUT: true; the input reads as it did. -/
def laminGroupsSpec : ChangeSpec := { name := "laminGroups", fn := fun _ => fun
  | [d1, d2, d3] => { results := [.lit (.bool true)], args := [d1, d2, d3] }
  | _ => none }
def laminGroupsRow : OpenClaim := { program := "ytoaggmegmgdgbaagreat", sum := "ffb742b6903418ea3f6ef6b7cbcbba18d3f9e70fd88273eb087c2bc29c09ab13", func := "filigree/filigreelaw23.LaminGroups", spec := "laminGroups", inPlace := ["slices.overlaps[filigree/api.Leaf]"], unfollowed := true, recurses := true, named := ["math/bits.divideError", "math/bits.overflowError"], plainKeys := false, apart := false }
def LaminGroupsSaid : Prop := laminGroupsRow.holds Tryz.pinned (OpenSpec.ofChange laminGroupsSpec)

/-- ITS FALSE NEIGHBOUR: 'it returns false'. Refute it at one input. -/
def laminGroupsWrong : ChangeSpec := { name := "laminGroups", fn := fun _ => fun
  | [d1, d2, d3] => { results := [.lit (.bool false)], args := [d1, d2, d3] }
  | _ => none }
def LaminGroupsWrongFalsely : Prop := laminGroupsRow.holds Tryz.pinned (OpenSpec.ofChange laminGroupsWrong)

/-- 'filigreelaw23.LaminOne': WHATEVER THE INPUT: true; the input reads as it did. -/
def laminOneSpec : ChangeSpec := { name := "laminOne", fn := fun _ => fun
  | [d1, d2, d3] => { results := [.lit (.bool true)], args := [d1, d2, d3] }
  | _ => none }
def laminOneRow : OpenClaim := { program := "ytoaggmegmgdgbaagreat", sum := "ffb742b6903418ea3f6ef6b7cbcbba18d3f9e70fd88273eb087c2bc29c09ab13", func := "filigree/filigreelaw23.LaminOne", spec := "laminOne", inPlace := ["slices.overlaps[filigree/api.Leaf]"], unfollowed := true, recurses := true, named := ["math/bits.divideError", "math/bits.overflowError"], plainKeys := false, apart := false }
def LaminOneSaid : Prop := laminOneRow.holds Tryz.pinned (OpenSpec.ofChange laminOneSpec)

/-- ITS FALSE NEIGHBOUR: 'it returns false'. Refute it at one input. -/
def laminOneWrong : ChangeSpec := { name := "laminOne", fn := fun _ => fun
  | [d1, d2, d3] => { results := [.lit (.bool false)], args := [d1, d2, d3] }
  | _ => none }
def LaminOneWrongFalsely : Prop := laminOneRow.holds Tryz.pinned (OpenSpec.ofChange laminOneWrong)

/- THE SECOND FORM. 'bulk': how many values and letters a reading holds, each counted each time it is reached (what is shared counts as often as it is met; a slice's spare places count too). A statement '..UptoSaid' is the law's where the arguments, and the package variables that the reading takes, are together of bulk at most 1048576: NARROWER than '..Said'. Prove '..Said' where nothing that the law and all that it calls make is longer than what came in: it says more and counts as full. Else prove '..UptoSaid'. A law counts once. -/
mutual
def uptoBulk {H : Type} : DataW H → Nat
  | .lit (.string bytes) => bytes.length + 1
  | .lit _ => 1
  | .nil => 1
  | .ptr d => uptoBulk d + 1
  | .slice elems spare => uptoBulkAll elems + uptoBulkAll spare + 1
  | .agg parts => uptoBulkAll parts + 1
  | .iface _ d => uptoBulk d + 1
  | .map entries => uptoBulkEntries entries + 1
  | .held _ => 1
def uptoBulkAll {H : Type} : List (DataW H) → Nat
  | [] => 0
  | d :: r => uptoBulk d + uptoBulkAll r
def uptoBulkEntries {H : Type} : List (Lit × DataW H) → Nat
  | [] => 0
  | x :: r => uptoBulkEntry x + uptoBulkEntries r
def uptoBulkEntry {H : Type} : Lit × DataW H → Nat
  | (.string bytes, d) => bytes.length + uptoBulk d + 1
  | (_, d) => uptoBulk d + 1
 end
def uptoSmall : (H : Type) → List (DataW H) → Bool := fun _ ds => decide (uptoBulkAll ds ≤ 1048576)
def OpenSpec.upto (s : _root_.Go.ChangeSpec) : _root_.Go.OpenSpec := { _root_.Go.OpenSpec.ofChange s with cond := some uptoSmall }

/-- 'filigreelaw23.LaminHulls', WHERE WHAT IT READS IS OF BULK AT MOST 1048576: true; the input reads as it did. -/
def laminHullsUptoRow : OpenClaim := { program := "ytoaggmegmgdgbaagreat", sum := "ffb742b6903418ea3f6ef6b7cbcbba18d3f9e70fd88273eb087c2bc29c09ab13", func := "filigree/filigreelaw23.LaminHulls", spec := "laminHulls", inPlace := ["slices.overlaps[filigree/api.Leaf]"], unfollowed := true, recurses := true, plainKeys := false, apart := false, narrowed := true }
def LaminHullsUptoSaid : Prop := laminHullsUptoRow.holds Tryz.pinned (OpenSpec.upto laminHullsSpec)

/-- 'filigreelaw23.LaminLeaves', WHERE WHAT IT READS IS OF BULK AT MOST 1048576: true; the input reads as it did. -/
def laminLeavesUptoRow : OpenClaim := { program := "ytoaggmegmgdgbaagreat", sum := "ffb742b6903418ea3f6ef6b7cbcbba18d3f9e70fd88273eb087c2bc29c09ab13", func := "filigree/filigreelaw23.LaminLeaves", spec := "laminLeaves", inPlace := ["slices.overlaps[filigree/api.Leaf]"], unfollowed := true, recurses := true, named := ["math/bits.divideError", "math/bits.overflowError"], plainKeys := false, apart := false, narrowed := true }
def LaminLeavesUptoSaid : Prop := laminLeavesUptoRow.holds Tryz.pinned (OpenSpec.upto laminLeavesSpec)

/-- 'filigreelaw23.LaminGaps', WHERE WHAT IT READS IS OF BULK AT MOST 1048576: true; the input reads as it did. -/
def laminGapsUptoRow : OpenClaim := { program := "ytoaggmegmgdgbaagreat", sum := "ffb742b6903418ea3f6ef6b7cbcbba18d3f9e70fd88273eb087c2bc29c09ab13", func := "filigree/filigreelaw23.LaminGaps", spec := "laminGaps", inPlace := ["slices.overlaps[filigree/api.Leaf]"], unfollowed := true, recurses := true, plainKeys := false, apart := false, narrowed := true }
def LaminGapsUptoSaid : Prop := laminGapsUptoRow.holds Tryz.pinned (OpenSpec.upto laminGapsSpec)

/-- 'filigreelaw23.LaminTurned', WHERE WHAT IT READS IS OF BULK AT MOST 1048576: true; the input reads as it did. -/
def laminTurnedUptoRow : OpenClaim := { program := "ytoaggmegmgdgbaagreat", sum := "ffb742b6903418ea3f6ef6b7cbcbba18d3f9e70fd88273eb087c2bc29c09ab13", func := "filigree/filigreelaw23.LaminTurned", spec := "laminTurned", inPlace := ["slices.overlaps[filigree/api.Leaf]"], unfollowed := true, recurses := true, named := ["math/bits.divideError", "math/bits.overflowError"], plainKeys := false, apart := false, narrowed := true }
def LaminTurnedUptoSaid : Prop := laminTurnedUptoRow.holds Tryz.pinned (OpenSpec.upto laminTurnedSpec)

/-- 'filigreelaw23.LaminPlays', WHERE WHAT IT READS IS OF BULK AT MOST 1048576: true; the input reads as it did. -/
def laminPlaysUptoRow : OpenClaim := { program := "ytoaggmegmgdgbaagreat", sum := "ffb742b6903418ea3f6ef6b7cbcbba18d3f9e70fd88273eb087c2bc29c09ab13", func := "filigree/filigreelaw23.LaminPlays", spec := "laminPlays", inPlace := ["slices.overlaps[filigree/api.Leaf]"], unfollowed := true, recurses := true, named := ["math/bits.divideError", "math/bits.overflowError"], plainKeys := false, apart := false, narrowed := true }
def LaminPlaysUptoSaid : Prop := laminPlaysUptoRow.holds Tryz.pinned (OpenSpec.upto laminPlaysSpec)

/-- 'filigreelaw23.LaminNil', WHERE WHAT IT READS IS OF BULK AT MOST 1048576: true; the input reads as it did. -/
def laminNilUptoRow : OpenClaim := { program := "ytoaggmegmgdgbaagreat", sum := "ffb742b6903418ea3f6ef6b7cbcbba18d3f9e70fd88273eb087c2bc29c09ab13", func := "filigree/filigreelaw23.LaminNil", spec := "laminNil", inPlace := ["slices.overlaps[filigree/api.Leaf]"], unfollowed := true, recurses := true, named := ["math/bits.divideError", "math/bits.overflowError"], plainKeys := false, apart := false, narrowed := true }
def LaminNilUptoSaid : Prop := laminNilUptoRow.holds Tryz.pinned (OpenSpec.upto laminNilSpec)

/-- 'filigreelaw23.LaminGroups', WHERE WHAT IT READS IS OF BULK AT MOST 1048576: true; the input reads as it did. -/
def laminGroupsUptoRow : OpenClaim := { program := "ytoaggmegmgdgbaagreat", sum := "ffb742b6903418ea3f6ef6b7cbcbba18d3f9e70fd88273eb087c2bc29c09ab13", func := "filigree/filigreelaw23.LaminGroups", spec := "laminGroups", inPlace := ["slices.overlaps[filigree/api.Leaf]"], unfollowed := true, recurses := true, named := ["math/bits.divideError", "math/bits.overflowError"], plainKeys := false, apart := false, narrowed := true }
def LaminGroupsUptoSaid : Prop := laminGroupsUptoRow.holds Tryz.pinned (OpenSpec.upto laminGroupsSpec)

/-- 'filigreelaw23.LaminOne', WHERE WHAT IT READS IS OF BULK AT MOST 1048576: true; the input reads as it did. -/
def laminOneUptoRow : OpenClaim := { program := "ytoaggmegmgdgbaagreat", sum := "ffb742b6903418ea3f6ef6b7cbcbba18d3f9e70fd88273eb087c2bc29c09ab13", func := "filigree/filigreelaw23.LaminOne", spec := "laminOne", inPlace := ["slices.overlaps[filigree/api.Leaf]"], unfollowed := true, recurses := true, named := ["math/bits.divideError", "math/bits.overflowError"], plainKeys := false, apart := false, narrowed := true }
def LaminOneUptoSaid : Prop := laminOneUptoRow.holds Tryz.pinned (OpenSpec.upto laminOneSpec)

end Rows
end Go.Proofs.YtoaggmegmgdgbaaGreat
