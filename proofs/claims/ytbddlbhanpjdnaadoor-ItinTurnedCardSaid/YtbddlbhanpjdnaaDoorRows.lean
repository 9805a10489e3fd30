/-
  NARROWER THAN 'FOR EVERY INPUT', by the rows' own cells (each row's printed sentence says how): ItinNames: laid · ItinEnds: laid · ItinAddresses: laid · ItinDiffers: laid · ItinSame: laid · ItinTurned: laid · ItinBack: laid · ItinLong: laid · ItinParts: laid.
  DERIVED. THE GIVEN ROWS OF THIS SEAT. 9 by the template 'for every input the law returns true; each argument reads behind the call as it read before'; 0 by the template 'total and deterministic' (their statements: YtbddlbhanpjdnaaDoorTotals.lean).
  GIVEN WITH THE SEED: the statements are not yours to turn. If you find one false, say at which input.
  Laid BY PROGRAM, IN A SANDBOX (cutbox-rows.mjs): the forced cells as the released guide's own fill.sh prints them over the translation 3dd596367ba1a4cc… (all of the seat's roots in one cut). By AI agents, Wed Nov 11 2026. No macro, syntax, notation, axiom, sorry.
-/
import Derived.Test.YtbddlbhanpjdnaaDoorChecked
import GoSem.Claim
import GoSem.ClaimJoined
import GoSem.ClaimMapViews
import Derived.JoinedTies
import Derived.KernelRfl
namespace Go.Proofs.YtbddlbhanpjdnaaDoor
/- THE CELL 'sum', in the pinned program and in every row, IS THE sha256 OF THE DUMP (.gsa) THAT YtbddlbhanpjdnaaDoorProg.lean LOADS. Nothing in Lean hashes anything: it is a label: what it is worth is what the hold of that sum in a sandbox is worth. -/
noncomputable def Tryd.pinned : Pinned := { name := "ytbddlbhanpjdnaadoor", sum := "3dd596367ba1a4cc58ad75745b7be84e1a70c0aefc9b2fc7405d85db22b7c3c4", checked := Tryd.checked }
namespace Rows
def none {H : Type} : Left H := { results := [], args := [] }

/- WHAT THE LISTED PACKAGE-LEVEL VARIABLES READ AS WHEN THE CALL BEGINS. Each datum BY PROGRAM (the guide's laid-datum.mjs) off the statement by which the dump's own 'gosem.cut.vars' lays the variable. In a bare row this is a premise. The card (YtbddlbhanpjdnaaDoorCards.lean) ties it to the program's text. -/
def laid_math_bits_deBruijn32tab {H : Type} : DataW H := .agg [.lit (.int .u8 0), .lit (.int .u8 1), .lit (.int .u8 28), .lit (.int .u8 2), .lit (.int .u8 29), .lit (.int .u8 14), .lit (.int .u8 24), .lit (.int .u8 3), .lit (.int .u8 30), .lit (.int .u8 22), .lit (.int .u8 20), .lit (.int .u8 15), .lit (.int .u8 25), .lit (.int .u8 17), .lit (.int .u8 4), .lit (.int .u8 8), .lit (.int .u8 31), .lit (.int .u8 27), .lit (.int .u8 13), .lit (.int .u8 23), .lit (.int .u8 21), .lit (.int .u8 19), .lit (.int .u8 16), .lit (.int .u8 7), .lit (.int .u8 26), .lit (.int .u8 12), .lit (.int .u8 18), .lit (.int .u8 6), .lit (.int .u8 11), .lit (.int .u8 5), .lit (.int .u8 10), .lit (.int .u8 9)]
def laid_math_bits_deBruijn64tab {H : Type} : DataW H := .agg [.lit (.int .u8 0), .lit (.int .u8 1), .lit (.int .u8 56), .lit (.int .u8 2), .lit (.int .u8 57), .lit (.int .u8 49), .lit (.int .u8 28), .lit (.int .u8 3), .lit (.int .u8 61), .lit (.int .u8 58), .lit (.int .u8 42), .lit (.int .u8 50), .lit (.int .u8 38), .lit (.int .u8 29), .lit (.int .u8 17), .lit (.int .u8 4), .lit (.int .u8 62), .lit (.int .u8 47), .lit (.int .u8 59), .lit (.int .u8 36), .lit (.int .u8 45), .lit (.int .u8 43), .lit (.int .u8 51), .lit (.int .u8 22), .lit (.int .u8 53), .lit (.int .u8 39), .lit (.int .u8 33), .lit (.int .u8 30), .lit (.int .u8 24), .lit (.int .u8 18), .lit (.int .u8 12), .lit (.int .u8 5), .lit (.int .u8 63), .lit (.int .u8 55), .lit (.int .u8 48), .lit (.int .u8 27), .lit (.int .u8 60), .lit (.int .u8 41), .lit (.int .u8 37), .lit (.int .u8 16), .lit (.int .u8 46), .lit (.int .u8 35), .lit (.int .u8 44), .lit (.int .u8 21), .lit (.int .u8 52), .lit (.int .u8 32), .lit (.int .u8 23), .lit (.int .u8 11), .lit (.int .u8 54), .lit (.int .u8 26), .lit (.int .u8 40), .lit (.int .u8 15), .lit (.int .u8 34), .lit (.int .u8 20), .lit (.int .u8 31), .lit (.int .u8 10), .lit (.int .u8 25), .lit (.int .u8 14), .lit (.int .u8 19), .lit (.int .u8 9), .lit (.int .u8 13), .lit (.int .u8 8), .lit (.int .u8 7), .lit (.int .u8 6)]
def laid_internal_strconv_uint64pow10 {H : Type} : DataW H := .agg [.lit (.int .u64 1), .lit (.int .u64 10), .lit (.int .u64 100), .lit (.int .u64 1000), .lit (.int .u64 10000), .lit (.int .u64 100000), .lit (.int .u64 1000000), .lit (.int .u64 10000000), .lit (.int .u64 100000000), .lit (.int .u64 1000000000), .lit (.int .u64 10000000000), .lit (.int .u64 100000000000), .lit (.int .u64 1000000000000), .lit (.int .u64 10000000000000), .lit (.int .u64 100000000000000), .lit (.int .u64 1000000000000000), .lit (.int .u64 10000000000000000), .lit (.int .u64 100000000000000000), .lit (.int .u64 1000000000000000000), .lit (.int .u64 10000000000000000000)]

/-- 'filigreelaw22.ItinNames': WHATEVER THE INPUT: true; the input reads as it did. -/
def itinNamesSpec : ChangeSpec := { name := "itinNames", fn := fun _ => fun
  | [] => { results := [.lit (.bool true)], args := [] }
  | _ => none }
def itinNamesRow : OpenClaim := { program := "ytbddlbhanpjdnaadoor", sum := "3dd596367ba1a4cc58ad75745b7be84e1a70c0aefc9b2fc7405d85db22b7c3c4", func := "filigree/filigreelaw22.ItinNames", spec := "itinNames", inPlace := ["internal/abi.NoEscape"], unfollowed := true, recurses := true, named := ["math/bits.divideError", "math/bits.overflowError", "internal/strconv.uint64pow10", "math/bits.deBruijn32tab", "math/bits.deBruijn64tab"], apart := false, laid := [("math/bits.deBruijn32tab", laid_math_bits_deBruijn32tab), ("math/bits.deBruijn64tab", laid_math_bits_deBruijn64tab), ("internal/strconv.uint64pow10", laid_internal_strconv_uint64pow10)] }
def ItinNamesSaid : Prop := itinNamesRow.holds Tryd.pinned (OpenSpec.ofChange itinNamesSpec)

/-- ITS FALSE NEIGHBOUR: 'it returns false'. Refute it at one input. -/
def itinNamesWrong : ChangeSpec := { name := "itinNames", fn := fun _ => fun
  | [] => { results := [.lit (.bool false)], args := [] }
  | _ => none }
def ItinNamesWrongFalsely : Prop := itinNamesRow.holds Tryd.pinned (OpenSpec.ofChange itinNamesWrong)

/-- 'filigreelaw22.ItinEnds': WHATEVER THE INPUT: true; the input reads as it did. -/
def itinEndsSpec : ChangeSpec := { name := "itinEnds", fn := fun _ => fun
  | [d1, d2] => { results := [.lit (.bool true)], args := [d1, d2] }
  | _ => none }
def itinEndsRow : OpenClaim := { program := "ytbddlbhanpjdnaadoor", sum := "3dd596367ba1a4cc58ad75745b7be84e1a70c0aefc9b2fc7405d85db22b7c3c4", func := "filigree/filigreelaw22.ItinEnds", spec := "itinEnds", inPlace := ["internal/abi.NoEscape"], unfollowed := true, recurses := true, named := ["math/bits.divideError", "math/bits.overflowError", "internal/strconv.uint64pow10", "math/bits.deBruijn32tab", "math/bits.deBruijn64tab"], apart := false, laid := [("math/bits.deBruijn32tab", laid_math_bits_deBruijn32tab), ("math/bits.deBruijn64tab", laid_math_bits_deBruijn64tab), ("internal/strconv.uint64pow10", laid_internal_strconv_uint64pow10)] }
def ItinEndsSaid : Prop := itinEndsRow.holds Tryd.pinned (OpenSpec.ofChange itinEndsSpec)

/-- ITS FALSE NEIGHBOUR: 'it returns false'. Refute it at one input. -/
def itinEndsWrong : ChangeSpec := { name := "itinEnds", fn := fun _ => fun
  | [d1, d2] => { results := [.lit (.bool false)], args := [d1, d2] }
  | _ => none }
def ItinEndsWrongFalsely : Prop := itinEndsRow.holds Tryd.pinned (OpenSpec.ofChange itinEndsWrong)

/-- 'filigreelaw22.ItinAddresses': WHATEVER THE INPUT: true; the input reads as it did. -/
def itinAddressesSpec : ChangeSpec := { name := "itinAddresses", fn := fun _ => fun
  | [d1, d2, d3] => { results := [.lit (.bool true)], args := [d1, d2, d3] }
  | _ => none }
def itinAddressesRow : OpenClaim := { program := "ytbddlbhanpjdnaadoor", sum := "3dd596367ba1a4cc58ad75745b7be84e1a70c0aefc9b2fc7405d85db22b7c3c4", func := "filigree/filigreelaw22.ItinAddresses", spec := "itinAddresses", inPlace := ["internal/abi.NoEscape"], unfollowed := true, recurses := true, named := ["math/bits.divideError", "math/bits.overflowError", "internal/strconv.uint64pow10", "math/bits.deBruijn32tab", "math/bits.deBruijn64tab"], apart := false, laid := [("math/bits.deBruijn32tab", laid_math_bits_deBruijn32tab), ("math/bits.deBruijn64tab", laid_math_bits_deBruijn64tab), ("internal/strconv.uint64pow10", laid_internal_strconv_uint64pow10)] }
def ItinAddressesSaid : Prop := itinAddressesRow.holds Tryd.pinned (OpenSpec.ofChange itinAddressesSpec)

/-- ITS FALSE NEIGHBOUR: 'it returns false'. Refute it at one input. -/
def itinAddressesWrong : ChangeSpec := { name := "itinAddresses", fn := fun _ => fun
  | [d1, d2, d3] => { results := [.lit (.bool false)], args := [d1, d2, d3] }
  | _ => none }
def ItinAddressesWrongFalsely : Prop := itinAddressesRow.holds Tryd.pinned (OpenSpec.ofChange itinAddressesWrong)

/-- 'filigreelaw22.ItinDiffers': WHATEVER THE INPUT: true; the input reads as it did. -/
def itinDiffersSpec : ChangeSpec := { name := "itinDiffers", fn := fun _ => fun
  | [d1, d2] => { results := [.lit (.bool true)], args := [d1, d2] }
  | _ => none }
def itinDiffersRow : OpenClaim := { program := "ytbddlbhanpjdnaadoor", sum := "3dd596367ba1a4cc58ad75745b7be84e1a70c0aefc9b2fc7405d85db22b7c3c4", func := "filigree/filigreelaw22.ItinDiffers", spec := "itinDiffers", inPlace := ["internal/abi.NoEscape"], unfollowed := true, recurses := true, named := ["math/bits.divideError", "math/bits.overflowError", "internal/strconv.uint64pow10", "math/bits.deBruijn32tab", "math/bits.deBruijn64tab"], apart := false, laid := [("math/bits.deBruijn32tab", laid_math_bits_deBruijn32tab), ("math/bits.deBruijn64tab", laid_math_bits_deBruijn64tab), ("internal/strconv.uint64pow10", laid_internal_strconv_uint64pow10)] }
def ItinDiffersSaid : Prop := itinDiffersRow.holds Tryd.pinned (OpenSpec.ofChange itinDiffersSpec)

/-- ITS FALSE NEIGHBOUR: 'it returns false'. Refute it at one input. -/
def itinDiffersWrong : ChangeSpec := { name := "itinDiffers", fn := fun _ => fun
  | [d1, d2] => { results := [.lit (.bool false)], args := [d1, d2] }
  | _ => none }
def ItinDiffersWrongFalsely : Prop := itinDiffersRow.holds Tryd.pinned (OpenSpec.ofChange itinDiffersWrong)

/-- 'filigreelaw22.ItinSame': WHATEVER THE INPUT: true; the input reads as it did. -/
def itinSameSpec : ChangeSpec := { name := "itinSame", fn := fun _ => fun
  | [d1, d2, d3, d4] => { results := [.lit (.bool true)], args := [d1, d2, d3, d4] }
  | _ => none }
def itinSameRow : OpenClaim := { program := "ytbddlbhanpjdnaadoor", sum := "3dd596367ba1a4cc58ad75745b7be84e1a70c0aefc9b2fc7405d85db22b7c3c4", func := "filigree/filigreelaw22.ItinSame", spec := "itinSame", inPlace := ["internal/abi.NoEscape"], unfollowed := true, recurses := true, named := ["math/bits.divideError", "math/bits.overflowError", "internal/strconv.uint64pow10", "math/bits.deBruijn32tab", "math/bits.deBruijn64tab"], apart := false, laid := [("math/bits.deBruijn32tab", laid_math_bits_deBruijn32tab), ("math/bits.deBruijn64tab", laid_math_bits_deBruijn64tab), ("internal/strconv.uint64pow10", laid_internal_strconv_uint64pow10)] }
def ItinSameSaid : Prop := itinSameRow.holds Tryd.pinned (OpenSpec.ofChange itinSameSpec)

/-- ITS FALSE NEIGHBOUR: 'it returns false'. Refute it at one input. -/
def itinSameWrong : ChangeSpec := { name := "itinSame", fn := fun _ => fun
  | [d1, d2, d3, d4] => { results := [.lit (.bool false)], args := [d1, d2, d3, d4] }
  | _ => none }
def ItinSameWrongFalsely : Prop := itinSameRow.holds Tryd.pinned (OpenSpec.ofChange itinSameWrong)

/-- 'filigreelaw22.ItinTurned': WHATEVER THE INPUT: true; the input reads as it did. -/
def itinTurnedSpec : ChangeSpec := { name := "itinTurned", fn := fun _ => fun
  | [d1, d2, d3] => { results := [.lit (.bool true)], args := [d1, d2, d3] }
  | _ => none }
def itinTurnedRow : OpenClaim := { program := "ytbddlbhanpjdnaadoor", sum := "3dd596367ba1a4cc58ad75745b7be84e1a70c0aefc9b2fc7405d85db22b7c3c4", func := "filigree/filigreelaw22.ItinTurned", spec := "itinTurned", inPlace := ["internal/abi.NoEscape"], unfollowed := true, recurses := true, named := ["math/bits.divideError", "math/bits.overflowError", "internal/strconv.uint64pow10", "math/bits.deBruijn32tab", "math/bits.deBruijn64tab"], apart := false, laid := [("math/bits.deBruijn32tab", laid_math_bits_deBruijn32tab), ("math/bits.deBruijn64tab", laid_math_bits_deBruijn64tab), ("internal/strconv.uint64pow10", laid_internal_strconv_uint64pow10)] }
def ItinTurnedSaid : Prop := itinTurnedRow.holds Tryd.pinned (OpenSpec.ofChange itinTurnedSpec)

/-- ITS FALSE NEIGHBOUR: 'it returns false'. Refute it at one input. -/
def itinTurnedWrong : ChangeSpec := { name := "itinTurned", fn := fun _ => fun
  | [d1, d2, d3] => { results := [.lit (.bool false)], args := [d1, d2, d3] }
  | _ => none }
def ItinTurnedWrongFalsely : Prop := itinTurnedRow.holds Tryd.pinned (OpenSpec.ofChange itinTurnedWrong)

/-- 'filigreelaw22.ItinBack': WHATEVER THE INPUT: true; the input reads as it did. -/
def itinBackSpec : ChangeSpec := { name := "itinBack", fn := fun _ => fun
  | [d1, d2] => { results := [.lit (.bool true)], args := [d1, d2] }
  | _ => none }
def itinBackRow : OpenClaim := { program := "ytbddlbhanpjdnaadoor", sum := "3dd596367ba1a4cc58ad75745b7be84e1a70c0aefc9b2fc7405d85db22b7c3c4", func := "filigree/filigreelaw22.ItinBack", spec := "itinBack", inPlace := ["internal/abi.NoEscape"], unfollowed := true, recurses := true, named := ["internal/strconv.uint64pow10", "math/bits.deBruijn32tab", "math/bits.deBruijn64tab", "math/bits.divideError", "math/bits.overflowError"], apart := false, laid := [("math/bits.deBruijn32tab", laid_math_bits_deBruijn32tab), ("math/bits.deBruijn64tab", laid_math_bits_deBruijn64tab), ("internal/strconv.uint64pow10", laid_internal_strconv_uint64pow10)] }
def ItinBackSaid : Prop := itinBackRow.holds Tryd.pinned (OpenSpec.ofChange itinBackSpec)

/-- ITS FALSE NEIGHBOUR: 'it returns false'. Refute it at one input. -/
def itinBackWrong : ChangeSpec := { name := "itinBack", fn := fun _ => fun
  | [d1, d2] => { results := [.lit (.bool false)], args := [d1, d2] }
  | _ => none }
def ItinBackWrongFalsely : Prop := itinBackRow.holds Tryd.pinned (OpenSpec.ofChange itinBackWrong)

/-- 'filigreelaw22.ItinLong': WHATEVER THE INPUT: true; the input reads as it did. -/
def itinLongSpec : ChangeSpec := { name := "itinLong", fn := fun _ => fun
  | [d] => { results := [.lit (.bool true)], args := [d] }
  | _ => none }
def itinLongRow : OpenClaim := { program := "ytbddlbhanpjdnaadoor", sum := "3dd596367ba1a4cc58ad75745b7be84e1a70c0aefc9b2fc7405d85db22b7c3c4", func := "filigree/filigreelaw22.ItinLong", spec := "itinLong", inPlace := ["internal/abi.NoEscape"], unfollowed := true, recurses := true, named := ["internal/strconv.uint64pow10", "math/bits.deBruijn32tab", "math/bits.deBruijn64tab", "math/bits.divideError", "math/bits.overflowError"], apart := false, laid := [("math/bits.deBruijn32tab", laid_math_bits_deBruijn32tab), ("math/bits.deBruijn64tab", laid_math_bits_deBruijn64tab), ("internal/strconv.uint64pow10", laid_internal_strconv_uint64pow10)] }
def ItinLongSaid : Prop := itinLongRow.holds Tryd.pinned (OpenSpec.ofChange itinLongSpec)

/-- ITS FALSE NEIGHBOUR: 'it returns false'. Refute it at one input. -/
def itinLongWrong : ChangeSpec := { name := "itinLong", fn := fun _ => fun
  | [d] => { results := [.lit (.bool false)], args := [d] }
  | _ => none }
def ItinLongWrongFalsely : Prop := itinLongRow.holds Tryd.pinned (OpenSpec.ofChange itinLongWrong)

/-- 'filigreelaw22.ItinParts': WHATEVER THE INPUT: true; the input reads as it did. -/
def itinPartsSpec : ChangeSpec := { name := "itinParts", fn := fun _ => fun
  | [d1, d2, d3, d4] => { results := [.lit (.bool true)], args := [d1, d2, d3, d4] }
  | _ => none }
def itinPartsRow : OpenClaim := { program := "ytbddlbhanpjdnaadoor", sum := "3dd596367ba1a4cc58ad75745b7be84e1a70c0aefc9b2fc7405d85db22b7c3c4", func := "filigree/filigreelaw22.ItinParts", spec := "itinParts", inPlace := ["internal/abi.NoEscape"], unfollowed := true, recurses := true, named := ["math/bits.divideError", "math/bits.overflowError", "internal/strconv.uint64pow10", "math/bits.deBruijn32tab", "math/bits.deBruijn64tab"], apart := false, laid := [("math/bits.deBruijn32tab", laid_math_bits_deBruijn32tab), ("math/bits.deBruijn64tab", laid_math_bits_deBruijn64tab), ("internal/strconv.uint64pow10", laid_internal_strconv_uint64pow10)] }
def ItinPartsSaid : Prop := itinPartsRow.holds Tryd.pinned (OpenSpec.ofChange itinPartsSpec)

/-- ITS FALSE NEIGHBOUR: 'it returns false'. Refute it at one input. -/
def itinPartsWrong : ChangeSpec := { name := "itinParts", fn := fun _ => fun
  | [d1, d2, d3, d4] => { results := [.lit (.bool false)], args := [d1, d2, d3, d4] }
  | _ => none }
def ItinPartsWrongFalsely : Prop := itinPartsRow.holds Tryd.pinned (OpenSpec.ofChange itinPartsWrong)

/- THE SECOND FORM. 'bulk': how many values and letters a reading holds, each counted each time it is reached (what is shared counts as often as it is met; a slice's spare places count too). A statement '..UptoSaid' is the law's where the arguments, and the package variables that the reading takes, are together of bulk at most 1048576: NARROWER than '..Said'. Prove '..Said' where nothing that the law and all that it calls make is longer than what came in: it says more and counts as full. Else prove '..UptoSaid'. A law counts once. -/
mutual
def uptoBulk {H : Type} : DataW H → Nat
  | .lit (.string bytes) => bytes.length + 1
  | .lit _ => 1
  | .nil => 1
  | .ptr d => uptoBulk d + 1
  | .slice elems spare => uptoBulkAll elems + uptoBulkAll spare + 1
  | .agg parts => uptoBulkAll parts + 1
  | .iface _ d => uptoBulk d + 1
  | .map entries => uptoBulkEntries entries + 1
  | .held _ => 1
def uptoBulkAll {H : Type} : List (DataW H) → Nat
  | [] => 0
  | d :: r => uptoBulk d + uptoBulkAll r
def uptoBulkEntries {H : Type} : List (Lit × DataW H) → Nat
  | [] => 0
  | x :: r => uptoBulkEntry x + uptoBulkEntries r
def uptoBulkEntry {H : Type} : Lit × DataW H → Nat
  | (.string bytes, d) => bytes.length + uptoBulk d + 1
  | (_, d) => uptoBulk d + 1
 end
def uptoSmall : (H : Type) → List (DataW H) → Bool := fun _ ds => decide (uptoBulkAll ds ≤ 1048576)
def OpenSpec.upto (s : _root_.Go.ChangeSpec) : _root_.Go.OpenSpec := { _root_.Go.OpenSpec.ofChange s with cond := some uptoSmall }

/-- 'filigreelaw22.ItinNames', WHERE WHAT IT READS IS OF BULK AT MOST 1048576: true; the input reads as it did. -/
def itinNamesUptoRow : OpenClaim := { program := "ytbddlbhanpjdnaadoor", sum := "3dd596367ba1a4cc58ad75745b7be84e1a70c0aefc9b2fc7405d85db22b7c3c4", func := "filigree/filigreelaw22.ItinNames", spec := "itinNames", inPlace := ["internal/abi.NoEscape"], unfollowed := true, recurses := true, named := ["math/bits.divideError", "math/bits.overflowError", "internal/strconv.uint64pow10", "math/bits.deBruijn32tab", "math/bits.deBruijn64tab"], apart := false, laid := [("math/bits.deBruijn32tab", laid_math_bits_deBruijn32tab), ("math/bits.deBruijn64tab", laid_math_bits_deBruijn64tab), ("internal/strconv.uint64pow10", laid_internal_strconv_uint64pow10)], narrowed := true }
def ItinNamesUptoSaid : Prop := itinNamesUptoRow.holds Tryd.pinned (OpenSpec.upto itinNamesSpec)

/-- 'filigreelaw22.ItinEnds', WHERE WHAT IT READS IS OF BULK AT MOST 1048576: true; the input reads as it did. -/
def itinEndsUptoRow : OpenClaim := { program := "ytbddlbhanpjdnaadoor", sum := "3dd596367ba1a4cc58ad75745b7be84e1a70c0aefc9b2fc7405d85db22b7c3c4", func := "filigree/filigreelaw22.ItinEnds", spec := "itinEnds", inPlace := ["internal/abi.NoEscape"], unfollowed := true, recurses := true, named := ["math/bits.divideError", "math/bits.overflowError", "internal/strconv.uint64pow10", "math/bits.deBruijn32tab", "math/bits.deBruijn64tab"], apart := false, laid := [("math/bits.deBruijn32tab", laid_math_bits_deBruijn32tab), ("math/bits.deBruijn64tab", laid_math_bits_deBruijn64tab), ("internal/strconv.uint64pow10", laid_internal_strconv_uint64pow10)], narrowed := true }
def ItinEndsUptoSaid : Prop := itinEndsUptoRow.holds Tryd.pinned (OpenSpec.upto itinEndsSpec)

/-- 'filigreelaw22.ItinAddresses', WHERE WHAT IT READS IS OF BULK AT MOST 1048576: true; the input reads as it did. -/
def itinAddressesUptoRow : OpenClaim := { program := "ytbddlbhanpjdnaadoor", sum := "3dd596367ba1a4cc58ad75745b7be84e1a70c0aefc9b2fc7405d85db22b7c3c4", func := "filigree/filigreelaw22.ItinAddresses", spec := "itinAddresses", inPlace := ["internal/abi.NoEscape"], unfollowed := true, recurses := true, named := ["math/bits.divideError", "math/bits.overflowError", "internal/strconv.uint64pow10", "math/bits.deBruijn32tab", "math/bits.deBruijn64tab"], apart := false, laid := [("math/bits.deBruijn32tab", laid_math_bits_deBruijn32tab), ("math/bits.deBruijn64tab", laid_math_bits_deBruijn64tab), ("internal/strconv.uint64pow10", laid_internal_strconv_uint64pow10)], narrowed := true }
def ItinAddressesUptoSaid : Prop := itinAddressesUptoRow.holds Tryd.pinned (OpenSpec.upto itinAddressesSpec)

/-- 'filigreelaw22.ItinDiffers', WHERE WHAT IT READS IS OF BULK AT MOST 1048576: true; the input reads as it did. -/
def itinDiffersUptoRow : OpenClaim := { program := "ytbddlbhanpjdnaadoor", sum := "3dd596367ba1a4cc58ad75745b7be84e1a70c0aefc9b2fc7405d85db22b7c3c4", func := "filigree/filigreelaw22.ItinDiffers", spec := "itinDiffers", inPlace := ["internal/abi.NoEscape"], unfollowed := true, recurses := true, named := ["math/bits.divideError", "math/bits.overflowError", "internal/strconv.uint64pow10", "math/bits.deBruijn32tab", "math/bits.deBruijn64tab"], apart := false, laid := [("math/bits.deBruijn32tab", laid_math_bits_deBruijn32tab), ("math/bits.deBruijn64tab", laid_math_bits_deBruijn64tab), ("internal/strconv.uint64pow10", laid_internal_strconv_uint64pow10)], narrowed := true }
def ItinDiffersUptoSaid : Prop := itinDiffersUptoRow.holds Tryd.pinned (OpenSpec.upto itinDiffersSpec)

/-- 'filigreelaw22.ItinSame', WHERE WHAT IT READS IS OF BULK AT MOST 1048576: true; the input reads as it did. -/
def itinSameUptoRow : OpenClaim := { program := "ytbddlbhanpjdnaadoor", sum := "3dd596367ba1a4cc58ad75745b7be84e1a70c0aefc9b2fc7405d85db22b7c3c4", func := "filigree/filigreelaw22.ItinSame", spec := "itinSame", inPlace := ["internal/abi.NoEscape"], unfollowed := true, recurses := true, named := ["math/bits.divideError", "math/bits.overflowError", "internal/strconv.uint64pow10", "math/bits.deBruijn32tab", "math/bits.deBruijn64tab"], apart := false, laid := [("math/bits.deBruijn32tab", laid_math_bits_deBruijn32tab), ("math/bits.deBruijn64tab", laid_math_bits_deBruijn64tab), ("internal/strconv.uint64pow10", laid_internal_strconv_uint64pow10)], narrowed := true }
def ItinSameUptoSaid : Prop := itinSameUptoRow.holds Tryd.pinned (OpenSpec.upto itinSameSpec)

/-- 'filigreelaw22.ItinTurned', WHERE WHAT IT READS IS OF BULK AT MOST 1048576: true; the input reads as it did. -/
def itinTurnedUptoRow : OpenClaim := { program := "ytbddlbhanpjdnaadoor", sum := "3dd596367ba1a4cc58ad75745b7be84e1a70c0aefc9b2fc7405d85db22b7c3c4", func := "filigree/filigreelaw22.ItinTurned", spec := "itinTurned", inPlace := ["internal/abi.NoEscape"], unfollowed := true, recurses := true, named := ["math/bits.divideError", "math/bits.overflowError", "internal/strconv.uint64pow10", "math/bits.deBruijn32tab", "math/bits.deBruijn64tab"], apart := false, laid := [("math/bits.deBruijn32tab", laid_math_bits_deBruijn32tab), ("math/bits.deBruijn64tab", laid_math_bits_deBruijn64tab), ("internal/strconv.uint64pow10", laid_internal_strconv_uint64pow10)], narrowed := true }
def ItinTurnedUptoSaid : Prop := itinTurnedUptoRow.holds Tryd.pinned (OpenSpec.upto itinTurnedSpec)

/-- 'filigreelaw22.ItinBack', WHERE WHAT IT READS IS OF BULK AT MOST 1048576: true; the input reads as it did. -/
def itinBackUptoRow : OpenClaim := { program := "ytbddlbhanpjdnaadoor", sum := "3dd596367ba1a4cc58ad75745b7be84e1a70c0aefc9b2fc7405d85db22b7c3c4", func := "filigree/filigreelaw22.ItinBack", spec := "itinBack", inPlace := ["internal/abi.NoEscape"], unfollowed := true, recurses := true, named := ["internal/strconv.uint64pow10", "math/bits.deBruijn32tab", "math/bits.deBruijn64tab", "math/bits.divideError", "math/bits.overflowError"], apart := false, laid := [("math/bits.deBruijn32tab", laid_math_bits_deBruijn32tab), ("math/bits.deBruijn64tab", laid_math_bits_deBruijn64tab), ("internal/strconv.uint64pow10", laid_internal_strconv_uint64pow10)], narrowed := true }
def ItinBackUptoSaid : Prop := itinBackUptoRow.holds Tryd.pinned (OpenSpec.upto itinBackSpec)

/-- 'filigreelaw22.ItinLong', WHERE WHAT IT READS IS OF BULK AT MOST 1048576: true; the input reads as it did. -/
def itinLongUptoRow : OpenClaim := { program := "ytbddlbhanpjdnaadoor", sum := "3dd596367ba1a4cc58ad75745b7be84e1a70c0aefc9b2fc7405d85db22b7c3c4", func := "filigree/filigreelaw22.ItinLong", spec := "itinLong", inPlace := ["internal/abi.NoEscape"], unfollowed := true, recurses := true, named := ["internal/strconv.uint64pow10", "math/bits.deBruijn32tab", "math/bits.deBruijn64tab", "math/bits.divideError", "math/bits.overflowError"], apart := false, laid := [("math/bits.deBruijn32tab", laid_math_bits_deBruijn32tab), ("math/bits.deBruijn64tab", laid_math_bits_deBruijn64tab), ("internal/strconv.uint64pow10", laid_internal_strconv_uint64pow10)], narrowed := true }
def ItinLongUptoSaid : Prop := itinLongUptoRow.holds Tryd.pinned (OpenSpec.upto itinLongSpec)

/-- 'filigreelaw22.ItinParts', WHERE WHAT IT READS IS OF BULK AT MOST 1048576: true; the input reads as it did. -/
def itinPartsUptoRow : OpenClaim := { program := "ytbddlbhanpjdnaadoor", sum := "3dd596367ba1a4cc58ad75745b7be84e1a70c0aefc9b2fc7405d85db22b7c3c4", func := "filigree/filigreelaw22.ItinParts", spec := "itinParts", inPlace := ["internal/abi.NoEscape"], unfollowed := true, recurses := true, named := ["math/bits.divideError", "math/bits.overflowError", "internal/strconv.uint64pow10", "math/bits.deBruijn32tab", "math/bits.deBruijn64tab"], apart := false, laid := [("math/bits.deBruijn32tab", laid_math_bits_deBruijn32tab), ("math/bits.deBruijn64tab", laid_math_bits_deBruijn64tab), ("internal/strconv.uint64pow10", laid_internal_strconv_uint64pow10)], narrowed := true }
def ItinPartsUptoSaid : Prop := itinPartsUptoRow.holds Tryd.pinned (OpenSpec.upto itinPartsSpec)

end Rows
end Go.Proofs.YtbddlbhanpjdnaaDoor
