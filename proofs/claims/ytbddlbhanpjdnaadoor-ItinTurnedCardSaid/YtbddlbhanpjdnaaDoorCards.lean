/-
  DERIVED. GIVEN WITH THE SEED: THE CARDS: each row of YtbddlbhanpjdnaaDoorRows.lean that lists a variable, with what it lists TIED to the program's text (the seventh form; the later family's looks); each row that meets fmt, with fmt's text TOLD by the authors' own Lean function (tested against real Go, not proved from fmt's source: count such statements apart). THE CARD IS WHAT COUNTS. Prove the row's statement (the work); the ties are given (YtbddlbhanpjdnaaDoorTie.lean); close each card by the builder's one call (the guide's Derived/Test/ToyasCard.lean, 'card_holds'). Laid BY PROGRAM, IN A SANDBOX (cutbox-door.mjs). By AI agents, Wed Nov 11 2026. No macro, syntax, notation, axiom, sorry.
-/
import Derived.Test.YtbddlbhanpjdnaaDoorRows
import GoSem.ClaimSeven
namespace Go.Proofs.YtbddlbhanpjdnaaDoor
namespace Rows

/-- THE TIED CARD OF 'filigreelaw22.ItinNames'. -/
def itinNamesCard : Claim7 := { stood := { row := itinNamesRow, standIns := [], harness := (true, "33270660d2f422dca893f5e867b02b58c5cf3aeaf5345d38bb00ab09ae76e135"), looks := false }, kinds := [], alts := [], laidByText := true, laidKinds := [.data, .data, .data], laidTests := true, laidLooks := .later }
def ItinNamesCardSaid : Prop := Claim7.holds Tryd.pinned (.plain (OpenSpec.ofChange itinNamesSpec)) itinNamesCard

/-- THE TIED CARD OF 'filigreelaw22.ItinEnds'. -/
def itinEndsCard : Claim7 := { stood := { row := itinEndsRow, standIns := [], harness := (true, "33270660d2f422dca893f5e867b02b58c5cf3aeaf5345d38bb00ab09ae76e135"), looks := false }, kinds := [], alts := [], laidByText := true, laidKinds := [.data, .data, .data], laidTests := true, laidLooks := .later }
def ItinEndsCardSaid : Prop := Claim7.holds Tryd.pinned (.plain (OpenSpec.ofChange itinEndsSpec)) itinEndsCard

/-- THE TIED CARD OF 'filigreelaw22.ItinAddresses'. -/
def itinAddressesCard : Claim7 := { stood := { row := itinAddressesRow, standIns := [], harness := (true, "33270660d2f422dca893f5e867b02b58c5cf3aeaf5345d38bb00ab09ae76e135"), looks := false }, kinds := [], alts := [], laidByText := true, laidKinds := [.data, .data, .data], laidTests := true, laidLooks := .later }
def ItinAddressesCardSaid : Prop := Claim7.holds Tryd.pinned (.plain (OpenSpec.ofChange itinAddressesSpec)) itinAddressesCard

/-- THE TIED CARD OF 'filigreelaw22.ItinDiffers'. -/
def itinDiffersCard : Claim7 := { stood := { row := itinDiffersRow, standIns := [], harness := (true, "33270660d2f422dca893f5e867b02b58c5cf3aeaf5345d38bb00ab09ae76e135"), looks := false }, kinds := [], alts := [], laidByText := true, laidKinds := [.data, .data, .data], laidTests := true, laidLooks := .later }
def ItinDiffersCardSaid : Prop := Claim7.holds Tryd.pinned (.plain (OpenSpec.ofChange itinDiffersSpec)) itinDiffersCard

/-- THE TIED CARD OF 'filigreelaw22.ItinSame'. -/
def itinSameCard : Claim7 := { stood := { row := itinSameRow, standIns := [], harness := (true, "33270660d2f422dca893f5e867b02b58c5cf3aeaf5345d38bb00ab09ae76e135"), looks := false }, kinds := [], alts := [], laidByText := true, laidKinds := [.data, .data, .data], laidTests := true, laidLooks := .later }
def ItinSameCardSaid : Prop := Claim7.holds Tryd.pinned (.plain (OpenSpec.ofChange itinSameSpec)) itinSameCard

/-- THE TIED CARD OF 'filigreelaw22.ItinTurned'. -/
def itinTurnedCard : Claim7 := { stood := { row := itinTurnedRow, standIns := [], harness := (true, "33270660d2f422dca893f5e867b02b58c5cf3aeaf5345d38bb00ab09ae76e135"), looks := false }, kinds := [], alts := [], laidByText := true, laidKinds := [.data, .data, .data], laidTests := true, laidLooks := .later }
def ItinTurnedCardSaid : Prop := Claim7.holds Tryd.pinned (.plain (OpenSpec.ofChange itinTurnedSpec)) itinTurnedCard

/-- THE TIED CARD OF 'filigreelaw22.ItinBack'. -/
def itinBackCard : Claim7 := { stood := { row := itinBackRow, standIns := [], harness := (true, "33270660d2f422dca893f5e867b02b58c5cf3aeaf5345d38bb00ab09ae76e135"), looks := false }, kinds := [], alts := [], laidByText := true, laidKinds := [.data, .data, .data], laidTests := true, laidLooks := .later }
def ItinBackCardSaid : Prop := Claim7.holds Tryd.pinned (.plain (OpenSpec.ofChange itinBackSpec)) itinBackCard

/-- THE TIED CARD OF 'filigreelaw22.ItinLong'. -/
def itinLongCard : Claim7 := { stood := { row := itinLongRow, standIns := [], harness := (true, "33270660d2f422dca893f5e867b02b58c5cf3aeaf5345d38bb00ab09ae76e135"), looks := false }, kinds := [], alts := [], laidByText := true, laidKinds := [.data, .data, .data], laidTests := true, laidLooks := .later }
def ItinLongCardSaid : Prop := Claim7.holds Tryd.pinned (.plain (OpenSpec.ofChange itinLongSpec)) itinLongCard

/-- THE TIED CARD OF 'filigreelaw22.ItinParts'. -/
def itinPartsCard : Claim7 := { stood := { row := itinPartsRow, standIns := [], harness := (true, "33270660d2f422dca893f5e867b02b58c5cf3aeaf5345d38bb00ab09ae76e135"), looks := false }, kinds := [], alts := [], laidByText := true, laidKinds := [.data, .data, .data], laidTests := true, laidLooks := .later }
def ItinPartsCardSaid : Prop := Claim7.holds Tryd.pinned (.plain (OpenSpec.ofChange itinPartsSpec)) itinPartsCard

/-- THE SECOND FORM's CARD OF 'filigreelaw22.ItinNames'. -/
def itinNamesUptoCard : Claim7 := { stood := { row := itinNamesUptoRow, standIns := [], harness := (true, "33270660d2f422dca893f5e867b02b58c5cf3aeaf5345d38bb00ab09ae76e135"), looks := false }, kinds := [], alts := [], laidByText := true, laidKinds := [.data, .data, .data], laidTests := true, laidLooks := .later }
def ItinNamesUptoCardSaid : Prop := Claim7.holds Tryd.pinned (.plain (OpenSpec.upto itinNamesSpec)) itinNamesUptoCard

/-- THE SECOND FORM's CARD OF 'filigreelaw22.ItinEnds'. -/
def itinEndsUptoCard : Claim7 := { stood := { row := itinEndsUptoRow, standIns := [], harness := (true, "33270660d2f422dca893f5e867b02b58c5cf3aeaf5345d38bb00ab09ae76e135"), looks := false }, kinds := [], alts := [], laidByText := true, laidKinds := [.data, .data, .data], laidTests := true, laidLooks := .later }
def ItinEndsUptoCardSaid : Prop := Claim7.holds Tryd.pinned (.plain (OpenSpec.upto itinEndsSpec)) itinEndsUptoCard

/-- THE SECOND FORM's CARD OF 'filigreelaw22.ItinAddresses'. -/
def itinAddressesUptoCard : Claim7 := { stood := { row := itinAddressesUptoRow, standIns := [], harness := (true, "33270660d2f422dca893f5e867b02b58c5cf3aeaf5345d38bb00ab09ae76e135"), looks := false }, kinds := [], alts := [], laidByText := true, laidKinds := [.data, .data, .data], laidTests := true, laidLooks := .later }
def ItinAddressesUptoCardSaid : Prop := Claim7.holds Tryd.pinned (.plain (OpenSpec.upto itinAddressesSpec)) itinAddressesUptoCard

/-- THE SECOND FORM's CARD OF 'filigreelaw22.ItinDiffers'. -/
def itinDiffersUptoCard : Claim7 := { stood := { row := itinDiffersUptoRow, standIns := [], harness := (true, "33270660d2f422dca893f5e867b02b58c5cf3aeaf5345d38bb00ab09ae76e135"), looks := false }, kinds := [], alts := [], laidByText := true, laidKinds := [.data, .data, .data], laidTests := true, laidLooks := .later }
def ItinDiffersUptoCardSaid : Prop := Claim7.holds Tryd.pinned (.plain (OpenSpec.upto itinDiffersSpec)) itinDiffersUptoCard

/-- THE SECOND FORM's CARD OF 'filigreelaw22.ItinSame'. -/
def itinSameUptoCard : Claim7 := { stood := { row := itinSameUptoRow, standIns := [], harness := (true, "33270660d2f422dca893f5e867b02b58c5cf3aeaf5345d38bb00ab09ae76e135"), looks := false }, kinds := [], alts := [], laidByText := true, laidKinds := [.data, .data, .data], laidTests := true, laidLooks := .later }
def ItinSameUptoCardSaid : Prop := Claim7.holds Tryd.pinned (.plain (OpenSpec.upto itinSameSpec)) itinSameUptoCard

/-- THE SECOND FORM's CARD OF 'filigreelaw22.ItinTurned'. -/
def itinTurnedUptoCard : Claim7 := { stood := { row := itinTurnedUptoRow, standIns := [], harness := (true, "33270660d2f422dca893f5e867b02b58c5cf3aeaf5345d38bb00ab09ae76e135"), looks := false }, kinds := [], alts := [], laidByText := true, laidKinds := [.data, .data, .data], laidTests := true, laidLooks := .later }
def ItinTurnedUptoCardSaid : Prop := Claim7.holds Tryd.pinned (.plain (OpenSpec.upto itinTurnedSpec)) itinTurnedUptoCard

/-- THE SECOND FORM's CARD OF 'filigreelaw22.ItinBack'. -/
def itinBackUptoCard : Claim7 := { stood := { row := itinBackUptoRow, standIns := [], harness := (true, "33270660d2f422dca893f5e867b02b58c5cf3aeaf5345d38bb00ab09ae76e135"), looks := false }, kinds := [], alts := [], laidByText := true, laidKinds := [.data, .data, .data], laidTests := true, laidLooks := .later }
def ItinBackUptoCardSaid : Prop := Claim7.holds Tryd.pinned (.plain (OpenSpec.upto itinBackSpec)) itinBackUptoCard

/-- THE SECOND FORM's CARD OF 'filigreelaw22.ItinLong'. -/
def itinLongUptoCard : Claim7 := { stood := { row := itinLongUptoRow, standIns := [], harness := (true, "33270660d2f422dca893f5e867b02b58c5cf3aeaf5345d38bb00ab09ae76e135"), looks := false }, kinds := [], alts := [], laidByText := true, laidKinds := [.data, .data, .data], laidTests := true, laidLooks := .later }
def ItinLongUptoCardSaid : Prop := Claim7.holds Tryd.pinned (.plain (OpenSpec.upto itinLongSpec)) itinLongUptoCard

/-- THE SECOND FORM's CARD OF 'filigreelaw22.ItinParts'. -/
def itinPartsUptoCard : Claim7 := { stood := { row := itinPartsUptoRow, standIns := [], harness := (true, "33270660d2f422dca893f5e867b02b58c5cf3aeaf5345d38bb00ab09ae76e135"), looks := false }, kinds := [], alts := [], laidByText := true, laidKinds := [.data, .data, .data], laidTests := true, laidLooks := .later }
def ItinPartsUptoCardSaid : Prop := Claim7.holds Tryd.pinned (.plain (OpenSpec.upto itinPartsSpec)) itinPartsUptoCard
end Rows
end Go.Proofs.YtbddlbhanpjdnaaDoor
