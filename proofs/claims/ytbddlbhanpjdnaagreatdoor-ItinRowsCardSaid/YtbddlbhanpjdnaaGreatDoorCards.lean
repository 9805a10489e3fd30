/-
  DERIVED. GIVEN WITH THE SEED: THE CARDS: each row of YtbddlbhanpjdnaaGreatDoorRows.lean that lists a variable, with what it lists TIED to the program's text (the seventh form; the later family's looks); each row that meets fmt, with fmt's text TOLD by the authors' own Lean function (tested against real Go, not proved from fmt's source: count such statements apart). THE CARD IS WHAT COUNTS. Prove the row's statement (the work); the ties are given (YtbddlbhanpjdnaaGreatDoorTie.lean); close each card by the builder's one call (the guide's Derived/Test/ToyasCard.lean, 'card_holds'). Laid BY PROGRAM, IN A SANDBOX (cutbox-door.mjs). By AI agents, Wed Nov 11 2026. No macro, syntax, notation, axiom, sorry.
-/
import Derived.Test.YtbddlbhanpjdnaaGreatDoorRows
import GoSem.ClaimSeven
namespace Go.Proofs.YtbddlbhanpjdnaaGreatDoor
namespace Rows

/-- THE TIED CARD OF 'filigreelaw22.ItinOf'. -/
def itinOfCard : Claim7 := { stood := { row := itinOfRow, standIns := [], harness := (true, "8b302899e036bc24ef3e18b7b945b2a8874999ab0b2a129e70161fb26173b649"), looks := false }, kinds := [], alts := [], laidByText := true, laidKinds := [.data, .data, .data], laidTests := true, laidLooks := .later }
def ItinOfCardSaid : Prop := Claim7.holds Tryz.pinned (.plain (OpenSpec.ofChange itinOfSpec)) itinOfCard

/-- THE TIED CARD OF 'filigreelaw22.ItinRows'. -/
def itinRowsCard : Claim7 := { stood := { row := itinRowsRow, standIns := [], harness := (true, "8b302899e036bc24ef3e18b7b945b2a8874999ab0b2a129e70161fb26173b649"), looks := false }, kinds := [], alts := [], laidByText := true, laidKinds := [.data, .data, .data], laidTests := true, laidLooks := .later }
def ItinRowsCardSaid : Prop := Claim7.holds Tryz.pinned (.plain (OpenSpec.ofChange itinRowsSpec)) itinRowsCard

/-- THE TIED CARD OF 'filigreelaw22.ItinTexts'. -/
def itinTextsCard : Claim7 := { stood := { row := itinTextsRow, standIns := [], harness := (true, "8b302899e036bc24ef3e18b7b945b2a8874999ab0b2a129e70161fb26173b649"), looks := false }, kinds := [], alts := [], laidByText := true, laidKinds := [.data, .data, .data], laidTests := true, laidLooks := .later }
def ItinTextsCardSaid : Prop := Claim7.holds Tryz.pinned (.plain (OpenSpec.ofChange itinTextsSpec)) itinTextsCard

/-- THE SECOND FORM's CARD OF 'filigreelaw22.ItinOf'. -/
def itinOfUptoCard : Claim7 := { stood := { row := itinOfUptoRow, standIns := [], harness := (true, "8b302899e036bc24ef3e18b7b945b2a8874999ab0b2a129e70161fb26173b649"), looks := false }, kinds := [], alts := [], laidByText := true, laidKinds := [.data, .data, .data], laidTests := true, laidLooks := .later }
def ItinOfUptoCardSaid : Prop := Claim7.holds Tryz.pinned (.plain (OpenSpec.upto itinOfSpec)) itinOfUptoCard

/-- THE SECOND FORM's CARD OF 'filigreelaw22.ItinRows'. -/
def itinRowsUptoCard : Claim7 := { stood := { row := itinRowsUptoRow, standIns := [], harness := (true, "8b302899e036bc24ef3e18b7b945b2a8874999ab0b2a129e70161fb26173b649"), looks := false }, kinds := [], alts := [], laidByText := true, laidKinds := [.data, .data, .data], laidTests := true, laidLooks := .later }
def ItinRowsUptoCardSaid : Prop := Claim7.holds Tryz.pinned (.plain (OpenSpec.upto itinRowsSpec)) itinRowsUptoCard

/-- THE SECOND FORM's CARD OF 'filigreelaw22.ItinTexts'. -/
def itinTextsUptoCard : Claim7 := { stood := { row := itinTextsUptoRow, standIns := [], harness := (true, "8b302899e036bc24ef3e18b7b945b2a8874999ab0b2a129e70161fb26173b649"), looks := false }, kinds := [], alts := [], laidByText := true, laidKinds := [.data, .data, .data], laidTests := true, laidLooks := .later }
def ItinTextsUptoCardSaid : Prop := Claim7.holds Tryz.pinned (.plain (OpenSpec.upto itinTextsSpec)) itinTextsUptoCard
end Rows
end Go.Proofs.YtbddlbhanpjdnaaGreatDoor
