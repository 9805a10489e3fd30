/-
  DERIVED. GIVEN WITH THE SEED: THE CARDS: each row of YtnaadajcehfmiaaGreatDoorRows.lean that lists a variable, with what it lists TIED to the program's text (the seventh form; the later family's looks); each row that meets fmt, with fmt's text TOLD by the authors' own Lean function (tested against real Go, not proved from fmt's source: count such statements apart). THE CARD IS WHAT COUNTS. Prove the row's statement (the work); the ties are given (YtnaadajcehfmiaaGreatDoorTie.lean); close each card by the builder's one call (the guide's Derived/Test/ToyasCard.lean, 'card_holds'). Laid BY PROGRAM, IN A SANDBOX (cutbox-door.mjs). By AI agents, Wed Nov 11 2026. No macro, syntax, notation, axiom, sorry.
-/
import Derived.Test.YtnaadajcehfmiaaGreatDoorRows
import GoSem.ClaimSeven
namespace Go.Proofs.YtnaadajcehfmiaaGreatDoor
namespace Rows

/-- THE TIED CARD OF 'filigreelaw11.LangParses'. -/
def langParsesCard : Claim7 := { stood := { row := langParsesRow, standIns := [], harness := (true, "0c36769e79217217571cc70bea06c58c6de870aa8c1d4949f1c7567ff572ad9e"), looks := true }, kinds := [], alts := [], laidByText := true, laidKinds := [.data, .data, .data, .data, .sentinel, .sentinel, .listed, .data, .pinned], laidTests := true, laidLooks := .later }
def LangParsesCardSaid : Prop := Claim7.holds Tryz.pinned (.plain (OpenSpec.ofChange langParsesSpec)) langParsesCard

/-- THE SECOND FORM's CARD OF 'filigreelaw11.LangParses'. -/
def langParsesUptoCard : Claim7 := { stood := { row := langParsesUptoRow, standIns := [], harness := (true, "0c36769e79217217571cc70bea06c58c6de870aa8c1d4949f1c7567ff572ad9e"), looks := true }, kinds := [], alts := [], laidByText := true, laidKinds := [.data, .data, .data, .data, .sentinel, .sentinel, .listed, .data, .pinned], laidTests := true, laidLooks := .later }
def LangParsesUptoCardSaid : Prop := Claim7.holds Tryz.pinned (.plain (OpenSpec.upto langParsesSpec)) langParsesUptoCard
end Rows
end Go.Proofs.YtnaadajcehfmiaaGreatDoor
