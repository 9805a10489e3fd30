/-
  DERIVED. GIVEN WITH THE SEED: THE CARDS: each row of YtnaadajcehfmiaaDoorRows.lean that lists a variable, with what it lists TIED to the program's text (the seventh form; the later family's looks); each row that meets fmt, with fmt's text TOLD by the authors' own Lean function (tested against real Go, not proved from fmt's source: count such statements apart). THE CARD IS WHAT COUNTS. Prove the row's statement (the work); the ties are given (YtnaadajcehfmiaaDoorTie.lean); close each card by the builder's one call (the guide's Derived/Test/ToyasCard.lean, 'card_holds'). Laid BY PROGRAM, IN A SANDBOX (cutbox-door.mjs). By AI agents, Wed Nov 11 2026. No macro, syntax, notation, axiom, sorry.
-/
import Derived.Test.YtnaadajcehfmiaaDoorRows
import GoSem.ClaimSeven
namespace Go.Proofs.YtnaadajcehfmiaaDoor
namespace Rows

/-- THE TIED CARD OF 'filigreelaw11.LangBack'. -/
def langBackCard : Claim7 := { stood := { row := langBackRow, standIns := [], harness := (true, "fb774b59a8eaa1748be92f05d9c89b4587515f61bde515a6115f0a8889ab1b9e"), looks := true }, kinds := [], alts := [], laidByText := true, laidKinds := [.data, .data, .data, .data, .sentinel, .sentinel, .listed, .data, .pinned], laidTests := true, laidLooks := .later }
def LangBackCardSaid : Prop := Claim7.holds Tryd.pinned (.plain (OpenSpec.ofChange langBackSpec)) langBackCard

/-- THE TIED CARD OF 'filigreelaw11.LangFront'. -/
def langFrontCard : Claim7 := { stood := { row := langFrontRow, standIns := [], harness := (true, "fb774b59a8eaa1748be92f05d9c89b4587515f61bde515a6115f0a8889ab1b9e"), looks := true }, kinds := [], alts := [], laidByText := true, laidKinds := [.data, .data, .data, .data, .sentinel, .sentinel, .listed, .data, .pinned], laidTests := true, laidLooks := .later }
def LangFrontCardSaid : Prop := Claim7.holds Tryd.pinned (.plain (OpenSpec.ofChange langFrontSpec)) langFrontCard

/-- THE SECOND FORM's CARD OF 'filigreelaw11.LangBack'. -/
def langBackUptoCard : Claim7 := { stood := { row := langBackUptoRow, standIns := [], harness := (true, "fb774b59a8eaa1748be92f05d9c89b4587515f61bde515a6115f0a8889ab1b9e"), looks := true }, kinds := [], alts := [], laidByText := true, laidKinds := [.data, .data, .data, .data, .sentinel, .sentinel, .listed, .data, .pinned], laidTests := true, laidLooks := .later }
def LangBackUptoCardSaid : Prop := Claim7.holds Tryd.pinned (.plain (OpenSpec.upto langBackSpec)) langBackUptoCard

/-- THE SECOND FORM's CARD OF 'filigreelaw11.LangFront'. -/
def langFrontUptoCard : Claim7 := { stood := { row := langFrontUptoRow, standIns := [], harness := (true, "fb774b59a8eaa1748be92f05d9c89b4587515f61bde515a6115f0a8889ab1b9e"), looks := true }, kinds := [], alts := [], laidByText := true, laidKinds := [.data, .data, .data, .data, .sentinel, .sentinel, .listed, .data, .pinned], laidTests := true, laidLooks := .later }
def LangFrontUptoCardSaid : Prop := Claim7.holds Tryd.pinned (.plain (OpenSpec.upto langFrontSpec)) langFrontUptoCard
end Rows
end Go.Proofs.YtnaadajcehfmiaaDoor
