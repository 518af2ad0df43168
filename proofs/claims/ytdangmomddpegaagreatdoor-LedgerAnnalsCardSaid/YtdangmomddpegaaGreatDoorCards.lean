/-
  DERIVED. GIVEN WITH THE SEED: THE CARDS: each row of YtdangmomddpegaaGreatDoorRows.lean that lists a variable, with what it lists TIED to the program's text (the seventh form; the later family's looks); each row that meets fmt, with fmt's text TOLD by the authors' own Lean function (tested against real Go, not proved from fmt's source: count such statements apart). THE CARD IS WHAT COUNTS. Prove the row's statement (the work); the ties are given (YtdangmomddpegaaGreatDoorTie.lean); close each card by the builder's one call (the guide's Derived/Test/ToyasCard.lean, 'card_holds'). Laid BY PROGRAM, IN A SANDBOX (cutbox-door.mjs). By AI agents, Wed Nov 11 2026. No macro, syntax, notation, axiom, sorry.
-/
import Derived.Test.YtdangmomddpegaaGreatDoorRows
import GoSem.ClaimSeven
namespace Go.Proofs.YtdangmomddpegaaGreatDoor
namespace Rows

/-- THE TIED CARD OF 'gemotlaw28.LedgerAnnals'. -/
def ledgerAnnalsCard : Claim7 := { stood := { row := ledgerAnnalsRow, standIns := [], harness := (true, "ab93cfcf0ec9c498c8ed8730957e23e1c140db376d7662840676a3b590a4afa3"), looks := false }, kinds := [], alts := [], laidByText := true, laidKinds := [.data, .data, .data], laidTests := true, laidLooks := .later }
def LedgerAnnalsCardSaid : Prop := Claim7.holds Tryz.pinned (.plain (OpenSpec.ofChange ledgerAnnalsSpec)) ledgerAnnalsCard

/-- THE SECOND FORM's CARD OF 'gemotlaw28.LedgerAnnals'. -/
def ledgerAnnalsUptoCard : Claim7 := { stood := { row := ledgerAnnalsUptoRow, standIns := [], harness := (true, "ab93cfcf0ec9c498c8ed8730957e23e1c140db376d7662840676a3b590a4afa3"), looks := false }, kinds := [], alts := [], laidByText := true, laidKinds := [.data, .data, .data], laidTests := true, laidLooks := .later }
def LedgerAnnalsUptoCardSaid : Prop := Claim7.holds Tryz.pinned (.plain (OpenSpec.upto ledgerAnnalsSpec)) ledgerAnnalsUptoCard
end Rows
end Go.Proofs.YtdangmomddpegaaGreatDoor
