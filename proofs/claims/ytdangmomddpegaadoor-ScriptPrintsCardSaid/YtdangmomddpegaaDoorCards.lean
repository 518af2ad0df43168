/-
  DERIVED. GIVEN WITH THE SEED: THE CARDS: each row of YtdangmomddpegaaDoorRows.lean that lists a variable, with what it lists TIED to the program's text (the seventh form; the later family's looks); each row that meets fmt, with fmt's text TOLD by the authors' own Lean function (tested against real Go, not proved from fmt's source: count such statements apart). THE CARD IS WHAT COUNTS. Prove the row's statement (the work); the ties are given (YtdangmomddpegaaDoorTie.lean); close each card by the builder's one call (the guide's Derived/Test/ToyasCard.lean, 'card_holds'). Laid BY PROGRAM, IN A SANDBOX (cutbox-door.mjs). By AI agents, Wed Nov 11 2026. No macro, syntax, notation, axiom, sorry.
-/
import Derived.Test.YtdangmomddpegaaDoorRows
import GoSem.ClaimSeven
namespace Go.Proofs.YtdangmomddpegaaDoor
namespace Rows

/-- THE TIED CARD OF 'gemotlaw27.ScriptPrints'. -/
def scriptPrintsCard : Claim7 := { stood := { row := scriptPrintsRow, standIns := [], harness := (true, "216f007a70444538582a332a930cf64bfc7a1f90d4f9ff3b8525ae38727075b0"), looks := false }, kinds := [], alts := [], laidByText := true, laidKinds := [.data, .data, .data], laidTests := true, laidLooks := .later }
def ScriptPrintsCardSaid : Prop := Claim7.holds Tryd.pinned (.plain (OpenSpec.ofChange scriptPrintsSpec)) scriptPrintsCard

/-- THE TIED CARD OF 'gemotlaw27.ScriptSames'. -/
def scriptSamesCard : Claim7 := { stood := { row := scriptSamesRow, standIns := [], harness := (true, "216f007a70444538582a332a930cf64bfc7a1f90d4f9ff3b8525ae38727075b0"), looks := false }, kinds := [], alts := [], laidByText := true, laidKinds := [.data, .data, .data], laidTests := true, laidLooks := .later }
def ScriptSamesCardSaid : Prop := Claim7.holds Tryd.pinned (.plain (OpenSpec.ofChange scriptSamesSpec)) scriptSamesCard

/-- THE SECOND FORM's CARD OF 'gemotlaw27.ScriptPrints'. -/
def scriptPrintsUptoCard : Claim7 := { stood := { row := scriptPrintsUptoRow, standIns := [], harness := (true, "216f007a70444538582a332a930cf64bfc7a1f90d4f9ff3b8525ae38727075b0"), looks := false }, kinds := [], alts := [], laidByText := true, laidKinds := [.data, .data, .data], laidTests := true, laidLooks := .later }
def ScriptPrintsUptoCardSaid : Prop := Claim7.holds Tryd.pinned (.plain (OpenSpec.upto scriptPrintsSpec)) scriptPrintsUptoCard

/-- THE SECOND FORM's CARD OF 'gemotlaw27.ScriptSames'. -/
def scriptSamesUptoCard : Claim7 := { stood := { row := scriptSamesUptoRow, standIns := [], harness := (true, "216f007a70444538582a332a930cf64bfc7a1f90d4f9ff3b8525ae38727075b0"), looks := false }, kinds := [], alts := [], laidByText := true, laidKinds := [.data, .data, .data], laidTests := true, laidLooks := .later }
def ScriptSamesUptoCardSaid : Prop := Claim7.holds Tryd.pinned (.plain (OpenSpec.upto scriptSamesSpec)) scriptSamesUptoCard
end Rows
end Go.Proofs.YtdangmomddpegaaDoor
