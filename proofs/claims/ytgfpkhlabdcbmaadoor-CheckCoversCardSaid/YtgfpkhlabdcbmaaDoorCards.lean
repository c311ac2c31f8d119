/-
  DERIVED. GIVEN WITH THE SEED: THE CARDS: each row of YtgfpkhlabdcbmaaDoorRows.lean that lists a variable, with what it lists TIED to the program's text (the seventh form; the later family's looks); each row that meets fmt, with fmt's text TOLD by the authors' own Lean function (tested against real Go, not proved from fmt's source: count such statements apart). THE CARD IS WHAT COUNTS. Prove the row's statement (the work); the ties are given (YtgfpkhlabdcbmaaDoorTie.lean); close each card by the builder's one call (the guide's Derived/Test/ToyasCard.lean, 'card_holds'). Laid BY PROGRAM, IN A SANDBOX (cutbox-door.mjs). By AI agents, Wed Nov 11 2026. No macro, syntax, notation, axiom, sorry.
-/
import Derived.Test.YtgfpkhlabdcbmaaDoorRows
import GoSem.ClaimSeven
namespace Go.Proofs.YtgfpkhlabdcbmaaDoor
namespace Rows

/-- THE TIED CARD OF 'palinodelaw19.CheckCovers'. -/
def checkCoversCard : Claim7 := { stood := { row := checkCoversRow, standIns := [], harness := (true, "6d13b8bff3416ba8a36791f6741027d8af6ad9b26b9f214ea808f02139f8f233"), looks := false }, kinds := [], alts := [], laidByText := true, laidKinds := [.data, .pinned], laidTests := true, laidLooks := .later }
def CheckCoversCardSaid : Prop := Claim7.holds Tryd.pinned (.plain (OpenSpec.ofChange checkCoversSpec)) checkCoversCard

/-- THE SECOND FORM's CARD OF 'palinodelaw19.CheckCovers'. -/
def checkCoversUptoCard : Claim7 := { stood := { row := checkCoversUptoRow, standIns := [], harness := (true, "6d13b8bff3416ba8a36791f6741027d8af6ad9b26b9f214ea808f02139f8f233"), looks := false }, kinds := [], alts := [], laidByText := true, laidKinds := [.data, .pinned], laidTests := true, laidLooks := .later }
def CheckCoversUptoCardSaid : Prop := Claim7.holds Tryd.pinned (.plain (OpenSpec.upto checkCoversSpec)) checkCoversUptoCard
end Rows
end Go.Proofs.YtgfpkhlabdcbmaaDoor
