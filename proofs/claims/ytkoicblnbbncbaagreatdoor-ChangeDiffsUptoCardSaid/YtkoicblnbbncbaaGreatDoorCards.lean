/-
  DERIVED. GIVEN WITH THE SEED: THE CARDS: each row of YtkoicblnbbncbaaGreatDoorRows.lean that lists a variable, with what it lists TIED to the program's text (the seventh form; the later family's looks); each row that meets fmt, with fmt's text TOLD by the authors' own Lean function (tested against real Go, not proved from fmt's source: count such statements apart). THE CARD IS WHAT COUNTS. Prove the row's statement (the work); the ties are given (YtkoicblnbbncbaaGreatDoorTie.lean); close each card by the builder's one call (the guide's Derived/Test/ToyasCard.lean, 'card_holds'). Laid BY PROGRAM, IN A SANDBOX (cutbox-door.mjs). By AI agents, Wed Nov 11 2026. No macro, syntax, notation, axiom, sorry.
-/
import Derived.Test.YtkoicblnbbncbaaGreatDoorRows
import GoSem.ClaimSeven
namespace Go.Proofs.YtkoicblnbbncbaaGreatDoor
namespace Rows

/-- THE TIED CARD OF 'palinodelaw39.ChangeDiffs'. -/
def changeDiffsCard : Claim7 := { stood := { row := changeDiffsRow, standIns := [], harness := (true, "5b64c293673f7e3f06605adcb82aa640ad843338a8f23ffc601e9b3d05948bba"), looks := true }, kinds := [], alts := [], laidByText := true, laidKinds := [.data, .data, .data, .data, .pinned], laidTests := true, laidLooks := .later }
def ChangeDiffsCardSaid : Prop := Claim7.holds Tryz.pinned (.plain (OpenSpec.ofChange changeDiffsSpec)) changeDiffsCard

/-- THE SECOND FORM's CARD OF 'palinodelaw39.ChangeDiffs'. -/
def changeDiffsUptoCard : Claim7 := { stood := { row := changeDiffsUptoRow, standIns := [], harness := (true, "5b64c293673f7e3f06605adcb82aa640ad843338a8f23ffc601e9b3d05948bba"), looks := true }, kinds := [], alts := [], laidByText := true, laidKinds := [.data, .data, .data, .data, .pinned], laidTests := true, laidLooks := .later }
def ChangeDiffsUptoCardSaid : Prop := Claim7.holds Tryz.pinned (.plain (OpenSpec.upto changeDiffsSpec)) changeDiffsUptoCard
end Rows
end Go.Proofs.YtkoicblnbbncbaaGreatDoor
