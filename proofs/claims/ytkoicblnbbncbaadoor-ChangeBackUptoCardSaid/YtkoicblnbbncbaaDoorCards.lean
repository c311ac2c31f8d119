/-
  DERIVED. GIVEN WITH THE SEED: THE CARDS: each row of YtkoicblnbbncbaaDoorRows.lean that lists a variable, with what it lists TIED to the program's text (the seventh form; the later family's looks); each row that meets fmt, with fmt's text TOLD by the authors' own Lean function (tested against real Go, not proved from fmt's source: count such statements apart). THE CARD IS WHAT COUNTS. Prove the row's statement (the work); the ties are given (YtkoicblnbbncbaaDoorTie.lean); close each card by the builder's one call (the guide's Derived/Test/ToyasCard.lean, 'card_holds'). Laid BY PROGRAM, IN A SANDBOX (cutbox-door.mjs). By AI agents, Wed Nov 11 2026. No macro, syntax, notation, axiom, sorry.
-/
import Derived.Test.YtkoicblnbbncbaaDoorRows
import GoSem.ClaimSeven
namespace Go.Proofs.YtkoicblnbbncbaaDoor
namespace Rows

/-- THE TIED CARD OF 'palinodelaw39.ChangeApplies'. -/
def changeAppliesCard : Claim7 := { stood := { row := changeAppliesRow, standIns := [], harness := (true, "f2a60405e111fa47183857f4fcbc8a2e73071c7f9f5398e80141b362e9130b2d"), looks := true }, kinds := [], alts := [], laidByText := true, laidKinds := [.data, .data, .data], laidTests := true, laidLooks := .later }
def ChangeAppliesCardSaid : Prop := Claim7.holds Tryd.pinned (.plain (OpenSpec.ofChange changeAppliesSpec)) changeAppliesCard

/-- THE TIED CARD OF 'palinodelaw39.ChangeGoes'. -/
def changeGoesCard : Claim7 := { stood := { row := changeGoesRow, standIns := [], harness := (true, "f2a60405e111fa47183857f4fcbc8a2e73071c7f9f5398e80141b362e9130b2d"), looks := true }, kinds := [], alts := [], laidByText := true, laidKinds := [.data, .data, .data], laidTests := true, laidLooks := .later }
def ChangeGoesCardSaid : Prop := Claim7.holds Tryd.pinned (.plain (OpenSpec.ofChange changeGoesSpec)) changeGoesCard

/-- THE TIED CARD OF 'palinodelaw39.ChangeBack'. -/
def changeBackCard : Claim7 := { stood := { row := changeBackRow, standIns := [], harness := (true, "f2a60405e111fa47183857f4fcbc8a2e73071c7f9f5398e80141b362e9130b2d"), looks := true }, kinds := [], alts := [], laidByText := true, laidKinds := [.data, .data, .data], laidTests := true, laidLooks := .later }
def ChangeBackCardSaid : Prop := Claim7.holds Tryd.pinned (.plain (OpenSpec.ofChange changeBackSpec)) changeBackCard

/-- THE SECOND FORM's CARD OF 'palinodelaw39.ChangeApplies'. -/
def changeAppliesUptoCard : Claim7 := { stood := { row := changeAppliesUptoRow, standIns := [], harness := (true, "f2a60405e111fa47183857f4fcbc8a2e73071c7f9f5398e80141b362e9130b2d"), looks := true }, kinds := [], alts := [], laidByText := true, laidKinds := [.data, .data, .data], laidTests := true, laidLooks := .later }
def ChangeAppliesUptoCardSaid : Prop := Claim7.holds Tryd.pinned (.plain (OpenSpec.upto changeAppliesSpec)) changeAppliesUptoCard

/-- THE SECOND FORM's CARD OF 'palinodelaw39.ChangeGoes'. -/
def changeGoesUptoCard : Claim7 := { stood := { row := changeGoesUptoRow, standIns := [], harness := (true, "f2a60405e111fa47183857f4fcbc8a2e73071c7f9f5398e80141b362e9130b2d"), looks := true }, kinds := [], alts := [], laidByText := true, laidKinds := [.data, .data, .data], laidTests := true, laidLooks := .later }
def ChangeGoesUptoCardSaid : Prop := Claim7.holds Tryd.pinned (.plain (OpenSpec.upto changeGoesSpec)) changeGoesUptoCard

/-- THE SECOND FORM's CARD OF 'palinodelaw39.ChangeBack'. -/
def changeBackUptoCard : Claim7 := { stood := { row := changeBackUptoRow, standIns := [], harness := (true, "f2a60405e111fa47183857f4fcbc8a2e73071c7f9f5398e80141b362e9130b2d"), looks := true }, kinds := [], alts := [], laidByText := true, laidKinds := [.data, .data, .data], laidTests := true, laidLooks := .later }
def ChangeBackUptoCardSaid : Prop := Claim7.holds Tryd.pinned (.plain (OpenSpec.upto changeBackSpec)) changeBackUptoCard
end Rows
end Go.Proofs.YtkoicblnbbncbaaDoor
