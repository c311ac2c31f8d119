/-
  DERIVED. GIVEN WITH THE SEED: THE CARDS: each row of YtekmegajjfapaaaDoorRows.lean that lists a variable, with what it lists TIED to the program's text (the seventh form; the later family's looks); each row that meets fmt, with fmt's text TOLD by the authors' own Lean function (tested against real Go, not proved from fmt's source: count such statements apart). THE CARD IS WHAT COUNTS. Prove the row's statement (the work); the ties are given (YtekmegajjfapaaaDoorTie.lean); close each card by the builder's one call (the guide's Derived/Test/ToyasCard.lean, 'card_holds'). Laid BY PROGRAM, IN A SANDBOX (cutbox-door.mjs). By AI agents, Wed Nov 11 2026. No macro, syntax, notation, axiom, sorry.
-/
import Derived.Test.YtekmegajjfapaaaDoorRows
import GoSem.ClaimSeven
namespace Go.Proofs.YtekmegajjfapaaaDoor
namespace Rows

/-- THE TIED CARD OF 'palinodelaw04.DotParses'. -/
def dotParsesCard : Claim7 := { stood := { row := dotParsesRow, standIns := [], harness := (true, "edc23dbf0a38cb0f197048954f3dbbae2d4a6d36b55d3cbafcc1af3ebe5bd440"), looks := true }, kinds := [], alts := [], laidByText := true, laidKinds := [.data, .data, .data, .sentinel, .sentinel], laidTests := true, laidLooks := .later }
def DotParsesCardSaid : Prop := Claim7.holds Tryd.pinned (.plain (OpenSpec.ofChange dotParsesSpec)) dotParsesCard

/-- THE TIED CARD OF 'palinodelaw04.DotRow'. -/
def dotRowCard : Claim7 := { stood := { row := dotRowRow, standIns := [], harness := (true, "edc23dbf0a38cb0f197048954f3dbbae2d4a6d36b55d3cbafcc1af3ebe5bd440"), looks := true }, kinds := [], alts := [], laidByText := true, laidKinds := [.data, .data, .data, .sentinel, .sentinel], laidTests := true, laidLooks := .later }
def DotRowCardSaid : Prop := Claim7.holds Tryd.pinned (.plain (OpenSpec.ofChange dotRowSpec)) dotRowCard

/-- THE TIED CARD OF 'palinodelaw04.DotTells'. -/
def dotTellsCard : Claim7 := { stood := { row := dotTellsRow, standIns := [], harness := (true, "edc23dbf0a38cb0f197048954f3dbbae2d4a6d36b55d3cbafcc1af3ebe5bd440"), looks := true }, kinds := [], alts := [], laidByText := true, laidKinds := [.data, .data, .data, .sentinel, .sentinel], laidTests := true, laidLooks := .later }
def DotTellsCardSaid : Prop := Claim7.holds Tryd.pinned (.plain (OpenSpec.ofChange dotTellsSpec)) dotTellsCard

/-- THE TIED CARD OF 'palinodelaw04.DotBack'. -/
def dotBackCard : Claim7 := { stood := { row := dotBackRow, standIns := [], harness := (true, "edc23dbf0a38cb0f197048954f3dbbae2d4a6d36b55d3cbafcc1af3ebe5bd440"), looks := true }, kinds := [], alts := [], laidByText := true, laidKinds := [.data, .data, .data, .sentinel, .sentinel], laidTests := true, laidLooks := .later }
def DotBackCardSaid : Prop := Claim7.holds Tryd.pinned (.plain (OpenSpec.ofChange dotBackSpec)) dotBackCard

/-- THE SECOND FORM's CARD OF 'palinodelaw04.DotParses'. -/
def dotParsesUptoCard : Claim7 := { stood := { row := dotParsesUptoRow, standIns := [], harness := (true, "edc23dbf0a38cb0f197048954f3dbbae2d4a6d36b55d3cbafcc1af3ebe5bd440"), looks := true }, kinds := [], alts := [], laidByText := true, laidKinds := [.data, .data, .data, .sentinel, .sentinel], laidTests := true, laidLooks := .later }
def DotParsesUptoCardSaid : Prop := Claim7.holds Tryd.pinned (.plain (OpenSpec.upto dotParsesSpec)) dotParsesUptoCard

/-- THE SECOND FORM's CARD OF 'palinodelaw04.DotRow'. -/
def dotRowUptoCard : Claim7 := { stood := { row := dotRowUptoRow, standIns := [], harness := (true, "edc23dbf0a38cb0f197048954f3dbbae2d4a6d36b55d3cbafcc1af3ebe5bd440"), looks := true }, kinds := [], alts := [], laidByText := true, laidKinds := [.data, .data, .data, .sentinel, .sentinel], laidTests := true, laidLooks := .later }
def DotRowUptoCardSaid : Prop := Claim7.holds Tryd.pinned (.plain (OpenSpec.upto dotRowSpec)) dotRowUptoCard

/-- THE SECOND FORM's CARD OF 'palinodelaw04.DotTells'. -/
def dotTellsUptoCard : Claim7 := { stood := { row := dotTellsUptoRow, standIns := [], harness := (true, "edc23dbf0a38cb0f197048954f3dbbae2d4a6d36b55d3cbafcc1af3ebe5bd440"), looks := true }, kinds := [], alts := [], laidByText := true, laidKinds := [.data, .data, .data, .sentinel, .sentinel], laidTests := true, laidLooks := .later }
def DotTellsUptoCardSaid : Prop := Claim7.holds Tryd.pinned (.plain (OpenSpec.upto dotTellsSpec)) dotTellsUptoCard

/-- THE SECOND FORM's CARD OF 'palinodelaw04.DotBack'. -/
def dotBackUptoCard : Claim7 := { stood := { row := dotBackUptoRow, standIns := [], harness := (true, "edc23dbf0a38cb0f197048954f3dbbae2d4a6d36b55d3cbafcc1af3ebe5bd440"), looks := true }, kinds := [], alts := [], laidByText := true, laidKinds := [.data, .data, .data, .sentinel, .sentinel], laidTests := true, laidLooks := .later }
def DotBackUptoCardSaid : Prop := Claim7.holds Tryd.pinned (.plain (OpenSpec.upto dotBackSpec)) dotBackUptoCard
end Rows
end Go.Proofs.YtekmegajjfapaaaDoor
