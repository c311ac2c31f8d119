/-
  DERIVED. GIVEN WITH THE SEED: THE CARDS: each row of YtnbgkhdcidbkaaaGreatDoorRows.lean that lists a variable, with what it lists TIED to the program's text (the seventh form; the later family's looks); each row that meets fmt, with fmt's text TOLD by the authors' own Lean function (tested against real Go, not proved from fmt's source: count such statements apart). THE CARD IS WHAT COUNTS. Prove the row's statement (the work); the ties are given (YtnbgkhdcidbkaaaGreatDoorTie.lean); close each card by the builder's one call (the guide's Derived/Test/ToyasCard.lean, 'card_holds'). Laid BY PROGRAM, IN A SANDBOX (cutbox-door.mjs). By AI agents, Wed Nov 11 2026. No macro, syntax, notation, axiom, sorry.
-/
import Derived.Test.YtnbgkhdcidbkaaaGreatDoorRows
import GoSem.ClaimSeven
namespace Go.Proofs.YtnbgkhdcidbkaaaGreatDoor
namespace Rows

/-- THE TIED CARD OF 'palinodelaw43.WatchPlays'. -/
def watchPlaysCard : Claim7 := { stood := { row := watchPlaysRow, standIns := [], harness := (true, "96d902fe3258a66071437f1362e908dc5f3a2f4cb4d039f3c713b7647618fe73"), looks := true }, kinds := [], alts := [], laidByText := true, laidKinds := [.data, .pinned], laidTests := true, laidLooks := .later }
def WatchPlaysCardSaid : Prop := Claim7.holds Tryz.pinned (.plain (OpenSpec.ofChange watchPlaysSpec)) watchPlaysCard

/-- THE TIED CARD OF 'palinodelaw43.WatchNone'. -/
def watchNoneCard : Claim7 := { stood := { row := watchNoneRow, standIns := [], harness := (true, "96d902fe3258a66071437f1362e908dc5f3a2f4cb4d039f3c713b7647618fe73"), looks := true }, kinds := [], alts := [], laidByText := true, laidKinds := [.data, .pinned], laidTests := true, laidLooks := .later }
def WatchNoneCardSaid : Prop := Claim7.holds Tryz.pinned (.plain (OpenSpec.ofChange watchNoneSpec)) watchNoneCard

/-- THE TIED CARD OF 'palinodelaw43.WatchSums'. -/
def watchSumsCard : Claim7 := { stood := { row := watchSumsRow, standIns := [], harness := (true, "96d902fe3258a66071437f1362e908dc5f3a2f4cb4d039f3c713b7647618fe73"), looks := true }, kinds := [], alts := [], laidByText := true, laidKinds := [.data, .pinned], laidTests := true, laidLooks := .later }
def WatchSumsCardSaid : Prop := Claim7.holds Tryz.pinned (.plain (OpenSpec.ofChange watchSumsSpec)) watchSumsCard

/-- THE TIED CARD OF 'palinodelaw26.StackLast'. -/
def stackLastCard : Claim7 := { stood := { row := stackLastRow, standIns := [], harness := (true, "96d902fe3258a66071437f1362e908dc5f3a2f4cb4d039f3c713b7647618fe73"), looks := true }, kinds := [], alts := [], laidByText := true, laidKinds := [.data, .pinned], laidTests := true, laidLooks := .later }
def StackLastCardSaid : Prop := Claim7.holds Tryz.pinned (.plain (OpenSpec.ofChange stackLastSpec)) stackLastCard

/-- THE TIED CARD OF 'palinodelaw26.StackCommits'. -/
def stackCommitsCard : Claim7 := { stood := { row := stackCommitsRow, standIns := [], harness := (true, "96d902fe3258a66071437f1362e908dc5f3a2f4cb4d039f3c713b7647618fe73"), looks := true }, kinds := [], alts := [], laidByText := true, laidKinds := [.data, .pinned], laidTests := true, laidLooks := .later }
def StackCommitsCardSaid : Prop := Claim7.holds Tryz.pinned (.plain (OpenSpec.ofChange stackCommitsSpec)) stackCommitsCard

/-- THE TIED CARD OF 'palinodelaw26.StackSealed'. -/
def stackSealedCard : Claim7 := { stood := { row := stackSealedRow, standIns := [], harness := (true, "96d902fe3258a66071437f1362e908dc5f3a2f4cb4d039f3c713b7647618fe73"), looks := true }, kinds := [], alts := [], laidByText := true, laidKinds := [.data, .pinned], laidTests := true, laidLooks := .later }
def StackSealedCardSaid : Prop := Claim7.holds Tryz.pinned (.plain (OpenSpec.ofChange stackSealedSpec)) stackSealedCard

/-- THE TIED CARD OF 'palinodelaw26.StackUndoes'. -/
def stackUndoesCard : Claim7 := { stood := { row := stackUndoesRow, standIns := [], harness := (true, "96d902fe3258a66071437f1362e908dc5f3a2f4cb4d039f3c713b7647618fe73"), looks := true }, kinds := [], alts := [], laidByText := true, laidKinds := [.data, .pinned], laidTests := true, laidLooks := .later }
def StackUndoesCardSaid : Prop := Claim7.holds Tryz.pinned (.plain (OpenSpec.ofChange stackUndoesSpec)) stackUndoesCard

/-- THE TIED CARD OF 'palinodelaw40.PreviewNeeds'. -/
def previewNeedsCard : Claim7 := { stood := { row := previewNeedsRow, standIns := [], harness := (true, "96d902fe3258a66071437f1362e908dc5f3a2f4cb4d039f3c713b7647618fe73"), looks := true }, kinds := [], alts := [], laidByText := true, laidKinds := [.data, .data, .data], laidTests := true, laidLooks := .later }
def PreviewNeedsCardSaid : Prop := Claim7.holds Tryz.pinned (.plain (OpenSpec.ofChange previewNeedsSpec)) previewNeedsCard

/-- THE TIED CARD OF 'palinodelaw40.PreviewTells'. -/
def previewTellsCard : Claim7 := { stood := { row := previewTellsRow, standIns := [], harness := (true, "96d902fe3258a66071437f1362e908dc5f3a2f4cb4d039f3c713b7647618fe73"), looks := true }, kinds := [], alts := [], laidByText := true, laidKinds := [.data, .data, .data], laidTests := true, laidLooks := .later }
def PreviewTellsCardSaid : Prop := Claim7.holds Tryz.pinned (.plain (OpenSpec.ofChange previewTellsSpec)) previewTellsCard

/-- THE TIED CARD OF 'palinodelaw40.PreviewTouches'. -/
def previewTouchesCard : Claim7 := { stood := { row := previewTouchesRow, standIns := [], harness := (true, "96d902fe3258a66071437f1362e908dc5f3a2f4cb4d039f3c713b7647618fe73"), looks := true }, kinds := [], alts := [], laidByText := true, laidKinds := [.data, .data, .data], laidTests := true, laidLooks := .later }
def PreviewTouchesCardSaid : Prop := Claim7.holds Tryz.pinned (.plain (OpenSpec.ofChange previewTouchesSpec)) previewTouchesCard

/-- THE TIED CARD OF 'palinodelaw40.PreviewComes'. -/
def previewComesCard : Claim7 := { stood := { row := previewComesRow, standIns := [], harness := (true, "96d902fe3258a66071437f1362e908dc5f3a2f4cb4d039f3c713b7647618fe73"), looks := true }, kinds := [], alts := [], laidByText := true, laidKinds := [.data, .data, .data, .data, .pinned], laidTests := true, laidLooks := .later }
def PreviewComesCardSaid : Prop := Claim7.holds Tryz.pinned (.plain (OpenSpec.ofChange previewComesSpec)) previewComesCard

/-- THE SECOND FORM's CARD OF 'palinodelaw43.WatchPlays'. -/
def watchPlaysUptoCard : Claim7 := { stood := { row := watchPlaysUptoRow, standIns := [], harness := (true, "96d902fe3258a66071437f1362e908dc5f3a2f4cb4d039f3c713b7647618fe73"), looks := true }, kinds := [], alts := [], laidByText := true, laidKinds := [.data, .pinned], laidTests := true, laidLooks := .later }
def WatchPlaysUptoCardSaid : Prop := Claim7.holds Tryz.pinned (.plain (OpenSpec.upto watchPlaysSpec)) watchPlaysUptoCard

/-- THE SECOND FORM's CARD OF 'palinodelaw43.WatchNone'. -/
def watchNoneUptoCard : Claim7 := { stood := { row := watchNoneUptoRow, standIns := [], harness := (true, "96d902fe3258a66071437f1362e908dc5f3a2f4cb4d039f3c713b7647618fe73"), looks := true }, kinds := [], alts := [], laidByText := true, laidKinds := [.data, .pinned], laidTests := true, laidLooks := .later }
def WatchNoneUptoCardSaid : Prop := Claim7.holds Tryz.pinned (.plain (OpenSpec.upto watchNoneSpec)) watchNoneUptoCard

/-- THE SECOND FORM's CARD OF 'palinodelaw43.WatchSums'. -/
def watchSumsUptoCard : Claim7 := { stood := { row := watchSumsUptoRow, standIns := [], harness := (true, "96d902fe3258a66071437f1362e908dc5f3a2f4cb4d039f3c713b7647618fe73"), looks := true }, kinds := [], alts := [], laidByText := true, laidKinds := [.data, .pinned], laidTests := true, laidLooks := .later }
def WatchSumsUptoCardSaid : Prop := Claim7.holds Tryz.pinned (.plain (OpenSpec.upto watchSumsSpec)) watchSumsUptoCard

/-- THE SECOND FORM's CARD OF 'palinodelaw26.StackLast'. -/
def stackLastUptoCard : Claim7 := { stood := { row := stackLastUptoRow, standIns := [], harness := (true, "96d902fe3258a66071437f1362e908dc5f3a2f4cb4d039f3c713b7647618fe73"), looks := true }, kinds := [], alts := [], laidByText := true, laidKinds := [.data, .pinned], laidTests := true, laidLooks := .later }
def StackLastUptoCardSaid : Prop := Claim7.holds Tryz.pinned (.plain (OpenSpec.upto stackLastSpec)) stackLastUptoCard

/-- THE SECOND FORM's CARD OF 'palinodelaw26.StackCommits'. -/
def stackCommitsUptoCard : Claim7 := { stood := { row := stackCommitsUptoRow, standIns := [], harness := (true, "96d902fe3258a66071437f1362e908dc5f3a2f4cb4d039f3c713b7647618fe73"), looks := true }, kinds := [], alts := [], laidByText := true, laidKinds := [.data, .pinned], laidTests := true, laidLooks := .later }
def StackCommitsUptoCardSaid : Prop := Claim7.holds Tryz.pinned (.plain (OpenSpec.upto stackCommitsSpec)) stackCommitsUptoCard

/-- THE SECOND FORM's CARD OF 'palinodelaw26.StackSealed'. -/
def stackSealedUptoCard : Claim7 := { stood := { row := stackSealedUptoRow, standIns := [], harness := (true, "96d902fe3258a66071437f1362e908dc5f3a2f4cb4d039f3c713b7647618fe73"), looks := true }, kinds := [], alts := [], laidByText := true, laidKinds := [.data, .pinned], laidTests := true, laidLooks := .later }
def StackSealedUptoCardSaid : Prop := Claim7.holds Tryz.pinned (.plain (OpenSpec.upto stackSealedSpec)) stackSealedUptoCard

/-- THE SECOND FORM's CARD OF 'palinodelaw26.StackUndoes'. -/
def stackUndoesUptoCard : Claim7 := { stood := { row := stackUndoesUptoRow, standIns := [], harness := (true, "96d902fe3258a66071437f1362e908dc5f3a2f4cb4d039f3c713b7647618fe73"), looks := true }, kinds := [], alts := [], laidByText := true, laidKinds := [.data, .pinned], laidTests := true, laidLooks := .later }
def StackUndoesUptoCardSaid : Prop := Claim7.holds Tryz.pinned (.plain (OpenSpec.upto stackUndoesSpec)) stackUndoesUptoCard

/-- THE SECOND FORM's CARD OF 'palinodelaw40.PreviewNeeds'. -/
def previewNeedsUptoCard : Claim7 := { stood := { row := previewNeedsUptoRow, standIns := [], harness := (true, "96d902fe3258a66071437f1362e908dc5f3a2f4cb4d039f3c713b7647618fe73"), looks := true }, kinds := [], alts := [], laidByText := true, laidKinds := [.data, .data, .data], laidTests := true, laidLooks := .later }
def PreviewNeedsUptoCardSaid : Prop := Claim7.holds Tryz.pinned (.plain (OpenSpec.upto previewNeedsSpec)) previewNeedsUptoCard

/-- THE SECOND FORM's CARD OF 'palinodelaw40.PreviewTells'. -/
def previewTellsUptoCard : Claim7 := { stood := { row := previewTellsUptoRow, standIns := [], harness := (true, "96d902fe3258a66071437f1362e908dc5f3a2f4cb4d039f3c713b7647618fe73"), looks := true }, kinds := [], alts := [], laidByText := true, laidKinds := [.data, .data, .data], laidTests := true, laidLooks := .later }
def PreviewTellsUptoCardSaid : Prop := Claim7.holds Tryz.pinned (.plain (OpenSpec.upto previewTellsSpec)) previewTellsUptoCard

/-- THE SECOND FORM's CARD OF 'palinodelaw40.PreviewTouches'. -/
def previewTouchesUptoCard : Claim7 := { stood := { row := previewTouchesUptoRow, standIns := [], harness := (true, "96d902fe3258a66071437f1362e908dc5f3a2f4cb4d039f3c713b7647618fe73"), looks := true }, kinds := [], alts := [], laidByText := true, laidKinds := [.data, .data, .data], laidTests := true, laidLooks := .later }
def PreviewTouchesUptoCardSaid : Prop := Claim7.holds Tryz.pinned (.plain (OpenSpec.upto previewTouchesSpec)) previewTouchesUptoCard

/-- THE SECOND FORM's CARD OF 'palinodelaw40.PreviewComes'. -/
def previewComesUptoCard : Claim7 := { stood := { row := previewComesUptoRow, standIns := [], harness := (true, "96d902fe3258a66071437f1362e908dc5f3a2f4cb4d039f3c713b7647618fe73"), looks := true }, kinds := [], alts := [], laidByText := true, laidKinds := [.data, .data, .data, .data, .pinned], laidTests := true, laidLooks := .later }
def PreviewComesUptoCardSaid : Prop := Claim7.holds Tryz.pinned (.plain (OpenSpec.upto previewComesSpec)) previewComesUptoCard
end Rows
end Go.Proofs.YtnbgkhdcidbkaaaGreatDoor
