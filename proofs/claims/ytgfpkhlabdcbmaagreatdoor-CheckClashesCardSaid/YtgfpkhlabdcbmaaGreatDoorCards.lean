/-
  DERIVED. GIVEN WITH THE SEED: THE CARDS: each row of YtgfpkhlabdcbmaaGreatDoorRows.lean that lists a variable, with what it lists TIED to the program's text (the seventh form; the later family's looks); each row that meets fmt, with fmt's text TOLD by the authors' own Lean function (tested against real Go, not proved from fmt's source: count such statements apart). THE CARD IS WHAT COUNTS. Prove the row's statement (the work); the ties are given (YtgfpkhlabdcbmaaGreatDoorTie.lean); close each card by the builder's one call (the guide's Derived/Test/ToyasCard.lean, 'card_holds'). Laid BY PROGRAM, IN A SANDBOX (cutbox-door.mjs). By AI agents, Wed Nov 11 2026. No macro, syntax, notation, axiom, sorry.
-/
import Derived.Test.YtgfpkhlabdcbmaaGreatDoorRows
import GoSem.ClaimSeven
namespace Go.Proofs.YtgfpkhlabdcbmaaGreatDoor
namespace Rows

/-- THE TIED CARD OF 'palinodelaw19.CheckMakes'. -/
def checkMakesCard : Claim7 := { stood := { row := checkMakesRow, standIns := [], harness := (true, "fd496bc0fb90507db7913b0461bd9e78d683cab0011edf4edad1d6e5e732bc60"), looks := true }, kinds := [], alts := [], laidByText := true, laidKinds := [.data, .pinned], laidTests := true, laidLooks := .later }
def CheckMakesCardSaid : Prop := Claim7.holds Tryz.pinned (.plain (OpenSpec.ofChange checkMakesSpec)) checkMakesCard

/-- THE TIED CARD OF 'palinodelaw19.CheckClashes'. -/
def checkClashesCard : Claim7 := { stood := { row := checkClashesRow, standIns := [], harness := (true, "fd496bc0fb90507db7913b0461bd9e78d683cab0011edf4edad1d6e5e732bc60"), looks := true }, kinds := [], alts := [], laidByText := true, laidKinds := [.data, .pinned], laidTests := true, laidLooks := .later }
def CheckClashesCardSaid : Prop := Claim7.holds Tryz.pinned (.plain (OpenSpec.ofChange checkClashesSpec)) checkClashesCard

/-- THE TIED CARD OF 'palinodelaw38.QueryViews'. -/
def queryViewsCard : Claim7 := { stood := { row := queryViewsRow, standIns := [], harness := (true, "fd496bc0fb90507db7913b0461bd9e78d683cab0011edf4edad1d6e5e732bc60"), looks := true }, kinds := [], alts := [], laidByText := true, laidKinds := [.data, .pinned], laidTests := true, laidLooks := .later }
def QueryViewsCardSaid : Prop := Claim7.holds Tryz.pinned (.plain (OpenSpec.ofChange queryViewsSpec)) queryViewsCard

/-- THE TIED CARD OF 'palinodelaw38.QueryAll'. -/
def queryAllCard : Claim7 := { stood := { row := queryAllRow, standIns := [], harness := (true, "fd496bc0fb90507db7913b0461bd9e78d683cab0011edf4edad1d6e5e732bc60"), looks := true }, kinds := [], alts := [], laidByText := true, laidKinds := [.data, .pinned], laidTests := true, laidLooks := .later }
def QueryAllCardSaid : Prop := Claim7.holds Tryz.pinned (.plain (OpenSpec.ofChange queryAllSpec)) queryAllCard

/-- THE TIED CARD OF 'palinodelaw18.ViewTells'. -/
def viewTellsCard : Claim7 := { stood := { row := viewTellsRow, standIns := [], harness := (true, "fd496bc0fb90507db7913b0461bd9e78d683cab0011edf4edad1d6e5e732bc60"), looks := true }, kinds := [], alts := [], laidByText := true, laidKinds := [.data, .data, .data], laidTests := true, laidLooks := .later }
def ViewTellsCardSaid : Prop := Claim7.holds Tryz.pinned (.plain (OpenSpec.ofChange viewTellsSpec)) viewTellsCard

/-- THE TIED CARD OF 'palinodelaw18.ViewAll'. -/
def viewAllCard : Claim7 := { stood := { row := viewAllRow, standIns := [], harness := (true, "fd496bc0fb90507db7913b0461bd9e78d683cab0011edf4edad1d6e5e732bc60"), looks := true }, kinds := [], alts := [], laidByText := true, laidKinds := [.data, .data, .data], laidTests := true, laidLooks := .later }
def ViewAllCardSaid : Prop := Claim7.holds Tryz.pinned (.plain (OpenSpec.ofChange viewAllSpec)) viewAllCard

/-- THE TIED CARD OF 'palinodelaw18.ViewParity'. -/
def viewParityCard : Claim7 := { stood := { row := viewParityRow, standIns := [], harness := (true, "fd496bc0fb90507db7913b0461bd9e78d683cab0011edf4edad1d6e5e732bc60"), looks := true }, kinds := [], alts := [], laidByText := true, laidKinds := [.data, .data, .data], laidTests := true, laidLooks := .later }
def ViewParityCardSaid : Prop := Claim7.holds Tryz.pinned (.plain (OpenSpec.ofChange viewParitySpec)) viewParityCard

/-- THE SECOND FORM's CARD OF 'palinodelaw19.CheckMakes'. -/
def checkMakesUptoCard : Claim7 := { stood := { row := checkMakesUptoRow, standIns := [], harness := (true, "fd496bc0fb90507db7913b0461bd9e78d683cab0011edf4edad1d6e5e732bc60"), looks := true }, kinds := [], alts := [], laidByText := true, laidKinds := [.data, .pinned], laidTests := true, laidLooks := .later }
def CheckMakesUptoCardSaid : Prop := Claim7.holds Tryz.pinned (.plain (OpenSpec.upto checkMakesSpec)) checkMakesUptoCard

/-- THE SECOND FORM's CARD OF 'palinodelaw19.CheckClashes'. -/
def checkClashesUptoCard : Claim7 := { stood := { row := checkClashesUptoRow, standIns := [], harness := (true, "fd496bc0fb90507db7913b0461bd9e78d683cab0011edf4edad1d6e5e732bc60"), looks := true }, kinds := [], alts := [], laidByText := true, laidKinds := [.data, .pinned], laidTests := true, laidLooks := .later }
def CheckClashesUptoCardSaid : Prop := Claim7.holds Tryz.pinned (.plain (OpenSpec.upto checkClashesSpec)) checkClashesUptoCard

/-- THE SECOND FORM's CARD OF 'palinodelaw38.QueryViews'. -/
def queryViewsUptoCard : Claim7 := { stood := { row := queryViewsUptoRow, standIns := [], harness := (true, "fd496bc0fb90507db7913b0461bd9e78d683cab0011edf4edad1d6e5e732bc60"), looks := true }, kinds := [], alts := [], laidByText := true, laidKinds := [.data, .pinned], laidTests := true, laidLooks := .later }
def QueryViewsUptoCardSaid : Prop := Claim7.holds Tryz.pinned (.plain (OpenSpec.upto queryViewsSpec)) queryViewsUptoCard

/-- THE SECOND FORM's CARD OF 'palinodelaw38.QueryAll'. -/
def queryAllUptoCard : Claim7 := { stood := { row := queryAllUptoRow, standIns := [], harness := (true, "fd496bc0fb90507db7913b0461bd9e78d683cab0011edf4edad1d6e5e732bc60"), looks := true }, kinds := [], alts := [], laidByText := true, laidKinds := [.data, .pinned], laidTests := true, laidLooks := .later }
def QueryAllUptoCardSaid : Prop := Claim7.holds Tryz.pinned (.plain (OpenSpec.upto queryAllSpec)) queryAllUptoCard

/-- THE SECOND FORM's CARD OF 'palinodelaw18.ViewTells'. -/
def viewTellsUptoCard : Claim7 := { stood := { row := viewTellsUptoRow, standIns := [], harness := (true, "fd496bc0fb90507db7913b0461bd9e78d683cab0011edf4edad1d6e5e732bc60"), looks := true }, kinds := [], alts := [], laidByText := true, laidKinds := [.data, .data, .data], laidTests := true, laidLooks := .later }
def ViewTellsUptoCardSaid : Prop := Claim7.holds Tryz.pinned (.plain (OpenSpec.upto viewTellsSpec)) viewTellsUptoCard

/-- THE SECOND FORM's CARD OF 'palinodelaw18.ViewAll'. -/
def viewAllUptoCard : Claim7 := { stood := { row := viewAllUptoRow, standIns := [], harness := (true, "fd496bc0fb90507db7913b0461bd9e78d683cab0011edf4edad1d6e5e732bc60"), looks := true }, kinds := [], alts := [], laidByText := true, laidKinds := [.data, .data, .data], laidTests := true, laidLooks := .later }
def ViewAllUptoCardSaid : Prop := Claim7.holds Tryz.pinned (.plain (OpenSpec.upto viewAllSpec)) viewAllUptoCard

/-- THE SECOND FORM's CARD OF 'palinodelaw18.ViewParity'. -/
def viewParityUptoCard : Claim7 := { stood := { row := viewParityUptoRow, standIns := [], harness := (true, "fd496bc0fb90507db7913b0461bd9e78d683cab0011edf4edad1d6e5e732bc60"), looks := true }, kinds := [], alts := [], laidByText := true, laidKinds := [.data, .data, .data], laidTests := true, laidLooks := .later }
def ViewParityUptoCardSaid : Prop := Claim7.holds Tryz.pinned (.plain (OpenSpec.upto viewParitySpec)) viewParityUptoCard
end Rows
end Go.Proofs.YtgfpkhlabdcbmaaGreatDoor
