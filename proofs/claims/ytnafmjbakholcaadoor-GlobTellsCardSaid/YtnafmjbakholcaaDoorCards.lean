/-
  DERIVED. GIVEN WITH THE SEED: THE CARDS: each row of YtnafmjbakholcaaDoorRows.lean that lists a variable, with what it lists TIED to the program's text (the seventh form; the later family's looks); each row that meets fmt, with fmt's text TOLD by the authors' own Lean function (tested against real Go, not proved from fmt's source: count such statements apart). THE CARD IS WHAT COUNTS. Prove the row's statement (the work); the ties are given (YtnafmjbakholcaaDoorTie.lean); close each card by the builder's one call (the guide's Derived/Test/ToyasCard.lean, 'card_holds'). Laid BY PROGRAM, IN A SANDBOX (cutbox-door.mjs). By AI agents, Wed Nov 11 2026. No macro, syntax, notation, axiom, sorry.
-/
import Derived.Test.YtnafmjbakholcaaDoorRows
import GoSem.ClaimSeven
namespace Go.Proofs.YtnafmjbakholcaaDoor
namespace Rows

/-- THE TIED CARD OF 'palinodelaw37.GlobTells'. -/
def globTellsCard : Claim7 := { stood := { row := globTellsRow, standIns := [], harness := (true, "e03da8d67d9f1df69087f572d6cf0630876bab8e5d2c5ba39e59a3ba53ff3062"), looks := false }, kinds := [], alts := [], laidByText := true, laidKinds := [.data, .pinned], laidTests := true, laidLooks := .later }
def GlobTellsCardSaid : Prop := Claim7.holds Tryd.pinned (.plain (OpenSpec.ofChange globTellsSpec)) globTellsCard

/-- THE TIED CARD OF 'palinodelaw37.GlobJoins'. -/
def globJoinsCard : Claim7 := { stood := { row := globJoinsRow, standIns := [], harness := (true, "e03da8d67d9f1df69087f572d6cf0630876bab8e5d2c5ba39e59a3ba53ff3062"), looks := false }, kinds := [], alts := [], laidByText := true, laidKinds := [.data, .pinned], laidTests := true, laidLooks := .later }
def GlobJoinsCardSaid : Prop := Claim7.holds Tryd.pinned (.plain (OpenSpec.ofChange globJoinsSpec)) globJoinsCard

/-- THE TIED CARD OF 'palinodelaw37.GlobQuotes'. -/
def globQuotesCard : Claim7 := { stood := { row := globQuotesRow, standIns := [], harness := (true, "e03da8d67d9f1df69087f572d6cf0630876bab8e5d2c5ba39e59a3ba53ff3062"), looks := false }, kinds := [], alts := [], laidByText := true, laidKinds := [.data, .pinned], laidTests := true, laidLooks := .later }
def GlobQuotesCardSaid : Prop := Claim7.holds Tryd.pinned (.plain (OpenSpec.ofChange globQuotesSpec)) globQuotesCard

/-- THE TIED CARD OF 'palinodelaw37.GlobLiteral'. -/
def globLiteralCard : Claim7 := { stood := { row := globLiteralRow, standIns := [], harness := (true, "e03da8d67d9f1df69087f572d6cf0630876bab8e5d2c5ba39e59a3ba53ff3062"), looks := false }, kinds := [], alts := [], laidByText := true, laidKinds := [.data, .pinned], laidTests := true, laidLooks := .later }
def GlobLiteralCardSaid : Prop := Claim7.holds Tryd.pinned (.plain (OpenSpec.ofChange globLiteralSpec)) globLiteralCard

/-- THE SECOND FORM's CARD OF 'palinodelaw37.GlobTells'. -/
def globTellsUptoCard : Claim7 := { stood := { row := globTellsUptoRow, standIns := [], harness := (true, "e03da8d67d9f1df69087f572d6cf0630876bab8e5d2c5ba39e59a3ba53ff3062"), looks := false }, kinds := [], alts := [], laidByText := true, laidKinds := [.data, .pinned], laidTests := true, laidLooks := .later }
def GlobTellsUptoCardSaid : Prop := Claim7.holds Tryd.pinned (.plain (OpenSpec.upto globTellsSpec)) globTellsUptoCard

/-- THE SECOND FORM's CARD OF 'palinodelaw37.GlobJoins'. -/
def globJoinsUptoCard : Claim7 := { stood := { row := globJoinsUptoRow, standIns := [], harness := (true, "e03da8d67d9f1df69087f572d6cf0630876bab8e5d2c5ba39e59a3ba53ff3062"), looks := false }, kinds := [], alts := [], laidByText := true, laidKinds := [.data, .pinned], laidTests := true, laidLooks := .later }
def GlobJoinsUptoCardSaid : Prop := Claim7.holds Tryd.pinned (.plain (OpenSpec.upto globJoinsSpec)) globJoinsUptoCard

/-- THE SECOND FORM's CARD OF 'palinodelaw37.GlobQuotes'. -/
def globQuotesUptoCard : Claim7 := { stood := { row := globQuotesUptoRow, standIns := [], harness := (true, "e03da8d67d9f1df69087f572d6cf0630876bab8e5d2c5ba39e59a3ba53ff3062"), looks := false }, kinds := [], alts := [], laidByText := true, laidKinds := [.data, .pinned], laidTests := true, laidLooks := .later }
def GlobQuotesUptoCardSaid : Prop := Claim7.holds Tryd.pinned (.plain (OpenSpec.upto globQuotesSpec)) globQuotesUptoCard

/-- THE SECOND FORM's CARD OF 'palinodelaw37.GlobLiteral'. -/
def globLiteralUptoCard : Claim7 := { stood := { row := globLiteralUptoRow, standIns := [], harness := (true, "e03da8d67d9f1df69087f572d6cf0630876bab8e5d2c5ba39e59a3ba53ff3062"), looks := false }, kinds := [], alts := [], laidByText := true, laidKinds := [.data, .pinned], laidTests := true, laidLooks := .later }
def GlobLiteralUptoCardSaid : Prop := Claim7.holds Tryd.pinned (.plain (OpenSpec.upto globLiteralSpec)) globLiteralUptoCard
end Rows
end Go.Proofs.YtnafmjbakholcaaDoor
