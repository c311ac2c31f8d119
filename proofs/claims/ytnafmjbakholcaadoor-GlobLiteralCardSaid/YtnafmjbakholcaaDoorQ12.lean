import Derived.Test.YtnafmjbakholcaaDoorQ11
import Derived.Test.YtnafmjbakholcaaDoorT13
set_option linter.unusedVariables false
namespace Go.Proofs.YtnafmjbakholcaaDoor.Q
open Go.EM Go.TY Go.Proofs Go.Proofs.YtnafmjbakholcaaDoor.Y Go.Proofs.YtnafmjbakholcaaDoor.K Go.Proofs.YtnafmjbakholcaaDoor.L
theorem strs2 {Γ : Ctx} {a b : List UInt8} : R Γ (.cons .str (.cons .str .unit)) (a, b, ()) false [.str a, .str b] := by
  simp only [R]
  exact ⟨[.str a], [.str b], rfl, rfl, [.str b], [], rfl, rfl, rfl⟩
theorem literal_F {a b : List UInt8} : law37_GlobLiteral_F [.str a, .str b] = some (.bool true) := by
  obtain ⟨r, h1, h2⟩ := law37_GlobLiteral_ok.run (a, b, ()) true [.str a, .str b] globLiteral_t strs2
  rw [h1, R_bool h2]
end Go.Proofs.YtnafmjbakholcaaDoor.Q
