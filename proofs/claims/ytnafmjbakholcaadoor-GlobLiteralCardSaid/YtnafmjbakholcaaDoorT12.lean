/- Closed runs as typed functions; a law of a row. -/
import Derived.Test.YtnafmjbakholcaaDoorT11
import Derived.Test.YtnafmjbakholcaaDoorE18
set_option linter.unusedVariables false
set_option linter.unusedSimpArgs false
namespace Go.TY
open Go.EM
theorem given_bool {F : PFn} {b : Bool} (hF : F [] = some (.bool b)) : TOk F ⟨.unit, .bool, fun _ => some b⟩ := by
  refine ⟨rfl, rfl, rfl, ?_⟩
  intro v r as h hR
  cases h
  simp only [R] at hR
  subst hR
  exact ⟨_, hF, by simp only [R]⟩
end Go.TY
