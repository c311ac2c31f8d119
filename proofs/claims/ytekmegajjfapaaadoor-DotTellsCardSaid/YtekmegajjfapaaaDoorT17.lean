import Derived.Test.YtekmegajjfapaaaDoorT14
import Derived.Test.YtekmegajjfapaaaDoorE20
/- Functions of Go's library, typed. -/
set_option linter.unusedVariables false
namespace Go.TY
open Go.EM
def itoa (n : Int) : Option (List UInt8) := if -9223372036854775808 ≤ n ∧ n ≤ 9223372036854775807 then some (Lib.itoa n) else none
def itoa_T : TFn := { ps := .cons (.int .i64) .unit, res := .str, fn := fun v => itoa v.1 }
theorem itoa_ok : TOk itoaF itoa_T := ⟨rfl, rfl, rfl, fun v r xs hr hps => by
  simp only [R, itoa_T] at hps
  obtain ⟨l1, l2, rfl, rfl, rfl⟩ := hps
  simp only [itoa_T, itoa] at hr
  split at hr
  · rename_i hn
    cases hr
    exact ⟨.str (Lib.itoa v.1), if_pos hn, rfl⟩
  · cases hr⟩
end Go.TY
