import Derived.Test.YtoddoiemnekffaaDoorT14
import Derived.Test.YtoddoiemnekffaaDoorE22
/- Functions of Go's library, typed. -/
set_option linter.unusedVariables false
namespace Go.TY
open Go.EM
def itoa (n : Int) : Option (List UInt8) := if -9223372036854775808 ≤ n ∧ n ≤ 9223372036854775807 then some (Lib.itoa n) else none
def itoa_T : TFn := { ps := .cons (.int .i64) .unit, res := .str, fn := fun v => itoa v.1 }
theorem itoa_ok : TOk itoaF itoa_T := ⟨rfl, rfl, rfl, fun v r xs hr hps => by
  simp only [R, itoa_T] at hps
  obtain ⟨l1, l2, rfl, rfl, rfl⟩ := hps
  simp only [itoa_T, itoa] at hr
  split at hr
  · rename_i hn
    cases hr
    exact ⟨.str (Lib.itoa v.1), if_pos hn, rfl⟩
  · cases hr⟩
end Go.TY

/- strconv.Atoi, typed. -/
set_option linter.unusedVariables false
namespace Go.TY
open Go.EM
def atoi (s : List UInt8) : Option (Int × Bool × Unit) := if s.length ≤ 281474976710656 then some (match Lib.atoiAll s with
  | .ok v => (v, false, ())
  | Lib.NumEnd.syntax => (0, true, ())
  | .range => (Lib.atoiSat s, true, ())) else none
def atoi_T : TFn := { ps := .cons .str .unit, res := .tup (.cons (.int .i64) (.cons .err .unit)), fn := fun v => atoi v.1 }
theorem atoi_ok {te : Nat} : TOk (atoiF te) atoi_T := ⟨rfl, rfl, rfl, fun v r xs hr hps => by
  simp only [R, atoi_T] at hps
  obtain ⟨l1, l2, rfl, rfl, rfl⟩ := hps
  simp only [atoi_T, atoi] at hr
  split at hr
  · rename_i hn
    cases ha : Lib.atoiAll v.1 with
    | ok n =>
      rw [ha] at hr; cases hr
      exact ⟨.tup [.int .i64 n, .niliface], by simp [atoiF, if_pos hn, ha], _, rfl, _, _, rfl, rfl, [.niliface], [], rfl, ⟨_, rfl, .inl ⟨rfl, rfl⟩⟩, rfl⟩
    | range =>
      rw [ha] at hr; cases hr
      exact ⟨.tup [.int .i64 (Lib.atoiSat v.1), .iface te (.rptr [])], by simp [atoiF, if_pos hn, ha], _, rfl, _, _, rfl, rfl, [.iface te (.rptr [])], [], rfl, ⟨_, rfl, .inr ⟨rfl, te, rfl⟩⟩, rfl⟩
    | _ =>
      rw [ha] at hr; cases hr
      exact ⟨.tup [.int .i64 0, .iface te (.rptr [])], by simp [atoiF, if_pos hn, ha], _, rfl, _, _, rfl, rfl, [.iface te (.rptr [])], [], rfl, ⟨_, rfl, .inr ⟨rfl, te, rfl⟩⟩, rfl⟩
  · cases hr⟩
end Go.TY

/- strings.Compare, utf8.DecodeRuneInString, typed. -/
set_option linter.unusedVariables false
namespace Go.TY
open Go.EM
def cmpT (a b : List UInt8) : Option Int := some (Lib.compareBytes a b)
def cmpT_T : TFn := { ps := .cons .str (.cons .str .unit), res := .int .i64, fn := fun v => cmpT v.1 v.2.1 }
theorem cmpT_ok : TOk cmpF cmpT_T := ⟨rfl, rfl, rfl, fun v r xs hr hps => by
  simp only [R, cmpT_T] at hps
  obtain ⟨l1, l2, rfl, rfl, l3, l4, rfl, rfl, rfl⟩ := hps
  cases hr
  exact ⟨_, rfl, rfl⟩⟩
def decodeT (s : List UInt8) : Option (Int × Int × Unit) := some ((Lib.decodeGo ⟨s.toArray⟩).1, (Lib.decodeGo ⟨s.toArray⟩).2, ())
def decodeT_T : TFn := { ps := .cons .str .unit, res := .tup (.cons (.int .i32) (.cons (.int .i64) .unit)), fn := fun v => decodeT v.1 }
theorem decodeT_ok : TOk decodeF decodeT_T := ⟨rfl, rfl, rfl, fun v r xs hr hps => by
  simp only [R, decodeT_T] at hps
  obtain ⟨l1, l2, rfl, rfl, rfl⟩ := hps
  cases hr
  exact ⟨_, rfl, _, rfl, _, _, rfl, rfl, _, [], rfl, rfl, rfl⟩⟩
end Go.TY
