import Derived.Test.YtekmegajjfapaaaDoorL
import Derived.Test.YtekmegajjfapaaaDoorT14
set_option linter.unusedVariables false
set_option linter.unusedSimpArgs false
set_option maxRecDepth 100000
namespace Go.Proofs.YtekmegajjfapaaaDoor.Q
open Go.EM Go.TY Go.Proofs Go.Proofs.YtekmegajjfapaaaDoor.Y Go.Proofs.YtekmegajjfapaaaDoor.K Go.Proofs.YtekmegajjfapaaaDoor.L
def cmpI (a b : Int) : Int := if a < b then -1 else if a > b then 1 else 0
theorem compare_t (a b : Int) : cmp_Compare_int a b = some (cmpI a b) := by
  unfold cmp_Compare_int cmp_isNaN_int cmpI
  simp only [Option.bind_some, decide_true, Bool.not_true, cond_false, cond_dec]
  by_cases h1 : a < b
  · simp [h1]
  · by_cases h2 : a > b <;> simp [h1, h2]
def orI (a b : Int) : Int := if a = 0 then b else a
theorem or_t (a b : Int) : cmp_Or_int [a, b] = some (orI a b) := by
  unfold cmp_Or_int orI
  by_cases h1 : a = 0
  · rw [if_pos h1]
    have t0 : cmp_Or_int_l3 [a, b] (0, ()) = some (.inl (1, ())) := by
      unfold cmp_Or_int_l3
      simp only [cond_dec, List.length_cons, List.length_nil]
      rw [if_pos (by decide)]
      simp [atI, h1, wrap64]
    rw [loopT_inl t0]
    by_cases h2 : b = 0
    · have t1 : cmp_Or_int_l3 [a, b] (1, ()) = some (.inl (2, ())) := by
        unfold cmp_Or_int_l3
        simp only [cond_dec, List.length_cons, List.length_nil]
        rw [if_pos (by decide)]
        simp [atI, h2, wrap64]
      rw [loopT_inl t1, h2]
      refine loopT_inr ?_
      unfold cmp_Or_int_l3
      simp only [cond_dec, List.length_cons, List.length_nil]
      rw [if_neg (by decide)]
    · refine loopT_inr ?_
      unfold cmp_Or_int_l3
      simp only [cond_dec, List.length_cons, List.length_nil]
      rw [if_pos (by decide)]
      simp [atI, h2]
  · rw [if_neg h1]
    refine loopT_inr ?_
    unfold cmp_Or_int_l3
    simp only [cond_dec, List.length_cons, List.length_nil]
    rw [if_pos (by decide)]
    simp [atI, h1]
def cmpD (a b : Int × Int × Unit) : Int := orI (cmpI a.1 b.1) (cmpI a.2.1 b.2.1)
theorem dotCompare_t (a b : Int × Int × Unit) : dot_Compare a b = some (cmpD a b) := by
  unfold dot_Compare cmpD
  simp only [compare_t, or_t, Option.bind_some]
theorem awake_t : law04_awake = some true := rfl
theorem cmpD_cases (a b : Int × Int × Unit) : cmpD a b = if a.1 < b.1 then -1 else if a.1 > b.1 then 1 else if a.2.1 < b.2.1 then -1 else if a.2.1 > b.2.1 then 1 else 0 := by
  unfold cmpD orI cmpI
  by_cases h1 : a.1 < b.1
  · simp [h1]
  · by_cases h2 : a.1 > b.1
    · simp [h1, h2]
    · simp [h1, h2]
theorem dotRow_t (a b c : Int × Int × Unit) : law04_DotRow a b c = some true := by
  unfold law04_DotRow
  simp only [dotCompare_t, awake_t, Option.bind_some, cond_dec]
  have e1 : cmpD b a = IntKind.wrap .i64 (0 - cmpD a b) := by
    rw [cmpD_cases, cmpD_cases]
    repeat' split
    all_goals first | omega | (rw [wrap64 (by omega) (by omega)]; omega) | (exfalso; omega)
  have e2 : (decide (cmpD a b = 0) == eqV (.agg (.cons (.int .i64) (.cons (.int .i64) .unit))) a b) = true := by
    have he : eqV (.agg (.cons (.int .i64) (.cons (.int .i64) .unit))) a b = (decide (a.1 = b.1) && decide (a.2.1 = b.2.1)) := by
      simp only [eqV, Bool.and_true]
    rw [he, cmpD_cases, beq_iff_eq, Bool.eq_iff_iff]
    simp only [decide_eq_true_eq, Bool.and_eq_true]
    by_cases h1 : a.1 < b.1
    · rw [if_pos h1]; constructor <;> intro h <;> omega
    rw [if_neg h1]
    by_cases h2 : a.1 > b.1
    · rw [if_pos h2]; constructor <;> intro h <;> omega
    rw [if_neg h2]
    by_cases h3 : a.2.1 < b.2.1
    · rw [if_pos h3]; constructor <;> intro h <;> omega
    rw [if_neg h3]
    by_cases h4 : a.2.1 > b.2.1
    · rw [if_pos h4]; constructor <;> intro h <;> omega
    rw [if_neg h4]; constructor <;> intro h <;> omega
  have e3 : cmpD a b > 0 ∨ cmpD b c > 0 ∨ cmpD a c ≤ 0 := by
    rw [cmpD_cases, cmpD_cases, cmpD_cases]
    repeat' split
    all_goals omega
  rw [if_pos e1, e2]
  simp only [Option.bind_some, cond_true]
  by_cases h1 : cmpD a b > 0
  · rw [if_pos h1]
  · rw [if_neg h1]
    by_cases h2 : cmpD b c > 0
    · rw [if_pos h2]
    · rw [if_neg h2, if_pos (by omega)]
theorem dotRow_law : ∀ v : law04_DotRow_T.ps.V, okV law04_DotRow_T.ps v → law04_DotRow_T.fn v = some true := fun v _ => dotRow_t v.1 v.2.1 v.2.2.1
end Go.Proofs.YtekmegajjfapaaaDoor.Q
