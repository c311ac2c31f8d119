/- Proved: palinodelaw14.RegBoth returns true for all arguments whose data are of bulk at most 1048576 and leaves them as they are (the second form). -/
import Derived.Test.YtcnhiodbnmploaaRows
import Derived.Test.YtcnhiodbnmploaaT14
import Derived.Test.YtcnhiodbnmploaaQh
set_option linter.unusedVariables false
namespace Go.Proofs.Ytcnhiodbnmploaa.RBot
open Go.EM Go.TY Go.Proofs Go.Proofs.Ytcnhiodbnmploaa.Y Go.Proofs.Ytcnhiodbnmploaa.Q
open Go.ChangeShapes Go.WideShapes Go.ChangeAt Go.RowKit
theorem bulk {H : Type} : Bulk (H := H) Rows.uptoBulk Rows.uptoBulkAll := ⟨fun b => Nat.le_refl _, fun l => by cases l <;> simp [Rows.uptoBulk], Nat.le_refl _, fun e s => by simp only [Rows.uptoBulk]; omega, fun p => by simp only [Rows.uptoBulk]; omega, fun d r => Nat.le_refl _⟩
theorem own : ownKnob Try.prog.godebug = none := by kernel_rfl

def lay (cs : Array Value) : Obj → Obj
  | .cells _ t frozen => .cells cs t frozen
  | o => o
noncomputable def low : Nat := (World.holding Try.prog default ⟨#[], #[], []⟩).heap.size
set_option maxRecDepth 100000 in
/-- A world for the witness. -/
noncomputable def laidWorld (os : Os) : World :=
  let w0 := World.holding Try.prog os ⟨#[], #[], []⟩
  { w0 with heap := w0.heap }
noncomputable def noneV : Array Value := #[.slice none 0 0]
set_option maxRecDepth 100000 in
theorem laid_met (os : Os) : laidMet Try.prog Rows.regBothUptoRow.laid ((laidWorld os).forCall (fun _ _ => 0) ⟨#[], noneV, []⟩).memory :=
  laidMet_of_run' 8 (by kernel_rfl) (by kernel_rfl)
set_option maxRecDepth 100000 in
theorem reads (os : Os) {H : Type} (enc : TypeId × Value → H) : ∃ places, DataW.whole enc Try.prog ((laidWorld os).forCall (fun _ _ => 0) ⟨#[], noneV, []⟩).memory Try.f4.params.toList Rows.regBothSpec.vars false noneV.toList 8 = some ([.nil], [], places) :=
  ⟨[], by kernel_rfl⟩
set_option maxRecDepth 100000 in
theorem contract (H : Type) (enc : TypeId × Value → H) (W : World) (base : Nat) (args : Array Value) (ds gs : List (DataW H)) (before : List MemPlace)
    (hval : ∀ (j : Nat) t v, Try.f4.params[j]? = some t → args[j]? = some v → Value.okWide Try.prog W .any base t v)
    (hW : DataW.Whole enc Try.prog Try.f4.params.toList Rows.regBothSpec.vars false W args.toList ds gs before) (hL : laidMetH Try.prog Rows.regBothUptoRow.laid W)
    (hcond : ∀ k, (Rows.OpenSpec.upto Rows.regBothSpec).cond = some k → k H (ds ++ gs) = true) :
    Calls Try.prog 4 args W fun e W' => ∃ v, e = .returned v ∧ Rows.regBothSpec.post enc Try.prog Try.f4 false true false false W args v W' := by
  refine law_dataB (n := 16) (tB := 4) Y.law14_RegBoth_Fok Y.law14_RegBoth_ok (by rw [Try.params4]; kernel_rfl) rfl rfl Try.underlying4 rfl ?_ (by kernel_rfl) (by kernel_rfl) (by kernel_rfl) ?_ (globOk_nil) hval hW (fun v h1 h2 h3 => regBoth_law v h1 (Nat.le_trans (h2 _ _ bulk) (by subst h3; simpa using of_decide_eq_true (hcond _ rfl))))
  · intro ds hd
    rw [Try.params4] at hd
    match ds, hd with
    | [d0], _ => rfl
  · intro t ht
    rw [Try.params4] at ht
    have hsz : Try.prog.types.size = 144 := by kernel_rfl
    rw [hsz]
    revert ht
    revert t
    decide
set_option maxRecDepth 100000 in
theorem lifted (os : Os) (started : os.Started) (H : Type) (enc : TypeId × Value → H) (F : Stop.Interp) :
    ReturnsInHanded {} Try.checked os 4 .any ((Rows.OpenSpec.upto Rows.regBothSpec).preRow enc Try.prog Try.f4 Rows.regBothUptoRow.domain false Rows.regBothUptoRow.laid) (((Rows.OpenSpec.upto Rows.regBothSpec).at F).post enc Try.prog Try.f4 false true false false) := by
  obtain ⟨places, hx⟩ := reads os enc
  refine returnsInHanded_of_row (C := Try.checked) (s := (Rows.OpenSpec.upto Rows.regBothSpec)) own started (by kernel_rfl) Try.func4
    (witness_row_at (enc := enc) (C := Try.checked) false (laidWorld os) noneV rfl (by kernel_rfl) (by kernel_rfl) (by kernel_rfl)
      (OpenSpec.preRow_of_cond 8 hx (by kernel_rfl) (fun k hk => by cases hk; kernel_rfl) (by kernel_rfl) (laid_met os))) ?_
  intro W base args ds gs before hval hW _ hcond _ hL _ _
  exact contract H enc W base args ds gs before hval hW hL hcond
theorem said : Rows.RegBothUptoSaid :=
  OpenClaim.holds_of_cond 4 Try.f4 rfl rfl rfl rfl rfl rfl rfl ⟨rfl, rfl, rfl, rfl, rfl⟩ rfl rfl rfl rfl rfl (by kernel_rfl) Try.func4 (by kernel_rfl)
    (of_decide_eq_true (by kernel_rfl)) (by unfold Func.isWrapper; first | (rw [if_pos (by decide +kernel)]; kernel_rfl) | (rw [if_neg (by decide +kernel)]; exact ⟨rfl, rfl⟩))
    (fun os started H enc _ F => by rw [OpenClaim.pre_eq_preRow]; exact lifted os started H enc F)
end Go.Proofs.Ytcnhiodbnmploaa.RBot
namespace Go.Proofs.Ytcnhiodbnmploaa
theorem regBothUpto_holds : Rows.RegBothUptoSaid := RBot.said
end Go.Proofs.Ytcnhiodbnmploaa
