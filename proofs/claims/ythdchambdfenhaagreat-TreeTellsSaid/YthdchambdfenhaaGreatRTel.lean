/- Proved: palinodelaw17.TreeTells returns true for all arguments and leaves them as they are (no conditions but the given row's). -/
import Derived.Test.YthdchambdfenhaaGreatRows
import Derived.Test.YthdchambdfenhaaGreatT14
import Derived.Test.YthdchambdfenhaaGreatQv
set_option linter.unusedVariables false
namespace Go.Proofs.YthdchambdfenhaaGreat.RTel
open Go.EM Go.TY Go.Proofs Go.Proofs.YthdchambdfenhaaGreat.Y Go.Proofs.YthdchambdfenhaaGreat.Q
open Go.ChangeShapes Go.WideShapes Go.ChangeAt Go.RowKit
theorem own : ownKnob Tryz.prog.godebug = none := by kernel_rfl

def lay (cs : Array Value) : Obj → Obj
  | .cells _ t frozen => .cells cs t frozen
  | o => o
noncomputable def low : Nat := (World.holding Tryz.prog default ⟨#[], #[], []⟩).heap.size
set_option maxRecDepth 100000 in
/-- A world for the witness. -/
noncomputable def laidWorld (os : Os) : World :=
  let w0 := World.holding Tryz.prog os ⟨#[], #[], []⟩
  { w0 with heap := w0.heap }
noncomputable def noneV : Array Value := #[.slice none 0 0, .slice none 0 0, .slice none 0 0]
set_option maxRecDepth 100000 in
theorem laid_met (os : Os) : laidMet Tryz.prog Rows.treeTellsRow.laid ((laidWorld os).forCall (fun _ _ => 0) ⟨#[], noneV, []⟩).memory :=
  laidMet_of_run' 8 (by kernel_rfl) (by kernel_rfl)
set_option maxRecDepth 100000 in
theorem reads (os : Os) {H : Type} (enc : TypeId × Value → H) : ∃ places, DataW.whole enc Tryz.prog ((laidWorld os).forCall (fun _ _ => 0) ⟨#[], noneV, []⟩).memory Tryz.f3.params.toList Rows.treeTellsSpec.vars false noneV.toList 8 = some ([.nil, .nil, .nil], [], places) :=
  ⟨[], by kernel_rfl⟩
set_option maxRecDepth 100000 in
theorem contract (H : Type) (enc : TypeId × Value → H) (W : World) (base : Nat) (args : Array Value) (ds gs : List (DataW H)) (before : List MemPlace)
    (hval : ∀ (j : Nat) t v, Tryz.f3.params[j]? = some t → args[j]? = some v → Value.okWide Tryz.prog W .any base t v)
    (hW : DataW.Whole enc Tryz.prog Tryz.f3.params.toList Rows.treeTellsSpec.vars false W args.toList ds gs before) (hL : laidMetH Tryz.prog Rows.treeTellsRow.laid W)
    (hcond : ∀ k, (OpenSpec.ofChange Rows.treeTellsSpec).cond = some k → k H (ds ++ gs) = true) :
    Calls Tryz.prog 3 args W fun e W' => ∃ v, e = .returned v ∧ Rows.treeTellsSpec.post enc Tryz.prog Tryz.f3 false true false false W args v W' := by
  refine law_data (n := 16) (tB := 4) Y.law17_TreeTells_Fok Y.law17_TreeTells_ok (by rw [Tryz.params3]; kernel_rfl) rfl rfl Tryz.underlying4 rfl ?_ (by kernel_rfl) (by kernel_rfl) (by kernel_rfl) ?_ (globOk_nil) hval hW treeTells_law
  · intro ds hd
    rw [Tryz.params3] at hd
    match ds, hd with
    | [d0, d1, d2], _ => rfl
  · intro t ht
    rw [Tryz.params3] at ht
    have hsz : Tryz.prog.types.size = 157 := by kernel_rfl
    rw [hsz]
    revert ht
    revert t
    decide
set_option maxRecDepth 100000 in
theorem lifted (os : Os) (started : os.Started) (H : Type) (enc : TypeId × Value → H) (F : Stop.Interp) :
    ReturnsInHanded {} Tryz.checked os 3 .any ((OpenSpec.ofChange Rows.treeTellsSpec).preRow enc Tryz.prog Tryz.f3 Rows.treeTellsRow.domain false Rows.treeTellsRow.laid) (((OpenSpec.ofChange Rows.treeTellsSpec).at F).post enc Tryz.prog Tryz.f3 false true false false) := by
  obtain ⟨places, hx⟩ := reads os enc
  refine returnsInHanded_of_row (C := Tryz.checked) (s := (OpenSpec.ofChange Rows.treeTellsSpec)) own started (by kernel_rfl) Tryz.func3
    (witness_row_at (enc := enc) (C := Tryz.checked) false (laidWorld os) noneV rfl (by kernel_rfl) (by kernel_rfl) (by kernel_rfl)
      (OpenSpec.preRow_of_cond 8 hx (by kernel_rfl) (fun k hk => by cases hk) (by kernel_rfl) (laid_met os))) ?_
  intro W base args ds gs before hval hW _ hcond _ hL _ _
  exact contract H enc W base args ds gs before hval hW hL hcond
theorem said : Rows.TreeTellsSaid :=
  OpenClaim.holds_of_cond 3 Tryz.f3 rfl rfl rfl rfl rfl rfl rfl ⟨rfl, rfl, rfl, rfl, rfl⟩ rfl rfl rfl rfl rfl (by kernel_rfl) Tryz.func3 (by kernel_rfl)
    (of_decide_eq_true (by kernel_rfl)) (by unfold Func.isWrapper; first | (rw [if_pos (by decide +kernel)]; kernel_rfl) | (rw [if_neg (by decide +kernel)]; exact ⟨rfl, rfl⟩))
    (fun os started H enc _ F => by rw [OpenClaim.pre_eq_preRow]; exact lifted os started H enc F)
end Go.Proofs.YthdchambdfenhaaGreat.RTel
namespace Go.Proofs.YthdchambdfenhaaGreat
theorem treeTells_holds : Rows.TreeTellsSaid := RTel.said
end Go.Proofs.YthdchambdfenhaaGreat
