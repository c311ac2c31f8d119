/- Proved: palinodelaw37.GlobQuotes returns true for every two texts and leaves them as they are, where what it reads is of bulk at most 1048576 and the listed tables of unicode/utf8 read as they are laid (the second form's card). -/
import Derived.Test.YtnafmjbakholcaaDoorR
import Derived.Test.YtnafmjbakholcaaDoorQ16
set_option linter.unusedVariables false
namespace Go.Proofs.YtnafmjbakholcaaDoor.RQuo
open Go.EM Go.TY Go.Proofs Go.Proofs.YtnafmjbakholcaaDoor.R Go.Proofs.YtnafmjbakholcaaDoor.Q
open Go.ChangeShapes Go.WideShapes Go.ChangeAt Go.RowKit
noncomputable def noneV : Array Value := #[.string ⟨#[]⟩, .string ⟨#[]⟩]
set_option maxRecDepth 100000 in
theorem laid_met (os : Os) : laidMet Tryd.prog Rows.globQuotesUptoRow.laid ((laidWorld os).forCall (fun _ _ => 0) ⟨#[], noneV, []⟩).memory :=
  laidMet_of_run' 8 (by kernel_rfl) (by kernel_rfl)
set_option maxRecDepth 100000 in
theorem reads (os : Os) {H : Type} (enc : TypeId × Value → H) : ∃ places, DataW.whole enc Tryd.prog ((laidWorld os).forCall (fun _ _ => 0) ⟨#[], noneV, []⟩).memory Tryd.f5.params.toList Rows.globQuotesSpec.vars false noneV.toList 8 = some ([.lit (.string []), .lit (.string [])], [], places) :=
  ⟨[], by kernel_rfl⟩
theorem contract (H : Type) (enc : TypeId × Value → H) (W : World) (base : Nat) (args : Array Value) (ds gs : List (DataW H)) (before : List MemPlace)
    (hval : ∀ (j : Nat) t v, Tryd.f5.params[j]? = some t → args[j]? = some v → Value.okWide Tryd.prog W .any base t v)
    (hW : DataW.Whole enc Tryd.prog Tryd.f5.params.toList Rows.globQuotesSpec.vars false W args.toList ds gs before) (hL : laidMetH Tryd.prog Rows.globQuotesUptoRow.laid W)
    (hcond : ∀ k, (Rows.OpenSpec.upto Rows.globQuotesSpec).cond = some k → k H (ds ++ gs) = true) :
    Calls Tryd.prog 5 args W fun e W' => ∃ v, e = .returned v ∧ Rows.globQuotesSpec.post enc Tryd.prog Tryd.f5 false true false false W args v W' := by
  refine law_strs (n := 2) (tS := 9) (tB := 4) L.law37_GlobQuotes_Fok (by rw [Tryd.params5]; rfl) Tryd.underlying9 rfl Tryd.underlying4 rfl ?_ (globs hL) hval hW ?_
  · intro ss hs
    match ss, hs with
    | [a, b], _ => rfl
  · intro ss hs hd hg
    subst hd; subst hg
    have hl := small_len (H := H) (ss := ss) (by simpa using hcond _ rfl)
    match ss, hs with
    | [a, b], _ => exact quotes_F (hl a (by simp)) (hl b (by simp))
set_option maxRecDepth 100000 in
theorem lifted (os : Os) (started : os.Started) (H : Type) (enc : TypeId × Value → H) (F : Stop.Interp) :
    ReturnsInHanded {} Tryd.checked os 5 .any ((Rows.OpenSpec.upto Rows.globQuotesSpec).preRow enc Tryd.prog Tryd.f5 Rows.globQuotesUptoRow.domain false Rows.globQuotesUptoRow.laid) (((Rows.OpenSpec.upto Rows.globQuotesSpec).at F).post enc Tryd.prog Tryd.f5 false true false false) := by
  obtain ⟨places, hx⟩ := reads os enc
  refine returnsInHanded_of_row (C := Tryd.checked) (s := (Rows.OpenSpec.upto Rows.globQuotesSpec)) own started (by kernel_rfl) Tryd.func5
    (witness_row_at (enc := enc) (C := Tryd.checked) false (laidWorld os) noneV rfl (by kernel_rfl) (by kernel_rfl) (by kernel_rfl)
      (OpenSpec.preRow_of_cond 8 hx (by kernel_rfl) (fun k hk => by cases hk; kernel_rfl) (by kernel_rfl) (laid_met os))) ?_
  intro W base args ds gs before hval hW _ hcond _ hL _ _
  exact contract H enc W base args ds gs before hval hW hL hcond
theorem said : Rows.GlobQuotesUptoSaid :=
  OpenClaim.holds_of_cond 5 Tryd.f5 rfl rfl rfl rfl rfl rfl rfl ⟨rfl, rfl, rfl, rfl, rfl⟩ rfl rfl rfl rfl rfl (by kernel_rfl) Tryd.func5 (by kernel_rfl)
    (of_decide_eq_true (by kernel_rfl)) (by unfold Func.isWrapper; first | (rw [if_pos (by decide +kernel)]; kernel_rfl) | (rw [if_neg (by decide +kernel)]; exact ⟨rfl, rfl⟩))
    (fun os started H enc _ F => by rw [OpenClaim.pre_eq_preRow]; exact lifted os started H enc F)
theorem plain (f : FuncId) (fn : Func) (hf : Tryd.pinned.checked.prog.funcNamed "palinode/palinodelaw37.GlobQuotes" = some f) (hfn : Tryd.pinned.checked.prog.funcs[f]? = some fn) :
    false = Tryd.pinned.checked.prog.looks [] ∧ ∀ (j : Nat) t, fn.params[j]? = some t → Tryd.pinned.checked.prog.wantsStandIn t = false := by
  obtain rfl : f = 5 := Option.some.inj ((show Tryd.prog.funcNamed "palinode/palinodelaw37.GlobQuotes" = some 5 by kernel_rfl).symm.trans hf) |>.symm
  obtain rfl : fn = Tryd.f5 := (Option.some.inj (Tryd.func5.symm.trans hfn)).symm
  refine ⟨by kernel_rfl, fun j t ht => ?_⟩
  rw [Tryd.params5] at ht
  obtain rfl : t = 9 := by simpa using Array.mem_of_getElem? ht
  exact (show Tryd.prog.wantsStandIn 9 = false by kernel_rfl)
theorem card : Rows.GlobQuotesUptoCardSaid :=
  Claim7.holds_tied_plain_at .later [] _ _ _ _ said (fun _ h => by cases h) (by kernel_rfl) (fun _ h => by cases h) globQuotesUpto_row_tie rfl ⟨rfl, rfl⟩ (by kernel_rfl) rfl plain (by kernel_rfl)
end Go.Proofs.YtnafmjbakholcaaDoor.RQuo
namespace Go.Proofs.YtnafmjbakholcaaDoor
theorem globQuotesUpto_holds : Rows.GlobQuotesUptoCardSaid := RQuo.card
end Go.Proofs.YtnafmjbakholcaaDoor
