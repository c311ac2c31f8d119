import Derived.Test.YtnafmjbakholcaaDoorCards
import Derived.Test.YtnafmjbakholcaaDoorTie
import Derived.Test.YtnafmjbakholcaaDoorT13
import Derived.Test.YtnafmjbakholcaaDoorQ11
set_option linter.unusedVariables false
namespace Go.Proofs.YtnafmjbakholcaaDoor.R
open Go.EM Go.TY Go.Proofs Go.Proofs.YtnafmjbakholcaaDoor.Y
open Go.ChangeShapes Go.WideShapes Go.ChangeAt Go.RowKit

theorem own : ownKnob Tryd.prog.godebug = none := by kernel_rfl
/-! ### the tables -/
theorem flat_first : flatD Rows.laid_unicode_utf8_first = some (tabFirst.map (AVal.int .u8)) := by kernel_rfl
theorem flat_accept : flatD Rows.laid_unicode_utf8_acceptRanges = some (tabAccept.flatMap fun p => [AVal.int .u8 p.1, AVal.int .u8 p.2.1]) := by kernel_rfl
theorem g_first : Tryd.prog.globalNamed "unicode/utf8.first" = some 0 := by kernel_rfl
theorem g_accept : Tryd.prog.globalNamed "unicode/utf8.acceptRanges" = some 1 := by kernel_rfl
theorem closed_pairs : closedL (tabAccept.flatMap fun p => [AVal.int .u8 p.1, AVal.int .u8 p.2.1]) = true := by kernel_rfl
theorem globs {w : World} (h : laidMet Tryd.prog [("unicode/utf8.acceptRanges", Rows.laid_unicode_utf8_acceptRanges), ("unicode/utf8.first", Rows.laid_unicode_utf8_first)] w) : GlobOk G0 w O0 [] := by
  obtain ⟨ps, hl, _⟩ := h
  exact globOk_cons closed_ints (laid_rep hl "unicode/utf8.first" _ (by simp) 0 (((Tryd.prog.globals[0]?).map (·.type)).getD 0) 4 _ g_first (by kernel_rfl) (by kernel_rfl) flat_first)
    (globOk_cons closed_pairs (laid_rep hl "unicode/utf8.acceptRanges" _ (by simp) 1 (((Tryd.prog.globals[1]?).map (·.type)).getD 0) 4 _ g_accept (by kernel_rfl) (by kernel_rfl) flat_accept) globOk_nil)
/-- A world for the witness. -/
def lay (cs : Array Value) : Obj → Obj
  | .cells _ t frozen => .cells cs t frozen
  | o => o
noncomputable def laidWorld (os : Os) : World :=
  { World.holding Tryd.prog os ⟨#[], #[], []⟩ with heap := ((World.holding Tryd.prog os ⟨#[], #[], []⟩).heap.modify 0 (lay (tabFirst.map (Value.int .u8)).toArray)).modify 1 (lay (tabAccept.flatMap fun p => [Value.int .u8 p.1, Value.int .u8 p.2.1]).toArray) }
noncomputable def none4 : Array Value := #[.string ⟨#[]⟩, .string ⟨#[]⟩, .string ⟨#[]⟩, .string ⟨#[]⟩]
set_option maxRecDepth 100000 in
theorem laid_met (os : Os) : laidMet Tryd.prog Rows.globJoinsUptoRow.laid ((laidWorld os).forCall (fun _ _ => 0) ⟨#[], none4, []⟩).memory :=
  laidMet_of_run' 8 (by kernel_rfl) (by kernel_rfl)
set_option maxRecDepth 100000 in
theorem reads (os : Os) {H : Type} (enc : TypeId × Value → H) : ∃ places, DataW.whole enc Tryd.prog ((laidWorld os).forCall (fun _ _ => 0) ⟨#[], none4, []⟩).memory Tryd.f4.params.toList Rows.globJoinsSpec.vars false none4.toList 8 = some ([.lit (.string []), .lit (.string []), .lit (.string []), .lit (.string [])], [], places) :=
  ⟨[], by kernel_rfl⟩
/-! ### GlobJoins -/
theorem bulk_len : ∀ (ss : List (List UInt8)) {H : Type}, (∀ s ∈ ss, s.length ≤ Rows.uptoBulkAll (strD (H := H) ss))
  | [], H => fun s hs => by cases hs
  | x :: ss, H => fun s hs => by
    simp only [strD, List.map_cons, Rows.uptoBulkAll, Rows.uptoBulk]
    rcases List.mem_cons.1 hs with rfl | hs
    · omega
    · have := bulk_len ss (H := H) s hs
      simp only [strD] at this
      omega
theorem small_len {ss : List (List UInt8)} {H : Type} (h : Rows.uptoSmall H (strD ss) = true) : ∀ s ∈ ss, s.length < 4294967295 := fun s hs => by
  have h1 := bulk_len ss (H := H) s hs
  have h2 : Rows.uptoBulkAll (strD (H := H) ss) ≤ 1048576 := of_decide_eq_true h
  omega
theorem joins_F {a b c d : List UInt8} (ha : a.length < 4294967295) (hb : b.length < 4294967295) (hc : c.length < 4294967295) (hd : d.length < 4294967295) : L.law37_GlobJoins_F [.str a, .str b, .str c, .str d] = some (.bool true) := by
  obtain ⟨r, h1, h2⟩ := L.law37_GlobJoins_ok.run (a, b, c, d, ()) true [.str a, .str b, .str c, .str d] (Q.joins_t ha hb hc hd) (by
    simp only [R, L.law37_GlobJoins_T]
    exact ⟨[.str a], [.str b, .str c, .str d], rfl, rfl, [.str b], [.str c, .str d], rfl, rfl, [.str c], [.str d], rfl, rfl, [.str d], [], rfl, rfl, rfl⟩)
  rw [h1, R_bool h2]
theorem contract (H : Type) (enc : TypeId × Value → H) (W : World) (base : Nat) (args : Array Value) (ds gs : List (DataW H)) (before : List MemPlace)
    (hval : ∀ (j : Nat) t v, Tryd.f4.params[j]? = some t → args[j]? = some v → Value.okWide Tryd.prog W .any base t v)
    (hW : DataW.Whole enc Tryd.prog Tryd.f4.params.toList Rows.globJoinsSpec.vars false W args.toList ds gs before) (hL : laidMetH Tryd.prog Rows.globJoinsUptoRow.laid W)
    (hcond : ∀ k, (Rows.OpenSpec.upto Rows.globJoinsSpec).cond = some k → k H (ds ++ gs) = true) :
    Calls Tryd.prog 4 args W fun e W' => ∃ v, e = .returned v ∧ Rows.globJoinsSpec.post enc Tryd.prog Tryd.f4 false true false false W args v W' := by
  refine law_strs (n := 4) (tS := 9) (tB := 4) L.law37_GlobJoins_Fok (by rw [Tryd.params4]; rfl) Tryd.underlying9 rfl Tryd.underlying4 rfl ?_ (globs hL) hval hW ?_
  · intro ss hs
    match ss, hs with
    | [a, b, c, d], _ => rfl
  · intro ss hs hd hg
    subst hd; subst hg
    have hl := small_len (H := H) (ss := ss) (by simpa using hcond _ rfl)
    match ss, hs with
    | [a, b, c, d], _ => exact joins_F (hl a (by simp)) (hl b (by simp)) (hl c (by simp)) (hl d (by simp))
set_option maxRecDepth 100000 in
theorem liftedUpto (os : Os) (started : os.Started) (H : Type) (enc : TypeId × Value → H) (F : Stop.Interp) :
    ReturnsInHanded {} Tryd.checked os 4 .any ((Rows.OpenSpec.upto Rows.globJoinsSpec).preRow enc Tryd.prog Tryd.f4 Rows.globJoinsUptoRow.domain false Rows.globJoinsUptoRow.laid) (((Rows.OpenSpec.upto Rows.globJoinsSpec).at F).post enc Tryd.prog Tryd.f4 false true false false) := by
  obtain ⟨places, hx⟩ := reads os enc
  refine returnsInHanded_of_row (C := Tryd.checked) (s := Rows.OpenSpec.upto Rows.globJoinsSpec) own started (by kernel_rfl) Tryd.func4
    (witness_row_at (enc := enc) (C := Tryd.checked) false (laidWorld os) none4 rfl (by kernel_rfl) (by kernel_rfl) (by kernel_rfl)
      (OpenSpec.preRow_of_cond 8 hx (by kernel_rfl) (fun k hk => by cases hk; kernel_rfl) (by kernel_rfl) (laid_met os))) ?_
  intro W base args ds gs before hval hW _ hcond _ hL _ _
  exact contract H enc W base args ds gs before hval hW hL hcond
theorem saidUpto : Rows.GlobJoinsUptoSaid :=
  OpenClaim.holds_of_cond 4 Tryd.f4 rfl rfl rfl rfl rfl rfl rfl ⟨rfl, rfl, rfl, rfl, rfl⟩ rfl rfl rfl rfl rfl (by kernel_rfl) Tryd.func4 (by kernel_rfl)
    (of_decide_eq_true (by kernel_rfl)) (by unfold Func.isWrapper; first | (rw [if_pos (by decide +kernel)]; kernel_rfl) | (rw [if_neg (by decide +kernel)]; exact ⟨rfl, rfl⟩))
    (fun os started H enc _ F => by rw [OpenClaim.pre_eq_preRow]; exact liftedUpto os started H enc F)
theorem plain (f : FuncId) (fn : Func) (hf : Tryd.pinned.checked.prog.funcNamed "palinode/palinodelaw37.GlobJoins" = some f) (hfn : Tryd.pinned.checked.prog.funcs[f]? = some fn) :
    false = Tryd.pinned.checked.prog.looks [] ∧ ∀ (j : Nat) t, fn.params[j]? = some t → Tryd.pinned.checked.prog.wantsStandIn t = false := by
  obtain rfl : f = 4 := Option.some.inj ((show Tryd.prog.funcNamed "palinode/palinodelaw37.GlobJoins" = some 4 by kernel_rfl).symm.trans hf) |>.symm
  obtain rfl : fn = Tryd.f4 := (Option.some.inj (Tryd.func4.symm.trans hfn)).symm
  refine ⟨by kernel_rfl, fun j t ht => ?_⟩
  rw [Tryd.params4] at ht
  obtain rfl : t = 9 := by simpa using Array.mem_of_getElem? ht
  exact (show Tryd.prog.wantsStandIn 9 = false by kernel_rfl)
theorem cardUpto : Rows.GlobJoinsUptoCardSaid :=
  Claim7.holds_tied_plain_at .later [] _ _ _ _ saidUpto (fun _ h => by cases h) (by kernel_rfl) (fun _ h => by cases h) globJoinsUpto_row_tie rfl ⟨rfl, rfl⟩ (by kernel_rfl) rfl plain (by kernel_rfl)
end Go.Proofs.YtnafmjbakholcaaDoor.R
namespace Go.Proofs.YtnafmjbakholcaaDoor
theorem globJoins_upto_holds : Rows.GlobJoinsUptoCardSaid := R.cardUpto
end Go.Proofs.YtnafmjbakholcaaDoor
