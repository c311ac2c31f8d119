/- Proved: palinodelaw43.WatchSums returns true for all arguments and leaves them as they are, where the listed package variables read as they are laid (the full card). -/
import Derived.Test.YtnbgkhdcidbkaaaGreatDoorCards
import Derived.Test.YtnbgkhdcidbkaaaGreatDoorTie
import Derived.Test.YtnbgkhdcidbkaaaGreatDoorT14
import Derived.Test.YtnbgkhdcidbkaaaGreatDoorQwe
set_option linter.unusedVariables false
namespace Go.Proofs.YtnbgkhdcidbkaaaGreatDoor.RWatchSums
open Go.EM Go.TY Go.Proofs Go.Proofs.YtnbgkhdcidbkaaaGreatDoor.Y Go.Proofs.YtnbgkhdcidbkaaaGreatDoor.Q
open Go.ChangeShapes Go.WideShapes Go.ChangeAt Go.RowKit
theorem own:ownKnob Tryz.prog.godebug=none:=by kernel_rfl
theorem flat_laid_unicode_utf8_acceptRanges:mU Rows.laid_unicode_utf8_acceptRanges=some (e9.flatMap fun p=>[AVal.int .u8 p.1,AVal.int .u8 p.2.1]):=by kernel_rfl
theorem flat_laid_unicode_utf8_first:mU Rows.laid_unicode_utf8_first=some (gC.map (AVal.int .u8)):=by kernel_rfl
theorem globs {w:World} (h:laidMet Tryz.prog [("unicode/utf8.acceptRanges",Rows.laid_unicode_utf8_acceptRanges),("unicode/utf8.first",Rows.laid_unicode_utf8_first)] w):b7 G0 w O0 []:=by
 obtain ⟨ps,hl,_⟩:=h
 exact (ajS ud (aeb hl "unicode/utf8.first" _ (by simp) 0 (((Tryz.prog.globals[0]?).map (·.type)).getD 0) 6 _ (by kernel_rfl) (by kernel_rfl) (by kernel_rfl) flat_laid_unicode_utf8_first (by kernel_rfl)) (ajS (by kernel_rfl) (aeb hl "unicode/utf8.acceptRanges" _ (by simp) 1 (((Tryz.prog.globals[1]?).map (·.type)).getD 0) 6 _ (by kernel_rfl) (by kernel_rfl) (by kernel_rfl) flat_laid_unicode_utf8_acceptRanges (by kernel_rfl)) ako))
def lay (cs:Array Value):Obj→Obj
 | .cells _ t frozen=>.cells cs t frozen
 | o=>o
noncomputable def low:Nat:=(World.holding Tryz.prog default ⟨#[],#[],[]⟩).heap.size
set_option maxRecDepth 100000 in
noncomputable def laidWorld (os:Os):World :=
 let w0:=World.holding Tryz.prog os ⟨#[],#[],[]⟩
 { w0 with heap:=((w0.heap.modify 1 (lay #[.int .u8 128,.int .u8 191,.int .u8 160,.int .u8 191,.int .u8 128,.int .u8 159,.int .u8 144,.int .u8 191,.int .u8 128,.int .u8 143,.int .u8 0,.int .u8 0,.int .u8 0,.int .u8 0,.int .u8 0,.int .u8 0,.int .u8 0,.int .u8 0,.int .u8 0,.int .u8 0,.int .u8 0,.int .u8 0,.int .u8 0,.int .u8 0,.int .u8 0,.int .u8 0,.int .u8 0,.int .u8 0,.int .u8 0,.int .u8 0,.int .u8 0,.int .u8 0])).modify 0 (lay #[.int .u8 240,.int .u8 240,.int .u8 240,.int .u8 240,.int .u8 240,.int .u8 240,.int .u8 240,.int .u8 240,.int .u8 240,.int .u8 240,.int .u8 240,.int .u8 240,.int .u8 240,.int .u8 240,.int .u8 240,.int .u8 240,.int .u8 240,.int .u8 240,.int .u8 240,.int .u8 240,.int .u8 240,.int .u8 240,.int .u8 240,.int .u8 240,.int .u8 240,.int .u8 240,.int .u8 240,.int .u8 240,.int .u8 240,.int .u8 240,.int .u8 240,.int .u8 240,.int .u8 240,.int .u8 240,.int .u8 240,.int .u8 240,.int .u8 240,.int .u8 240,.int .u8 240,.int .u8 240,.int .u8 240,.int .u8 240,.int .u8 240,.int .u8 240,.int .u8 240,.int .u8 240,.int .u8 240,.int .u8 240,.int .u8 240,.int .u8 240,.int .u8 240,.int .u8 240,.int .u8 240,.int .u8 240,.int .u8 240,.int .u8 240,.int .u8 240,.int .u8 240,.int .u8 240,.int .u8 240,.int .u8 240,.int .u8 240,.int .u8 240,.int .u8 240,.int .u8 240,.int .u8 240,.int .u8 240,.int .u8 240,.int .u8 240,.int .u8 240,.int .u8 240,.int .u8 240,.int .u8 240,.int .u8 240,.int .u8 240,.int .u8 240,.int .u8 240,.int .u8 240,.int .u8 240,.int .u8 240,.int .u8 240,.int .u8 240,.int .u8 240,.int .u8 240,.int .u8 240,.int .u8 240,.int .u8 240,.int .u8 240,.int .u8 240,.int .u8 240,.int .u8 240,.int .u8 240,.int .u8 240,.int .u8 240,.int .u8 240,.int .u8 240,.int .u8 240,.int .u8 240,.int .u8 240,.int .u8 240,.int .u8 240,.int .u8 240,.int .u8 240,.int .u8 240,.int .u8 240,.int .u8 240,.int .u8 240,.int .u8 240,.int .u8 240,.int .u8 240,.int .u8 240,.int .u8 240,.int .u8 240,.int .u8 240,.int .u8 240,.int .u8 240,.int .u8 240,.int .u8 240,.int .u8 240,.int .u8 240,.int .u8 240,.int .u8 240,.int .u8 240,.int .u8 240,.int .u8 240,.int .u8 240,.int .u8 240,.int .u8 240,.int .u8 241,.int .u8 241,.int .u8 241,.int .u8 241,.int .u8 241,.int .u8 241,.int .u8 241,.int .u8 241,.int .u8 241,.int .u8 241,.int .u8 241,.int .u8 241,.int .u8 241,.int .u8 241,.int .u8 241,.int .u8 241,.int .u8 241,.int .u8 241,.int .u8 241,.int .u8 241,.int .u8 241,.int .u8 241,.int .u8 241,.int .u8 241,.int .u8 241,.int .u8 241,.int .u8 241,.int .u8 241,.int .u8 241,.int .u8 241,.int .u8 241,.int .u8 241,.int .u8 241,.int .u8 241,.int .u8 241,.int .u8 241,.int .u8 241,.int .u8 241,.int .u8 241,.int .u8 241,.int .u8 241,.int .u8 241,.int .u8 241,.int .u8 241,.int .u8 241,.int .u8 241,.int .u8 241,.int .u8 241,.int .u8 241,.int .u8 241,.int .u8 241,.int .u8 241,.int .u8 241,.int .u8 241,.int .u8 241,.int .u8 241,.int .u8 241,.int .u8 241,.int .u8 241,.int .u8 241,.int .u8 241,.int .u8 241,.int .u8 241,.int .u8 241,.int .u8 241,.int .u8 241,.int .u8 2,.int .u8 2,.int .u8 2,.int .u8 2,.int .u8 2,.int .u8 2,.int .u8 2,.int .u8 2,.int .u8 2,.int .u8 2,.int .u8 2,.int .u8 2,.int .u8 2,.int .u8 2,.int .u8 2,.int .u8 2,.int .u8 2,.int .u8 2,.int .u8 2,.int .u8 2,.int .u8 2,.int .u8 2,.int .u8 2,.int .u8 2,.int .u8 2,.int .u8 2,.int .u8 2,.int .u8 2,.int .u8 2,.int .u8 2,.int .u8 19,.int .u8 3,.int .u8 3,.int .u8 3,.int .u8 3,.int .u8 3,.int .u8 3,.int .u8 3,.int .u8 3,.int .u8 3,.int .u8 3,.int .u8 3,.int .u8 3,.int .u8 35,.int .u8 3,.int .u8 3,.int .u8 52,.int .u8 4,.int .u8 4,.int .u8 4,.int .u8 68,.int .u8 241,.int .u8 241,.int .u8 241,.int .u8 241,.int .u8 241,.int .u8 241,.int .u8 241,.int .u8 241,.int .u8 241,.int .u8 241,.int .u8 241])) }
noncomputable def noneV:Array Value := #[.slice none 0 0,.slice none 0 0,.slice none 0 0]
set_option maxRecDepth 100000 in
theorem laid_met (os:Os):laidMet Tryz.prog Rows.watchSumsRow.laid ((laidWorld os).forCall (fun _ _=>0) ⟨#[],noneV,[]⟩).memory :=
 laidMet_of_run' 8 (by kernel_rfl) (by kernel_rfl)
set_option maxRecDepth 100000 in
theorem reads (os:Os) {H:Type} (enc:TypeId×Value→H):∃ places,DataW.whole enc Tryz.prog ((laidWorld os).forCall (fun _ _=>0) ⟨#[],noneV,[]⟩).memory Tryz.f5.params.toList Rows.watchSumsSpec.vars false noneV.toList 8=some ([.nil,.nil,.nil],[],places) :=
 ⟨[],by kernel_rfl⟩
set_option maxRecDepth 100000 in
theorem contract (H:Type) (enc:TypeId×Value→H) (W:World) (base:Nat) (args:Array Value) (ds gs:List (DataW H)) (before:List MemPlace)
   (hval:∀ (j:Nat) t v,Tryz.f5.params[j]? = some t→args[j]? = some v→Value.okWide Tryz.prog W .any base t v)
   (hW:DataW.Whole enc Tryz.prog Tryz.f5.params.toList Rows.watchSumsSpec.vars false W args.toList ds gs before) (hL:laidMetH Tryz.prog Rows.watchSumsRow.laid W)
   (hcond:∀ k,(OpenSpec.ofChange Rows.watchSumsSpec).cond=some k→k H (ds++gs)=true) :
   Calls Tryz.prog 5 args W fun e W'=>∃ v,e = .returned v∧Rows.watchSumsSpec.post enc Tryz.prog Tryz.f5 false true false false W args v W':=by
 refine aqV (n:=16) (tB:=4) Y.za5_Fok Y.za5_ok (by rw[Tryz.params5]; kernel_rfl) rfl rfl Tryz.underlying4 rfl ?_ (by kernel_rfl) (by kernel_rfl) (by kernel_rfl) ?_ (globs hL) hval hW adr
 · intro ds hd
   rw[Tryz.params5] at hd
   match ds,hd with
   | [d0,d1,d2],_=>rfl
 · intro t ht
   rw[Tryz.params5] at ht
   have hsz:Tryz.prog.types.size=414:=by kernel_rfl
   rw[hsz]
   revert ht
   revert t
   decide
set_option maxRecDepth 100000 in
theorem lifted (os:Os) (started:os.Started) (H:Type) (enc:TypeId×Value→H) (F:Stop.Interp) :
   ReturnsInHanded {} Tryz.checked os 5 .any ((OpenSpec.ofChange Rows.watchSumsSpec).preRow enc Tryz.prog Tryz.f5 Rows.watchSumsRow.domain false Rows.watchSumsRow.laid) (((OpenSpec.ofChange Rows.watchSumsSpec).at F).post enc Tryz.prog Tryz.f5 false true false false):=by
 obtain ⟨places,hx⟩:=reads os enc
 refine returnsInHanded_of_row (C:=Tryz.checked) (s:=(OpenSpec.ofChange Rows.watchSumsSpec)) own started (by kernel_rfl) Tryz.func5
   (witness_row_at (enc:=enc) (C:=Tryz.checked) false (laidWorld os) noneV rfl (by kernel_rfl) (by kernel_rfl) (by kernel_rfl)
     (OpenSpec.preRow_of_cond 8 hx (by kernel_rfl) (fun k hk=>by cases hk) (by kernel_rfl) (laid_met os))) ?_
 intro W base args ds gs before hval hW _ hcond _ hL _ _
 exact contract H enc W base args ds gs before hval hW hL hcond
theorem and_ok {a b:Bool} (h1:a=true) (h2:b=true):(a&&b)=true:=by rw[h1,h2]; rfl
set_option maxRecDepth 100000
set_option maxHeartbeats 16000000
theorem closed:joinedFacts Tryz.pinned.checked.prog 5 Tryz.f5 ((OpenSpec.ofChange Rows.watchSumsSpec)).bare Rows.watchSumsRow=true:=by
 unfold joinedFacts
 repeat' (with_reducible apply and_ok)
 all_goals as_aux_lemma=>kernel_rfl
theorem kname:Tryz.pinned.checked.prog.funcNamed Rows.watchSumsRow.func=some 5:=by kernel_rfl
theorem kinst:Tryz.f5.isInstance Tryz.pinned.checked.prog Rows.watchSumsRow.origin Rows.watchSumsRow.targs:=of_decide_eq_true (by kernel_rfl)
theorem kwrap:Tryz.f5.isWrapper Tryz.pinned.checked.prog Rows.watchSumsRow.wrapper Rows.watchSumsRow.mainSum:=by unfold Func.isWrapper; first | (rw[zp (by decide +kernel)]; kernel_rfl) | (rw[zn (by decide +kernel)]; exact ⟨rfl,rfl⟩)
theorem said:Rows.WatchSumsSaid :=
 OpenClaim.holds_of_cond 5 Tryz.f5 rfl rfl rfl rfl rfl rfl rfl ⟨rfl,rfl,rfl,rfl,rfl⟩ rfl rfl rfl rfl rfl kname Tryz.func5 closed kinst kwrap
   (fun os started H enc _ F=>by rw[OpenClaim.pre_eq_preRow]; exact lifted os started H enc F)
theorem klooks:true=Tryz.pinned.checked.prog.looks []:=by kernel_rfl
theorem plain (f:FuncId) (fn:Func) (hf:Tryz.pinned.checked.prog.funcNamed "palinode/palinodelaw43.WatchSums" = some f) (hfn:Tryz.pinned.checked.prog.funcs[f]? = some fn) :
   true=Tryz.pinned.checked.prog.looks []∧∀ (j:Nat) t,fn.params[j]? = some t→Tryz.pinned.checked.prog.wantsStandIn t=false:=by
 obtain rfl:f=5:=Option.some.inj ((show Tryz.prog.funcNamed "palinode/palinodelaw43.WatchSums" = some 5 by kernel_rfl).symm.trans hf) |>.symm
 obtain rfl:fn=Tryz.f5:=(Option.some.inj (Tryz.func5.symm.trans hfn)).symm
 refine ⟨klooks,fun j t ht => ?_⟩
 rw[Tryz.params5] at ht
 have hm:=Array.mem_of_getElem? ht
 have hall:(#[22,23,24]:Array Nat).all (fun t => !Tryz.prog.wantsStandIn t)=true:=by kernel_rfl
 rw[Array.all_eq_true_iff_forall_mem] at hall
 have:=hall t hm
 have h2:Tryz.prog.wantsStandIn t=false:=by simpa using this
 exact h2
theorem kwf:Rows.watchSumsRow.wfByText (OpenSpec.ofChange Rows.watchSumsSpec)=true:=by kernel_rfl
theorem kmain:Tryz.pinned.checked.prog.mainIs=some ((true, "96d902fe3258a66071437f1362e908dc5f3a2f4cb4d039f3c713b7647618fe73").1,(true, "96d902fe3258a66071437f1362e908dc5f3a2f4cb4d039f3c713b7647618fe73").2.toList):=by kernel_rfl
theorem kgoes:false=Rows.watchSumsRow.goesBy Tryz.pinned.checked.prog:=by kernel_rfl
theorem card:Rows.WatchSumsCardSaid :=
 Claim7.holds_tied_plain_at .later [] _ _ _ _ said (fun _ h=>by cases h) kwf (fun _ h=>by cases h) watchSums_row_tie rfl ⟨rfl,rfl⟩ kmain rfl plain kgoes
end Go.Proofs.YtnbgkhdcidbkaaaGreatDoor.RWatchSums
namespace Go.Proofs.YtnbgkhdcidbkaaaGreatDoor
theorem watchSums_holds:Rows.WatchSumsCardSaid:=RWatchSums.card
end Go.Proofs.YtnbgkhdcidbkaaaGreatDoor
