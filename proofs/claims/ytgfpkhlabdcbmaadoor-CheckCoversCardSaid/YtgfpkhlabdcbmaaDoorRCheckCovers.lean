/- Proved: palinodelaw19.CheckCovers returns true for all arguments and leaves them as they are, where the listed package variables read as they are laid (the full card). -/
import Derived.Test.YtgfpkhlabdcbmaaDoorCards
import Derived.Test.YtgfpkhlabdcbmaaDoorTie
import Derived.Test.YtgfpkhlabdcbmaaDoorT14
import Derived.Test.YtgfpkhlabdcbmaaDoorQdb
set_option linter.unusedVariables false
namespace Go.Proofs.YtgfpkhlabdcbmaaDoor.RCheckCovers
open Go.EM Go.TY Go.Proofs Go.Proofs.YtgfpkhlabdcbmaaDoor.Y Go.Proofs.YtgfpkhlabdcbmaaDoor.Q
open Go.ChangeShapes Go.WideShapes Go.ChangeAt Go.RowKit
theorem own:ownKnob Tryd.prog.godebug=none:=by kernel_rfl
theorem flat_laid_unicode_utf8_acceptRanges:flatD Rows.laid_unicode_utf8_acceptRanges=some (tabAccept8):=by kernel_rfl
theorem flat_laid_unicode_utf8_first:flatD Rows.laid_unicode_utf8_first=some (tabFirst8):=by kernel_rfl
theorem globs {w:World} (h:laidMet Tryd.prog [("unicode/utf8.acceptRanges",Rows.laid_unicode_utf8_acceptRanges),("unicode/utf8.first",Rows.laid_unicode_utf8_first)] w):GlobOk G0 w O0 []:=by
 obtain ⟨ps,hl,_⟩:=h
 exact (globOk_cons (by kernel_rfl) (laid_rep hl "unicode/utf8.first" _ (by simp) 0 (((Tryd.prog.globals[0]?).map (·.type)).getD 0) 6 _ (by kernel_rfl) (by kernel_rfl) (by kernel_rfl) flat_laid_unicode_utf8_first (by kernel_rfl)) (globOk_cons (by kernel_rfl) (laid_rep hl "unicode/utf8.acceptRanges" _ (by simp) 1 (((Tryd.prog.globals[1]?).map (·.type)).getD 0) 6 _ (by kernel_rfl) (by kernel_rfl) (by kernel_rfl) flat_laid_unicode_utf8_acceptRanges (by kernel_rfl)) globOk_nil))
def lay (cs:Array Value):Obj→Obj
 | .cells _ t frozen=>.cells cs t frozen
 | o=>o
noncomputable def low:Nat:=(World.holding Tryd.prog default ⟨#[],#[],[]⟩).heap.size
set_option maxRecDepth 100000 in
noncomputable def laidWorld (os:Os):World :=
 let w0:=World.holding Tryd.prog os ⟨#[],#[],[]⟩
 { w0 with heap:=((w0.heap.modify 1 (lay #[.int .u8 128,.int .u8 191,.int .u8 160,.int .u8 191,.int .u8 128,.int .u8 159,.int .u8 144,.int .u8 191,.int .u8 128,.int .u8 143,.int .u8 0,.int .u8 0,.int .u8 0,.int .u8 0,.int .u8 0,.int .u8 0,.int .u8 0,.int .u8 0,.int .u8 0,.int .u8 0,.int .u8 0,.int .u8 0,.int .u8 0,.int .u8 0,.int .u8 0,.int .u8 0,.int .u8 0,.int .u8 0,.int .u8 0,.int .u8 0,.int .u8 0,.int .u8 0])).modify 0 (lay #[.int .u8 240,.int .u8 240,.int .u8 240,.int .u8 240,.int .u8 240,.int .u8 240,.int .u8 240,.int .u8 240,.int .u8 240,.int .u8 240,.int .u8 240,.int .u8 240,.int .u8 240,.int .u8 240,.int .u8 240,.int .u8 240,.int .u8 240,.int .u8 240,.int .u8 240,.int .u8 240,.int .u8 240,.int .u8 240,.int .u8 240,.int .u8 240,.int .u8 240,.int .u8 240,.int .u8 240,.int .u8 240,.int .u8 240,.int .u8 240,.int .u8 240,.int .u8 240,.int .u8 240,.int .u8 240,.int .u8 240,.int .u8 240,.int .u8 240,.int .u8 240,.int .u8 240,.int .u8 240,.int .u8 240,.int .u8 240,.int .u8 240,.int .u8 240,.int .u8 240,.int .u8 240,.int .u8 240,.int .u8 240,.int .u8 240,.int .u8 240,.int .u8 240,.int .u8 240,.int .u8 240,.int .u8 240,.int .u8 240,.int .u8 240,.int .u8 240,.int .u8 240,.int .u8 240,.int .u8 240,.int .u8 240,.int .u8 240,.int .u8 240,.int .u8 240,.int .u8 240,.int .u8 240,.int .u8 240,.int .u8 240,.int .u8 240,.int .u8 240,.int .u8 240,.int .u8 240,.int .u8 240,.int .u8 240,.int .u8 240,.int .u8 240,.int .u8 240,.int .u8 240,.int .u8 240,.int .u8 240,.int .u8 240,.int .u8 240,.int .u8 240,.int .u8 240,.int .u8 240,.int .u8 240,.int .u8 240,.int .u8 240,.int .u8 240,.int .u8 240,.int .u8 240,.int .u8 240,.int .u8 240,.int .u8 240,.int .u8 240,.int .u8 240,.int .u8 240,.int .u8 240,.int .u8 240,.int .u8 240,.int .u8 240,.int .u8 240,.int .u8 240,.int .u8 240,.int .u8 240,.int .u8 240,.int .u8 240,.int .u8 240,.int .u8 240,.int .u8 240,.int .u8 240,.int .u8 240,.int .u8 240,.int .u8 240,.int .u8 240,.int .u8 240,.int .u8 240,.int .u8 240,.int .u8 240,.int .u8 240,.int .u8 240,.int .u8 240,.int .u8 240,.int .u8 240,.int .u8 240,.int .u8 240,.int .u8 240,.int .u8 240,.int .u8 241,.int .u8 241,.int .u8 241,.int .u8 241,.int .u8 241,.int .u8 241,.int .u8 241,.int .u8 241,.int .u8 241,.int .u8 241,.int .u8 241,.int .u8 241,.int .u8 241,.int .u8 241,.int .u8 241,.int .u8 241,.int .u8 241,.int .u8 241,.int .u8 241,.int .u8 241,.int .u8 241,.int .u8 241,.int .u8 241,.int .u8 241,.int .u8 241,.int .u8 241,.int .u8 241,.int .u8 241,.int .u8 241,.int .u8 241,.int .u8 241,.int .u8 241,.int .u8 241,.int .u8 241,.int .u8 241,.int .u8 241,.int .u8 241,.int .u8 241,.int .u8 241,.int .u8 241,.int .u8 241,.int .u8 241,.int .u8 241,.int .u8 241,.int .u8 241,.int .u8 241,.int .u8 241,.int .u8 241,.int .u8 241,.int .u8 241,.int .u8 241,.int .u8 241,.int .u8 241,.int .u8 241,.int .u8 241,.int .u8 241,.int .u8 241,.int .u8 241,.int .u8 241,.int .u8 241,.int .u8 241,.int .u8 241,.int .u8 241,.int .u8 241,.int .u8 241,.int .u8 241,.int .u8 2,.int .u8 2,.int .u8 2,.int .u8 2,.int .u8 2,.int .u8 2,.int .u8 2,.int .u8 2,.int .u8 2,.int .u8 2,.int .u8 2,.int .u8 2,.int .u8 2,.int .u8 2,.int .u8 2,.int .u8 2,.int .u8 2,.int .u8 2,.int .u8 2,.int .u8 2,.int .u8 2,.int .u8 2,.int .u8 2,.int .u8 2,.int .u8 2,.int .u8 2,.int .u8 2,.int .u8 2,.int .u8 2,.int .u8 2,.int .u8 19,.int .u8 3,.int .u8 3,.int .u8 3,.int .u8 3,.int .u8 3,.int .u8 3,.int .u8 3,.int .u8 3,.int .u8 3,.int .u8 3,.int .u8 3,.int .u8 3,.int .u8 35,.int .u8 3,.int .u8 3,.int .u8 52,.int .u8 4,.int .u8 4,.int .u8 4,.int .u8 68,.int .u8 241,.int .u8 241,.int .u8 241,.int .u8 241,.int .u8 241,.int .u8 241,.int .u8 241,.int .u8 241,.int .u8 241,.int .u8 241,.int .u8 241])) }
noncomputable def noneV:Array Value := #[.slice none 0 0,.slice none 0 0,.agg #[.int .i64 0,.slice none 0 0,.int .i64 0,.int .i64 0,.string ⟨#[]⟩,.int .i64 0,.slice none 0 0]]
set_option maxRecDepth 100000 in
theorem laid_met (os:Os):laidMet Tryd.prog Rows.checkCoversRow.laid ((laidWorld os).forCall (fun _ _=>0) ⟨#[],noneV,[]⟩).memory :=
 laidMet_of_run' 8 (by kernel_rfl) (by kernel_rfl)
set_option maxRecDepth 100000 in
theorem reads (os:Os) {H:Type} (enc:TypeId×Value→H):∃ places,DataW.whole enc Tryd.prog ((laidWorld os).forCall (fun _ _=>0) ⟨#[],noneV,[]⟩).memory Tryd.f3.params.toList Rows.checkCoversSpec.vars false noneV.toList 8=some ([.nil,.nil,.agg [.lit (.int .i64 0),.nil,.agg [.lit (.int .i64 0),.lit (.int .i64 0),.lit (.string [])],.lit (.int .i64 0),.nil]],[],places) :=
 ⟨[],by kernel_rfl⟩
set_option maxRecDepth 100000 in
theorem contract (H:Type) (enc:TypeId×Value→H) (W:World) (base:Nat) (args:Array Value) (ds gs:List (DataW H)) (before:List MemPlace)
   (hval:∀ (j:Nat) t v,Tryd.f3.params[j]? = some t→args[j]? = some v→Value.okWide Tryd.prog W .any base t v)
   (hW:DataW.Whole enc Tryd.prog Tryd.f3.params.toList Rows.checkCoversSpec.vars false W args.toList ds gs before) (hL:laidMetH Tryd.prog Rows.checkCoversRow.laid W)
   (hcond:∀ k,(OpenSpec.ofChange Rows.checkCoversSpec).cond=some k→k H (ds++gs)=true) :
   Calls Tryd.prog 3 args W fun e W'=>∃ v,e = .returned v∧Rows.checkCoversSpec.post enc Tryd.prog Tryd.f3 false true false false W args v W':=by
 refine law_data (n:=16) (tB:=4) Y.zal_Fok Y.zal_ok (by rw[Tryd.params3]; kernel_rfl) rfl rfl Tryd.underlying4 rfl ?_ (by kernel_rfl) (by kernel_rfl) (by kernel_rfl) ?_ (globs hL) hval hW checkCovers_all
 · intro ds hd
   rw[Tryd.params3] at hd
   match ds,hd with
   | [d0,d1,d2],_=>rfl
 · intro t ht
   rw[Tryd.params3] at ht
   have hsz:Tryd.prog.types.size=152:=by kernel_rfl
   rw[hsz]
   revert ht
   revert t
   decide
set_option maxRecDepth 100000 in
theorem lifted (os:Os) (started:os.Started) (H:Type) (enc:TypeId×Value→H) (F:Stop.Interp) :
   ReturnsInHanded {} Tryd.checked os 3 .any ((OpenSpec.ofChange Rows.checkCoversSpec).preRow enc Tryd.prog Tryd.f3 Rows.checkCoversRow.domain false Rows.checkCoversRow.laid) (((OpenSpec.ofChange Rows.checkCoversSpec).at F).post enc Tryd.prog Tryd.f3 false true false false):=by
 obtain ⟨places,hx⟩:=reads os enc
 refine returnsInHanded_of_row (C:=Tryd.checked) (s:=(OpenSpec.ofChange Rows.checkCoversSpec)) own started (by kernel_rfl) Tryd.func3
   (witness_row_at (enc:=enc) (C:=Tryd.checked) false (laidWorld os) noneV rfl (by kernel_rfl) (by kernel_rfl) (by kernel_rfl)
     (OpenSpec.preRow_of_cond 8 hx (by kernel_rfl) (fun k hk=>by cases hk) (by kernel_rfl) (laid_met os))) ?_
 intro W base args ds gs before hval hW _ hcond _ hL _ _
 exact contract H enc W base args ds gs before hval hW hL hcond
theorem said:Rows.CheckCoversSaid :=
 OpenClaim.holds_of_cond 3 Tryd.f3 rfl rfl rfl rfl rfl rfl rfl ⟨rfl,rfl,rfl,rfl,rfl⟩ rfl rfl rfl rfl rfl (by kernel_rfl) Tryd.func3 (by kernel_rfl)
   (of_decide_eq_true (by kernel_rfl)) (by unfold Func.isWrapper; first | (rw[zp (by decide +kernel)]; kernel_rfl) | (rw[zn (by decide +kernel)]; exact ⟨rfl,rfl⟩))
   (fun os started H enc _ F=>by rw[OpenClaim.pre_eq_preRow]; exact lifted os started H enc F)
theorem plain (f:FuncId) (fn:Func) (hf:Tryd.pinned.checked.prog.funcNamed "palinode/palinodelaw19.CheckCovers" = some f) (hfn:Tryd.pinned.checked.prog.funcs[f]? = some fn) :
   false=Tryd.pinned.checked.prog.looks []∧∀ (j:Nat) t,fn.params[j]? = some t→Tryd.pinned.checked.prog.wantsStandIn t=false:=by
 obtain rfl:f=3:=Option.some.inj ((show Tryd.prog.funcNamed "palinode/palinodelaw19.CheckCovers" = some 3 by kernel_rfl).symm.trans hf) |>.symm
 obtain rfl:fn=Tryd.f3:=(Option.some.inj (Tryd.func3.symm.trans hfn)).symm
 refine ⟨by kernel_rfl,fun j t ht => ?_⟩
 rw[Tryd.params3] at ht
 have hm:=Array.mem_of_getElem? ht
 have hall:(#[22,23,29]:Array Nat).all (fun t => !Tryd.prog.wantsStandIn t)=true:=by kernel_rfl
 rw[Array.all_eq_true_iff_forall_mem] at hall
 have:=hall t hm
 have h2:Tryd.prog.wantsStandIn t=false:=by simpa using this
 exact h2
theorem card:Rows.CheckCoversCardSaid :=
 Claim7.holds_tied_plain_at .later [] _ _ _ _ said (fun _ h=>by cases h) (by kernel_rfl) (fun _ h=>by cases h) checkCovers_row_tie rfl ⟨rfl,rfl⟩ (by kernel_rfl) rfl plain (by kernel_rfl)
end Go.Proofs.YtgfpkhlabdcbmaaDoor.RCheckCovers
namespace Go.Proofs.YtgfpkhlabdcbmaaDoor
theorem checkCovers_holds:Rows.CheckCoversCardSaid:=RCheckCovers.card
end Go.Proofs.YtgfpkhlabdcbmaaDoor
