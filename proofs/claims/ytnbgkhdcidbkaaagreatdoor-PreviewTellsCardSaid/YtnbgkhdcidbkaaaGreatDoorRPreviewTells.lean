/- Proved: palinodelaw40.PreviewTells returns true for all arguments and leaves them as they are, where the listed package variables read as they are laid (the full card). -/
import Derived.Test.YtnbgkhdcidbkaaaGreatDoorCards
import Derived.Test.YtnbgkhdcidbkaaaGreatDoorTie
import Derived.Test.YtnbgkhdcidbkaaaGreatDoorT14
import Derived.Test.YtnbgkhdcidbkaaaGreatDoorQph
set_option linter.unusedVariables false
namespace Go.Proofs.YtnbgkhdcidbkaaaGreatDoor.RPreviewTells
open Go.EM Go.TY Go.Proofs Go.Proofs.YtnbgkhdcidbkaaaGreatDoor.Y Go.Proofs.YtnbgkhdcidbkaaaGreatDoor.Q
open Go.ChangeShapes Go.WideShapes Go.ChangeAt Go.RowKit
theorem own:ownKnob Tryz.prog.godebug=none:=by kernel_rfl
theorem flat_laid_internal_strconv_uint64pow10:od Rows.laid_internal_strconv_uint64pow10=some (Lib.pow10Tab.map (AVal.int .u64)):=by kernel_rfl
theorem globs {w:World} (h:laidMet Tryz.prog [("math/bits.deBruijn32tab",Rows.laid_math_bits_deBruijn32tab),("math/bits.deBruijn64tab",Rows.laid_math_bits_deBruijn64tab),("internal/strconv.uint64pow10",Rows.laid_internal_strconv_uint64pow10)] w):ch G0 w O0 []:=by
 obtain ⟨ps,hl,_⟩:=h
 exact (arT wz (ais hl "internal/strconv.uint64pow10" _ (by simp) 3 (((Tryz.prog.globals[3]?).map (·.type)).getD 0) 6 _ (by kernel_rfl) (by kernel_rfl) (by kernel_rfl) flat_laid_internal_strconv_uint64pow10 (by kernel_rfl)) asm)
def lay (cs:Array Value):Obj→Obj
 | .cells _ t frozen=>.cells cs t frozen
 | o=>o
noncomputable def low:Nat:=(World.holding Tryz.prog default ⟨#[],#[],[]⟩).heap.size
set_option maxRecDepth 100000 in
noncomputable def laidWorld (os:Os):World :=
 let w0:=World.holding Tryz.prog os ⟨#[],#[],[]⟩
 { w0 with heap:=(((w0.heap.modify 4 (lay #[.int .u8 0,.int .u8 1,.int .u8 28,.int .u8 2,.int .u8 29,.int .u8 14,.int .u8 24,.int .u8 3,.int .u8 30,.int .u8 22,.int .u8 20,.int .u8 15,.int .u8 25,.int .u8 17,.int .u8 4,.int .u8 8,.int .u8 31,.int .u8 27,.int .u8 13,.int .u8 23,.int .u8 21,.int .u8 19,.int .u8 16,.int .u8 7,.int .u8 26,.int .u8 12,.int .u8 18,.int .u8 6,.int .u8 11,.int .u8 5,.int .u8 10,.int .u8 9])).modify 5 (lay #[.int .u8 0,.int .u8 1,.int .u8 56,.int .u8 2,.int .u8 57,.int .u8 49,.int .u8 28,.int .u8 3,.int .u8 61,.int .u8 58,.int .u8 42,.int .u8 50,.int .u8 38,.int .u8 29,.int .u8 17,.int .u8 4,.int .u8 62,.int .u8 47,.int .u8 59,.int .u8 36,.int .u8 45,.int .u8 43,.int .u8 51,.int .u8 22,.int .u8 53,.int .u8 39,.int .u8 33,.int .u8 30,.int .u8 24,.int .u8 18,.int .u8 12,.int .u8 5,.int .u8 63,.int .u8 55,.int .u8 48,.int .u8 27,.int .u8 60,.int .u8 41,.int .u8 37,.int .u8 16,.int .u8 46,.int .u8 35,.int .u8 44,.int .u8 21,.int .u8 52,.int .u8 32,.int .u8 23,.int .u8 11,.int .u8 54,.int .u8 26,.int .u8 40,.int .u8 15,.int .u8 34,.int .u8 20,.int .u8 31,.int .u8 10,.int .u8 25,.int .u8 14,.int .u8 19,.int .u8 9,.int .u8 13,.int .u8 8,.int .u8 7,.int .u8 6])).modify 3 (lay #[.int .u64 1,.int .u64 10,.int .u64 100,.int .u64 1000,.int .u64 10000,.int .u64 100000,.int .u64 1000000,.int .u64 10000000,.int .u64 100000000,.int .u64 1000000000,.int .u64 10000000000,.int .u64 100000000000,.int .u64 1000000000000,.int .u64 10000000000000,.int .u64 100000000000000,.int .u64 1000000000000000,.int .u64 10000000000000000,.int .u64 100000000000000000,.int .u64 1000000000000000000,.int .u64 10000000000000000000])) }
noncomputable def noneV:Array Value := #[.agg #[.slice none 0 0,.slice none 0 0,.int .i64 0,.int .i64 0,.int .i64 0,.int .i64 0,.int .i64 0,.int .i64 0,.int .i64 0,.int .i64 0,.int .i64 0,.int .i64 0,.int .i64 0,.int .i64 0,.int .i64 0,.int .i64 0,.int .i64 0,.int .i64 0,.slice none 0 0,.int .i64 0,.int .i64 0,.int .i64 0,.int .i64 0,.int .i64 0,.int .i64 0,.int .i64 0,.int .i64 0,.int .i64 0,.int .i64 0,.int .i64 0,.int .i64 0,.int .i64 0,.int .i64 0,.int .i64 0,.int .i64 0,.slice none 0 0,.slice none 0 0,.slice none 0 0,.slice none 0 0,.slice none 0 0,.slice none 0 0,.slice none 0 0,.slice none 0 0,.slice none 0 0],.agg #[.int .i64 0,.int .i64 0],.bool false]
set_option maxRecDepth 100000 in
theorem laid_met (os:Os):laidMet Tryz.prog Rows.previewTellsRow.laid ((laidWorld os).forCall (fun _ _=>0) ⟨#[],noneV,[]⟩).memory :=
 laidMet_of_run' 8 (by kernel_rfl) (by kernel_rfl)
set_option maxRecDepth 100000 in
theorem reads (os:Os) {H:Type} (enc:TypeId×Value→H):∃ places,DataW.whole enc Tryz.prog ((laidWorld os).forCall (fun _ _=>0) ⟨#[],noneV,[]⟩).memory Tryz.f11.params.toList Rows.previewTellsSpec.vars false noneV.toList 8=some ([.agg [.nil,.nil,.agg [.agg [.lit (.int .i64 0),.lit (.int .i64 0),.lit (.int .i64 0),.lit (.int .i64 0),.lit (.int .i64 0),.lit (.int .i64 0),.lit (.int .i64 0),.lit (.int .i64 0),.lit (.int .i64 0),.lit (.int .i64 0),.lit (.int .i64 0),.lit (.int .i64 0),.lit (.int .i64 0),.lit (.int .i64 0),.lit (.int .i64 0),.lit (.int .i64 0)],.nil],.agg [.agg [.lit (.int .i64 0),.lit (.int .i64 0),.lit (.int .i64 0),.lit (.int .i64 0),.lit (.int .i64 0),.lit (.int .i64 0),.lit (.int .i64 0),.lit (.int .i64 0),.lit (.int .i64 0),.lit (.int .i64 0),.lit (.int .i64 0),.lit (.int .i64 0),.lit (.int .i64 0),.lit (.int .i64 0),.lit (.int .i64 0),.lit (.int .i64 0)],.nil],.agg [.nil,.nil,.nil,.nil,.nil,.nil,.nil,.nil]],.agg [.lit (.int .i64 0),.lit (.int .i64 0)],.lit (.bool false)],[],places) :=
 ⟨[],by kernel_rfl⟩
set_option maxRecDepth 100000 in
theorem contract (H:Type) (enc:TypeId×Value→H) (W:World) (base:Nat) (args:Array Value) (ds gs:List (DataW H)) (before:List MemPlace)
   (hval:∀ (j:Nat) t v,Tryz.f11.params[j]? = some t→args[j]? = some v→Value.okWide Tryz.prog W .any base t v)
   (hW:DataW.Whole enc Tryz.prog Tryz.f11.params.toList Rows.previewTellsSpec.vars false W args.toList ds gs before) (hL:laidMetH Tryz.prog Rows.previewTellsRow.laid W)
   (hcond:∀ k,(OpenSpec.ofChange Rows.previewTellsSpec).cond=some k→k H (ds++gs)=true) :
   Calls Tryz.prog 11 args W fun e W'=>∃ v,e = .returned v∧Rows.previewTellsSpec.post enc Tryz.prog Tryz.f11 false true false false W args v W':=by
 refine aDA (n:=16) (tB:=4) Y.zba_Fok Y.zba_ok (by rw[Tryz.params11]; kernel_rfl) rfl rfl Tryz.underlying4 rfl ?_ (by kernel_rfl) (by kernel_rfl) (by kernel_rfl) ?_ (globs hL) hval hW abt
 · intro ds hd
   rw[Tryz.params11] at hd
   match ds,hd with
   | [d0,d1,d2],_=>rfl
 · intro t ht
   rw[Tryz.params11] at ht
   have hsz:Tryz.prog.types.size=414:=by kernel_rfl
   rw[hsz]
   revert ht
   revert t
   decide
set_option maxRecDepth 100000 in
theorem lifted (os:Os) (started:os.Started) (H:Type) (enc:TypeId×Value→H) (F:Stop.Interp) :
   ReturnsInHanded {} Tryz.checked os 11 .any ((OpenSpec.ofChange Rows.previewTellsSpec).preRow enc Tryz.prog Tryz.f11 Rows.previewTellsRow.domain false Rows.previewTellsRow.laid) (((OpenSpec.ofChange Rows.previewTellsSpec).at F).post enc Tryz.prog Tryz.f11 false true false false):=by
 obtain ⟨places,hx⟩:=reads os enc
 refine returnsInHanded_of_row (C:=Tryz.checked) (s:=(OpenSpec.ofChange Rows.previewTellsSpec)) own started (by kernel_rfl) Tryz.func11
   (witness_row_at (enc:=enc) (C:=Tryz.checked) false (laidWorld os) noneV rfl (by kernel_rfl) (by kernel_rfl) (by kernel_rfl)
     (OpenSpec.preRow_of_cond 8 hx (by kernel_rfl) (fun k hk=>by cases hk) (by kernel_rfl) (laid_met os))) ?_
 intro W base args ds gs before hval hW _ hcond _ hL _ _
 exact contract H enc W base args ds gs before hval hW hL hcond
theorem and_ok {a b:Bool} (h1:a=true) (h2:b=true):(a&&b)=true:=by rw[h1,h2]; rfl
set_option maxRecDepth 100000
set_option maxHeartbeats 16000000
theorem closed:joinedFacts Tryz.pinned.checked.prog 11 Tryz.f11 ((OpenSpec.ofChange Rows.previewTellsSpec)).bare Rows.previewTellsRow=true:=by
 unfold joinedFacts
 repeat' (with_reducible apply and_ok)
 all_goals as_aux_lemma=>kernel_rfl
theorem kname:Tryz.pinned.checked.prog.funcNamed Rows.previewTellsRow.func=some 11:=by kernel_rfl
theorem kinst:Tryz.f11.isInstance Tryz.pinned.checked.prog Rows.previewTellsRow.origin Rows.previewTellsRow.targs:=of_decide_eq_true (by kernel_rfl)
theorem kwrap:Tryz.f11.isWrapper Tryz.pinned.checked.prog Rows.previewTellsRow.wrapper Rows.previewTellsRow.mainSum:=by unfold Func.isWrapper; first | (rw[zp (by decide +kernel)]; kernel_rfl) | (rw[zn (by decide +kernel)]; exact ⟨rfl,rfl⟩)
theorem said:Rows.PreviewTellsSaid :=
 OpenClaim.holds_of_cond 11 Tryz.f11 rfl rfl rfl rfl rfl rfl rfl ⟨rfl,rfl,rfl,rfl,rfl⟩ rfl rfl rfl rfl rfl kname Tryz.func11 closed kinst kwrap
   (fun os started H enc _ F=>by rw[OpenClaim.pre_eq_preRow]; exact lifted os started H enc F)
theorem klooks:true=Tryz.pinned.checked.prog.looks []:=by kernel_rfl
theorem plain (f:FuncId) (fn:Func) (hf:Tryz.pinned.checked.prog.funcNamed "palinode/palinodelaw40.PreviewTells" = some f) (hfn:Tryz.pinned.checked.prog.funcs[f]? = some fn) :
   true=Tryz.pinned.checked.prog.looks []∧∀ (j:Nat) t,fn.params[j]? = some t→Tryz.pinned.checked.prog.wantsStandIn t=false:=by
 obtain rfl:f=11:=Option.some.inj ((show Tryz.prog.funcNamed "palinode/palinodelaw40.PreviewTells" = some 11 by kernel_rfl).symm.trans hf) |>.symm
 obtain rfl:fn=Tryz.f11:=(Option.some.inj (Tryz.func11.symm.trans hfn)).symm
 refine ⟨klooks,fun j t ht => ?_⟩
 rw[Tryz.params11] at ht
 have hm:=Array.mem_of_getElem? ht
 have hall:(#[69,72,4]:Array Nat).all (fun t => !Tryz.prog.wantsStandIn t)=true:=by kernel_rfl
 rw[Array.all_eq_true_iff_forall_mem] at hall
 have:=hall t hm
 have h2:Tryz.prog.wantsStandIn t=false:=by simpa using this
 exact h2
theorem kwf:Rows.previewTellsRow.wfByText (OpenSpec.ofChange Rows.previewTellsSpec)=true:=by kernel_rfl
theorem kmain:Tryz.pinned.checked.prog.mainIs=some ((true, "96d902fe3258a66071437f1362e908dc5f3a2f4cb4d039f3c713b7647618fe73").1,(true, "96d902fe3258a66071437f1362e908dc5f3a2f4cb4d039f3c713b7647618fe73").2.toList):=by kernel_rfl
theorem kgoes:false=Rows.previewTellsRow.goesBy Tryz.pinned.checked.prog:=by kernel_rfl
theorem card:Rows.PreviewTellsCardSaid :=
 Claim7.holds_tied_plain_at .later [] _ _ _ _ said (fun _ h=>by cases h) kwf (fun _ h=>by cases h) previewTells_row_tie rfl ⟨rfl,rfl⟩ kmain rfl plain kgoes
end Go.Proofs.YtnbgkhdcidbkaaaGreatDoor.RPreviewTells
namespace Go.Proofs.YtnbgkhdcidbkaaaGreatDoor
theorem previewTells_holds:Rows.PreviewTellsCardSaid:=RPreviewTells.card
end Go.Proofs.YtnbgkhdcidbkaaaGreatDoor
