/- Proved: palinodelaw33.ScriptParses returns true for all arguments and leaves them as they are, where the listed package variables read as they are laid (the full card). -/
import Derived.Test.YtmklghkhfimfgaaGreatDoorCards
import Derived.Test.YtmklghkhfimfgaaGreatDoorTie
import Derived.Test.YtmklghkhfimfgaaGreatDoorT14
import Derived.Test.YtmklghkhfimfgaaGreatDoorQyf
set_option linter.unusedVariables false
namespace Go.Proofs.YtmklghkhfimfgaaGreatDoor.RScriptParses
open Go.EM Go.TY Go.Proofs Go.Proofs.YtmklghkhfimfgaaGreatDoor.Y Go.Proofs.YtmklghkhfimfgaaGreatDoor.Q
open Go.ChangeShapes Go.WideShapes Go.ChangeAt Go.RowKit
theorem own:ownKnob Tryz.prog.godebug=none:=by kernel_rfl
theorem flat_laid_internal_strconv_uint64pow10:mH Rows.laid_internal_strconv_uint64pow10=some (Lib.pow10Tab.map (AVal.int .u64)):=by kernel_rfl
theorem flat_laid_unicode_utf8_acceptRanges:mH Rows.laid_unicode_utf8_acceptRanges=some (pT.flatMap fun p=>[AVal.int .u8 p.1,AVal.int .u8 p.2.1]):=by kernel_rfl
theorem flat_laid_unicode_utf8_first:mH Rows.laid_unicode_utf8_first=some (tD.map (AVal.int .u8)):=by kernel_rfl
theorem globs {w:World} (h:laidMet Tryz.prog [("math/bits.deBruijn32tab",Rows.laid_math_bits_deBruijn32tab),("math/bits.deBruijn64tab",Rows.laid_math_bits_deBruijn64tab),("internal/strconv.uint64pow10",Rows.laid_internal_strconv_uint64pow10),("unicode/utf8.acceptRanges",Rows.laid_unicode_utf8_acceptRanges),("strconv.ErrRange",Rows.laid_strconv_ErrRange),("strconv.ErrSyntax",Rows.laid_strconv_ErrSyntax),("unicode/utf8.first",Rows.laid_unicode_utf8_first)] w):bM G0 w O0 []:=by
 obtain ⟨ps,hl,_⟩:=h
 exact (aip sH (acE hl "unicode/utf8.first" _ (by simp) 6 (((Tryz.prog.globals[6]?).map (·.type)).getD 0) 6 _ (by kernel_rfl) (by kernel_rfl) (by kernel_rfl) flat_laid_unicode_utf8_first (by kernel_rfl)) (aip (by kernel_rfl) (acE hl "unicode/utf8.acceptRanges" _ (by simp) 7 (((Tryz.prog.globals[7]?).map (·.type)).getD 0) 6 _ (by kernel_rfl) (by kernel_rfl) (by kernel_rfl) flat_laid_unicode_utf8_acceptRanges (by kernel_rfl)) (aip rfl (wo hl _ _ _ (show ("strconv.ErrSyntax",Rows.laid_strconv_ErrSyntax)∈_ by simp) 1 79 _ (by kernel_rfl) (by kernel_rfl) Tryz.underlying79) (aip rfl (wo hl _ _ _ (show ("strconv.ErrRange",Rows.laid_strconv_ErrRange)∈_ by simp) 2 79 _ (by kernel_rfl) (by kernel_rfl) Tryz.underlying79) (aip sH (acE hl "internal/strconv.uint64pow10" _ (by simp) 3 (((Tryz.prog.globals[3]?).map (·.type)).getD 0) 6 _ (by kernel_rfl) (by kernel_rfl) (by kernel_rfl) flat_laid_internal_strconv_uint64pow10 (by kernel_rfl)) aiO)))))
def lay (cs:Array Value):Obj→Obj
 | .cells _ t frozen=>.cells cs t frozen
 | o=>o
noncomputable def low:Nat:=(World.holding Tryz.prog default ⟨#[],#[],[]⟩).heap.size
set_option maxRecDepth 100000 in
noncomputable def laidWorld (os:Os):World :=
 let w0:=World.holding Tryz.prog os ⟨#[.cells #[.string ⟨#[118,97,108,117,101,32,111,117,116,32,111,102,32,114,97,110,103,101]⟩] 190,.cells #[.string ⟨#[105,110,118,97,108,105,100,32,115,121,110,116,97,120]⟩] 190],#[],[]⟩
 { w0 with heap:=(((((((w0.heap.modify 4 (lay #[.int .u8 0,.int .u8 1,.int .u8 28,.int .u8 2,.int .u8 29,.int .u8 14,.int .u8 24,.int .u8 3,.int .u8 30,.int .u8 22,.int .u8 20,.int .u8 15,.int .u8 25,.int .u8 17,.int .u8 4,.int .u8 8,.int .u8 31,.int .u8 27,.int .u8 13,.int .u8 23,.int .u8 21,.int .u8 19,.int .u8 16,.int .u8 7,.int .u8 26,.int .u8 12,.int .u8 18,.int .u8 6,.int .u8 11,.int .u8 5,.int .u8 10,.int .u8 9])).modify 5 (lay #[.int .u8 0,.int .u8 1,.int .u8 56,.int .u8 2,.int .u8 57,.int .u8 49,.int .u8 28,.int .u8 3,.int .u8 61,.int .u8 58,.int .u8 42,.int .u8 50,.int .u8 38,.int .u8 29,.int .u8 17,.int .u8 4,.int .u8 62,.int .u8 47,.int .u8 59,.int .u8 36,.int .u8 45,.int .u8 43,.int .u8 51,.int .u8 22,.int .u8 53,.int .u8 39,.int .u8 33,.int .u8 30,.int .u8 24,.int .u8 18,.int .u8 12,.int .u8 5,.int .u8 63,.int .u8 55,.int .u8 48,.int .u8 27,.int .u8 60,.int .u8 41,.int .u8 37,.int .u8 16,.int .u8 46,.int .u8 35,.int .u8 44,.int .u8 21,.int .u8 52,.int .u8 32,.int .u8 23,.int .u8 11,.int .u8 54,.int .u8 26,.int .u8 40,.int .u8 15,.int .u8 34,.int .u8 20,.int .u8 31,.int .u8 10,.int .u8 25,.int .u8 14,.int .u8 19,.int .u8 9,.int .u8 13,.int .u8 8,.int .u8 7,.int .u8 6])).modify 3 (lay #[.int .u64 1,.int .u64 10,.int .u64 100,.int .u64 1000,.int .u64 10000,.int .u64 100000,.int .u64 1000000,.int .u64 10000000,.int .u64 100000000,.int .u64 1000000000,.int .u64 10000000000,.int .u64 100000000000,.int .u64 1000000000000,.int .u64 10000000000000,.int .u64 100000000000000,.int .u64 1000000000000000,.int .u64 10000000000000000,.int .u64 100000000000000000,.int .u64 1000000000000000000,.int .u64 10000000000000000000])).modify 7 (lay #[.int .u8 128,.int .u8 191,.int .u8 160,.int .u8 191,.int .u8 128,.int .u8 159,.int .u8 144,.int .u8 191,.int .u8 128,.int .u8 143,.int .u8 0,.int .u8 0,.int .u8 0,.int .u8 0,.int .u8 0,.int .u8 0,.int .u8 0,.int .u8 0,.int .u8 0,.int .u8 0,.int .u8 0,.int .u8 0,.int .u8 0,.int .u8 0,.int .u8 0,.int .u8 0,.int .u8 0,.int .u8 0,.int .u8 0,.int .u8 0,.int .u8 0,.int .u8 0])).modify 2 (lay #[.iface 188 (.pointer (some ⟨low+0,0,none⟩))])).modify 1 (lay #[.iface 188 (.pointer (some ⟨low+1,0,none⟩))])).modify 6 (lay #[.int .u8 240,.int .u8 240,.int .u8 240,.int .u8 240,.int .u8 240,.int .u8 240,.int .u8 240,.int .u8 240,.int .u8 240,.int .u8 240,.int .u8 240,.int .u8 240,.int .u8 240,.int .u8 240,.int .u8 240,.int .u8 240,.int .u8 240,.int .u8 240,.int .u8 240,.int .u8 240,.int .u8 240,.int .u8 240,.int .u8 240,.int .u8 240,.int .u8 240,.int .u8 240,.int .u8 240,.int .u8 240,.int .u8 240,.int .u8 240,.int .u8 240,.int .u8 240,.int .u8 240,.int .u8 240,.int .u8 240,.int .u8 240,.int .u8 240,.int .u8 240,.int .u8 240,.int .u8 240,.int .u8 240,.int .u8 240,.int .u8 240,.int .u8 240,.int .u8 240,.int .u8 240,.int .u8 240,.int .u8 240,.int .u8 240,.int .u8 240,.int .u8 240,.int .u8 240,.int .u8 240,.int .u8 240,.int .u8 240,.int .u8 240,.int .u8 240,.int .u8 240,.int .u8 240,.int .u8 240,.int .u8 240,.int .u8 240,.int .u8 240,.int .u8 240,.int .u8 240,.int .u8 240,.int .u8 240,.int .u8 240,.int .u8 240,.int .u8 240,.int .u8 240,.int .u8 240,.int .u8 240,.int .u8 240,.int .u8 240,.int .u8 240,.int .u8 240,.int .u8 240,.int .u8 240,.int .u8 240,.int .u8 240,.int .u8 240,.int .u8 240,.int .u8 240,.int .u8 240,.int .u8 240,.int .u8 240,.int .u8 240,.int .u8 240,.int .u8 240,.int .u8 240,.int .u8 240,.int .u8 240,.int .u8 240,.int .u8 240,.int .u8 240,.int .u8 240,.int .u8 240,.int .u8 240,.int .u8 240,.int .u8 240,.int .u8 240,.int .u8 240,.int .u8 240,.int .u8 240,.int .u8 240,.int .u8 240,.int .u8 240,.int .u8 240,.int .u8 240,.int .u8 240,.int .u8 240,.int .u8 240,.int .u8 240,.int .u8 240,.int .u8 240,.int .u8 240,.int .u8 240,.int .u8 240,.int .u8 240,.int .u8 240,.int .u8 240,.int .u8 240,.int .u8 240,.int .u8 240,.int .u8 240,.int .u8 240,.int .u8 240,.int .u8 241,.int .u8 241,.int .u8 241,.int .u8 241,.int .u8 241,.int .u8 241,.int .u8 241,.int .u8 241,.int .u8 241,.int .u8 241,.int .u8 241,.int .u8 241,.int .u8 241,.int .u8 241,.int .u8 241,.int .u8 241,.int .u8 241,.int .u8 241,.int .u8 241,.int .u8 241,.int .u8 241,.int .u8 241,.int .u8 241,.int .u8 241,.int .u8 241,.int .u8 241,.int .u8 241,.int .u8 241,.int .u8 241,.int .u8 241,.int .u8 241,.int .u8 241,.int .u8 241,.int .u8 241,.int .u8 241,.int .u8 241,.int .u8 241,.int .u8 241,.int .u8 241,.int .u8 241,.int .u8 241,.int .u8 241,.int .u8 241,.int .u8 241,.int .u8 241,.int .u8 241,.int .u8 241,.int .u8 241,.int .u8 241,.int .u8 241,.int .u8 241,.int .u8 241,.int .u8 241,.int .u8 241,.int .u8 241,.int .u8 241,.int .u8 241,.int .u8 241,.int .u8 241,.int .u8 241,.int .u8 241,.int .u8 241,.int .u8 241,.int .u8 241,.int .u8 241,.int .u8 241,.int .u8 2,.int .u8 2,.int .u8 2,.int .u8 2,.int .u8 2,.int .u8 2,.int .u8 2,.int .u8 2,.int .u8 2,.int .u8 2,.int .u8 2,.int .u8 2,.int .u8 2,.int .u8 2,.int .u8 2,.int .u8 2,.int .u8 2,.int .u8 2,.int .u8 2,.int .u8 2,.int .u8 2,.int .u8 2,.int .u8 2,.int .u8 2,.int .u8 2,.int .u8 2,.int .u8 2,.int .u8 2,.int .u8 2,.int .u8 2,.int .u8 19,.int .u8 3,.int .u8 3,.int .u8 3,.int .u8 3,.int .u8 3,.int .u8 3,.int .u8 3,.int .u8 3,.int .u8 3,.int .u8 3,.int .u8 3,.int .u8 3,.int .u8 35,.int .u8 3,.int .u8 3,.int .u8 52,.int .u8 4,.int .u8 4,.int .u8 4,.int .u8 68,.int .u8 241,.int .u8 241,.int .u8 241,.int .u8 241,.int .u8 241,.int .u8 241,.int .u8 241,.int .u8 241,.int .u8 241,.int .u8 241,.int .u8 241])) }
noncomputable def noneV:Array Value := #[.string ⟨#[]⟩]
set_option maxRecDepth 100000 in
theorem laid_met (os:Os):laidMet Tryz.prog Rows.scriptParsesRow.laid ((laidWorld os).forCall (fun _ _=>0) ⟨#[],noneV,[]⟩).memory :=
 laidMet_of_run' 8 (by kernel_rfl) (by kernel_rfl)
set_option maxRecDepth 100000 in
theorem reads (os:Os) {H:Type} (enc:TypeId×Value→H):∃ places,DataW.whole enc Tryz.prog ((laidWorld os).forCall (fun _ _=>0) ⟨#[],noneV,[]⟩).memory Tryz.f4.params.toList Rows.scriptParsesSpec.vars false noneV.toList 8=some ([.lit (.string [])],[],places) :=
 ⟨[],by kernel_rfl⟩
set_option maxRecDepth 100000 in
theorem contract (H:Type) (enc:TypeId×Value→H) (W:World) (base:Nat) (args:Array Value) (ds gs:List (DataW H)) (before:List MemPlace)
   (hval:∀ (j:Nat) t v,Tryz.f4.params[j]? = some t→args[j]? = some v→Value.okWide Tryz.prog W .any base t v)
   (hW:DataW.Whole enc Tryz.prog Tryz.f4.params.toList Rows.scriptParsesSpec.vars false W args.toList ds gs before) (hL:laidMetH Tryz.prog Rows.scriptParsesRow.laid W)
   (hcond:∀ k,(OpenSpec.ofChange Rows.scriptParsesSpec).cond=some k→k H (ds++gs)=true) :
   Calls Tryz.prog 4 args W fun e W'=>∃ v,e = .returned v∧Rows.scriptParsesSpec.post enc Tryz.prog Tryz.f4 false true false false W args v W':=by
 refine apE (n:=16) (tB:=4) Y.zap_Fok Y.zap_ok (by rw[Tryz.params4]; kernel_rfl) rfl rfl Tryz.underlying4 rfl ?_ (by kernel_rfl) (by kernel_rfl) (by kernel_rfl) ?_ (globs hL) hval hW wU
 · intro ds hd
   rw[Tryz.params4] at hd
   match ds,hd with
   | [d0],_=>rfl
 · intro t ht
   rw[Tryz.params4] at ht
   have hsz:Tryz.prog.types.size=211:=by kernel_rfl
   rw[hsz]
   revert ht
   revert t
   decide
set_option maxRecDepth 100000 in
theorem lifted (os:Os) (started:os.Started) (H:Type) (enc:TypeId×Value→H) (F:Stop.Interp) :
   ReturnsInHanded {} Tryz.checked os 4 .any ((OpenSpec.ofChange Rows.scriptParsesSpec).preRow enc Tryz.prog Tryz.f4 Rows.scriptParsesRow.domain false Rows.scriptParsesRow.laid) (((OpenSpec.ofChange Rows.scriptParsesSpec).at F).post enc Tryz.prog Tryz.f4 false true false false):=by
 obtain ⟨places,hx⟩:=reads os enc
 refine returnsInHanded_of_row (C:=Tryz.checked) (s:=(OpenSpec.ofChange Rows.scriptParsesSpec)) own started (by kernel_rfl) Tryz.func4
   (witness_row_at (enc:=enc) (C:=Tryz.checked) false (laidWorld os) noneV rfl (by kernel_rfl) (by kernel_rfl) (by kernel_rfl)
     (OpenSpec.preRow_of_cond 8 hx (by kernel_rfl) (fun k hk=>by cases hk) (by kernel_rfl) (laid_met os))) ?_
 intro W base args ds gs before hval hW _ hcond _ hL _ _
 exact contract H enc W base args ds gs before hval hW hL hcond
theorem and_ok {a b:Bool} (h1:a=true) (h2:b=true):(a&&b)=true:=by rw[h1,h2]; rfl
set_option maxRecDepth 100000
set_option maxHeartbeats 16000000
theorem closed:joinedFacts Tryz.pinned.checked.prog 4 Tryz.f4 ((OpenSpec.ofChange Rows.scriptParsesSpec)).bare Rows.scriptParsesRow=true:=by
 unfold joinedFacts
 repeat' (with_reducible apply and_ok)
 all_goals as_aux_lemma=>kernel_rfl
theorem kname:Tryz.pinned.checked.prog.funcNamed Rows.scriptParsesRow.func=some 4:=by kernel_rfl
theorem kinst:Tryz.f4.isInstance Tryz.pinned.checked.prog Rows.scriptParsesRow.origin Rows.scriptParsesRow.targs:=of_decide_eq_true (by kernel_rfl)
theorem kwrap:Tryz.f4.isWrapper Tryz.pinned.checked.prog Rows.scriptParsesRow.wrapper Rows.scriptParsesRow.mainSum:=by unfold Func.isWrapper; first | (rw[zp (by decide +kernel)]; kernel_rfl) | (rw[zn (by decide +kernel)]; exact ⟨rfl,rfl⟩)
theorem said:Rows.ScriptParsesSaid :=
 OpenClaim.holds_of_cond 4 Tryz.f4 rfl rfl rfl rfl rfl rfl rfl ⟨rfl,rfl,rfl,rfl,rfl⟩ rfl rfl rfl rfl rfl kname Tryz.func4 closed kinst kwrap
   (fun os started H enc _ F=>by rw[OpenClaim.pre_eq_preRow]; exact lifted os started H enc F)
theorem klooks:true=Tryz.pinned.checked.prog.looks []:=by kernel_rfl
theorem plain (f:FuncId) (fn:Func) (hf:Tryz.pinned.checked.prog.funcNamed "palinode/palinodelaw33.ScriptParses" = some f) (hfn:Tryz.pinned.checked.prog.funcs[f]? = some fn) :
   true=Tryz.pinned.checked.prog.looks []∧∀ (j:Nat) t,fn.params[j]? = some t→Tryz.pinned.checked.prog.wantsStandIn t=false:=by
 obtain rfl:f=4:=Option.some.inj ((show Tryz.prog.funcNamed "palinode/palinodelaw33.ScriptParses" = some 4 by kernel_rfl).symm.trans hf) |>.symm
 obtain rfl:fn=Tryz.f4:=(Option.some.inj (Tryz.func4.symm.trans hfn)).symm
 refine ⟨klooks,fun j t ht => ?_⟩
 rw[Tryz.params4] at ht
 have hm:=Array.mem_of_getElem? ht
 have hall:(#[9]:Array Nat).all (fun t => !Tryz.prog.wantsStandIn t)=true:=by kernel_rfl
 rw[Array.all_eq_true_iff_forall_mem] at hall
 have:=hall t hm
 have h2:Tryz.prog.wantsStandIn t=false:=by simpa using this
 exact h2
theorem kwf:Rows.scriptParsesRow.wfByText (OpenSpec.ofChange Rows.scriptParsesSpec)=true:=by kernel_rfl
theorem kmain:Tryz.pinned.checked.prog.mainIs=some ((true, "73687a8b8ad219fcdf7502e9200d114185a078d010b107b654cf8625ebd03974").1,(true, "73687a8b8ad219fcdf7502e9200d114185a078d010b107b654cf8625ebd03974").2.toList):=by kernel_rfl
theorem kgoes:false=Rows.scriptParsesRow.goesBy Tryz.pinned.checked.prog:=by kernel_rfl
theorem card:Rows.ScriptParsesCardSaid :=
 Claim7.holds_tied_plain_at .later [] _ _ _ _ said (fun _ h=>by cases h) kwf (fun _ h=>by cases h) scriptParses_row_tie rfl ⟨rfl,rfl⟩ kmain rfl plain kgoes
end Go.Proofs.YtmklghkhfimfgaaGreatDoor.RScriptParses
namespace Go.Proofs.YtmklghkhfimfgaaGreatDoor
theorem scriptParses_holds:Rows.ScriptParsesCardSaid:=RScriptParses.card
end Go.Proofs.YtmklghkhfimfgaaGreatDoor
