import Derived.Test.YtljlahifmblbbaaD
set_option linter.unusedVariables false
set_option maxRecDepth 100000
namespace Go.Proofs.Ytljlahifmblbbaa.Y
open Go.EM Go.TY Go.Proofs
def G0:List (Nat×AVal):=[]
def G0T:List (Nat×TV):=[]
theorem G0_ok:GlobsOk G0 G0T:=globs_nil
theorem same_ok:∀ f,memN f []=true→Same Try.prog f:=by
  intro f h
  simp_all [memN]
noncomputable def dir_New_S:SFn:=D35.newS
theorem dir_New_Sok:SoundS Try.prog G0 5 dir_New_S:=D35.new_sound
noncomputable def dir_New_D:TDeep:=D35.new_D
theorem dir_New_ok:TDeepOk dir_New_S dir_New_D:=D35.new_ok
noncomputable def dir_New:Option ((Unit×Int×Bool×Unit)×List (List UInt8×(List UInt8×List UInt8×Unit))×Unit):=dir_New_D.fn (())
noncomputable def law35_small_E:Env:={ pure:=[],raw:=[],glob:=G0,same:=[],look:=[],ext:=[] }
def law35_small_H:Hints:={ seqs:=[],loops:=[],own:=[] }
noncomputable def law35_small_F:PFn:=closeF (runF Try.prog law35_small_E law35_small_H Try.f6)
def law35_small_Y:TH:={ joins:=[],loops:=[],cuts:=[],ro:=[1],news:=[] }
noncomputable def law35_small (a0:(Int×Int×List UInt8×List UInt8×List UInt8×Unit)):Option Bool :=
 cond (decide ((a0.2.2.1.length:Int)≤50)) (cond (decide ((a0.2.2.2.1.length:Int)≤50)) (some (decide ((a0.2.2.2.2.1.length:Int)≤500))) (some false)) (some false)
noncomputable def law35_small_T:TFn:={ ps:=(.cons (.agg (.cons (.int .i64) (.cons (.int .i64) (.cons .str (.cons .str (.cons .str .unit)))))) .unit),res:=.bool,fn:=fun v=>law35_small v.1 }
noncomputable def law35_small_V:TEnv:={ pure:=[],look:=[],glob:=G0T,ty:=[],raw:=[],fresh:=[],deep:=[] }
theorem law35_small_eq:runY Try.prog law35_small_E law35_small_H law35_small_V law35_small_Y Try.f6 law35_small_T.ps law35_small_T.res=law35_small_T.fn:=by kernel_rfl
theorem law35_small_Fok:SoundP Try.prog G0 6 law35_small_F:=closeF_sound (runF_sound (P:=Try.prog) (E:=law35_small_E) (h:=law35_small_H) (f:=6) (fn:=Try.f6) ⟨same_ok,envP_nil,envS_nil,envP_nil,envX_nil⟩ Try.func6 rfl (by kernel_rfl))
theorem law35_small_ok:TOk law35_small_F law35_small_T:=runY_ok (E:=law35_small_E) (ET:=law35_small_V) (EnvT.ofX (E:=law35_small_E) (ET:=law35_small_V) (pure_of pairs_nil) looks_nil raws_nil G0_ok news_nil) law35_small_eq rfl
noncomputable def dir_Dir_none_E:Env:={ pure:=[],raw:=[],glob:=G0,same:=[],look:=[],ext:=[] }
def dir_Dir_none_H:Hints:={ seqs:=[],loops:=[],own:=[4] }
noncomputable def dir_Dir_none_S:SFn:=runF Try.prog dir_Dir_none_E dir_Dir_none_H Try.f29
def dir_Dir_none_Y:TH:={ joins:=[],loops:=[],cuts:=[],ro:=[],news:=[] }
noncomputable def dir_Dir_none (w0:(Unit×Int×Bool×Unit)) (w1:List (List UInt8×(List UInt8×List UInt8×Unit))):Option (Bool×(Unit×Int×Bool×Unit)×List (List UInt8×(List UInt8×List UInt8×Unit))×Unit) :=
 some (false,w0,w1,())
noncomputable def dir_Dir_none_R:TRaw:={ ps:=(.cons (.bx 0 0) .unit),ins:=[.box 38 (.agg (.cons (.mp 1) (.cons (.int .i64) (.cons .bool .unit)))),.map .str (.agg (.cons .str (.cons .str .unit)))],res:=.bool,outs:=[.box 38 (.agg (.cons (.mp 1) (.cons (.int .i64) (.cons .bool .unit)))),.map .str (.agg (.cons .str (.cons .str .unit)))],fn:=fun v w=>dir_Dir_none w.1 w.2.1 }
noncomputable def dir_Dir_none_V:TEnv:={ pure:=[],look:=[],glob:=G0T,ty:=[],raw:=[],fresh:=[],deep:=[] }
theorem dir_Dir_none_eq:rawY Try.prog dir_Dir_none_E dir_Dir_none_H dir_Dir_none_V dir_Dir_none_Y [(0,0)] Try.f29 dir_Dir_none_R.ps dir_Dir_none_R.ins dir_Dir_none_R.res dir_Dir_none_R.outs=dir_Dir_none_R.fn:=by kernel_rfl
theorem dir_Dir_none_Sok:SoundS Try.prog G0 29 dir_Dir_none_S:=runF_sound (P:=Try.prog) (E:=dir_Dir_none_E) (h:=dir_Dir_none_H) (f:=29) (fn:=Try.f29) ⟨same_ok,envP_nil,envS_nil,envP_nil,envX_nil⟩ Try.func29 rfl (by kernel_rfl)
theorem dir_Dir_none_ok:TRawOk dir_Dir_none_S dir_Dir_none_R:=rawY_ok (E:=dir_Dir_none_E) (ET:=dir_Dir_none_V) (EnvT.ofX (E:=dir_Dir_none_E) (ET:=dir_Dir_none_V) (pure_of pairs_nil) looks_nil raws_nil G0_ok news_nil) dir_Dir_none_eq
noncomputable def dir_Dir_Fuse_E:Env:={ pure:=[],raw:=[(29,dir_Dir_none_S)],glob:=G0,same:=[],look:=[],ext:=[] }
def dir_Dir_Fuse_H:Hints:={ seqs:=[],loops:=[],own:=[] }
noncomputable def dir_Dir_Fuse_S:SFn:=runF Try.prog dir_Dir_Fuse_E dir_Dir_Fuse_H Try.f12
def dir_Dir_Fuse_Y:TH:={ joins:=[],loops:=[],cuts:=[],ro:=[],news:=[] }
noncomputable def dir_Dir_Fuse (a1:Int) (w0:(Unit×Int×Bool×Unit)) (w1:List (List UInt8×(List UInt8×List UInt8×Unit))):Option (Unit×(Unit×Int×Bool×Unit)×List (List UInt8×(List UInt8×List UInt8×Unit))×Unit) :=
(dir_Dir_none w0 w1).bind fun q1 =>
 cond (!q1.1) (
 some ((),(q1.2.1.1,(max a1 (-1)),q1.2.1.2.2.1,()),q1.2.2.1,())) (
 some ((),q1.2.1,q1.2.2.1,()))
noncomputable def dir_Dir_Fuse_R:TRaw:={ ps:=(.cons (.bx 0 0) (.cons (.int .i64) .unit)),ins:=[.box 38 (.agg (.cons (.mp 1) (.cons (.int .i64) (.cons .bool .unit)))),.map .str (.agg (.cons .str (.cons .str .unit)))],res:=(.tup .unit),outs:=[.box 38 (.agg (.cons (.mp 1) (.cons (.int .i64) (.cons .bool .unit)))),.map .str (.agg (.cons .str (.cons .str .unit)))],fn:=fun v w=>dir_Dir_Fuse v.2.1 w.1 w.2.1 }
noncomputable def dir_Dir_Fuse_V:TEnv:={ pure:=[],look:=[],glob:=G0T,ty:=[],raw:=[(29,dir_Dir_none_R)],fresh:=[],deep:=[] }
theorem dir_Dir_Fuse_eq:rawY Try.prog dir_Dir_Fuse_E dir_Dir_Fuse_H dir_Dir_Fuse_V dir_Dir_Fuse_Y [(0,0)] Try.f12 dir_Dir_Fuse_R.ps dir_Dir_Fuse_R.ins dir_Dir_Fuse_R.res dir_Dir_Fuse_R.outs=dir_Dir_Fuse_R.fn:=by kernel_rfl
theorem dir_Dir_Fuse_Sok:SoundS Try.prog G0 12 dir_Dir_Fuse_S:=runF_sound (P:=Try.prog) (E:=dir_Dir_Fuse_E) (h:=dir_Dir_Fuse_H) (f:=12) (fn:=Try.f12) ⟨same_ok,envP_nil,(envS_cons dir_Dir_none_Sok envS_nil),envP_nil,envX_nil⟩ Try.func12 rfl (by kernel_rfl)
theorem dir_Dir_Fuse_ok:TRawOk dir_Dir_Fuse_S dir_Dir_Fuse_R:=rawY_ok (E:=dir_Dir_Fuse_E) (ET:=dir_Dir_Fuse_V) (EnvT.ofX (E:=dir_Dir_Fuse_E) (ET:=dir_Dir_Fuse_V) (pure_of pairs_nil) looks_nil (raws_cons dir_Dir_none_ok rfl rfl raws_nil) G0_ok news_nil) dir_Dir_Fuse_eq
noncomputable def dir_Dir_deed_E:Env:={ pure:=[],raw:=[(29,dir_Dir_none_S)],glob:=G0,same:=[],look:=[],ext:=[] }
def dir_Dir_deed_H:Hints:={ seqs:=[],loops:=[],own:=[] }
noncomputable def dir_Dir_deed_S:SFn:=runF Try.prog dir_Dir_deed_E dir_Dir_deed_H Try.f33
def dir_Dir_deed_Y:TH:={ joins:=[],loops:=[],cuts:=[],ro:=[],news:=[] }
noncomputable def dir_Dir_deed (w0:(Unit×Int×Bool×Unit)) (w1:List (List UInt8×(List UInt8×List UInt8×Unit))):Option (Int×(Unit×Int×Bool×Unit)×List (List UInt8×(List UInt8×List UInt8×Unit))×Unit) :=
(dir_Dir_none w0 w1).bind fun q1 =>
 cond q1.1 (
 some (1,q1.2.1,q1.2.2.1,())) (
 cond q1.2.1.2.2.1 (
 some (15,q1.2.1,q1.2.2.1,())) (
 cond (decide (q1.2.1.2.1=0)) (
 some (15,(q1.2.1.1,q1.2.1.2.1,true,()),q1.2.2.1,())) (
 cond (decide (q1.2.1.2.1>0)) (
 some (0,(q1.2.1.1,(IntKind.wrap .i64 (q1.2.1.2.1-1)),q1.2.1.2.2.1,()),q1.2.2.1,())) (
 some (0,q1.2.1,q1.2.2.1,())))))
noncomputable def dir_Dir_deed_R:TRaw:={ ps:=(.cons (.bx 0 0) .unit),ins:=[.box 38 (.agg (.cons (.mp 1) (.cons (.int .i64) (.cons .bool .unit)))),.map .str (.agg (.cons .str (.cons .str .unit)))],res:=(.int .i64),outs:=[.box 38 (.agg (.cons (.mp 1) (.cons (.int .i64) (.cons .bool .unit)))),.map .str (.agg (.cons .str (.cons .str .unit)))],fn:=fun v w=>dir_Dir_deed w.1 w.2.1 }
noncomputable def dir_Dir_deed_V:TEnv:={ pure:=[],look:=[],glob:=G0T,ty:=[],raw:=[(29,dir_Dir_none_R)],fresh:=[],deep:=[] }
theorem dir_Dir_deed_eq:rawY Try.prog dir_Dir_deed_E dir_Dir_deed_H dir_Dir_deed_V dir_Dir_deed_Y [(0,0)] Try.f33 dir_Dir_deed_R.ps dir_Dir_deed_R.ins dir_Dir_deed_R.res dir_Dir_deed_R.outs=dir_Dir_deed_R.fn:=by kernel_rfl
theorem dir_Dir_deed_Sok:SoundS Try.prog G0 33 dir_Dir_deed_S:=runF_sound (P:=Try.prog) (E:=dir_Dir_deed_E) (h:=dir_Dir_deed_H) (f:=33) (fn:=Try.f33) ⟨same_ok,envP_nil,(envS_cons dir_Dir_none_Sok envS_nil),envP_nil,envX_nil⟩ Try.func33 rfl (by kernel_rfl)
theorem dir_Dir_deed_ok:TRawOk dir_Dir_deed_S dir_Dir_deed_R:=rawY_ok (E:=dir_Dir_deed_E) (ET:=dir_Dir_deed_V) (EnvT.ofX (E:=dir_Dir_deed_E) (ET:=dir_Dir_deed_V) (pure_of pairs_nil) looks_nil (raws_cons dir_Dir_none_ok rfl rfl raws_nil) G0_ok news_nil) dir_Dir_deed_eq
noncomputable def dir_Dir_total_S:SFn:=D35.totalS
theorem dir_Dir_total_Sok:SoundS Try.prog G0 34 dir_Dir_total_S:=D35.total_sound
noncomputable def dir_Dir_total_R:TRaw:=D35.total_R
theorem dir_Dir_total_ok:TRawOk dir_Dir_total_S dir_Dir_total_R:=D35.total_ok
noncomputable def dir_Dir_total (w0:(Unit×Int×Bool×Unit)) (w1:List (List UInt8×(List UInt8×List UInt8×Unit))):Option (Int×(Unit×Int×Bool×Unit)×List (List UInt8×(List UInt8×List UInt8×Unit))×Unit):=dir_Dir_total_R.fn ((),()) (w0,w1,())
noncomputable def dir_Dir_Append_E:Env:={ pure:=[],raw:=[(33,dir_Dir_deed_S),(34,dir_Dir_total_S)],glob:=G0,same:=[],look:=[],ext:=[] }
def dir_Dir_Append_H:Hints:={ seqs:=[],loops:=[],own:=[38] }
noncomputable def dir_Dir_Append_S:SFn:=runF Try.prog dir_Dir_Append_E dir_Dir_Append_H Try.f18
def dir_Dir_Append_Y:TH:={ joins:=[(9,{ keep:=[(0,(.bx 0 0)),(8,(.bx 2 0))],mem:=[.box 38 (.agg (.cons (.mp 1) (.cons (.int .i64) (.cons .bool .unit)))),.map .str (.agg (.cons .str (.cons .str .unit))),.box 54 (.agg (.cons .str (.cons .str .unit)))] })],loops:=[],cuts:=[],ro:=[],news:=[] }
noncomputable def dir_Dir_Append (a1:List UInt8) (a2:List UInt8) (w0:(Unit×Int×Bool×Unit)) (w1:List (List UInt8×(List UInt8×List UInt8×Unit))):Option (Int×(Unit×Int×Bool×Unit)×List (List UInt8×(List UInt8×List UInt8×Unit))×Unit) :=
 cond (decide (a1=[])) (some (2,w0,w1,())) (cond (decide ((a1.length:Int)>32)) (
 some (2,w0,w1,())) (
(dir_Dir_deed w0 w1).bind fun q1 =>
 cond (!decide (q1.1=0)) (
 some (q1.1,q1.2.1,q1.2.2.1,())) (
(cond (!((getK .str ([],[],()) a1 q1.2.2.1).2)) (cond (decide ((q1.2.2.1.length:Int)≥64)) (some (.inr (7,q1.2.1,q1.2.2.1,()))) ((dir_Dir_total q1.2.1 q1.2.2.1).bind fun q2 =>
 cond (decide ((a2.length:Int)>(IntKind.wrap .i64 (4194304-q2.1)))) (
 some (.inr (7,q2.2.1,q2.2.2.1,()))) (
 some (.inl (q2.2.1,q2.2.2.1,(getK .str ([],[],()) a1 q1.2.2.1).1,()))))) ((dir_Dir_total q1.2.1 q1.2.2.1).bind fun q3 =>
 cond (decide ((a2.length:Int)>(IntKind.wrap .i64 (4194304-q3.1)))) (
 some (.inr (7,q3.2.1,q3.2.2.1,()))) (
 some (.inl (q3.2.1,q3.2.2.1,(getK .str ([],[],()) a1 q1.2.2.1).1,())))):Option (((Unit×Int×Bool×Unit)×List (List UInt8×(List UInt8×List UInt8×Unit))×(List UInt8×List UInt8×Unit)×Unit)⊕(Int×(Unit×Int×Bool×Unit)×List (List UInt8×(List UInt8×List UInt8×Unit))×Unit))).bind (joinS fun v4 =>
(catT v4.2.2.1.2.1 a2).bind fun s5 =>
 some (0,v4.1,(putK .str a1 (v4.2.2.1.1,s5,()) v4.2.1),())))))
noncomputable def dir_Dir_Append_R:TRaw:={ ps:=(.cons (.bx 0 0) (.cons .str (.cons .str .unit))),ins:=[.box 38 (.agg (.cons (.mp 1) (.cons (.int .i64) (.cons .bool .unit)))),.map .str (.agg (.cons .str (.cons .str .unit)))],res:=(.int .i64),outs:=[.box 38 (.agg (.cons (.mp 1) (.cons (.int .i64) (.cons .bool .unit)))),.map .str (.agg (.cons .str (.cons .str .unit)))],fn:=fun v w=>dir_Dir_Append v.2.1 v.2.2.1 w.1 w.2.1 }
noncomputable def dir_Dir_Append_V:TEnv:={ pure:=[],look:=[],glob:=G0T,ty:=[],raw:=[(33,dir_Dir_deed_R),(34,dir_Dir_total_R)],fresh:=[],deep:=[] }
theorem dir_Dir_Append_eq:rawY Try.prog dir_Dir_Append_E dir_Dir_Append_H dir_Dir_Append_V dir_Dir_Append_Y [(0,0)] Try.f18 dir_Dir_Append_R.ps dir_Dir_Append_R.ins dir_Dir_Append_R.res dir_Dir_Append_R.outs=dir_Dir_Append_R.fn:=by kernel_rfl
theorem dir_Dir_Append_Sok:SoundS Try.prog G0 18 dir_Dir_Append_S:=runF_sound (P:=Try.prog) (E:=dir_Dir_Append_E) (h:=dir_Dir_Append_H) (f:=18) (fn:=Try.f18) ⟨same_ok,envP_nil,(envS_cons dir_Dir_deed_Sok (envS_cons dir_Dir_total_Sok envS_nil)),envP_nil,envX_nil⟩ Try.func18 rfl (by kernel_rfl)
theorem dir_Dir_Append_ok:TRawOk dir_Dir_Append_S dir_Dir_Append_R:=rawY_ok (E:=dir_Dir_Append_E) (ET:=dir_Dir_Append_V) (EnvT.ofX (E:=dir_Dir_Append_E) (ET:=dir_Dir_Append_V) (pure_of pairs_nil) looks_nil (raws_cons dir_Dir_deed_ok rfl rfl (raws_cons dir_Dir_total_ok rfl rfl raws_nil)) G0_ok news_nil) dir_Dir_Append_eq
noncomputable def dir_Dir_Restart_S:SFn:=D35.restartS
theorem dir_Dir_Restart_Sok:SoundS Try.prog G0 13 dir_Dir_Restart_S:=D35.restart_sound
noncomputable def dir_Dir_Restart_R:TRaw:=D35.restart_R
theorem dir_Dir_Restart_ok:TRawOk dir_Dir_Restart_S dir_Dir_Restart_R:=D35.restart_ok
noncomputable def dir_Dir_Restart (a1:Int) (w0:(Unit×Int×Bool×Unit)) (w1:List (List UInt8×(List UInt8×List UInt8×Unit))):Option (Unit×(Unit×Int×Bool×Unit)×List (List UInt8×(List UInt8×List UInt8×Unit))×Unit):=dir_Dir_Restart_R.fn ((),a1,()) (w0,w1,())
noncomputable def dir_Dir_Read_E:Env:={ pure:=[],raw:=[(29,dir_Dir_none_S)],glob:=G0,same:=[],look:=[],ext:=[] }
def dir_Dir_Read_H:Hints:={ seqs:=[],loops:=[],own:=[] }
noncomputable def dir_Dir_Read_S:SFn:=runF Try.prog dir_Dir_Read_E dir_Dir_Read_H Try.f10
def dir_Dir_Read_Y:TH:={ joins:=[],loops:=[],cuts:=[],ro:=[],news:=[] }
noncomputable def dir_Dir_Read (a1:List UInt8) (w0:(Unit×Int×Bool×Unit)) (w1:List (List UInt8×(List UInt8×List UInt8×Unit))):Option ((List UInt8×Bool×Unit)×(Unit×Int×Bool×Unit)×List (List UInt8×(List UInt8×List UInt8×Unit))×Unit) :=
(dir_Dir_none w0 w1).bind fun q1 =>
 cond q1.1 (
 some (([],false,()),q1.2.1,q1.2.2.1,())) (
(catT (((getK .str ([],[],()) a1 q1.2.2.1).1).1) (((getK .str ([],[],()) a1 q1.2.2.1).1).2.1)).bind fun s2 =>
 some ((s2,(getK .str ([],[],()) a1 q1.2.2.1).2,()),q1.2.1,q1.2.2.1,()))
noncomputable def dir_Dir_Read_R:TRaw:={ ps:=(.cons (.bx 0 0) (.cons .str .unit)),ins:=[.box 38 (.agg (.cons (.mp 1) (.cons (.int .i64) (.cons .bool .unit)))),.map .str (.agg (.cons .str (.cons .str .unit)))],res:=(.tup (.cons .str (.cons .bool .unit))),outs:=[.box 38 (.agg (.cons (.mp 1) (.cons (.int .i64) (.cons .bool .unit)))),.map .str (.agg (.cons .str (.cons .str .unit)))],fn:=fun v w=>dir_Dir_Read v.2.1 w.1 w.2.1 }
noncomputable def dir_Dir_Read_V:TEnv:={ pure:=[],look:=[],glob:=G0T,ty:=[],raw:=[(29,dir_Dir_none_R)],fresh:=[],deep:=[] }
theorem dir_Dir_Read_eq:rawY Try.prog dir_Dir_Read_E dir_Dir_Read_H dir_Dir_Read_V dir_Dir_Read_Y [(0,0)] Try.f10 dir_Dir_Read_R.ps dir_Dir_Read_R.ins dir_Dir_Read_R.res dir_Dir_Read_R.outs=dir_Dir_Read_R.fn:=by kernel_rfl
theorem dir_Dir_Read_Sok:SoundS Try.prog G0 10 dir_Dir_Read_S:=runF_sound (P:=Try.prog) (E:=dir_Dir_Read_E) (h:=dir_Dir_Read_H) (f:=10) (fn:=Try.f10) ⟨same_ok,envP_nil,(envS_cons dir_Dir_none_Sok envS_nil),envP_nil,envX_nil⟩ Try.func10 rfl (by kernel_rfl)
theorem dir_Dir_Read_ok:TRawOk dir_Dir_Read_S dir_Dir_Read_R:=rawY_ok (E:=dir_Dir_Read_E) (ET:=dir_Dir_Read_V) (EnvT.ofX (E:=dir_Dir_Read_E) (ET:=dir_Dir_Read_V) (pure_of pairs_nil) looks_nil (raws_cons dir_Dir_none_ok rfl rfl raws_nil) G0_ok news_nil) dir_Dir_Read_eq
noncomputable def dir_Dir_Down_E:Env:={ pure:=[],raw:=[(29,dir_Dir_none_S)],glob:=G0,same:=[],look:=[],ext:=[] }
def dir_Dir_Down_H:Hints:={ seqs:=[],loops:=[],own:=[] }
noncomputable def dir_Dir_Down_S:SFn:=runF Try.prog dir_Dir_Down_E dir_Dir_Down_H Try.f14
def dir_Dir_Down_Y:TH:={ joins:=[],loops:=[],cuts:=[],ro:=[],news:=[] }
noncomputable def dir_Dir_Down (w0:(Unit×Int×Bool×Unit)) (w1:List (List UInt8×(List UInt8×List UInt8×Unit))):Option (Bool×(Unit×Int×Bool×Unit)×List (List UInt8×(List UInt8×List UInt8×Unit))×Unit) :=
(dir_Dir_none w0 w1).bind fun q1 =>
 cond (!q1.1) (some (q1.2.1.2.2.1,q1.2.1,q1.2.2.1,())) (some (false,q1.2.1,q1.2.2.1,()))
noncomputable def dir_Dir_Down_R:TRaw:={ ps:=(.cons (.bx 0 0) .unit),ins:=[.box 38 (.agg (.cons (.mp 1) (.cons (.int .i64) (.cons .bool .unit)))),.map .str (.agg (.cons .str (.cons .str .unit)))],res:=.bool,outs:=[.box 38 (.agg (.cons (.mp 1) (.cons (.int .i64) (.cons .bool .unit)))),.map .str (.agg (.cons .str (.cons .str .unit)))],fn:=fun v w=>dir_Dir_Down w.1 w.2.1 }
noncomputable def dir_Dir_Down_V:TEnv:={ pure:=[],look:=[],glob:=G0T,ty:=[],raw:=[(29,dir_Dir_none_R)],fresh:=[],deep:=[] }
theorem dir_Dir_Down_eq:rawY Try.prog dir_Dir_Down_E dir_Dir_Down_H dir_Dir_Down_V dir_Dir_Down_Y [(0,0)] Try.f14 dir_Dir_Down_R.ps dir_Dir_Down_R.ins dir_Dir_Down_R.res dir_Dir_Down_R.outs=dir_Dir_Down_R.fn:=by kernel_rfl
theorem dir_Dir_Down_Sok:SoundS Try.prog G0 14 dir_Dir_Down_S:=runF_sound (P:=Try.prog) (E:=dir_Dir_Down_E) (h:=dir_Dir_Down_H) (f:=14) (fn:=Try.f14) ⟨same_ok,envP_nil,(envS_cons dir_Dir_none_Sok envS_nil),envP_nil,envX_nil⟩ Try.func14 rfl (by kernel_rfl)
theorem dir_Dir_Down_ok:TRawOk dir_Dir_Down_S dir_Dir_Down_R:=rawY_ok (E:=dir_Dir_Down_E) (ET:=dir_Dir_Down_V) (EnvT.ofX (E:=dir_Dir_Down_E) (ET:=dir_Dir_Down_V) (pure_of pairs_nil) looks_nil (raws_cons dir_Dir_none_ok rfl rfl raws_nil) G0_ok news_nil) dir_Dir_Down_eq
noncomputable def dir_Dir_Names_S:SFn:=D35.namesS
theorem dir_Dir_Names_Sok:SoundS Try.prog G0 15 dir_Dir_Names_S:=D35.names_sound
noncomputable def dir_Dir_Names_R:TRaw:=D35.names_R
theorem dir_Dir_Names_ok:TRawOk dir_Dir_Names_S dir_Dir_Names_R:=D35.names_ok
noncomputable def dir_Dir_Names (w0:(Unit×Int×Bool×Unit)) (w1:List (List UInt8×(List UInt8×List UInt8×Unit))):Option (List (List UInt8)×(Unit×Int×Bool×Unit)×List (List UInt8×(List UInt8×List UInt8×Unit))×Unit):=dir_Dir_Names_R.fn ((),()) (w0,w1,())
noncomputable def ref03_Same_E:Env:={ pure:=[],raw:=[],glob:=G0,same:=[],look:=[],ext:=[] }
def ref03_Same_H:Hints:={ seqs:=[],loops:=[(4,[0,1,5])],own:=[] }
noncomputable def ref03_Same_F:PFn:=closeF (runF Try.prog ref03_Same_E ref03_Same_H Try.f21)
def ref03_Same_Y:TH:={ joins:=[],loops:=[(4,{ keep:=[(5,(.int .i64))],mem:=[] })],cuts:=[],ro:=[],news:=[] }
noncomputable def ref03_Same_l4 (a0:List (List UInt8)) (a1:List (List UInt8)) (y4:(Int×Unit)):Option ((Int×Unit)⊕Bool) :=
 cond (decide (y4.1<(a0.length:Int))) (
(atI a0 y4.1).bind fun x1 =>
(atI a1 y4.1).bind fun x2 =>
 cond (!decide (x1=x2)) (
 some (.inr false)) (
 some (.inl ((IntKind.wrap .i64 (y4.1+1)),())))) (
 some (.inr true))
noncomputable def ref03_Same (a0:List (List UInt8)) (a1:List (List UInt8)):Option Bool :=
 cond (!decide ((a0.length:Int)=(a1.length:Int))) (
 some false) (
 loopT (ref03_Same_l4 a0 a1) (0,()))
noncomputable def ref03_Same_T:TFn:={ ps:=(.cons (.sl .str) (.cons (.sl .str) .unit)),res:=.bool,fn:=fun v=>ref03_Same v.1 v.2.1 }
noncomputable def ref03_Same_V:TEnv:={ pure:=[],look:=[],glob:=G0T,ty:=[],raw:=[],fresh:=[],deep:=[] }
theorem ref03_Same_eq:runY Try.prog ref03_Same_E ref03_Same_H ref03_Same_V ref03_Same_Y Try.f21 ref03_Same_T.ps ref03_Same_T.res=ref03_Same_T.fn:=by kernel_rfl
theorem ref03_Same_Fok:SoundP Try.prog G0 21 ref03_Same_F:=closeF_sound (runF_sound (P:=Try.prog) (E:=ref03_Same_E) (h:=ref03_Same_H) (f:=21) (fn:=Try.f21) ⟨same_ok,envP_nil,envS_nil,envP_nil,envX_nil⟩ Try.func21 rfl (by kernel_rfl))
theorem ref03_Same_ok:TOk ref03_Same_F ref03_Same_T:=runY_ok (E:=ref03_Same_E) (ET:=ref03_Same_V) (EnvT.ofX (E:=ref03_Same_E) (ET:=ref03_Same_V) (pure_of pairs_nil) looks_nil raws_nil G0_ok news_nil) ref03_Same_eq rfl
noncomputable def law35_awake_E:Env:={ pure:=[(21,ref03_Same_F)],raw:=[(5,dir_New_S),(10,dir_Dir_Read_S),(12,dir_Dir_Fuse_S),(13,dir_Dir_Restart_S),(14,dir_Dir_Down_S),(15,dir_Dir_Names_S),(18,dir_Dir_Append_S)],glob:=G0,same:=[],look:=[],ext:=[] }
def law35_awake_H:Hints:={ seqs:=[],loops:=[],own:=[] }
noncomputable def law35_awake_F:PFn:=closeF (runF Try.prog law35_awake_E law35_awake_H Try.f7)
def law35_awake_Y:TH:={ joins:=[],loops:=[],cuts:=[(7,[(6,{ keep:=[(1,(.bx 0 0)),(25,.bool)],mem:=[.box 38 (.agg (.cons (.mp 1) (.cons (.int .i64) (.cons .bool .unit)))),.map .str (.agg (.cons .str (.cons .str .unit)))] }),(3,{ keep:=[(1,(.bx 0 0)),(28,.bool)],mem:=[.box 38 (.agg (.cons (.mp 1) (.cons (.int .i64) (.cons .bool .unit)))),.map .str (.agg (.cons .str (.cons .str .unit)))] })])],ro:=[],news:=[] }
noncomputable def law35_awake:Option Bool :=
(dir_New).bind fun n1 =>
(dir_Dir_Fuse 1 n1.1 n1.2.1).bind fun q2 =>
(dir_Dir_Append [97] [120,121] q2.2.1 q2.2.2.1).bind fun q3 =>
(dir_Dir_Append [97] [122] q3.2.1 q3.2.2.1).bind fun q4 =>
(dir_Dir_Restart 1 q4.2.1 q4.2.2.1).bind fun q5 =>
(dir_Dir_Read [97] q5.2.1 q5.2.2.1).bind fun q6 =>
(cond (decide (q3.1=0)) (some ((decide (q4.1=15)),q6.2.1,q6.2.2.1,())) (some (false,q6.2.1,q6.2.2.1,())):Option (Bool×(Unit×Int×Bool×Unit)×List (List UInt8×(List UInt8×List UInt8×Unit))×Unit)).bind fun v7 =>
(cond v7.1 (some (q6.1.2.1,v7.2.1,v7.2.2.1,())) (some (false,v7.2.1,v7.2.2.1,())):Option (Bool×(Unit×Int×Bool×Unit)×List (List UInt8×(List UInt8×List UInt8×Unit))×Unit)).bind fun v8 =>
 cond v8.1 (cond (decide (q6.1.1=[120])) ((dir_Dir_Down v8.2.1 v8.2.2.1).bind fun q9 =>
 cond (!q9.1) ((dir_Dir_Names q9.2.1 q9.2.2.1).bind fun q10 =>
(ref03_Same q10.1 ([[97]]:List (List UInt8))).bind fun r11 =>
 some r11) (some false)) (some false)) (some false)
noncomputable def law35_awake_T:TFn:={ ps:=.unit,res:=.bool,fn:=fun v=>law35_awake  }
noncomputable def law35_awake_V:TEnv:={ pure:=[(21,ref03_Same_T)],look:=[],glob:=G0T,ty:=[(9,.str)],raw:=[(10,dir_Dir_Read_R),(12,dir_Dir_Fuse_R),(13,dir_Dir_Restart_R),(14,dir_Dir_Down_R),(15,dir_Dir_Names_R),(18,dir_Dir_Append_R)],fresh:=[],deep:=[(5,dir_New_D)] }
theorem law35_awake_eq:runY Try.prog law35_awake_E law35_awake_H law35_awake_V law35_awake_Y Try.f7 law35_awake_T.ps law35_awake_T.res=law35_awake_T.fn:=by kernel_rfl
theorem law35_awake_Fok:SoundP Try.prog G0 7 law35_awake_F:=closeF_sound (runF_sound (P:=Try.prog) (E:=law35_awake_E) (h:=law35_awake_H) (f:=7) (fn:=Try.f7) ⟨same_ok,(envP_cons ref03_Same_Fok envP_nil),(envS_cons dir_New_Sok (envS_cons dir_Dir_Read_Sok (envS_cons dir_Dir_Fuse_Sok (envS_cons dir_Dir_Restart_Sok (envS_cons dir_Dir_Down_Sok (envS_cons dir_Dir_Names_Sok (envS_cons dir_Dir_Append_Sok envS_nil))))))),envP_nil,envX_nil⟩ Try.func7 rfl (by kernel_rfl))
theorem law35_awake_ok:TOk law35_awake_F law35_awake_T:=runY_ok (E:=law35_awake_E) (ET:=law35_awake_V) (EnvT.ofX (E:=law35_awake_E) (ET:=law35_awake_V) (pure_of (pairs_cons ref03_Same_ok pairs_nil)) looks_nil (raws_more (raws_cons dir_Dir_Read_ok rfl rfl (raws_cons dir_Dir_Fuse_ok rfl rfl (raws_cons dir_Dir_Restart_ok rfl rfl (raws_cons dir_Dir_Down_ok rfl rfl (raws_cons dir_Dir_Names_ok rfl rfl (raws_cons dir_Dir_Append_ok rfl rfl raws_nil)))))) rfl) G0_ok news_nil (h7:=(deeps_cons dir_New_ok rfl rfl rfl deeps_nil))) law35_awake_eq rfl
noncomputable def ref35_New_E:Env:={ pure:=[],raw:=[],glob:=G0,same:=[],look:=[],ext:=[] }
def ref35_New_H:Hints:={ seqs:=[],loops:=[],own:=[] }
noncomputable def ref35_New_S:SFn:=runF Try.prog ref35_New_E ref35_New_H Try.f9
def ref35_New_Y:TH:={ joins:=[],loops:=[],cuts:=[],ro:=[],news:=[] }
noncomputable def ref35_New:Option (List (List UInt8×List UInt8×List UInt8×Unit)×Int×Bool×Unit) :=
 some ([],(-1),false,())
noncomputable def ref35_New_N:TNew:={ ps:=.unit,e:=52,t:=(.agg (.cons (.sl (.agg (.cons .str (.cons .str (.cons .str .unit))))) (.cons (.int .i64) (.cons .bool .unit)))),fn:=fun v=>ref35_New  }
noncomputable def ref35_New_V:TEnv:={ pure:=[],look:=[],glob:=G0T,ty:=[],raw:=[],fresh:=[],deep:=[] }
theorem ref35_New_eq:newY Try.prog ref35_New_E ref35_New_H ref35_New_V ref35_New_Y Try.f9 ref35_New_N.ps ref35_New_N.e ref35_New_N.t=ref35_New_N.fn:=by kernel_rfl
theorem ref35_New_Sok:SoundS Try.prog G0 9 ref35_New_S:=runF_sound (P:=Try.prog) (E:=ref35_New_E) (h:=ref35_New_H) (f:=9) (fn:=Try.f9) ⟨same_ok,envP_nil,envS_nil,envP_nil,envX_nil⟩ Try.func9 rfl (by kernel_rfl)
theorem ref35_New_ok:TNewOk ref35_New_S ref35_New_N:=newY_ok (E:=ref35_New_E) (ET:=ref35_New_V) (EnvT.ofX (E:=ref35_New_E) (ET:=ref35_New_V) (pure_of pairs_nil) looks_nil raws_nil G0_ok news_nil) ref35_New_eq
noncomputable def ref35_Dir_deed_E:Env:={ pure:=[],raw:=[],glob:=G0,same:=[],look:=[],ext:=[] }
def ref35_Dir_deed_H:Hints:={ seqs:=[],loops:=[],own:=[] }
noncomputable def ref35_Dir_deed_S:SFn:=runF Try.prog ref35_Dir_deed_E ref35_Dir_deed_H Try.f35
def ref35_Dir_deed_Y:TH:={ joins:=[(3,{ keep:=[(0,(.bx 0 0))],mem:=[.box 52 (.agg (.cons (.sl (.agg (.cons .str (.cons .str (.cons .str .unit))))) (.cons (.int .i64) (.cons .bool .unit))))] })],loops:=[],cuts:=[],ro:=[],news:=[] }
noncomputable def ref35_Dir_deed (w0:(List (List UInt8×List UInt8×List UInt8×Unit)×Int×Bool×Unit)):Option (Int×(List (List UInt8×List UInt8×List UInt8×Unit)×Int×Bool×Unit)×Unit) :=
(cond (decide (w0.2.1=0)) (
 some (.inl ((w0.1,w0.2.1,true,()),()))) (
 some (.inl (w0,()))):Option (((List (List UInt8×List UInt8×List UInt8×Unit)×Int×Bool×Unit)×Unit)⊕(Int×(List (List UInt8×List UInt8×List UInt8×Unit)×Int×Bool×Unit)×Unit))).bind (joinS fun v1 =>
 cond v1.1.2.2.1 (
 some (15,v1.1,())) (
 cond (decide (v1.1.2.1>0)) (
 some (0,(v1.1.1,(IntKind.wrap .i64 (v1.1.2.1-1)),v1.1.2.2.1,()),())) (
 some (0,v1.1,()))))
noncomputable def ref35_Dir_deed_R:TRaw:={ ps:=(.cons (.bx 0 0) .unit),ins:=[.box 52 (.agg (.cons (.sl (.agg (.cons .str (.cons .str (.cons .str .unit))))) (.cons (.int .i64) (.cons .bool .unit))))],res:=(.int .i64),outs:=[.box 52 (.agg (.cons (.sl (.agg (.cons .str (.cons .str (.cons .str .unit))))) (.cons (.int .i64) (.cons .bool .unit))))],fn:=fun v w=>ref35_Dir_deed w.1 }
noncomputable def ref35_Dir_deed_V:TEnv:={ pure:=[],look:=[],glob:=G0T,ty:=[],raw:=[],fresh:=[],deep:=[] }
theorem ref35_Dir_deed_eq:rawY Try.prog ref35_Dir_deed_E ref35_Dir_deed_H ref35_Dir_deed_V ref35_Dir_deed_Y [(0,0)] Try.f35 ref35_Dir_deed_R.ps ref35_Dir_deed_R.ins ref35_Dir_deed_R.res ref35_Dir_deed_R.outs=ref35_Dir_deed_R.fn:=by kernel_rfl
theorem ref35_Dir_deed_Sok:SoundS Try.prog G0 35 ref35_Dir_deed_S:=runF_sound (P:=Try.prog) (E:=ref35_Dir_deed_E) (h:=ref35_Dir_deed_H) (f:=35) (fn:=Try.f35) ⟨same_ok,envP_nil,envS_nil,envP_nil,envX_nil⟩ Try.func35 rfl (by kernel_rfl)
theorem ref35_Dir_deed_ok:TRawOk ref35_Dir_deed_S ref35_Dir_deed_R:=rawY_ok (E:=ref35_Dir_deed_E) (ET:=ref35_Dir_deed_V) (EnvT.ofX (E:=ref35_Dir_deed_E) (ET:=ref35_Dir_deed_V) (pure_of pairs_nil) looks_nil raws_nil G0_ok news_nil) ref35_Dir_deed_eq
noncomputable def ref35_Dir_Find_E:Env:={ pure:=[],raw:=[],glob:=G0,same:=[],look:=[],ext:=[] }
def ref35_Dir_Find_H:Hints:={ seqs:=[],loops:=[(2,[0,1,5])],own:=[] }
noncomputable def ref35_Dir_Find_S:SFn:=runF Try.prog ref35_Dir_Find_E ref35_Dir_Find_H Try.f36
def ref35_Dir_Find_Y:TH:={ joins:=[],loops:=[(2,{ keep:=[(0,(.bx 0 0)),(5,(.int .i64))],mem:=[.box 52 (.agg (.cons (.sl (.agg (.cons .str (.cons .str (.cons .str .unit))))) (.cons (.int .i64) (.cons .bool .unit))))] })],cuts:=[],ro:=[],news:=[] }
noncomputable def ref35_Dir_Find_l2 (a1:List UInt8) (y2:(Int×(List (List UInt8×List UInt8×List UInt8×Unit)×Int×Bool×Unit)×Unit)):Option ((Int×(List (List UInt8×List UInt8×List UInt8×Unit)×Int×Bool×Unit)×Unit)⊕(Int×(List (List UInt8×List UInt8×List UInt8×Unit)×Int×Bool×Unit)×Unit)) :=
 cond (decide (y2.1<(y2.2.1.1.length:Int))) (
(atI y2.2.1.1 y2.1).bind fun x1 =>
 cond (decide (x1.1=a1)) (
 some (.inr (y2.1,y2.2.1,()))) (
 some (.inl ((IntKind.wrap .i64 (y2.1+1)),y2.2.1,())))) (
 some (.inr ((-1),y2.2.1,())))
noncomputable def ref35_Dir_Find (a1:List UInt8) (w0:(List (List UInt8×List UInt8×List UInt8×Unit)×Int×Bool×Unit)):Option (Int×(List (List UInt8×List UInt8×List UInt8×Unit)×Int×Bool×Unit)×Unit) :=
 loopT (ref35_Dir_Find_l2 a1) (0,w0,())
noncomputable def ref35_Dir_Find_R:TRaw:={ ps:=(.cons (.bx 0 0) (.cons .str .unit)),ins:=[.box 52 (.agg (.cons (.sl (.agg (.cons .str (.cons .str (.cons .str .unit))))) (.cons (.int .i64) (.cons .bool .unit))))],res:=(.int .i64),outs:=[.box 52 (.agg (.cons (.sl (.agg (.cons .str (.cons .str (.cons .str .unit))))) (.cons (.int .i64) (.cons .bool .unit))))],fn:=fun v w=>ref35_Dir_Find v.2.1 w.1 }
noncomputable def ref35_Dir_Find_V:TEnv:={ pure:=[],look:=[],glob:=G0T,ty:=[],raw:=[],fresh:=[],deep:=[] }
theorem ref35_Dir_Find_eq:rawY Try.prog ref35_Dir_Find_E ref35_Dir_Find_H ref35_Dir_Find_V ref35_Dir_Find_Y [(0,0)] Try.f36 ref35_Dir_Find_R.ps ref35_Dir_Find_R.ins ref35_Dir_Find_R.res ref35_Dir_Find_R.outs=ref35_Dir_Find_R.fn:=by kernel_rfl
theorem ref35_Dir_Find_Sok:SoundS Try.prog G0 36 ref35_Dir_Find_S:=runF_sound (P:=Try.prog) (E:=ref35_Dir_Find_E) (h:=ref35_Dir_Find_H) (f:=36) (fn:=Try.f36) ⟨same_ok,envP_nil,envS_nil,envP_nil,envX_nil⟩ Try.func36 rfl (by kernel_rfl)
theorem ref35_Dir_Find_ok:TRawOk ref35_Dir_Find_S ref35_Dir_Find_R:=rawY_ok (E:=ref35_Dir_Find_E) (ET:=ref35_Dir_Find_V) (EnvT.ofX (E:=ref35_Dir_Find_E) (ET:=ref35_Dir_Find_V) (pure_of pairs_nil) looks_nil raws_nil G0_ok news_nil) ref35_Dir_Find_eq
noncomputable def ref35_Dir_without_E:Env:={ pure:=[],raw:=[],glob:=G0,same:=[],look:=[],ext:=[] }
def ref35_Dir_without_H:Hints:={ seqs:=[],loops:=[(3,[0,1,5,6])],own:=[4] }
noncomputable def ref35_Dir_without_S:SFn:=runF Try.prog ref35_Dir_without_E ref35_Dir_without_H Try.f38
def ref35_Dir_without_Y:TH:={ joins:=[],loops:=[(3,{ keep:=[(0,(.bx 0 0)),(5,(.own 1)),(6,(.int .i64))],mem:=[.box 52 (.agg (.cons (.sl (.agg (.cons .str (.cons .str (.cons .str .unit))))) (.cons (.int .i64) (.cons .bool .unit)))),.row true 64 (.agg (.cons .str (.cons .str (.cons .str .unit))))] })],cuts:=[],ro:=[],news:=[] }
noncomputable def ref35_Dir_without_l3 (a1:Int) (y3:(Int×(List (List UInt8×List UInt8×List UInt8×Unit)×Int×Bool×Unit)×List (List UInt8×List UInt8×List UInt8×Unit)×Unit)):Option ((Int×(List (List UInt8×List UInt8×List UInt8×Unit)×Int×Bool×Unit)×List (List UInt8×List UInt8×List UInt8×Unit)×Unit)⊕(List (List UInt8×List UInt8×List UInt8×Unit)×(List (List UInt8×List UInt8×List UInt8×Unit)×Int×Bool×Unit)×Unit)) :=
 cond (decide (y3.1<(y3.2.1.1.length:Int))) (
 cond (!decide (y3.1=a1)) (
(atI y3.2.1.1 y3.1).bind fun x1 =>
(roomT (y3.2.2.1.length+([x1]:List (List UInt8×List UInt8×List UInt8×Unit)).length)).bind fun u2 =>
 some (.inl ((IntKind.wrap .i64 (y3.1+1)),y3.2.1,(y3.2.2.1++([x1]:List (List UInt8×List UInt8×List UInt8×Unit))),()))) (
 some (.inl ((IntKind.wrap .i64 (y3.1+1)),y3.2.1,y3.2.2.1,())))) (
 some (.inr (y3.2.2.1,y3.2.1,())))
noncomputable def ref35_Dir_without (a1:Int) (w0:(List (List UInt8×List UInt8×List UInt8×Unit)×Int×Bool×Unit)):Option (List (List UInt8×List UInt8×List UInt8×Unit)×(List (List UInt8×List UInt8×List UInt8×Unit)×Int×Bool×Unit)×Unit) :=
 loopT (ref35_Dir_without_l3 a1) (0,w0,[],())
noncomputable def ref35_Dir_without_R:TRaw:={ ps:=(.cons (.bx 0 0) (.cons (.int .i64) .unit)),ins:=[.box 52 (.agg (.cons (.sl (.agg (.cons .str (.cons .str (.cons .str .unit))))) (.cons (.int .i64) (.cons .bool .unit))))],res:=(.sl (.agg (.cons .str (.cons .str (.cons .str .unit))))),outs:=[.box 52 (.agg (.cons (.sl (.agg (.cons .str (.cons .str (.cons .str .unit))))) (.cons (.int .i64) (.cons .bool .unit))))],fn:=fun v w=>ref35_Dir_without v.2.1 w.1 }
noncomputable def ref35_Dir_without_V:TEnv:={ pure:=[],look:=[],glob:=G0T,ty:=[(64,(.agg (.cons .str (.cons .str (.cons .str .unit)))))],raw:=[],fresh:=[],deep:=[] }
theorem ref35_Dir_without_eq:rawY Try.prog ref35_Dir_without_E ref35_Dir_without_H ref35_Dir_without_V ref35_Dir_without_Y [(0,0)] Try.f38 ref35_Dir_without_R.ps ref35_Dir_without_R.ins ref35_Dir_without_R.res ref35_Dir_without_R.outs=ref35_Dir_without_R.fn:=by kernel_rfl
theorem ref35_Dir_without_Sok:SoundS Try.prog G0 38 ref35_Dir_without_S:=runF_sound (P:=Try.prog) (E:=ref35_Dir_without_E) (h:=ref35_Dir_without_H) (f:=38) (fn:=Try.f38) ⟨same_ok,envP_nil,envS_nil,envP_nil,envX_nil⟩ Try.func38 rfl (by kernel_rfl)
theorem ref35_Dir_without_ok:TRawOk ref35_Dir_without_S ref35_Dir_without_R:=rawY_ok (E:=ref35_Dir_without_E) (ET:=ref35_Dir_without_V) (EnvT.ofX (E:=ref35_Dir_without_E) (ET:=ref35_Dir_without_V) (pure_of pairs_nil) looks_nil raws_nil G0_ok news_nil) ref35_Dir_without_eq
noncomputable def ref09_ints_E:Env:={ pure:=[],raw:=[],glob:=G0,same:=[],look:=[],ext:=[] }
def ref09_ints_H:Hints:={ seqs:=[],loops:=[],own:=[] }
noncomputable def ref09_ints_F:PFn:=closeF (runF Try.prog ref09_ints_E ref09_ints_H Try.f47)
def ref09_ints_Y:TH:={ joins:=[],loops:=[],cuts:=[],ro:=[],news:=[] }
noncomputable def ref09_ints (a0:Int) (a1:Int):Option Int :=
 cond (decide (a0<a1)) (
 some (-1)) (
 cond (decide (a0>a1)) (
 some 1) (
 some 0))
noncomputable def ref09_ints_T:TFn:={ ps:=(.cons (.int .i64) (.cons (.int .i64) .unit)),res:=(.int .i64),fn:=fun v=>ref09_ints v.1 v.2.1 }
noncomputable def ref09_ints_V:TEnv:={ pure:=[],look:=[],glob:=G0T,ty:=[],raw:=[],fresh:=[],deep:=[] }
theorem ref09_ints_eq:runY Try.prog ref09_ints_E ref09_ints_H ref09_ints_V ref09_ints_Y Try.f47 ref09_ints_T.ps ref09_ints_T.res=ref09_ints_T.fn:=by kernel_rfl
theorem ref09_ints_Fok:SoundP Try.prog G0 47 ref09_ints_F:=closeF_sound (runF_sound (P:=Try.prog) (E:=ref09_ints_E) (h:=ref09_ints_H) (f:=47) (fn:=Try.f47) ⟨same_ok,envP_nil,envS_nil,envP_nil,envX_nil⟩ Try.func47 rfl (by kernel_rfl))
theorem ref09_ints_ok:TOk ref09_ints_F ref09_ints_T:=runY_ok (E:=ref09_ints_E) (ET:=ref09_ints_V) (EnvT.ofX (E:=ref09_ints_E) (ET:=ref09_ints_V) (pure_of pairs_nil) looks_nil raws_nil G0_ok news_nil) ref09_ints_eq rfl
noncomputable def ref09_Texts_E:Env:={ pure:=[(47,ref09_ints_F)],raw:=[],glob:=G0,same:=[],look:=[],ext:=[] }
def ref09_Texts_H:Hints:={ seqs:=[],loops:=[(2,[0,1,5])],own:=[] }
noncomputable def ref09_Texts_F:PFn:=closeF (runF Try.prog ref09_Texts_E ref09_Texts_H Try.f43)
def ref09_Texts_Y:TH:={ joins:=[(6,{ keep:=[],mem:=[] })],loops:=[(2,{ keep:=[(5,(.int .i64))],mem:=[] })],cuts:=[],ro:=[],news:=[] }
noncomputable def ref09_Texts_l2 (a0:List UInt8) (a1:List UInt8) (y2:(Int×Unit)):Option ((Int×Unit)⊕(Unit⊕Int)) :=
 cond (decide (y2.1<(a0.length:Int))) (cond (decide (y2.1<(a1.length:Int))) (
(atI a0 y2.1).bind fun b1 =>
(atI a1 y2.1).bind fun b2 =>
 cond (!decide ((b1.toNat:Int)=(b2.toNat:Int))) (
(atI a0 y2.1).bind fun b3 =>
(atI a1 y2.1).bind fun b4 =>
(ref09_ints (IntKind.wrap .i64 (b3.toNat:Int)) (IntKind.wrap .i64 (b4.toNat:Int))).bind fun r5 =>
 some (.inr (.inr r5))) (
 some (.inl ((IntKind.wrap .i64 (y2.1+1)),())))) (
 some (.inr (.inl ())))) (some (.inr (.inl ())))
noncomputable def ref09_Texts (a0:List UInt8) (a1:List UInt8):Option Int :=
(loopT (ref09_Texts_l2 a0 a1) (0,()):Option (Unit⊕Int)).bind (joinS fun v6 =>
(ref09_ints (a0.length:Int) (a1.length:Int)).bind fun r7 =>
 some r7)
noncomputable def ref09_Texts_T:TFn:={ ps:=(.cons .str (.cons .str .unit)),res:=(.int .i64),fn:=fun v=>ref09_Texts v.1 v.2.1 }
noncomputable def ref09_Texts_V:TEnv:={ pure:=[(47,ref09_ints_T)],look:=[],glob:=G0T,ty:=[],raw:=[],fresh:=[],deep:=[] }
theorem ref09_Texts_eq:runY Try.prog ref09_Texts_E ref09_Texts_H ref09_Texts_V ref09_Texts_Y Try.f43 ref09_Texts_T.ps ref09_Texts_T.res=ref09_Texts_T.fn:=by kernel_rfl
theorem ref09_Texts_Fok:SoundP Try.prog G0 43 ref09_Texts_F:=closeF_sound (runF_sound (P:=Try.prog) (E:=ref09_Texts_E) (h:=ref09_Texts_H) (f:=43) (fn:=Try.f43) ⟨same_ok,(envP_cons ref09_ints_Fok envP_nil),envS_nil,envP_nil,envX_nil⟩ Try.func43 rfl (by kernel_rfl))
theorem ref09_Texts_ok:TOk ref09_Texts_F ref09_Texts_T:=runY_ok (E:=ref09_Texts_E) (ET:=ref09_Texts_V) (EnvT.ofX (E:=ref09_Texts_E) (ET:=ref09_Texts_V) (pure_of (pairs_cons ref09_ints_ok pairs_nil)) looks_nil raws_nil G0_ok news_nil) ref09_Texts_eq rfl
noncomputable def ref35_Dir_put_E:Env:={ pure:=[(43,ref09_Texts_F)],raw:=[(36,ref35_Dir_Find_S),(38,ref35_Dir_without_S)],glob:=G0,same:=[],look:=[],ext:=[] }
def ref35_Dir_put_H:Hints:={ seqs:=[],loops:=[(5,[0,3,4,5,6,7])],own:=[51] }
noncomputable def ref35_Dir_put_S:SFn:=runF Try.prog ref35_Dir_put_E ref35_Dir_put_H Try.f37
def ref35_Dir_put_Y:TH:={ joins:=[(11,{ keep:=[(0,(.bx 0 0)),(3,(.bx 1 0)),(5,(.own 2)),(6,.bool)],mem:=[.box 52 (.agg (.cons (.sl (.agg (.cons .str (.cons .str (.cons .str .unit))))) (.cons (.int .i64) (.cons .bool .unit)))),.same,.row true 64 (.agg (.cons .str (.cons .str (.cons .str .unit))))] }),(10,{ keep:=[(0,(.bx 0 0)),(3,(.bx 1 0)),(5,(.own 2)),(6,.bool)],mem:=[.box 52 (.agg (.cons (.sl (.agg (.cons .str (.cons .str (.cons .str .unit))))) (.cons (.int .i64) (.cons .bool .unit)))),.same,.row true 64 (.agg (.cons .str (.cons .str (.cons .str .unit))))] }),(13,{ keep:=[(0,(.bx 0 0)),(5,(.own 2))],mem:=[.box 52 (.agg (.cons (.sl (.agg (.cons .str (.cons .str (.cons .str .unit))))) (.cons (.int .i64) (.cons .bool .unit)))),.same,.row true 64 (.agg (.cons .str (.cons .str (.cons .str .unit))))] })],loops:=[(5,{ keep:=[(0,(.bx 0 0)),(3,(.bx 1 0)),(5,(.own 2)),(6,.bool),(7,(.int .i64))],mem:=[.box 52 (.agg (.cons (.sl (.agg (.cons .str (.cons .str (.cons .str .unit))))) (.cons (.int .i64) (.cons .bool .unit)))),.same,.row true 64 (.agg (.cons .str (.cons .str (.cons .str .unit))))] })],cuts:=[],ro:=[3],news:=[] }
noncomputable def ref35_Dir_put_l5 (a1:(List UInt8×List UInt8×List UInt8×Unit)) (q2:(List (List UInt8×List UInt8×List UInt8×Unit)×(List (List UInt8×List UInt8×List UInt8×Unit)×Int×Bool×Unit)×Unit)) (y5:(Bool×Int×(List (List UInt8×List UInt8×List UInt8×Unit)×Int×Bool×Unit)×List (List UInt8×List UInt8×List UInt8×Unit)×Unit)):Option ((Bool×Int×(List (List UInt8×List UInt8×List UInt8×Unit)×Int×Bool×Unit)×List (List UInt8×List UInt8×List UInt8×Unit)×Unit)⊕((Bool×(List (List UInt8×List UInt8×List UInt8×Unit)×Int×Bool×Unit)×List (List UInt8×List UInt8×List UInt8×Unit)×Unit)⊕(Unit×(List (List UInt8×List UInt8×List UInt8×Unit)×Int×Bool×Unit)×Unit))) :=
 cond (decide (y5.2.1<(q2.1.length:Int))) (
(cond (!y5.1) ((atI q2.1 y5.2.1).bind fun x3 =>
(ref09_Texts a1.1 x3.1).bind fun r4 =>
 cond (decide (r4<0)) (
(roomT (y5.2.2.2.1.length+([a1]:List (List UInt8×List UInt8×List UInt8×Unit)).length)).bind fun u5 =>
 some (.inl (true,y5.2.2.1,(y5.2.2.2.1++([a1]:List (List UInt8×List UInt8×List UInt8×Unit))),()))) (
 some (.inl (y5.1,y5.2.2.1,y5.2.2.2.1,())))) (some (.inl (y5.1,y5.2.2.1,y5.2.2.2.1,()))):Option ((Bool×(List (List UInt8×List UInt8×List UInt8×Unit)×Int×Bool×Unit)×List (List UInt8×List UInt8×List UInt8×Unit)×Unit)⊕((Bool×Int×(List (List UInt8×List UInt8×List UInt8×Unit)×Int×Bool×Unit)×List (List UInt8×List UInt8×List UInt8×Unit)×Unit)⊕((Bool×(List (List UInt8×List UInt8×List UInt8×Unit)×Int×Bool×Unit)×List (List UInt8×List UInt8×List UInt8×Unit)×Unit)⊕(Unit×(List (List UInt8×List UInt8×List UInt8×Unit)×Int×Bool×Unit)×Unit))))).bind (joinS fun v6 =>
(atI q2.1 y5.2.1).bind fun x7 =>
(roomT (v6.2.2.1.length+([x7]:List (List UInt8×List UInt8×List UInt8×Unit)).length)).bind fun u8 =>
 some (.inl (v6.1,(IntKind.wrap .i64 (y5.2.1+1)),v6.2.1,(v6.2.2.1++([x7]:List (List UInt8×List UInt8×List UInt8×Unit))),())))) (
 some (.inr (.inl (y5.1,y5.2.2.1,y5.2.2.2.1,()))))
noncomputable def ref35_Dir_put (a1:(List UInt8×List UInt8×List UInt8×Unit)) (w0:(List (List UInt8×List UInt8×List UInt8×Unit)×Int×Bool×Unit)):Option (Unit×(List (List UInt8×List UInt8×List UInt8×Unit)×Int×Bool×Unit)×Unit) :=
(ref35_Dir_Find a1.1 w0).bind fun q1 =>
(ref35_Dir_without q1.1 q1.2.1).bind fun q2 =>
(loopT (ref35_Dir_put_l5 a1 q2) (false,0,q2.2.1,[],()):Option ((Bool×(List (List UInt8×List UInt8×List UInt8×Unit)×Int×Bool×Unit)×List (List UInt8×List UInt8×List UInt8×Unit)×Unit)⊕(Unit×(List (List UInt8×List UInt8×List UInt8×Unit)×Int×Bool×Unit)×Unit))).bind (joinS fun v9 =>
(cond (!v9.1) (
(roomT (v9.2.2.1.length+([a1]:List (List UInt8×List UInt8×List UInt8×Unit)).length)).bind fun u10 =>
 some (.inl (v9.2.1,(v9.2.2.1++([a1]:List (List UInt8×List UInt8×List UInt8×Unit))),()))) (
 some (.inl (v9.2.1,v9.2.2.1,()))):Option (((List (List UInt8×List UInt8×List UInt8×Unit)×Int×Bool×Unit)×List (List UInt8×List UInt8×List UInt8×Unit)×Unit)⊕(Unit×(List (List UInt8×List UInt8×List UInt8×Unit)×Int×Bool×Unit)×Unit))).bind (joinS fun v11 =>
 some ((),(v11.2.1,v11.1.2.1,v11.1.2.2.1,()),())))
noncomputable def ref35_Dir_put_R:TRaw:={ ps:=(.cons (.bx 0 0) (.cons (.agg (.cons .str (.cons .str (.cons .str .unit)))) .unit)),ins:=[.box 52 (.agg (.cons (.sl (.agg (.cons .str (.cons .str (.cons .str .unit))))) (.cons (.int .i64) (.cons .bool .unit))))],res:=(.tup .unit),outs:=[.box 52 (.agg (.cons (.sl (.agg (.cons .str (.cons .str (.cons .str .unit))))) (.cons (.int .i64) (.cons .bool .unit))))],fn:=fun v w=>ref35_Dir_put v.2.1 w.1 }
noncomputable def ref35_Dir_put_V:TEnv:={ pure:=[(43,ref09_Texts_T)],look:=[],glob:=G0T,ty:=[(64,(.agg (.cons .str (.cons .str (.cons .str .unit)))))],raw:=[(36,ref35_Dir_Find_R),(38,ref35_Dir_without_R)],fresh:=[],deep:=[] }
theorem ref35_Dir_put_eq:rawY Try.prog ref35_Dir_put_E ref35_Dir_put_H ref35_Dir_put_V ref35_Dir_put_Y [(0,0)] Try.f37 ref35_Dir_put_R.ps ref35_Dir_put_R.ins ref35_Dir_put_R.res ref35_Dir_put_R.outs=ref35_Dir_put_R.fn:=by kernel_rfl
theorem ref35_Dir_put_Sok:SoundS Try.prog G0 37 ref35_Dir_put_S:=runF_sound (P:=Try.prog) (E:=ref35_Dir_put_E) (h:=ref35_Dir_put_H) (f:=37) (fn:=Try.f37) ⟨same_ok,(envP_cons ref09_Texts_Fok envP_nil),(envS_cons ref35_Dir_Find_Sok (envS_cons ref35_Dir_without_Sok envS_nil)),envP_nil,envX_nil⟩ Try.func37 rfl (by kernel_rfl)
theorem ref35_Dir_put_ok:TRawOk ref35_Dir_put_S ref35_Dir_put_R:=rawY_ok (E:=ref35_Dir_put_E) (ET:=ref35_Dir_put_V) (EnvT.ofX (E:=ref35_Dir_put_E) (ET:=ref35_Dir_put_V) (pure_of (pairs_cons ref09_Texts_ok pairs_nil)) looks_nil (raws_cons ref35_Dir_Find_ok rfl rfl (raws_cons ref35_Dir_without_ok rfl rfl raws_nil)) G0_ok news_nil) ref35_Dir_put_eq
noncomputable def ref35_Dir_Append_E:Env:={ pure:=[],raw:=[(35,ref35_Dir_deed_S),(36,ref35_Dir_Find_S),(37,ref35_Dir_put_S)],glob:=G0,same:=[],look:=[],ext:=[] }
def ref35_Dir_Append_H:Hints:={ seqs:=[],loops:=[(7,[0,1,2,7,8])],own:=[] }
noncomputable def ref35_Dir_Append_S:SFn:=runF Try.prog ref35_Dir_Append_E ref35_Dir_Append_H Try.f22
def ref35_Dir_Append_Y:TH:={ joins:=[(10,{ keep:=[(0,(.bx 0 0)),(7,(.int .i64))],mem:=[.box 52 (.agg (.cons (.sl (.agg (.cons .str (.cons .str (.cons .str .unit))))) (.cons (.int .i64) (.cons .bool .unit))))] }),(13,{ keep:=[(0,(.bx 0 0))],mem:=[.box 52 (.agg (.cons (.sl (.agg (.cons .str (.cons .str (.cons .str .unit))))) (.cons (.int .i64) (.cons .bool .unit))))] }),(16,{ keep:=[(0,(.bx 0 0)),(10,(.bx 1 0))],mem:=[.box 52 (.agg (.cons (.sl (.agg (.cons .str (.cons .str (.cons .str .unit))))) (.cons (.int .i64) (.cons .bool .unit)))),.box 64 (.agg (.cons .str (.cons .str (.cons .str .unit))))] })],loops:=[(7,{ keep:=[(0,(.bx 0 0)),(7,(.int .i64)),(8,(.int .i64))],mem:=[.box 52 (.agg (.cons (.sl (.agg (.cons .str (.cons .str (.cons .str .unit))))) (.cons (.int .i64) (.cons .bool .unit))))] })],cuts:=[],ro:=[],news:=[] }
noncomputable def ref35_Dir_Append_l7 (y7:(Int×Int×(List (List UInt8×List UInt8×List UInt8×Unit)×Int×Bool×Unit)×Unit)):Option ((Int×Int×(List (List UInt8×List UInt8×List UInt8×Unit)×Int×Bool×Unit)×Unit)⊕((Int×(List (List UInt8×List UInt8×List UInt8×Unit)×Int×Bool×Unit)×Unit)⊕(Int×(List (List UInt8×List UInt8×List UInt8×Unit)×Int×Bool×Unit)×Unit))) :=
 cond (decide (y7.2.1<(y7.2.2.1.1.length:Int))) (
(atI y7.2.2.1.1 y7.2.1).bind fun x2 =>
(atI y7.2.2.1.1 y7.2.1).bind fun x3 =>
 some (.inl ((IntKind.wrap .i64 ((IntKind.wrap .i64 (y7.1+(x2.2.1.length:Int)))+(x3.2.2.1.length:Int))),(IntKind.wrap .i64 (y7.2.1+1)),y7.2.2.1,()))) (
 some (.inr (.inl (y7.1,y7.2.2.1,()))))
noncomputable def ref35_Dir_Append (a1:List UInt8) (a2:List UInt8) (w0:(List (List UInt8×List UInt8×List UInt8×Unit)×Int×Bool×Unit)):Option (Int×(List (List UInt8×List UInt8×List UInt8×Unit)×Int×Bool×Unit)×Unit) :=
 cond (decide (a1=[])) (some (2,w0,())) (cond (decide ((a1.length:Int)>32)) (
 some (2,w0,())) (
(ref35_Dir_deed w0).bind fun q1 =>
 cond (!decide (q1.1=0)) (
 some (15,q1.2.1,())) (
(loopT (ref35_Dir_Append_l7) ((a2.length:Int),0,q1.2.1,()):Option ((Int×(List (List UInt8×List UInt8×List UInt8×Unit)×Int×Bool×Unit)×Unit)⊕(Int×(List (List UInt8×List UInt8×List UInt8×Unit)×Int×Bool×Unit)×Unit))).bind (joinS fun v4 =>
(ref35_Dir_Find a1 v4.2.1).bind fun q5 =>
(cond (decide (q5.1<0)) (cond (decide ((q5.2.1.1.length:Int)≥64)) (some (.inr (7,q5.2.1,()))) (cond (decide (v4.1>4194304)) (
 some (.inr (7,q5.2.1,()))) (
 some (.inl (q5.2.1,()))))) (cond (decide (v4.1>4194304)) (
 some (.inr (7,q5.2.1,()))) (
 some (.inl (q5.2.1,())))):Option (((List (List UInt8×List UInt8×List UInt8×Unit)×Int×Bool×Unit)×Unit)⊕(Int×(List (List UInt8×List UInt8×List UInt8×Unit)×Int×Bool×Unit)×Unit))).bind (joinS fun v6 =>
(cond (decide (q5.1≥0)) (
(atI v6.1.1 q5.1).bind fun x7 =>
 some (.inl (v6.1,x7,()))) (
 some (.inl (v6.1,(a1,[],[],()),()))):Option (((List (List UInt8×List UInt8×List UInt8×Unit)×Int×Bool×Unit)×(List UInt8×List UInt8×List UInt8×Unit)×Unit)⊕(Int×(List (List UInt8×List UInt8×List UInt8×Unit)×Int×Bool×Unit)×Unit))).bind (joinS fun v8 =>
(catT v8.2.1.2.2.1 a2).bind fun s9 =>
(ref35_Dir_put (v8.2.1.1,v8.2.1.2.1,s9,()) v8.1).bind fun q10 =>
 some (0,q10.2.1,())))))))
noncomputable def ref35_Dir_Append_R:TRaw:={ ps:=(.cons (.bx 0 0) (.cons .str (.cons .str .unit))),ins:=[.box 52 (.agg (.cons (.sl (.agg (.cons .str (.cons .str (.cons .str .unit))))) (.cons (.int .i64) (.cons .bool .unit))))],res:=(.int .i64),outs:=[.box 52 (.agg (.cons (.sl (.agg (.cons .str (.cons .str (.cons .str .unit))))) (.cons (.int .i64) (.cons .bool .unit))))],fn:=fun v w=>ref35_Dir_Append v.2.1 v.2.2.1 w.1 }
noncomputable def ref35_Dir_Append_V:TEnv:={ pure:=[],look:=[],glob:=G0T,ty:=[],raw:=[(35,ref35_Dir_deed_R),(36,ref35_Dir_Find_R),(37,ref35_Dir_put_R)],fresh:=[],deep:=[] }
theorem ref35_Dir_Append_eq:rawY Try.prog ref35_Dir_Append_E ref35_Dir_Append_H ref35_Dir_Append_V ref35_Dir_Append_Y [(0,0)] Try.f22 ref35_Dir_Append_R.ps ref35_Dir_Append_R.ins ref35_Dir_Append_R.res ref35_Dir_Append_R.outs=ref35_Dir_Append_R.fn:=by kernel_rfl
theorem ref35_Dir_Append_Sok:SoundS Try.prog G0 22 ref35_Dir_Append_S:=runF_sound (P:=Try.prog) (E:=ref35_Dir_Append_E) (h:=ref35_Dir_Append_H) (f:=22) (fn:=Try.f22) ⟨same_ok,envP_nil,(envS_cons ref35_Dir_deed_Sok (envS_cons ref35_Dir_Find_Sok (envS_cons ref35_Dir_put_Sok envS_nil))),envP_nil,envX_nil⟩ Try.func22 rfl (by kernel_rfl)
theorem ref35_Dir_Append_ok:TRawOk ref35_Dir_Append_S ref35_Dir_Append_R:=rawY_ok (E:=ref35_Dir_Append_E) (ET:=ref35_Dir_Append_V) (EnvT.ofX (E:=ref35_Dir_Append_E) (ET:=ref35_Dir_Append_V) (pure_of pairs_nil) looks_nil (raws_cons ref35_Dir_deed_ok rfl rfl (raws_cons ref35_Dir_Find_ok rfl rfl (raws_cons ref35_Dir_put_ok rfl rfl raws_nil))) G0_ok news_nil) ref35_Dir_Append_eq
noncomputable def dir_Dir_Sync_E:Env:={ pure:=[],raw:=[(33,dir_Dir_deed_S)],glob:=G0,same:=[],look:=[],ext:=[] }
def dir_Dir_Sync_H:Hints:={ seqs:=[],loops:=[],own:=[] }
noncomputable def dir_Dir_Sync_S:SFn:=runF Try.prog dir_Dir_Sync_E dir_Dir_Sync_H Try.f16
def dir_Dir_Sync_Y:TH:={ joins:=[],loops:=[],cuts:=[],ro:=[],news:=[] }
noncomputable def dir_Dir_Sync (a1:List UInt8) (w0:(Unit×Int×Bool×Unit)) (w1:List (List UInt8×(List UInt8×List UInt8×Unit))):Option (Int×(Unit×Int×Bool×Unit)×List (List UInt8×(List UInt8×List UInt8×Unit))×Unit) :=
(dir_Dir_deed w0 w1).bind fun q1 =>
 cond (!decide (q1.1=0)) (
 some (q1.1,q1.2.1,q1.2.2.1,())) (
 cond (!((getK .str ([],[],()) a1 q1.2.2.1).2)) (
 some (12,q1.2.1,q1.2.2.1,())) (
(catT (((getK .str ([],[],()) a1 q1.2.2.1).1).1) (((getK .str ([],[],()) a1 q1.2.2.1).1).2.1)).bind fun s2 =>
 some (0,q1.2.1,(putK .str a1 (s2,[],()) q1.2.2.1),())))
noncomputable def dir_Dir_Sync_R:TRaw:={ ps:=(.cons (.bx 0 0) (.cons .str .unit)),ins:=[.box 38 (.agg (.cons (.mp 1) (.cons (.int .i64) (.cons .bool .unit)))),.map .str (.agg (.cons .str (.cons .str .unit)))],res:=(.int .i64),outs:=[.box 38 (.agg (.cons (.mp 1) (.cons (.int .i64) (.cons .bool .unit)))),.map .str (.agg (.cons .str (.cons .str .unit)))],fn:=fun v w=>dir_Dir_Sync v.2.1 w.1 w.2.1 }
noncomputable def dir_Dir_Sync_V:TEnv:={ pure:=[],look:=[],glob:=G0T,ty:=[],raw:=[(33,dir_Dir_deed_R)],fresh:=[],deep:=[] }
theorem dir_Dir_Sync_eq:rawY Try.prog dir_Dir_Sync_E dir_Dir_Sync_H dir_Dir_Sync_V dir_Dir_Sync_Y [(0,0)] Try.f16 dir_Dir_Sync_R.ps dir_Dir_Sync_R.ins dir_Dir_Sync_R.res dir_Dir_Sync_R.outs=dir_Dir_Sync_R.fn:=by kernel_rfl
theorem dir_Dir_Sync_Sok:SoundS Try.prog G0 16 dir_Dir_Sync_S:=runF_sound (P:=Try.prog) (E:=dir_Dir_Sync_E) (h:=dir_Dir_Sync_H) (f:=16) (fn:=Try.f16) ⟨same_ok,envP_nil,(envS_cons dir_Dir_deed_Sok envS_nil),envP_nil,envX_nil⟩ Try.func16 rfl (by kernel_rfl)
theorem dir_Dir_Sync_ok:TRawOk dir_Dir_Sync_S dir_Dir_Sync_R:=rawY_ok (E:=dir_Dir_Sync_E) (ET:=dir_Dir_Sync_V) (EnvT.ofX (E:=dir_Dir_Sync_E) (ET:=dir_Dir_Sync_V) (pure_of pairs_nil) looks_nil (raws_cons dir_Dir_deed_ok rfl rfl raws_nil) G0_ok news_nil) dir_Dir_Sync_eq
noncomputable def ref35_Dir_Sync_E:Env:={ pure:=[],raw:=[(35,ref35_Dir_deed_S),(36,ref35_Dir_Find_S),(37,ref35_Dir_put_S)],glob:=G0,same:=[],look:=[],ext:=[] }
def ref35_Dir_Sync_H:Hints:={ seqs:=[],loops:=[],own:=[23,31] }
noncomputable def ref35_Dir_Sync_S:SFn:=runF Try.prog ref35_Dir_Sync_E ref35_Dir_Sync_H Try.f23
def ref35_Dir_Sync_Y:TH:={ joins:=[],loops:=[],cuts:=[],ro:=[],news:=[] }
noncomputable def ref35_Dir_Sync (a1:List UInt8) (w0:(List (List UInt8×List UInt8×List UInt8×Unit)×Int×Bool×Unit)):Option (Int×(List (List UInt8×List UInt8×List UInt8×Unit)×Int×Bool×Unit)×Unit) :=
(ref35_Dir_deed w0).bind fun q1 =>
 cond (!decide (q1.1=0)) (
 some (15,q1.2.1,())) (
(ref35_Dir_Find a1 q1.2.1).bind fun q2 =>
 cond (decide (q2.1<0)) (
 some (12,q2.2.1,())) (
(atI q2.2.1.1 q2.1).bind fun x3 =>
(atI q2.2.1.1 q2.1).bind fun x4 =>
(catT x3.2.1 x4.2.2.1).bind fun s5 =>
(ref35_Dir_put (a1,s5,[],()) q2.2.1).bind fun q6 =>
 some (0,q6.2.1,())))
noncomputable def ref35_Dir_Sync_R:TRaw:={ ps:=(.cons (.bx 0 0) (.cons .str .unit)),ins:=[.box 52 (.agg (.cons (.sl (.agg (.cons .str (.cons .str (.cons .str .unit))))) (.cons (.int .i64) (.cons .bool .unit))))],res:=(.int .i64),outs:=[.box 52 (.agg (.cons (.sl (.agg (.cons .str (.cons .str (.cons .str .unit))))) (.cons (.int .i64) (.cons .bool .unit))))],fn:=fun v w=>ref35_Dir_Sync v.2.1 w.1 }
noncomputable def ref35_Dir_Sync_V:TEnv:={ pure:=[],look:=[],glob:=G0T,ty:=[],raw:=[(35,ref35_Dir_deed_R),(36,ref35_Dir_Find_R),(37,ref35_Dir_put_R)],fresh:=[],deep:=[] }
theorem ref35_Dir_Sync_eq:rawY Try.prog ref35_Dir_Sync_E ref35_Dir_Sync_H ref35_Dir_Sync_V ref35_Dir_Sync_Y [(0,0)] Try.f23 ref35_Dir_Sync_R.ps ref35_Dir_Sync_R.ins ref35_Dir_Sync_R.res ref35_Dir_Sync_R.outs=ref35_Dir_Sync_R.fn:=by kernel_rfl
theorem ref35_Dir_Sync_Sok:SoundS Try.prog G0 23 ref35_Dir_Sync_S:=runF_sound (P:=Try.prog) (E:=ref35_Dir_Sync_E) (h:=ref35_Dir_Sync_H) (f:=23) (fn:=Try.f23) ⟨same_ok,envP_nil,(envS_cons ref35_Dir_deed_Sok (envS_cons ref35_Dir_Find_Sok (envS_cons ref35_Dir_put_Sok envS_nil))),envP_nil,envX_nil⟩ Try.func23 rfl (by kernel_rfl)
theorem ref35_Dir_Sync_ok:TRawOk ref35_Dir_Sync_S ref35_Dir_Sync_R:=rawY_ok (E:=ref35_Dir_Sync_E) (ET:=ref35_Dir_Sync_V) (EnvT.ofX (E:=ref35_Dir_Sync_E) (ET:=ref35_Dir_Sync_V) (pure_of pairs_nil) looks_nil (raws_cons ref35_Dir_deed_ok rfl rfl (raws_cons ref35_Dir_Find_ok rfl rfl (raws_cons ref35_Dir_put_ok rfl rfl raws_nil))) G0_ok news_nil) ref35_Dir_Sync_eq
noncomputable def dir_Dir_Rename_E:Env:={ pure:=[],raw:=[(33,dir_Dir_deed_S)],glob:=G0,same:=[],look:=[],ext:=[] }
def dir_Dir_Rename_H:Hints:={ seqs:=[],loops:=[],own:=[] }
noncomputable def dir_Dir_Rename_S:SFn:=runF Try.prog dir_Dir_Rename_E dir_Dir_Rename_H Try.f19
def dir_Dir_Rename_Y:TH:={ joins:=[],loops:=[],cuts:=[],ro:=[],news:=[] }
noncomputable def dir_Dir_Rename (a1:List UInt8) (a2:List UInt8) (w0:(Unit×Int×Bool×Unit)) (w1:List (List UInt8×(List UInt8×List UInt8×Unit))):Option (Int×(Unit×Int×Bool×Unit)×List (List UInt8×(List UInt8×List UInt8×Unit))×Unit) :=
 cond (decide (a2=[])) (some (2,w0,w1,())) (cond (decide ((a2.length:Int)>32)) (
 some (2,w0,w1,())) (
(dir_Dir_deed w0 w1).bind fun q1 =>
 cond (!decide (q1.1=0)) (
 some (q1.1,q1.2.1,q1.2.2.1,())) (
 cond (!((getK .str ([],[],()) a1 q1.2.2.1).2)) (
 some (12,q1.2.1,q1.2.2.1,())) (
 some (0,q1.2.1,(putK .str a2 ((getK .str ([],[],()) a1 q1.2.2.1).1) (delK .str a1 q1.2.2.1)),())))))
noncomputable def dir_Dir_Rename_R:TRaw:={ ps:=(.cons (.bx 0 0) (.cons .str (.cons .str .unit))),ins:=[.box 38 (.agg (.cons (.mp 1) (.cons (.int .i64) (.cons .bool .unit)))),.map .str (.agg (.cons .str (.cons .str .unit)))],res:=(.int .i64),outs:=[.box 38 (.agg (.cons (.mp 1) (.cons (.int .i64) (.cons .bool .unit)))),.map .str (.agg (.cons .str (.cons .str .unit)))],fn:=fun v w=>dir_Dir_Rename v.2.1 v.2.2.1 w.1 w.2.1 }
noncomputable def dir_Dir_Rename_V:TEnv:={ pure:=[],look:=[],glob:=G0T,ty:=[],raw:=[(33,dir_Dir_deed_R)],fresh:=[],deep:=[] }
theorem dir_Dir_Rename_eq:rawY Try.prog dir_Dir_Rename_E dir_Dir_Rename_H dir_Dir_Rename_V dir_Dir_Rename_Y [(0,0)] Try.f19 dir_Dir_Rename_R.ps dir_Dir_Rename_R.ins dir_Dir_Rename_R.res dir_Dir_Rename_R.outs=dir_Dir_Rename_R.fn:=by kernel_rfl
theorem dir_Dir_Rename_Sok:SoundS Try.prog G0 19 dir_Dir_Rename_S:=runF_sound (P:=Try.prog) (E:=dir_Dir_Rename_E) (h:=dir_Dir_Rename_H) (f:=19) (fn:=Try.f19) ⟨same_ok,envP_nil,(envS_cons dir_Dir_deed_Sok envS_nil),envP_nil,envX_nil⟩ Try.func19 rfl (by kernel_rfl)
theorem dir_Dir_Rename_ok:TRawOk dir_Dir_Rename_S dir_Dir_Rename_R:=rawY_ok (E:=dir_Dir_Rename_E) (ET:=dir_Dir_Rename_V) (EnvT.ofX (E:=dir_Dir_Rename_E) (ET:=dir_Dir_Rename_V) (pure_of pairs_nil) looks_nil (raws_cons dir_Dir_deed_ok rfl rfl raws_nil) G0_ok news_nil) dir_Dir_Rename_eq
noncomputable def ref35_Dir_Rename_E:Env:={ pure:=[],raw:=[(35,ref35_Dir_deed_S),(36,ref35_Dir_Find_S),(37,ref35_Dir_put_S),(38,ref35_Dir_without_S)],glob:=G0,same:=[],look:=[],ext:=[] }
def ref35_Dir_Rename_H:Hints:={ seqs:=[],loops:=[],own:=[] }
noncomputable def ref35_Dir_Rename_S:SFn:=runF Try.prog ref35_Dir_Rename_E ref35_Dir_Rename_H Try.f24
def ref35_Dir_Rename_Y:TH:={ joins:=[],loops:=[],cuts:=[],ro:=[],news:=[] }
noncomputable def ref35_Dir_Rename (a1:List UInt8) (a2:List UInt8) (w0:(List (List UInt8×List UInt8×List UInt8×Unit)×Int×Bool×Unit)):Option (Int×(List (List UInt8×List UInt8×List UInt8×Unit)×Int×Bool×Unit)×Unit) :=
 cond (decide (a2=[])) (some (2,w0,())) (cond (decide ((a2.length:Int)>32)) (
 some (2,w0,())) (
(ref35_Dir_deed w0).bind fun q1 =>
 cond (!decide (q1.1=0)) (
 some (15,q1.2.1,())) (
(ref35_Dir_Find a1 q1.2.1).bind fun q2 =>
 cond (decide (q2.1<0)) (
 some (12,q2.2.1,())) (
(atI q2.2.1.1 q2.1).bind fun x3 =>
(ref35_Dir_without q2.1 q2.2.1).bind fun q4 =>
(ref35_Dir_put (a2,x3.2.1,x3.2.2.1,()) (q4.1,q4.2.1.2.1,q4.2.1.2.2.1,())).bind fun q5 =>
 some (0,q5.2.1,())))))
noncomputable def ref35_Dir_Rename_R:TRaw:={ ps:=(.cons (.bx 0 0) (.cons .str (.cons .str .unit))),ins:=[.box 52 (.agg (.cons (.sl (.agg (.cons .str (.cons .str (.cons .str .unit))))) (.cons (.int .i64) (.cons .bool .unit))))],res:=(.int .i64),outs:=[.box 52 (.agg (.cons (.sl (.agg (.cons .str (.cons .str (.cons .str .unit))))) (.cons (.int .i64) (.cons .bool .unit))))],fn:=fun v w=>ref35_Dir_Rename v.2.1 v.2.2.1 w.1 }
noncomputable def ref35_Dir_Rename_V:TEnv:={ pure:=[],look:=[],glob:=G0T,ty:=[],raw:=[(35,ref35_Dir_deed_R),(36,ref35_Dir_Find_R),(37,ref35_Dir_put_R),(38,ref35_Dir_without_R)],fresh:=[],deep:=[] }
theorem ref35_Dir_Rename_eq:rawY Try.prog ref35_Dir_Rename_E ref35_Dir_Rename_H ref35_Dir_Rename_V ref35_Dir_Rename_Y [(0,0)] Try.f24 ref35_Dir_Rename_R.ps ref35_Dir_Rename_R.ins ref35_Dir_Rename_R.res ref35_Dir_Rename_R.outs=ref35_Dir_Rename_R.fn:=by kernel_rfl
theorem ref35_Dir_Rename_Sok:SoundS Try.prog G0 24 ref35_Dir_Rename_S:=runF_sound (P:=Try.prog) (E:=ref35_Dir_Rename_E) (h:=ref35_Dir_Rename_H) (f:=24) (fn:=Try.f24) ⟨same_ok,envP_nil,(envS_cons ref35_Dir_deed_Sok (envS_cons ref35_Dir_Find_Sok (envS_cons ref35_Dir_put_Sok (envS_cons ref35_Dir_without_Sok envS_nil)))),envP_nil,envX_nil⟩ Try.func24 rfl (by kernel_rfl)
theorem ref35_Dir_Rename_ok:TRawOk ref35_Dir_Rename_S ref35_Dir_Rename_R:=rawY_ok (E:=ref35_Dir_Rename_E) (ET:=ref35_Dir_Rename_V) (EnvT.ofX (E:=ref35_Dir_Rename_E) (ET:=ref35_Dir_Rename_V) (pure_of pairs_nil) looks_nil (raws_cons ref35_Dir_deed_ok rfl rfl (raws_cons ref35_Dir_Find_ok rfl rfl (raws_cons ref35_Dir_put_ok rfl rfl (raws_cons ref35_Dir_without_ok rfl rfl raws_nil)))) G0_ok news_nil) ref35_Dir_Rename_eq
noncomputable def dir_Dir_Remove_E:Env:={ pure:=[],raw:=[(33,dir_Dir_deed_S)],glob:=G0,same:=[],look:=[],ext:=[] }
def dir_Dir_Remove_H:Hints:={ seqs:=[],loops:=[],own:=[] }
noncomputable def dir_Dir_Remove_S:SFn:=runF Try.prog dir_Dir_Remove_E dir_Dir_Remove_H Try.f17
def dir_Dir_Remove_Y:TH:={ joins:=[],loops:=[],cuts:=[],ro:=[],news:=[] }
noncomputable def dir_Dir_Remove (a1:List UInt8) (w0:(Unit×Int×Bool×Unit)) (w1:List (List UInt8×(List UInt8×List UInt8×Unit))):Option (Int×(Unit×Int×Bool×Unit)×List (List UInt8×(List UInt8×List UInt8×Unit))×Unit) :=
(dir_Dir_deed w0 w1).bind fun q1 =>
 cond (!decide (q1.1=0)) (
 some (q1.1,q1.2.1,q1.2.2.1,())) (
 cond (!((getK .str ([],[],()) a1 q1.2.2.1).2)) (
 some (12,q1.2.1,q1.2.2.1,())) (
 some (0,q1.2.1,(delK .str a1 q1.2.2.1),())))
noncomputable def dir_Dir_Remove_R:TRaw:={ ps:=(.cons (.bx 0 0) (.cons .str .unit)),ins:=[.box 38 (.agg (.cons (.mp 1) (.cons (.int .i64) (.cons .bool .unit)))),.map .str (.agg (.cons .str (.cons .str .unit)))],res:=(.int .i64),outs:=[.box 38 (.agg (.cons (.mp 1) (.cons (.int .i64) (.cons .bool .unit)))),.map .str (.agg (.cons .str (.cons .str .unit)))],fn:=fun v w=>dir_Dir_Remove v.2.1 w.1 w.2.1 }
noncomputable def dir_Dir_Remove_V:TEnv:={ pure:=[],look:=[],glob:=G0T,ty:=[],raw:=[(33,dir_Dir_deed_R)],fresh:=[],deep:=[] }
theorem dir_Dir_Remove_eq:rawY Try.prog dir_Dir_Remove_E dir_Dir_Remove_H dir_Dir_Remove_V dir_Dir_Remove_Y [(0,0)] Try.f17 dir_Dir_Remove_R.ps dir_Dir_Remove_R.ins dir_Dir_Remove_R.res dir_Dir_Remove_R.outs=dir_Dir_Remove_R.fn:=by kernel_rfl
theorem dir_Dir_Remove_Sok:SoundS Try.prog G0 17 dir_Dir_Remove_S:=runF_sound (P:=Try.prog) (E:=dir_Dir_Remove_E) (h:=dir_Dir_Remove_H) (f:=17) (fn:=Try.f17) ⟨same_ok,envP_nil,(envS_cons dir_Dir_deed_Sok envS_nil),envP_nil,envX_nil⟩ Try.func17 rfl (by kernel_rfl)
theorem dir_Dir_Remove_ok:TRawOk dir_Dir_Remove_S dir_Dir_Remove_R:=rawY_ok (E:=dir_Dir_Remove_E) (ET:=dir_Dir_Remove_V) (EnvT.ofX (E:=dir_Dir_Remove_E) (ET:=dir_Dir_Remove_V) (pure_of pairs_nil) looks_nil (raws_cons dir_Dir_deed_ok rfl rfl raws_nil) G0_ok news_nil) dir_Dir_Remove_eq
noncomputable def ref35_Dir_Remove_E:Env:={ pure:=[],raw:=[(35,ref35_Dir_deed_S),(36,ref35_Dir_Find_S),(38,ref35_Dir_without_S)],glob:=G0,same:=[],look:=[],ext:=[] }
def ref35_Dir_Remove_H:Hints:={ seqs:=[],loops:=[],own:=[] }
noncomputable def ref35_Dir_Remove_S:SFn:=runF Try.prog ref35_Dir_Remove_E ref35_Dir_Remove_H Try.f25
def ref35_Dir_Remove_Y:TH:={ joins:=[],loops:=[],cuts:=[],ro:=[],news:=[] }
noncomputable def ref35_Dir_Remove (a1:List UInt8) (w0:(List (List UInt8×List UInt8×List UInt8×Unit)×Int×Bool×Unit)):Option (Int×(List (List UInt8×List UInt8×List UInt8×Unit)×Int×Bool×Unit)×Unit) :=
(ref35_Dir_deed w0).bind fun q1 =>
 cond (!decide (q1.1=0)) (
 some (15,q1.2.1,())) (
(ref35_Dir_Find a1 q1.2.1).bind fun q2 =>
 cond (decide (q2.1<0)) (
 some (12,q2.2.1,())) (
(ref35_Dir_without q2.1 q2.2.1).bind fun q3 =>
 some (0,(q3.1,q3.2.1.2.1,q3.2.1.2.2.1,()),())))
noncomputable def ref35_Dir_Remove_R:TRaw:={ ps:=(.cons (.bx 0 0) (.cons .str .unit)),ins:=[.box 52 (.agg (.cons (.sl (.agg (.cons .str (.cons .str (.cons .str .unit))))) (.cons (.int .i64) (.cons .bool .unit))))],res:=(.int .i64),outs:=[.box 52 (.agg (.cons (.sl (.agg (.cons .str (.cons .str (.cons .str .unit))))) (.cons (.int .i64) (.cons .bool .unit))))],fn:=fun v w=>ref35_Dir_Remove v.2.1 w.1 }
noncomputable def ref35_Dir_Remove_V:TEnv:={ pure:=[],look:=[],glob:=G0T,ty:=[],raw:=[(35,ref35_Dir_deed_R),(36,ref35_Dir_Find_R),(38,ref35_Dir_without_R)],fresh:=[],deep:=[] }
theorem ref35_Dir_Remove_eq:rawY Try.prog ref35_Dir_Remove_E ref35_Dir_Remove_H ref35_Dir_Remove_V ref35_Dir_Remove_Y [(0,0)] Try.f25 ref35_Dir_Remove_R.ps ref35_Dir_Remove_R.ins ref35_Dir_Remove_R.res ref35_Dir_Remove_R.outs=ref35_Dir_Remove_R.fn:=by kernel_rfl
theorem ref35_Dir_Remove_Sok:SoundS Try.prog G0 25 ref35_Dir_Remove_S:=runF_sound (P:=Try.prog) (E:=ref35_Dir_Remove_E) (h:=ref35_Dir_Remove_H) (f:=25) (fn:=Try.f25) ⟨same_ok,envP_nil,(envS_cons ref35_Dir_deed_Sok (envS_cons ref35_Dir_Find_Sok (envS_cons ref35_Dir_without_Sok envS_nil))),envP_nil,envX_nil⟩ Try.func25 rfl (by kernel_rfl)
theorem ref35_Dir_Remove_ok:TRawOk ref35_Dir_Remove_S ref35_Dir_Remove_R:=rawY_ok (E:=ref35_Dir_Remove_E) (ET:=ref35_Dir_Remove_V) (EnvT.ofX (E:=ref35_Dir_Remove_E) (ET:=ref35_Dir_Remove_V) (pure_of pairs_nil) looks_nil (raws_cons ref35_Dir_deed_ok rfl rfl (raws_cons ref35_Dir_Find_ok rfl rfl (raws_cons ref35_Dir_without_ok rfl rfl raws_nil))) G0_ok news_nil) ref35_Dir_Remove_eq
noncomputable def dir_Dir_Cut_E:Env:={ pure:=[],raw:=[(33,dir_Dir_deed_S)],glob:=G0,same:=[],look:=[],ext:=[] }
def dir_Dir_Cut_H:Hints:={ seqs:=[],loops:=[],own:=[] }
noncomputable def dir_Dir_Cut_S:SFn:=runF Try.prog dir_Dir_Cut_E dir_Dir_Cut_H Try.f20
def dir_Dir_Cut_Y:TH:={ joins:=[],loops:=[],cuts:=[],ro:=[],news:=[] }
noncomputable def dir_Dir_Cut (a1:List UInt8) (a2:Int) (w0:(Unit×Int×Bool×Unit)) (w1:List (List UInt8×(List UInt8×List UInt8×Unit))):Option (Int×(Unit×Int×Bool×Unit)×List (List UInt8×(List UInt8×List UInt8×Unit))×Unit) :=
(dir_Dir_deed w0 w1).bind fun q1 =>
 cond (!decide (q1.1=0)) (
 some (q1.1,q1.2.1,q1.2.2.1,())) (
 cond (!((getK .str ([],[],()) a1 q1.2.2.1).2)) (
 some (12,q1.2.1,q1.2.2.1,())) (
 cond (decide (a2<0)) (some (2,q1.2.1,q1.2.2.1,())) (cond (decide (a2>((((getK .str ([],[],()) a1 q1.2.2.1).1).1).length:Int))) (
 some (2,q1.2.1,q1.2.2.1,())) (
(subI (((getK .str ([],[],()) a1 q1.2.2.1).1).1) 0 a2).bind fun s2 =>
 some (0,q1.2.1,(putK .str a1 (s2,[],()) q1.2.2.1),())))))
noncomputable def dir_Dir_Cut_R:TRaw:={ ps:=(.cons (.bx 0 0) (.cons .str (.cons (.int .i64) .unit))),ins:=[.box 38 (.agg (.cons (.mp 1) (.cons (.int .i64) (.cons .bool .unit)))),.map .str (.agg (.cons .str (.cons .str .unit)))],res:=(.int .i64),outs:=[.box 38 (.agg (.cons (.mp 1) (.cons (.int .i64) (.cons .bool .unit)))),.map .str (.agg (.cons .str (.cons .str .unit)))],fn:=fun v w=>dir_Dir_Cut v.2.1 v.2.2.1 w.1 w.2.1 }
noncomputable def dir_Dir_Cut_V:TEnv:={ pure:=[],look:=[],glob:=G0T,ty:=[],raw:=[(33,dir_Dir_deed_R)],fresh:=[],deep:=[] }
theorem dir_Dir_Cut_eq:rawY Try.prog dir_Dir_Cut_E dir_Dir_Cut_H dir_Dir_Cut_V dir_Dir_Cut_Y [(0,0)] Try.f20 dir_Dir_Cut_R.ps dir_Dir_Cut_R.ins dir_Dir_Cut_R.res dir_Dir_Cut_R.outs=dir_Dir_Cut_R.fn:=by kernel_rfl
theorem dir_Dir_Cut_Sok:SoundS Try.prog G0 20 dir_Dir_Cut_S:=runF_sound (P:=Try.prog) (E:=dir_Dir_Cut_E) (h:=dir_Dir_Cut_H) (f:=20) (fn:=Try.f20) ⟨same_ok,envP_nil,(envS_cons dir_Dir_deed_Sok envS_nil),envP_nil,envX_nil⟩ Try.func20 rfl (by kernel_rfl)
theorem dir_Dir_Cut_ok:TRawOk dir_Dir_Cut_S dir_Dir_Cut_R:=rawY_ok (E:=dir_Dir_Cut_E) (ET:=dir_Dir_Cut_V) (EnvT.ofX (E:=dir_Dir_Cut_E) (ET:=dir_Dir_Cut_V) (pure_of pairs_nil) looks_nil (raws_cons dir_Dir_deed_ok rfl rfl raws_nil) G0_ok news_nil) dir_Dir_Cut_eq
noncomputable def ref35_Dir_Cut_E:Env:={ pure:=[],raw:=[(35,ref35_Dir_deed_S),(36,ref35_Dir_Find_S),(37,ref35_Dir_put_S)],glob:=G0,same:=[],look:=[],ext:=[] }
def ref35_Dir_Cut_H:Hints:={ seqs:=[],loops:=[],own:=[] }
noncomputable def ref35_Dir_Cut_S:SFn:=runF Try.prog ref35_Dir_Cut_E ref35_Dir_Cut_H Try.f26
def ref35_Dir_Cut_Y:TH:={ joins:=[],loops:=[],cuts:=[],ro:=[],news:=[] }
noncomputable def ref35_Dir_Cut (a1:List UInt8) (a2:Int) (w0:(List (List UInt8×List UInt8×List UInt8×Unit)×Int×Bool×Unit)):Option (Int×(List (List UInt8×List UInt8×List UInt8×Unit)×Int×Bool×Unit)×Unit) :=
(ref35_Dir_deed w0).bind fun q1 =>
 cond (!decide (q1.1=0)) (
 some (15,q1.2.1,())) (
(ref35_Dir_Find a1 q1.2.1).bind fun q2 =>
 cond (decide (q2.1<0)) (
 some (12,q2.2.1,())) (
 cond (decide (a2<0)) (some (2,q2.2.1,())) ((atI q2.2.1.1 q2.1).bind fun x3 =>
 cond (decide (a2>(x3.2.1.length:Int))) (
 some (2,q2.2.1,())) (
(atI q2.2.1.1 q2.1).bind fun x4 =>
(subI x4.2.1 0 a2).bind fun s5 =>
(ref35_Dir_put (a1,s5,[],()) q2.2.1).bind fun q6 =>
 some (0,q6.2.1,())))))
noncomputable def ref35_Dir_Cut_R:TRaw:={ ps:=(.cons (.bx 0 0) (.cons .str (.cons (.int .i64) .unit))),ins:=[.box 52 (.agg (.cons (.sl (.agg (.cons .str (.cons .str (.cons .str .unit))))) (.cons (.int .i64) (.cons .bool .unit))))],res:=(.int .i64),outs:=[.box 52 (.agg (.cons (.sl (.agg (.cons .str (.cons .str (.cons .str .unit))))) (.cons (.int .i64) (.cons .bool .unit))))],fn:=fun v w=>ref35_Dir_Cut v.2.1 v.2.2.1 w.1 }
noncomputable def ref35_Dir_Cut_V:TEnv:={ pure:=[],look:=[],glob:=G0T,ty:=[],raw:=[(35,ref35_Dir_deed_R),(36,ref35_Dir_Find_R),(37,ref35_Dir_put_R)],fresh:=[],deep:=[] }
theorem ref35_Dir_Cut_eq:rawY Try.prog ref35_Dir_Cut_E ref35_Dir_Cut_H ref35_Dir_Cut_V ref35_Dir_Cut_Y [(0,0)] Try.f26 ref35_Dir_Cut_R.ps ref35_Dir_Cut_R.ins ref35_Dir_Cut_R.res ref35_Dir_Cut_R.outs=ref35_Dir_Cut_R.fn:=by kernel_rfl
theorem ref35_Dir_Cut_Sok:SoundS Try.prog G0 26 ref35_Dir_Cut_S:=runF_sound (P:=Try.prog) (E:=ref35_Dir_Cut_E) (h:=ref35_Dir_Cut_H) (f:=26) (fn:=Try.f26) ⟨same_ok,envP_nil,(envS_cons ref35_Dir_deed_Sok (envS_cons ref35_Dir_Find_Sok (envS_cons ref35_Dir_put_Sok envS_nil))),envP_nil,envX_nil⟩ Try.func26 rfl (by kernel_rfl)
theorem ref35_Dir_Cut_ok:TRawOk ref35_Dir_Cut_S ref35_Dir_Cut_R:=rawY_ok (E:=ref35_Dir_Cut_E) (ET:=ref35_Dir_Cut_V) (EnvT.ofX (E:=ref35_Dir_Cut_E) (ET:=ref35_Dir_Cut_V) (pure_of pairs_nil) looks_nil (raws_cons ref35_Dir_deed_ok rfl rfl (raws_cons ref35_Dir_Find_ok rfl rfl (raws_cons ref35_Dir_put_ok rfl rfl raws_nil))) G0_ok news_nil) ref35_Dir_Cut_eq
noncomputable def ref35_Dir_Burn_E:Env:={ pure:=[],raw:=[],glob:=G0,same:=[],look:=[],ext:=[] }
def ref35_Dir_Burn_H:Hints:={ seqs:=[],loops:=[],own:=[] }
noncomputable def ref35_Dir_Burn_S:SFn:=runF Try.prog ref35_Dir_Burn_E ref35_Dir_Burn_H Try.f27
def ref35_Dir_Burn_Y:TH:={ joins:=[],loops:=[],cuts:=[],ro:=[],news:=[] }
noncomputable def ref35_Dir_Burn (a1:Int) (w0:(List (List UInt8×List UInt8×List UInt8×Unit)×Int×Bool×Unit)):Option (Unit×(List (List UInt8×List UInt8×List UInt8×Unit)×Int×Bool×Unit)×Unit) :=
 cond (decide (a1<0)) (
 some ((),(w0.1,(-1),w0.2.2.1,()),())) (
 some ((),(w0.1,a1,w0.2.2.1,()),()))
noncomputable def ref35_Dir_Burn_R:TRaw:={ ps:=(.cons (.bx 0 0) (.cons (.int .i64) .unit)),ins:=[.box 52 (.agg (.cons (.sl (.agg (.cons .str (.cons .str (.cons .str .unit))))) (.cons (.int .i64) (.cons .bool .unit))))],res:=(.tup .unit),outs:=[.box 52 (.agg (.cons (.sl (.agg (.cons .str (.cons .str (.cons .str .unit))))) (.cons (.int .i64) (.cons .bool .unit))))],fn:=fun v w=>ref35_Dir_Burn v.2.1 w.1 }
noncomputable def ref35_Dir_Burn_V:TEnv:={ pure:=[],look:=[],glob:=G0T,ty:=[],raw:=[],fresh:=[],deep:=[] }
theorem ref35_Dir_Burn_eq:rawY Try.prog ref35_Dir_Burn_E ref35_Dir_Burn_H ref35_Dir_Burn_V ref35_Dir_Burn_Y [(0,0)] Try.f27 ref35_Dir_Burn_R.ps ref35_Dir_Burn_R.ins ref35_Dir_Burn_R.res ref35_Dir_Burn_R.outs=ref35_Dir_Burn_R.fn:=by kernel_rfl
theorem ref35_Dir_Burn_Sok:SoundS Try.prog G0 27 ref35_Dir_Burn_S:=runF_sound (P:=Try.prog) (E:=ref35_Dir_Burn_E) (h:=ref35_Dir_Burn_H) (f:=27) (fn:=Try.f27) ⟨same_ok,envP_nil,envS_nil,envP_nil,envX_nil⟩ Try.func27 rfl (by kernel_rfl)
theorem ref35_Dir_Burn_ok:TRawOk ref35_Dir_Burn_S ref35_Dir_Burn_R:=rawY_ok (E:=ref35_Dir_Burn_E) (ET:=ref35_Dir_Burn_V) (EnvT.ofX (E:=ref35_Dir_Burn_E) (ET:=ref35_Dir_Burn_V) (pure_of pairs_nil) looks_nil raws_nil G0_ok news_nil) ref35_Dir_Burn_eq
noncomputable def ref35_Dir_Restart_E:Env:={ pure:=[],raw:=[],glob:=G0,same:=[],look:=[],ext:=[] }
def ref35_Dir_Restart_H:Hints:={ seqs:=[],loops:=[(2,[0,1,4,5])],own:=[52] }
noncomputable def ref35_Dir_Restart_S:SFn:=runF Try.prog ref35_Dir_Restart_E ref35_Dir_Restart_H Try.f28
def ref35_Dir_Restart_Y:TH:={ joins:=[(13,{ keep:=[(0,(.bx 0 0)),(4,(.own 2))],mem:=[.box 52 (.agg (.cons (.sl (.agg (.cons .str (.cons .str (.cons .str .unit))))) (.cons (.int .i64) (.cons .bool .unit)))),.gone,.row true 64 (.agg (.cons .str (.cons .str (.cons .str .unit))))] }),(8,{ keep:=[(0,(.bx 0 0)),(4,(.own 2)),(6,(.bx 3 0)),(7,(.int .i64))],mem:=[.box 52 (.agg (.cons (.sl (.agg (.cons .str (.cons .str (.cons .str .unit))))) (.cons (.int .i64) (.cons .bool .unit)))),.gone,.row true 64 (.agg (.cons .str (.cons .str (.cons .str .unit)))),.box 64 (.agg (.cons .str (.cons .str (.cons .str .unit))))] }),(10,{ keep:=[(0,(.bx 0 0)),(4,(.own 2)),(6,(.bx 3 0))],mem:=[.box 52 (.agg (.cons (.sl (.agg (.cons .str (.cons .str (.cons .str .unit))))) (.cons (.int .i64) (.cons .bool .unit)))),.gone,.row true 64 (.agg (.cons .str (.cons .str (.cons .str .unit)))),.box 64 (.agg (.cons .str (.cons .str (.cons .str .unit))))] })],loops:=[(2,{ keep:=[(0,(.bx 0 0)),(4,(.own 2)),(5,(.int .i64))],mem:=[.box 52 (.agg (.cons (.sl (.agg (.cons .str (.cons .str (.cons .str .unit))))) (.cons (.int .i64) (.cons .bool .unit)))),.gone,.row true 64 (.agg (.cons .str (.cons .str (.cons .str .unit))))] })],cuts:=[],ro:=[],news:=[] }
noncomputable def ref35_Dir_Restart_l2 (a1:Int) (y2:(Int×(List (List UInt8×List UInt8×List UInt8×Unit)×Int×Bool×Unit)×List (List UInt8×List UInt8×List UInt8×Unit)×Unit)):Option ((Int×(List (List UInt8×List UInt8×List UInt8×Unit)×Int×Bool×Unit)×List (List UInt8×List UInt8×List UInt8×Unit)×Unit)⊕(((List (List UInt8×List UInt8×List UInt8×Unit)×Int×Bool×Unit)×List (List UInt8×List UInt8×List UInt8×Unit)×Unit)⊕(Unit×(List (List UInt8×List UInt8×List UInt8×Unit)×Int×Bool×Unit)×Unit))) :=
 cond (decide (y2.1<(y2.2.1.1.length:Int))) (
(atI y2.2.1.1 y2.1).bind fun x1 =>
(cond (decide (a1>(x1.2.2.1.length:Int))) (
 some (.inl ((x1.2.2.1.length:Int),y2.2.1,y2.2.2.1,x1,()))) (
 some (.inl (a1,y2.2.1,y2.2.2.1,x1,()))):Option ((Int×(List (List UInt8×List UInt8×List UInt8×Unit)×Int×Bool×Unit)×List (List UInt8×List UInt8×List UInt8×Unit)×(List UInt8×List UInt8×List UInt8×Unit)×Unit)⊕((Int×(List (List UInt8×List UInt8×List UInt8×Unit)×Int×Bool×Unit)×List (List UInt8×List UInt8×List UInt8×Unit)×Unit)⊕(((List (List UInt8×List UInt8×List UInt8×Unit)×Int×Bool×Unit)×List (List UInt8×List UInt8×List UInt8×Unit)×Unit)⊕(Unit×(List (List UInt8×List UInt8×List UInt8×Unit)×Int×Bool×Unit)×Unit))))).bind (joinS fun v2 =>
(cond (decide (v2.1>0)) (
(subI v2.2.2.2.1.2.2.1 0 v2.1).bind fun s3 =>
(catT v2.2.2.2.1.2.1 s3).bind fun s4 =>
 some (.inl (v2.2.1,v2.2.2.1,(v2.2.2.2.1.1,s4,v2.2.2.2.1.2.2.1,()),()))) (
 some (.inl (v2.2.1,v2.2.2.1,v2.2.2.2.1,()))):Option (((List (List UInt8×List UInt8×List UInt8×Unit)×Int×Bool×Unit)×List (List UInt8×List UInt8×List UInt8×Unit)×(List UInt8×List UInt8×List UInt8×Unit)×Unit)⊕((Int×(List (List UInt8×List UInt8×List UInt8×Unit)×Int×Bool×Unit)×List (List UInt8×List UInt8×List UInt8×Unit)×Unit)⊕(((List (List UInt8×List UInt8×List UInt8×Unit)×Int×Bool×Unit)×List (List UInt8×List UInt8×List UInt8×Unit)×Unit)⊕(Unit×(List (List UInt8×List UInt8×List UInt8×Unit)×Int×Bool×Unit)×Unit))))).bind (joinS fun v5 =>
 cond (!decide (v5.2.2.1.2.1=[])) (
(roomT (v5.2.1.length+([(v5.2.2.1.1,v5.2.2.1.2.1,[],())]:List (List UInt8×List UInt8×List UInt8×Unit)).length)).bind fun u6 =>
 some (.inl ((IntKind.wrap .i64 (y2.1+1)),v5.1,(v5.2.1++([(v5.2.2.1.1,v5.2.2.1.2.1,[],())]:List (List UInt8×List UInt8×List UInt8×Unit))),()))) (
 some (.inl ((IntKind.wrap .i64 (y2.1+1)),v5.1,v5.2.1,())))))) (
 some (.inr (.inl (y2.2.1,y2.2.2.1,()))))
noncomputable def ref35_Dir_Restart (a1:Int) (w0:(List (List UInt8×List UInt8×List UInt8×Unit)×Int×Bool×Unit)):Option (Unit×(List (List UInt8×List UInt8×List UInt8×Unit)×Int×Bool×Unit)×Unit) :=
(loopT (ref35_Dir_Restart_l2 a1) (0,w0,[],()):Option (((List (List UInt8×List UInt8×List UInt8×Unit)×Int×Bool×Unit)×List (List UInt8×List UInt8×List UInt8×Unit)×Unit)⊕(Unit×(List (List UInt8×List UInt8×List UInt8×Unit)×Int×Bool×Unit)×Unit))).bind (joinS fun v7 =>
 some ((),(v7.2.1,(-1),false,()),()))
noncomputable def ref35_Dir_Restart_R:TRaw:={ ps:=(.cons (.bx 0 0) (.cons (.int .i64) .unit)),ins:=[.box 52 (.agg (.cons (.sl (.agg (.cons .str (.cons .str (.cons .str .unit))))) (.cons (.int .i64) (.cons .bool .unit))))],res:=(.tup .unit),outs:=[.box 52 (.agg (.cons (.sl (.agg (.cons .str (.cons .str (.cons .str .unit))))) (.cons (.int .i64) (.cons .bool .unit))))],fn:=fun v w=>ref35_Dir_Restart v.2.1 w.1 }
noncomputable def ref35_Dir_Restart_V:TEnv:={ pure:=[],look:=[],glob:=G0T,ty:=[(64,(.agg (.cons .str (.cons .str (.cons .str .unit)))))],raw:=[],fresh:=[],deep:=[] }
theorem ref35_Dir_Restart_eq:rawY Try.prog ref35_Dir_Restart_E ref35_Dir_Restart_H ref35_Dir_Restart_V ref35_Dir_Restart_Y [(0,0)] Try.f28 ref35_Dir_Restart_R.ps ref35_Dir_Restart_R.ins ref35_Dir_Restart_R.res ref35_Dir_Restart_R.outs=ref35_Dir_Restart_R.fn:=by kernel_rfl
theorem ref35_Dir_Restart_Sok:SoundS Try.prog G0 28 ref35_Dir_Restart_S:=runF_sound (P:=Try.prog) (E:=ref35_Dir_Restart_E) (h:=ref35_Dir_Restart_H) (f:=28) (fn:=Try.f28) ⟨same_ok,envP_nil,envS_nil,envP_nil,envX_nil⟩ Try.func28 rfl (by kernel_rfl)
theorem ref35_Dir_Restart_ok:TRawOk ref35_Dir_Restart_S ref35_Dir_Restart_R:=rawY_ok (E:=ref35_Dir_Restart_E) (ET:=ref35_Dir_Restart_V) (EnvT.ofX (E:=ref35_Dir_Restart_E) (ET:=ref35_Dir_Restart_V) (pure_of pairs_nil) looks_nil raws_nil G0_ok news_nil) ref35_Dir_Restart_eq
noncomputable def law35_Does_E:Env:={ pure:=[],raw:=[(12,dir_Dir_Fuse_S),(13,dir_Dir_Restart_S),(16,dir_Dir_Sync_S),(17,dir_Dir_Remove_S),(18,dir_Dir_Append_S),(19,dir_Dir_Rename_S),(20,dir_Dir_Cut_S),(22,ref35_Dir_Append_S),(23,ref35_Dir_Sync_S),(24,ref35_Dir_Rename_S),(25,ref35_Dir_Remove_S),(26,ref35_Dir_Cut_S),(27,ref35_Dir_Burn_S),(28,ref35_Dir_Restart_S)],glob:=G0,same:=[],look:=[],ext:=[] }
def law35_Does_H:Hints:={ seqs:=[],loops:=[],own:=[15,17,21,23,30,34,41,43,47,49,56,60,67,69,73,75],frz:=[(6,[5]),(8,[5]),(10,[5]),(12,[5]),(14,[5])] }
noncomputable def law35_Does_S:SFn:=runF Try.prog law35_Does_E law35_Does_H Try.f8
def law35_Does_Y:TH:={ joins:=[(6,{ keep:=[(0,(.bx 0 0)),(1,(.bx 2 0)),(5,(.bx 3 0)),(9,.bool)],mem:=[.box 38 (.agg (.cons (.mp 1) (.cons (.int .i64) (.cons .bool .unit)))),.map .str (.agg (.cons .str (.cons .str .unit))),.box 52 (.agg (.cons (.sl (.agg (.cons .str (.cons .str (.cons .str .unit))))) (.cons (.int .i64) (.cons .bool .unit)))),.box 26 (.agg (.cons (.int .i64) (.cons (.int .i64) (.cons .str (.cons .str (.cons .str .unit))))))] })],loops:=[],cuts:=[],ro:=[],news:=[] }
noncomputable def law35_Does (a2:(Int×Int×List UInt8×List UInt8×List UInt8×Unit)) (w0:(Unit×Int×Bool×Unit)) (w1:List (List UInt8×(List UInt8×List UInt8×Unit))) (w2:(List (List UInt8×List UInt8×List UInt8×Unit)×Int×Bool×Unit)):Option (Bool×(Unit×Int×Bool×Unit)×List (List UInt8×(List UInt8×List UInt8×Unit))×(List (List UInt8×List UInt8×List UInt8×Unit)×Int×Bool×Unit)×Unit) :=
(cond (decide (a2.1=0)) (
 some (.inl ((decide (a2.1=0)),w0,w1,w2,a2,()))) (
 cond (decide (a2.1=1)) (
 some (.inl ((decide (a2.1=1)),w0,w1,w2,a2,()))) (
 some (.inl ((decide (a2.1=2)),w0,w1,w2,a2,())))):Option ((Bool×(Unit×Int×Bool×Unit)×List (List UInt8×(List UInt8×List UInt8×Unit))×(List (List UInt8×List UInt8×List UInt8×Unit)×Int×Bool×Unit)×(Int×Int×List UInt8×List UInt8×List UInt8×Unit)×Unit)⊕(Bool×(Unit×Int×Bool×Unit)×List (List UInt8×(List UInt8×List UInt8×Unit))×(List (List UInt8×List UInt8×List UInt8×Unit)×Int×Bool×Unit)×Unit))).bind (joinS fun v1 =>
 cond v1.1 (
(dir_Dir_Append v1.2.2.2.2.1.2.2.1 v1.2.2.2.2.1.2.2.2.2.1 v1.2.1 v1.2.2.1).bind fun q2 =>
(ref35_Dir_Append v1.2.2.2.2.1.2.2.1 v1.2.2.2.2.1.2.2.2.2.1 v1.2.2.2.1).bind fun q3 =>
 some ((decide (q2.1=q3.1)),q2.2.1,q2.2.2.1,q3.2.1,())) (
 cond (decide (a2.1=3)) (
(dir_Dir_Sync v1.2.2.2.2.1.2.2.1 v1.2.1 v1.2.2.1).bind fun q4 =>
(ref35_Dir_Sync v1.2.2.2.2.1.2.2.1 v1.2.2.2.1).bind fun q5 =>
 some ((decide (q4.1=q5.1)),q4.2.1,q4.2.2.1,q5.2.1,())) (
 cond (decide (a2.1=4)) (
(dir_Dir_Rename v1.2.2.2.2.1.2.2.1 v1.2.2.2.2.1.2.2.2.1 v1.2.1 v1.2.2.1).bind fun q6 =>
(ref35_Dir_Rename v1.2.2.2.2.1.2.2.1 v1.2.2.2.2.1.2.2.2.1 v1.2.2.2.1).bind fun q7 =>
 some ((decide (q6.1=q7.1)),q6.2.1,q6.2.2.1,q7.2.1,())) (
 cond (decide (a2.1=5)) (
(dir_Dir_Remove v1.2.2.2.2.1.2.2.1 v1.2.1 v1.2.2.1).bind fun q8 =>
(ref35_Dir_Remove v1.2.2.2.2.1.2.2.1 v1.2.2.2.1).bind fun q9 =>
 some ((decide (q8.1=q9.1)),q8.2.1,q8.2.2.1,q9.2.1,())) (
 cond (decide (a2.1=6)) (
(dir_Dir_Cut v1.2.2.2.2.1.2.2.1 v1.2.2.2.2.1.2.1 v1.2.1 v1.2.2.1).bind fun q10 =>
(ref35_Dir_Cut v1.2.2.2.2.1.2.2.1 v1.2.2.2.2.1.2.1 v1.2.2.2.1).bind fun q11 =>
 some ((decide (q10.1=q11.1)),q10.2.1,q10.2.2.1,q11.2.1,())) (
 cond (decide (a2.1=7)) (
(dir_Dir_Fuse v1.2.2.2.2.1.2.1 v1.2.1 v1.2.2.1).bind fun q12 =>
(ref35_Dir_Burn v1.2.2.2.2.1.2.1 v1.2.2.2.1).bind fun q13 =>
 some (true,q12.2.1,q12.2.2.1,q13.2.1,())) (
 cond (decide (a2.1=8)) (
(dir_Dir_Restart v1.2.2.2.2.1.2.1 v1.2.1 v1.2.2.1).bind fun q14 =>
(ref35_Dir_Restart v1.2.2.2.2.1.2.1 v1.2.2.2.1).bind fun q15 =>
 some (true,q14.2.1,q14.2.2.1,q15.2.1,())) (
 some (true,v1.2.1,v1.2.2.1,v1.2.2.2.1,())))))))))
noncomputable def law35_Does_R:TRaw:={ ps:=(.cons (.bx 0 0) (.cons (.bx 2 0) (.cons (.agg (.cons (.int .i64) (.cons (.int .i64) (.cons .str (.cons .str (.cons .str .unit)))))) .unit))),ins:=[.box 38 (.agg (.cons (.mp 1) (.cons (.int .i64) (.cons .bool .unit)))),.map .str (.agg (.cons .str (.cons .str .unit))),.box 52 (.agg (.cons (.sl (.agg (.cons .str (.cons .str (.cons .str .unit))))) (.cons (.int .i64) (.cons .bool .unit))))],res:=.bool,outs:=[.box 38 (.agg (.cons (.mp 1) (.cons (.int .i64) (.cons .bool .unit)))),.map .str (.agg (.cons .str (.cons .str .unit))),.box 52 (.agg (.cons (.sl (.agg (.cons .str (.cons .str (.cons .str .unit))))) (.cons (.int .i64) (.cons .bool .unit))))],fn:=fun v w=>law35_Does v.2.2.1 w.1 w.2.1 w.2.2.1 }
noncomputable def law35_Does_V:TEnv:={ pure:=[],look:=[],glob:=G0T,ty:=[],raw:=[(12,dir_Dir_Fuse_R),(13,dir_Dir_Restart_R),(16,dir_Dir_Sync_R),(17,dir_Dir_Remove_R),(18,dir_Dir_Append_R),(19,dir_Dir_Rename_R),(20,dir_Dir_Cut_R),(22,ref35_Dir_Append_R),(23,ref35_Dir_Sync_R),(24,ref35_Dir_Rename_R),(25,ref35_Dir_Remove_R),(26,ref35_Dir_Cut_R),(27,ref35_Dir_Burn_R),(28,ref35_Dir_Restart_R)],fresh:=[],deep:=[] }
theorem law35_Does_eq:rawY Try.prog law35_Does_E law35_Does_H law35_Does_V law35_Does_Y [(0,0),(1,2)] Try.f8 law35_Does_R.ps law35_Does_R.ins law35_Does_R.res law35_Does_R.outs=law35_Does_R.fn:=by kernel_rfl
theorem law35_Does_Sok:SoundS Try.prog G0 8 law35_Does_S:=runF_sound (P:=Try.prog) (E:=law35_Does_E) (h:=law35_Does_H) (f:=8) (fn:=Try.f8) ⟨same_ok,envP_nil,(envS_cons dir_Dir_Fuse_Sok (envS_cons dir_Dir_Restart_Sok (envS_cons dir_Dir_Sync_Sok (envS_cons dir_Dir_Remove_Sok (envS_cons dir_Dir_Append_Sok (envS_cons dir_Dir_Rename_Sok (envS_cons dir_Dir_Cut_Sok (envS_cons ref35_Dir_Append_Sok (envS_cons ref35_Dir_Sync_Sok (envS_cons ref35_Dir_Rename_Sok (envS_cons ref35_Dir_Remove_Sok (envS_cons ref35_Dir_Cut_Sok (envS_cons ref35_Dir_Burn_Sok (envS_cons ref35_Dir_Restart_Sok envS_nil)))))))))))))),envP_nil,envX_nil⟩ Try.func8 rfl (by kernel_rfl)
theorem law35_Does_ok:TRawOk law35_Does_S law35_Does_R:=rawY_ok (E:=law35_Does_E) (ET:=law35_Does_V) (EnvT.ofX (E:=law35_Does_E) (ET:=law35_Does_V) (pure_of pairs_nil) looks_nil (raws_cons dir_Dir_Fuse_ok rfl rfl (raws_cons dir_Dir_Restart_ok rfl rfl (raws_cons dir_Dir_Sync_ok rfl rfl (raws_cons dir_Dir_Remove_ok rfl rfl (raws_cons dir_Dir_Append_ok rfl rfl (raws_cons dir_Dir_Rename_ok rfl rfl (raws_cons dir_Dir_Cut_ok rfl rfl (raws_cons ref35_Dir_Append_ok rfl rfl (raws_cons ref35_Dir_Sync_ok rfl rfl (raws_cons ref35_Dir_Rename_ok rfl rfl (raws_cons ref35_Dir_Remove_ok rfl rfl (raws_cons ref35_Dir_Cut_ok rfl rfl (raws_cons ref35_Dir_Burn_ok rfl rfl (raws_cons ref35_Dir_Restart_ok rfl rfl raws_nil)))))))))))))) G0_ok news_nil) law35_Does_eq
noncomputable def dir_Dir_Kept_E:Env:={ pure:=[],raw:=[(29,dir_Dir_none_S)],glob:=G0,same:=[],look:=[],ext:=[] }
def dir_Dir_Kept_H:Hints:={ seqs:=[],loops:=[],own:=[] }
noncomputable def dir_Dir_Kept_S:SFn:=runF Try.prog dir_Dir_Kept_E dir_Dir_Kept_H Try.f11
def dir_Dir_Kept_Y:TH:={ joins:=[],loops:=[],cuts:=[],ro:=[],news:=[] }
noncomputable def dir_Dir_Kept (a1:List UInt8) (w0:(Unit×Int×Bool×Unit)) (w1:List (List UInt8×(List UInt8×List UInt8×Unit))):Option (Int×(Unit×Int×Bool×Unit)×List (List UInt8×(List UInt8×List UInt8×Unit))×Unit) :=
(dir_Dir_none w0 w1).bind fun q1 =>
 cond q1.1 (
 some (0,q1.2.1,q1.2.2.1,())) (
 some (((((getK .str ([],[],()) a1 q1.2.2.1).1).1).length:Int),q1.2.1,q1.2.2.1,()))
noncomputable def dir_Dir_Kept_R:TRaw:={ ps:=(.cons (.bx 0 0) (.cons .str .unit)),ins:=[.box 38 (.agg (.cons (.mp 1) (.cons (.int .i64) (.cons .bool .unit)))),.map .str (.agg (.cons .str (.cons .str .unit)))],res:=(.int .i64),outs:=[.box 38 (.agg (.cons (.mp 1) (.cons (.int .i64) (.cons .bool .unit)))),.map .str (.agg (.cons .str (.cons .str .unit)))],fn:=fun v w=>dir_Dir_Kept v.2.1 w.1 w.2.1 }
noncomputable def dir_Dir_Kept_V:TEnv:={ pure:=[],look:=[],glob:=G0T,ty:=[],raw:=[(29,dir_Dir_none_R)],fresh:=[],deep:=[] }
theorem dir_Dir_Kept_eq:rawY Try.prog dir_Dir_Kept_E dir_Dir_Kept_H dir_Dir_Kept_V dir_Dir_Kept_Y [(0,0)] Try.f11 dir_Dir_Kept_R.ps dir_Dir_Kept_R.ins dir_Dir_Kept_R.res dir_Dir_Kept_R.outs=dir_Dir_Kept_R.fn:=by kernel_rfl
theorem dir_Dir_Kept_Sok:SoundS Try.prog G0 11 dir_Dir_Kept_S:=runF_sound (P:=Try.prog) (E:=dir_Dir_Kept_E) (h:=dir_Dir_Kept_H) (f:=11) (fn:=Try.f11) ⟨same_ok,envP_nil,(envS_cons dir_Dir_none_Sok envS_nil),envP_nil,envX_nil⟩ Try.func11 rfl (by kernel_rfl)
theorem dir_Dir_Kept_ok:TRawOk dir_Dir_Kept_S dir_Dir_Kept_R:=rawY_ok (E:=dir_Dir_Kept_E) (ET:=dir_Dir_Kept_V) (EnvT.ofX (E:=dir_Dir_Kept_E) (ET:=dir_Dir_Kept_V) (pure_of pairs_nil) looks_nil (raws_cons dir_Dir_none_ok rfl rfl raws_nil) G0_ok news_nil) dir_Dir_Kept_eq
noncomputable def law35_DirKeeps_E:Env:={ pure:=[(6,law35_small_F),(7,law35_awake_F)],raw:=[(9,ref35_New_S),(5,dir_New_S),(8,law35_Does_S),(10,dir_Dir_Read_S),(11,dir_Dir_Kept_S)],glob:=G0,same:=[],look:=[],ext:=[] }
def law35_DirKeeps_H:Hints:={ seqs:=[],loops:=[(4,[0,1,5,6,7])],own:=[57],frz:=[(10,[8])] }
noncomputable def law35_DirKeeps_F:PFn:=closeF (runF Try.prog law35_DirKeeps_E law35_DirKeeps_H Try.f3)
def law35_DirKeeps_Y:TH:={ joins:=[(10,{ keep:=[(5,(.bx 0 0)),(8,(.bx 2 0))],mem:=[.box 38 (.agg (.cons (.mp 1) (.cons (.int .i64) (.cons .bool .unit)))),.map .str (.agg (.cons .str (.cons .str .unit))),.box 26 (.agg (.cons (.int .i64) (.cons (.int .i64) (.cons .str (.cons .str (.cons .str .unit))))))] })],loops:=[(4,{ keep:=[(5,(.bx 0 0)),(6,.str),(7,(.int .i64))],mem:=[.box 38 (.agg (.cons (.mp 1) (.cons (.int .i64) (.cons .bool .unit)))),.map .str (.agg (.cons .str (.cons .str .unit)))] })],cuts:=[(9,[(8,{ keep:=[(5,(.bx 0 0)),(8,(.bx 2 0)),(37,.bool)],mem:=[.box 38 (.agg (.cons (.mp 1) (.cons (.int .i64) (.cons .bool .unit)))),.map .str (.agg (.cons .str (.cons .str .unit))),.box 26 (.agg (.cons (.int .i64) (.cons (.int .i64) (.cons .str (.cons .str (.cons .str .unit))))))] })])],ro:=[],news:=[] }
noncomputable def law35_DirKeeps_l4 (a0:List (Int×Int×List UInt8×List UInt8×List UInt8×Unit)) (a1:List UInt8) (y4:(List UInt8×Int×(Unit×Int×Bool×Unit)×List (List UInt8×(List UInt8×List UInt8×Unit))×Unit)):Option ((List UInt8×Int×(Unit×Int×Bool×Unit)×List (List UInt8×(List UInt8×List UInt8×Unit))×Unit)⊕Bool) :=
 cond (decide (y4.2.1<(a0.length:Int))) (cond (decide (y4.2.1<40)) (
(atI a0 y4.2.1).bind fun x2 =>
(law35_small x2).bind fun r3 =>
 cond (!r3) (
(law35_awake).bind fun r4 =>
 some (.inr r4)) (
((cond (decide (x2.1=4)) (some (true,y4.2.2.1,y4.2.2.2.1,x2,())) (some ((decide (x2.1=5)),y4.2.2.1,y4.2.2.2.1,x2,())):Option (Bool×(Unit×Int×Bool×Unit)×List (List UInt8×(List UInt8×List UInt8×Unit))×(Int×Int×List UInt8×List UInt8×List UInt8×Unit)×Unit)).bind fun v5 =>
 cond v5.1 (cond (decide (v5.2.2.2.1.2.2.1=a1)) (some (.inr (.inl (y4.1,(IntKind.wrap .i64 (y4.2.1+1)),v5.2.1,v5.2.2.1,())))) (cond (decide (v5.2.2.2.1.2.2.2.1=a1)) (
 some (.inr (.inl (y4.1,(IntKind.wrap .i64 (y4.2.1+1)),v5.2.1,v5.2.2.1,())))) (
 some (.inl (v5.2.1,v5.2.2.1,v5.2.2.2.1,()))))) (cond (decide (v5.2.2.2.1.1=6)) (cond (decide (v5.2.2.2.1.2.2.1=a1)) (some (.inr (.inl (y4.1,(IntKind.wrap .i64 (y4.2.1+1)),v5.2.1,v5.2.2.1,())))) (cond (decide (v5.2.2.2.1.2.2.2.1=a1)) (
 some (.inr (.inl (y4.1,(IntKind.wrap .i64 (y4.2.1+1)),v5.2.1,v5.2.2.1,())))) (
 some (.inl (v5.2.1,v5.2.2.1,v5.2.2.2.1,()))))) (some (.inl (v5.2.1,v5.2.2.1,v5.2.2.2.1,())))):Option (((Unit×Int×Bool×Unit)×List (List UInt8×(List UInt8×List UInt8×Unit))×(Int×Int×List UInt8×List UInt8×List UInt8×Unit)×Unit)⊕((List UInt8×Int×(Unit×Int×Bool×Unit)×List (List UInt8×(List UInt8×List UInt8×Unit))×Unit)⊕Bool))).bind (joinS fun v6 =>
(ref35_New).bind fun n7 =>
(law35_Does v6.2.2.1 v6.1 v6.2.1 n7).bind fun q8 =>
(dir_Dir_Read a1 q8.2.1 q8.2.2.1).bind fun q9 =>
 cond (decide ((q9.1.1.length:Int)<(y4.1.length:Int))) (some (.inr false)) ((subI q9.1.1 0 (y4.1.length:Int)).bind fun s10 =>
 cond (!decide (s10=y4.1)) (
 some (.inr false)) (
(dir_Dir_Kept a1 q9.2.1 q9.2.2.1).bind fun q11 =>
(subI q9.1.1 0 q11.1).bind fun s12 =>
 some (.inl (s12,(IntKind.wrap .i64 (y4.2.1+1)),q11.2.1,q11.2.2.1,()))))))) (
((law35_awake).bind fun r13 =>
 some r13).map .inr)) (((law35_awake).bind fun r14 =>
 some r14).map .inr)
noncomputable def law35_DirKeeps (a0:List (Int×Int×List UInt8×List UInt8×List UInt8×Unit)) (a1:List UInt8):Option Bool :=
(dir_New).bind fun n1 =>
 loopT (law35_DirKeeps_l4 a0 a1) ([],0,n1.1,n1.2.1,())
noncomputable def law35_DirKeeps_T:TFn:={ ps:=(.cons (.sl (.agg (.cons (.int .i64) (.cons (.int .i64) (.cons .str (.cons .str (.cons .str .unit))))))) (.cons .str .unit)),res:=.bool,fn:=fun v=>law35_DirKeeps v.1 v.2.1 }
noncomputable def law35_DirKeeps_V:TEnv:={ pure:=[(6,law35_small_T),(7,law35_awake_T)],look:=[],glob:=G0T,ty:=[],raw:=[(8,law35_Does_R),(10,dir_Dir_Read_R),(11,dir_Dir_Kept_R)],fresh:=[(9,ref35_New_N)],deep:=[(5,dir_New_D)] }
theorem law35_DirKeeps_eq:runY Try.prog law35_DirKeeps_E law35_DirKeeps_H law35_DirKeeps_V law35_DirKeeps_Y Try.f3 law35_DirKeeps_T.ps law35_DirKeeps_T.res=law35_DirKeeps_T.fn:=by kernel_rfl
theorem law35_DirKeeps_Fok:SoundP Try.prog G0 3 law35_DirKeeps_F:=closeF_sound (runF_sound (P:=Try.prog) (E:=law35_DirKeeps_E) (h:=law35_DirKeeps_H) (f:=3) (fn:=Try.f3) ⟨same_ok,(envP_cons law35_small_Fok (envP_cons law35_awake_Fok envP_nil)),(envS_cons ref35_New_Sok (envS_cons dir_New_Sok (envS_cons law35_Does_Sok (envS_cons dir_Dir_Read_Sok (envS_cons dir_Dir_Kept_Sok envS_nil))))),envP_nil,envX_nil⟩ Try.func3 rfl (by kernel_rfl))
theorem law35_DirKeeps_ok:TOk law35_DirKeeps_F law35_DirKeeps_T:=runY_ok (E:=law35_DirKeeps_E) (ET:=law35_DirKeeps_V) (EnvT.ofX (E:=law35_DirKeeps_E) (ET:=law35_DirKeeps_V) (pure_of (pairs_cons law35_small_ok (pairs_cons law35_awake_ok pairs_nil))) looks_nil (raws_more (raws_more (raws_cons law35_Does_ok rfl rfl (raws_cons dir_Dir_Read_ok rfl rfl (raws_cons dir_Dir_Kept_ok rfl rfl raws_nil))) rfl) rfl) G0_ok (news_cons ref35_New_ok rfl rfl rfl news_nil) (h7:=(deeps_cons dir_New_ok rfl rfl rfl deeps_nil))) law35_DirKeeps_eq rfl
end Go.Proofs.Ytljlahifmblbbaa.Y
