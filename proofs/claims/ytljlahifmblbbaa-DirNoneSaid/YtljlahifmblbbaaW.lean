import Derived.Test.YtljlahifmblbbaaD
set_option linter.unusedVariables false
set_option maxRecDepth 100000
namespace Go.Proofs.Ytljlahifmblbbaa.Y
open Go.EM Go.TY Go.Proofs
def G0:List (Nat×AVal):=[]
def G0T:List (Nat×TV):=[]
theorem G0_ok:GlobsOk G0 G0T:=globs_nil
theorem same_ok:∀ f,memN f []=true→Same Try.prog f:=by
  intro f h
  simp_all [memN]
noncomputable def dir_New_S:SFn:=D35.newS
theorem dir_New_Sok:SoundS Try.prog G0 5 dir_New_S:=D35.new_sound
noncomputable def dir_New_D:TDeep:=D35.new_D
theorem dir_New_ok:TDeepOk dir_New_S dir_New_D:=D35.new_ok
noncomputable def dir_New:Option ((Unit×Int×Bool×Unit)×List (List UInt8×(List UInt8×List UInt8×Unit))×Unit):=dir_New_D.fn (())
noncomputable def law35_small_E:Env:={ pure:=[],raw:=[],glob:=G0,same:=[],look:=[],ext:=[] }
def law35_small_H:Hints:={ seqs:=[],loops:=[],own:=[] }
noncomputable def law35_small_F:PFn:=closeF (runF Try.prog law35_small_E law35_small_H Try.f6)
def law35_small_Y:TH:={ joins:=[],loops:=[],cuts:=[],ro:=[1],news:=[] }
noncomputable def law35_small (a0:(Int×Int×List UInt8×List UInt8×List UInt8×Unit)):Option Bool :=
 cond (decide ((a0.2.2.1.length:Int)≤50)) (cond (decide ((a0.2.2.2.1.length:Int)≤50)) (some (decide ((a0.2.2.2.2.1.length:Int)≤500))) (some false)) (some false)
noncomputable def law35_small_T:TFn:={ ps:=(.cons (.agg (.cons (.int .i64) (.cons (.int .i64) (.cons .str (.cons .str (.cons .str .unit)))))) .unit),res:=.bool,fn:=fun v=>law35_small v.1 }
noncomputable def law35_small_V:TEnv:={ pure:=[],look:=[],glob:=G0T,ty:=[],raw:=[],fresh:=[],deep:=[] }
theorem law35_small_eq:runY Try.prog law35_small_E law35_small_H law35_small_V law35_small_Y Try.f6 law35_small_T.ps law35_small_T.res=law35_small_T.fn:=by kernel_rfl
theorem law35_small_Fok:SoundP Try.prog G0 6 law35_small_F:=closeF_sound (runF_sound (P:=Try.prog) (E:=law35_small_E) (h:=law35_small_H) (f:=6) (fn:=Try.f6) ⟨same_ok,envP_nil,envS_nil,envP_nil,envX_nil⟩ Try.func6 rfl (by kernel_rfl))
theorem law35_small_ok:TOk law35_small_F law35_small_T:=runY_ok (E:=law35_small_E) (ET:=law35_small_V) (EnvT.ofX (E:=law35_small_E) (ET:=law35_small_V) (pure_of pairs_nil) looks_nil raws_nil G0_ok news_nil) law35_small_eq rfl
noncomputable def dir_Dir_none_E:Env:={ pure:=[],raw:=[],glob:=G0,same:=[],look:=[],ext:=[] }
def dir_Dir_none_H:Hints:={ seqs:=[],loops:=[],own:=[4] }
noncomputable def dir_Dir_none_S:SFn:=runF Try.prog dir_Dir_none_E dir_Dir_none_H Try.f29
def dir_Dir_none_Y:TH:={ joins:=[],loops:=[],cuts:=[],ro:=[],news:=[] }
noncomputable def dir_Dir_none (w0:(Unit×Int×Bool×Unit)) (w1:List (List UInt8×(List UInt8×List UInt8×Unit))):Option (Bool×(Unit×Int×Bool×Unit)×List (List UInt8×(List UInt8×List UInt8×Unit))×Unit) :=
 some (false,w0,w1,())
noncomputable def dir_Dir_none_R:TRaw:={ ps:=(.cons (.bx 0 0) .unit),ins:=[.box 38 (.agg (.cons (.mp 1) (.cons (.int .i64) (.cons .bool .unit)))),.map .str (.agg (.cons .str (.cons .str .unit)))],res:=.bool,outs:=[.box 38 (.agg (.cons (.mp 1) (.cons (.int .i64) (.cons .bool .unit)))),.map .str (.agg (.cons .str (.cons .str .unit)))],fn:=fun v w=>dir_Dir_none w.1 w.2.1 }
noncomputable def dir_Dir_none_V:TEnv:={ pure:=[],look:=[],glob:=G0T,ty:=[],raw:=[],fresh:=[],deep:=[] }
theorem dir_Dir_none_eq:rawY Try.prog dir_Dir_none_E dir_Dir_none_H dir_Dir_none_V dir_Dir_none_Y [(0,0)] Try.f29 dir_Dir_none_R.ps dir_Dir_none_R.ins dir_Dir_none_R.res dir_Dir_none_R.outs=dir_Dir_none_R.fn:=by kernel_rfl
theorem dir_Dir_none_Sok:SoundS Try.prog G0 29 dir_Dir_none_S:=runF_sound (P:=Try.prog) (E:=dir_Dir_none_E) (h:=dir_Dir_none_H) (f:=29) (fn:=Try.f29) ⟨same_ok,envP_nil,envS_nil,envP_nil,envX_nil⟩ Try.func29 rfl (by kernel_rfl)
theorem dir_Dir_none_ok:TRawOk dir_Dir_none_S dir_Dir_none_R:=rawY_ok (E:=dir_Dir_none_E) (ET:=dir_Dir_none_V) (EnvT.ofX (E:=dir_Dir_none_E) (ET:=dir_Dir_none_V) (pure_of pairs_nil) looks_nil raws_nil G0_ok news_nil) dir_Dir_none_eq
noncomputable def dir_Dir_Fuse_E:Env:={ pure:=[],raw:=[(29,dir_Dir_none_S)],glob:=G0,same:=[],look:=[],ext:=[] }
def dir_Dir_Fuse_H:Hints:={ seqs:=[],loops:=[],own:=[] }
noncomputable def dir_Dir_Fuse_S:SFn:=runF Try.prog dir_Dir_Fuse_E dir_Dir_Fuse_H Try.f12
def dir_Dir_Fuse_Y:TH:={ joins:=[],loops:=[],cuts:=[],ro:=[],news:=[] }
noncomputable def dir_Dir_Fuse (a1:Int) (w0:(Unit×Int×Bool×Unit)) (w1:List (List UInt8×(List UInt8×List UInt8×Unit))):Option (Unit×(Unit×Int×Bool×Unit)×List (List UInt8×(List UInt8×List UInt8×Unit))×Unit) :=
(dir_Dir_none w0 w1).bind fun q1 =>
 cond (!q1.1) (
 some ((),(q1.2.1.1,(max a1 (-1)),q1.2.1.2.2.1,()),q1.2.2.1,())) (
 some ((),q1.2.1,q1.2.2.1,()))
noncomputable def dir_Dir_Fuse_R:TRaw:={ ps:=(.cons (.bx 0 0) (.cons (.int .i64) .unit)),ins:=[.box 38 (.agg (.cons (.mp 1) (.cons (.int .i64) (.cons .bool .unit)))),.map .str (.agg (.cons .str (.cons .str .unit)))],res:=(.tup .unit),outs:=[.box 38 (.agg (.cons (.mp 1) (.cons (.int .i64) (.cons .bool .unit)))),.map .str (.agg (.cons .str (.cons .str .unit)))],fn:=fun v w=>dir_Dir_Fuse v.2.1 w.1 w.2.1 }
noncomputable def dir_Dir_Fuse_V:TEnv:={ pure:=[],look:=[],glob:=G0T,ty:=[],raw:=[(29,dir_Dir_none_R)],fresh:=[],deep:=[] }
theorem dir_Dir_Fuse_eq:rawY Try.prog dir_Dir_Fuse_E dir_Dir_Fuse_H dir_Dir_Fuse_V dir_Dir_Fuse_Y [(0,0)] Try.f12 dir_Dir_Fuse_R.ps dir_Dir_Fuse_R.ins dir_Dir_Fuse_R.res dir_Dir_Fuse_R.outs=dir_Dir_Fuse_R.fn:=by kernel_rfl
theorem dir_Dir_Fuse_Sok:SoundS Try.prog G0 12 dir_Dir_Fuse_S:=runF_sound (P:=Try.prog) (E:=dir_Dir_Fuse_E) (h:=dir_Dir_Fuse_H) (f:=12) (fn:=Try.f12) ⟨same_ok,envP_nil,(envS_cons dir_Dir_none_Sok envS_nil),envP_nil,envX_nil⟩ Try.func12 rfl (by kernel_rfl)
theorem dir_Dir_Fuse_ok:TRawOk dir_Dir_Fuse_S dir_Dir_Fuse_R:=rawY_ok (E:=dir_Dir_Fuse_E) (ET:=dir_Dir_Fuse_V) (EnvT.ofX (E:=dir_Dir_Fuse_E) (ET:=dir_Dir_Fuse_V) (pure_of pairs_nil) looks_nil (raws_cons dir_Dir_none_ok rfl rfl raws_nil) G0_ok news_nil) dir_Dir_Fuse_eq
noncomputable def dir_Dir_deed_E:Env:={ pure:=[],raw:=[(29,dir_Dir_none_S)],glob:=G0,same:=[],look:=[],ext:=[] }
def dir_Dir_deed_H:Hints:={ seqs:=[],loops:=[],own:=[] }
noncomputable def dir_Dir_deed_S:SFn:=runF Try.prog dir_Dir_deed_E dir_Dir_deed_H Try.f33
def dir_Dir_deed_Y:TH:={ joins:=[],loops:=[],cuts:=[],ro:=[],news:=[] }
noncomputable def dir_Dir_deed (w0:(Unit×Int×Bool×Unit)) (w1:List (List UInt8×(List UInt8×List UInt8×Unit))):Option (Int×(Unit×Int×Bool×Unit)×List (List UInt8×(List UInt8×List UInt8×Unit))×Unit) :=
(dir_Dir_none w0 w1).bind fun q1 =>
 cond q1.1 (
 some (1,q1.2.1,q1.2.2.1,())) (
 cond q1.2.1.2.2.1 (
 some (15,q1.2.1,q1.2.2.1,())) (
 cond (decide (q1.2.1.2.1=0)) (
 some (15,(q1.2.1.1,q1.2.1.2.1,true,()),q1.2.2.1,())) (
 cond (decide (q1.2.1.2.1>0)) (
 some (0,(q1.2.1.1,(IntKind.wrap .i64 (q1.2.1.2.1-1)),q1.2.1.2.2.1,()),q1.2.2.1,())) (
 some (0,q1.2.1,q1.2.2.1,())))))
noncomputable def dir_Dir_deed_R:TRaw:={ ps:=(.cons (.bx 0 0) .unit),ins:=[.box 38 (.agg (.cons (.mp 1) (.cons (.int .i64) (.cons .bool .unit)))),.map .str (.agg (.cons .str (.cons .str .unit)))],res:=(.int .i64),outs:=[.box 38 (.agg (.cons (.mp 1) (.cons (.int .i64) (.cons .bool .unit)))),.map .str (.agg (.cons .str (.cons .str .unit)))],fn:=fun v w=>dir_Dir_deed w.1 w.2.1 }
noncomputable def dir_Dir_deed_V:TEnv:={ pure:=[],look:=[],glob:=G0T,ty:=[],raw:=[(29,dir_Dir_none_R)],fresh:=[],deep:=[] }
theorem dir_Dir_deed_eq:rawY Try.prog dir_Dir_deed_E dir_Dir_deed_H dir_Dir_deed_V dir_Dir_deed_Y [(0,0)] Try.f33 dir_Dir_deed_R.ps dir_Dir_deed_R.ins dir_Dir_deed_R.res dir_Dir_deed_R.outs=dir_Dir_deed_R.fn:=by kernel_rfl
theorem dir_Dir_deed_Sok:SoundS Try.prog G0 33 dir_Dir_deed_S:=runF_sound (P:=Try.prog) (E:=dir_Dir_deed_E) (h:=dir_Dir_deed_H) (f:=33) (fn:=Try.f33) ⟨same_ok,envP_nil,(envS_cons dir_Dir_none_Sok envS_nil),envP_nil,envX_nil⟩ Try.func33 rfl (by kernel_rfl)
theorem dir_Dir_deed_ok:TRawOk dir_Dir_deed_S dir_Dir_deed_R:=rawY_ok (E:=dir_Dir_deed_E) (ET:=dir_Dir_deed_V) (EnvT.ofX (E:=dir_Dir_deed_E) (ET:=dir_Dir_deed_V) (pure_of pairs_nil) looks_nil (raws_cons dir_Dir_none_ok rfl rfl raws_nil) G0_ok news_nil) dir_Dir_deed_eq
noncomputable def dir_Dir_total_S:SFn:=D35.totalS
theorem dir_Dir_total_Sok:SoundS Try.prog G0 34 dir_Dir_total_S:=D35.total_sound
noncomputable def dir_Dir_total_R:TRaw:=D35.total_R
theorem dir_Dir_total_ok:TRawOk dir_Dir_total_S dir_Dir_total_R:=D35.total_ok
noncomputable def dir_Dir_total (w0:(Unit×Int×Bool×Unit)) (w1:List (List UInt8×(List UInt8×List UInt8×Unit))):Option (Int×(Unit×Int×Bool×Unit)×List (List UInt8×(List UInt8×List UInt8×Unit))×Unit):=dir_Dir_total_R.fn ((),()) (w0,w1,())
noncomputable def dir_Dir_Append_E:Env:={ pure:=[],raw:=[(33,dir_Dir_deed_S),(34,dir_Dir_total_S)],glob:=G0,same:=[],look:=[],ext:=[] }
def dir_Dir_Append_H:Hints:={ seqs:=[],loops:=[],own:=[38] }
noncomputable def dir_Dir_Append_S:SFn:=runF Try.prog dir_Dir_Append_E dir_Dir_Append_H Try.f18
def dir_Dir_Append_Y:TH:={ joins:=[(9,{ keep:=[(0,(.bx 0 0)),(8,(.bx 2 0))],mem:=[.box 38 (.agg (.cons (.mp 1) (.cons (.int .i64) (.cons .bool .unit)))),.map .str (.agg (.cons .str (.cons .str .unit))),.box 54 (.agg (.cons .str (.cons .str .unit)))] })],loops:=[],cuts:=[],ro:=[],news:=[] }
noncomputable def dir_Dir_Append (a1:List UInt8) (a2:List UInt8) (w0:(Unit×Int×Bool×Unit)) (w1:List (List UInt8×(List UInt8×List UInt8×Unit))):Option (Int×(Unit×Int×Bool×Unit)×List (List UInt8×(List UInt8×List UInt8×Unit))×Unit) :=
 cond (decide (a1=[])) (some (2,w0,w1,())) (cond (decide ((a1.length:Int)>32)) (
 some (2,w0,w1,())) (
(dir_Dir_deed w0 w1).bind fun q1 =>
 cond (!decide (q1.1=0)) (
 some (q1.1,q1.2.1,q1.2.2.1,())) (
(cond (!((getK .str ([],[],()) a1 q1.2.2.1).2)) (cond (decide ((q1.2.2.1.length:Int)≥64)) (some (.inr (7,q1.2.1,q1.2.2.1,()))) ((dir_Dir_total q1.2.1 q1.2.2.1).bind fun q2 =>
 cond (decide ((a2.length:Int)>(IntKind.wrap .i64 (4194304-q2.1)))) (
 some (.inr (7,q2.2.1,q2.2.2.1,()))) (
 some (.inl (q2.2.1,q2.2.2.1,(getK .str ([],[],()) a1 q1.2.2.1).1,()))))) ((dir_Dir_total q1.2.1 q1.2.2.1).bind fun q3 =>
 cond (decide ((a2.length:Int)>(IntKind.wrap .i64 (4194304-q3.1)))) (
 some (.inr (7,q3.2.1,q3.2.2.1,()))) (
 some (.inl (q3.2.1,q3.2.2.1,(getK .str ([],[],()) a1 q1.2.2.1).1,())))):Option (((Unit×Int×Bool×Unit)×List (List UInt8×(List UInt8×List UInt8×Unit))×(List UInt8×List UInt8×Unit)×Unit)⊕(Int×(Unit×Int×Bool×Unit)×List (List UInt8×(List UInt8×List UInt8×Unit))×Unit))).bind (joinS fun v4 =>
(catT v4.2.2.1.2.1 a2).bind fun s5 =>
 some (0,v4.1,(putK .str a1 (v4.2.2.1.1,s5,()) v4.2.1),())))))
noncomputable def dir_Dir_Append_R:TRaw:={ ps:=(.cons (.bx 0 0) (.cons .str (.cons .str .unit))),ins:=[.box 38 (.agg (.cons (.mp 1) (.cons (.int .i64) (.cons .bool .unit)))),.map .str (.agg (.cons .str (.cons .str .unit)))],res:=(.int .i64),outs:=[.box 38 (.agg (.cons (.mp 1) (.cons (.int .i64) (.cons .bool .unit)))),.map .str (.agg (.cons .str (.cons .str .unit)))],fn:=fun v w=>dir_Dir_Append v.2.1 v.2.2.1 w.1 w.2.1 }
noncomputable def dir_Dir_Append_V:TEnv:={ pure:=[],look:=[],glob:=G0T,ty:=[],raw:=[(33,dir_Dir_deed_R),(34,dir_Dir_total_R)],fresh:=[],deep:=[] }
theorem dir_Dir_Append_eq:rawY Try.prog dir_Dir_Append_E dir_Dir_Append_H dir_Dir_Append_V dir_Dir_Append_Y [(0,0)] Try.f18 dir_Dir_Append_R.ps dir_Dir_Append_R.ins dir_Dir_Append_R.res dir_Dir_Append_R.outs=dir_Dir_Append_R.fn:=by kernel_rfl
theorem dir_Dir_Append_Sok:SoundS Try.prog G0 18 dir_Dir_Append_S:=runF_sound (P:=Try.prog) (E:=dir_Dir_Append_E) (h:=dir_Dir_Append_H) (f:=18) (fn:=Try.f18) ⟨same_ok,envP_nil,(envS_cons dir_Dir_deed_Sok (envS_cons dir_Dir_total_Sok envS_nil)),envP_nil,envX_nil⟩ Try.func18 rfl (by kernel_rfl)
theorem dir_Dir_Append_ok:TRawOk dir_Dir_Append_S dir_Dir_Append_R:=rawY_ok (E:=dir_Dir_Append_E) (ET:=dir_Dir_Append_V) (EnvT.ofX (E:=dir_Dir_Append_E) (ET:=dir_Dir_Append_V) (pure_of pairs_nil) looks_nil (raws_cons dir_Dir_deed_ok rfl rfl (raws_cons dir_Dir_total_ok rfl rfl raws_nil)) G0_ok news_nil) dir_Dir_Append_eq
noncomputable def dir_Dir_Restart_S:SFn:=D35.restartS
theorem dir_Dir_Restart_Sok:SoundS Try.prog G0 13 dir_Dir_Restart_S:=D35.restart_sound
noncomputable def dir_Dir_Restart_R:TRaw:=D35.restart_R
theorem dir_Dir_Restart_ok:TRawOk dir_Dir_Restart_S dir_Dir_Restart_R:=D35.restart_ok
noncomputable def dir_Dir_Restart (a1:Int) (w0:(Unit×Int×Bool×Unit)) (w1:List (List UInt8×(List UInt8×List UInt8×Unit))):Option (Unit×(Unit×Int×Bool×Unit)×List (List UInt8×(List UInt8×List UInt8×Unit))×Unit):=dir_Dir_Restart_R.fn ((),a1,()) (w0,w1,())
noncomputable def dir_Dir_Read_E:Env:={ pure:=[],raw:=[(29,dir_Dir_none_S)],glob:=G0,same:=[],look:=[],ext:=[] }
def dir_Dir_Read_H:Hints:={ seqs:=[],loops:=[],own:=[] }
noncomputable def dir_Dir_Read_S:SFn:=runF Try.prog dir_Dir_Read_E dir_Dir_Read_H Try.f10
def dir_Dir_Read_Y:TH:={ joins:=[],loops:=[],cuts:=[],ro:=[],news:=[] }
noncomputable def dir_Dir_Read (a1:List UInt8) (w0:(Unit×Int×Bool×Unit)) (w1:List (List UInt8×(List UInt8×List UInt8×Unit))):Option ((List UInt8×Bool×Unit)×(Unit×Int×Bool×Unit)×List (List UInt8×(List UInt8×List UInt8×Unit))×Unit) :=
(dir_Dir_none w0 w1).bind fun q1 =>
 cond q1.1 (
 some (([],false,()),q1.2.1,q1.2.2.1,())) (
(catT (((getK .str ([],[],()) a1 q1.2.2.1).1).1) (((getK .str ([],[],()) a1 q1.2.2.1).1).2.1)).bind fun s2 =>
 some ((s2,(getK .str ([],[],()) a1 q1.2.2.1).2,()),q1.2.1,q1.2.2.1,()))
noncomputable def dir_Dir_Read_R:TRaw:={ ps:=(.cons (.bx 0 0) (.cons .str .unit)),ins:=[.box 38 (.agg (.cons (.mp 1) (.cons (.int .i64) (.cons .bool .unit)))),.map .str (.agg (.cons .str (.cons .str .unit)))],res:=(.tup (.cons .str (.cons .bool .unit))),outs:=[.box 38 (.agg (.cons (.mp 1) (.cons (.int .i64) (.cons .bool .unit)))),.map .str (.agg (.cons .str (.cons .str .unit)))],fn:=fun v w=>dir_Dir_Read v.2.1 w.1 w.2.1 }
noncomputable def dir_Dir_Read_V:TEnv:={ pure:=[],look:=[],glob:=G0T,ty:=[],raw:=[(29,dir_Dir_none_R)],fresh:=[],deep:=[] }
theorem dir_Dir_Read_eq:rawY Try.prog dir_Dir_Read_E dir_Dir_Read_H dir_Dir_Read_V dir_Dir_Read_Y [(0,0)] Try.f10 dir_Dir_Read_R.ps dir_Dir_Read_R.ins dir_Dir_Read_R.res dir_Dir_Read_R.outs=dir_Dir_Read_R.fn:=by kernel_rfl
theorem dir_Dir_Read_Sok:SoundS Try.prog G0 10 dir_Dir_Read_S:=runF_sound (P:=Try.prog) (E:=dir_Dir_Read_E) (h:=dir_Dir_Read_H) (f:=10) (fn:=Try.f10) ⟨same_ok,envP_nil,(envS_cons dir_Dir_none_Sok envS_nil),envP_nil,envX_nil⟩ Try.func10 rfl (by kernel_rfl)
theorem dir_Dir_Read_ok:TRawOk dir_Dir_Read_S dir_Dir_Read_R:=rawY_ok (E:=dir_Dir_Read_E) (ET:=dir_Dir_Read_V) (EnvT.ofX (E:=dir_Dir_Read_E) (ET:=dir_Dir_Read_V) (pure_of pairs_nil) looks_nil (raws_cons dir_Dir_none_ok rfl rfl raws_nil) G0_ok news_nil) dir_Dir_Read_eq
noncomputable def dir_Dir_Down_E:Env:={ pure:=[],raw:=[(29,dir_Dir_none_S)],glob:=G0,same:=[],look:=[],ext:=[] }
def dir_Dir_Down_H:Hints:={ seqs:=[],loops:=[],own:=[] }
noncomputable def dir_Dir_Down_S:SFn:=runF Try.prog dir_Dir_Down_E dir_Dir_Down_H Try.f14
def dir_Dir_Down_Y:TH:={ joins:=[],loops:=[],cuts:=[],ro:=[],news:=[] }
noncomputable def dir_Dir_Down (w0:(Unit×Int×Bool×Unit)) (w1:List (List UInt8×(List UInt8×List UInt8×Unit))):Option (Bool×(Unit×Int×Bool×Unit)×List (List UInt8×(List UInt8×List UInt8×Unit))×Unit) :=
(dir_Dir_none w0 w1).bind fun q1 =>
 cond (!q1.1) (some (q1.2.1.2.2.1,q1.2.1,q1.2.2.1,())) (some (false,q1.2.1,q1.2.2.1,()))
noncomputable def dir_Dir_Down_R:TRaw:={ ps:=(.cons (.bx 0 0) .unit),ins:=[.box 38 (.agg (.cons (.mp 1) (.cons (.int .i64) (.cons .bool .unit)))),.map .str (.agg (.cons .str (.cons .str .unit)))],res:=.bool,outs:=[.box 38 (.agg (.cons (.mp 1) (.cons (.int .i64) (.cons .bool .unit)))),.map .str (.agg (.cons .str (.cons .str .unit)))],fn:=fun v w=>dir_Dir_Down w.1 w.2.1 }
noncomputable def dir_Dir_Down_V:TEnv:={ pure:=[],look:=[],glob:=G0T,ty:=[],raw:=[(29,dir_Dir_none_R)],fresh:=[],deep:=[] }
theorem dir_Dir_Down_eq:rawY Try.prog dir_Dir_Down_E dir_Dir_Down_H dir_Dir_Down_V dir_Dir_Down_Y [(0,0)] Try.f14 dir_Dir_Down_R.ps dir_Dir_Down_R.ins dir_Dir_Down_R.res dir_Dir_Down_R.outs=dir_Dir_Down_R.fn:=by kernel_rfl
theorem dir_Dir_Down_Sok:SoundS Try.prog G0 14 dir_Dir_Down_S:=runF_sound (P:=Try.prog) (E:=dir_Dir_Down_E) (h:=dir_Dir_Down_H) (f:=14) (fn:=Try.f14) ⟨same_ok,envP_nil,(envS_cons dir_Dir_none_Sok envS_nil),envP_nil,envX_nil⟩ Try.func14 rfl (by kernel_rfl)
theorem dir_Dir_Down_ok:TRawOk dir_Dir_Down_S dir_Dir_Down_R:=rawY_ok (E:=dir_Dir_Down_E) (ET:=dir_Dir_Down_V) (EnvT.ofX (E:=dir_Dir_Down_E) (ET:=dir_Dir_Down_V) (pure_of pairs_nil) looks_nil (raws_cons dir_Dir_none_ok rfl rfl raws_nil) G0_ok news_nil) dir_Dir_Down_eq
noncomputable def dir_Dir_Names_S:SFn:=D35.namesS
theorem dir_Dir_Names_Sok:SoundS Try.prog G0 15 dir_Dir_Names_S:=D35.names_sound
noncomputable def dir_Dir_Names_R:TRaw:=D35.names_R
theorem dir_Dir_Names_ok:TRawOk dir_Dir_Names_S dir_Dir_Names_R:=D35.names_ok
noncomputable def dir_Dir_Names (w0:(Unit×Int×Bool×Unit)) (w1:List (List UInt8×(List UInt8×List UInt8×Unit))):Option (List (List UInt8)×(Unit×Int×Bool×Unit)×List (List UInt8×(List UInt8×List UInt8×Unit))×Unit):=dir_Dir_Names_R.fn ((),()) (w0,w1,())
noncomputable def ref03_Same_E:Env:={ pure:=[],raw:=[],glob:=G0,same:=[],look:=[],ext:=[] }
def ref03_Same_H:Hints:={ seqs:=[],loops:=[(4,[0,1,5])],own:=[] }
noncomputable def ref03_Same_F:PFn:=closeF (runF Try.prog ref03_Same_E ref03_Same_H Try.f21)
def ref03_Same_Y:TH:={ joins:=[],loops:=[(4,{ keep:=[(5,(.int .i64))],mem:=[] })],cuts:=[],ro:=[],news:=[] }
noncomputable def ref03_Same_l4 (a0:List (List UInt8)) (a1:List (List UInt8)) (y4:(Int×Unit)):Option ((Int×Unit)⊕Bool) :=
 cond (decide (y4.1<(a0.length:Int))) (
(atI a0 y4.1).bind fun x1 =>
(atI a1 y4.1).bind fun x2 =>
 cond (!decide (x1=x2)) (
 some (.inr false)) (
 some (.inl ((IntKind.wrap .i64 (y4.1+1)),())))) (
 some (.inr true))
noncomputable def ref03_Same (a0:List (List UInt8)) (a1:List (List UInt8)):Option Bool :=
 cond (!decide ((a0.length:Int)=(a1.length:Int))) (
 some false) (
 loopT (ref03_Same_l4 a0 a1) (0,()))
noncomputable def ref03_Same_T:TFn:={ ps:=(.cons (.sl .str) (.cons (.sl .str) .unit)),res:=.bool,fn:=fun v=>ref03_Same v.1 v.2.1 }
noncomputable def ref03_Same_V:TEnv:={ pure:=[],look:=[],glob:=G0T,ty:=[],raw:=[],fresh:=[],deep:=[] }
theorem ref03_Same_eq:runY Try.prog ref03_Same_E ref03_Same_H ref03_Same_V ref03_Same_Y Try.f21 ref03_Same_T.ps ref03_Same_T.res=ref03_Same_T.fn:=by kernel_rfl
theorem ref03_Same_Fok:SoundP Try.prog G0 21 ref03_Same_F:=closeF_sound (runF_sound (P:=Try.prog) (E:=ref03_Same_E) (h:=ref03_Same_H) (f:=21) (fn:=Try.f21) ⟨same_ok,envP_nil,envS_nil,envP_nil,envX_nil⟩ Try.func21 rfl (by kernel_rfl))
theorem ref03_Same_ok:TOk ref03_Same_F ref03_Same_T:=runY_ok (E:=ref03_Same_E) (ET:=ref03_Same_V) (EnvT.ofX (E:=ref03_Same_E) (ET:=ref03_Same_V) (pure_of pairs_nil) looks_nil raws_nil G0_ok news_nil) ref03_Same_eq rfl
noncomputable def law35_awake_E:Env:={ pure:=[(21,ref03_Same_F)],raw:=[(5,dir_New_S),(10,dir_Dir_Read_S),(12,dir_Dir_Fuse_S),(13,dir_Dir_Restart_S),(14,dir_Dir_Down_S),(15,dir_Dir_Names_S),(18,dir_Dir_Append_S)],glob:=G0,same:=[],look:=[],ext:=[] }
def law35_awake_H:Hints:={ seqs:=[],loops:=[],own:=[] }
noncomputable def law35_awake_F:PFn:=closeF (runF Try.prog law35_awake_E law35_awake_H Try.f7)
def law35_awake_Y:TH:={ joins:=[],loops:=[],cuts:=[(7,[(6,{ keep:=[(1,(.bx 0 0)),(25,.bool)],mem:=[.box 38 (.agg (.cons (.mp 1) (.cons (.int .i64) (.cons .bool .unit)))),.map .str (.agg (.cons .str (.cons .str .unit)))] }),(3,{ keep:=[(1,(.bx 0 0)),(28,.bool)],mem:=[.box 38 (.agg (.cons (.mp 1) (.cons (.int .i64) (.cons .bool .unit)))),.map .str (.agg (.cons .str (.cons .str .unit)))] })])],ro:=[],news:=[] }
noncomputable def law35_awake:Option Bool :=
(dir_New).bind fun n1 =>
(dir_Dir_Fuse 1 n1.1 n1.2.1).bind fun q2 =>
(dir_Dir_Append [97] [120,121] q2.2.1 q2.2.2.1).bind fun q3 =>
(dir_Dir_Append [97] [122] q3.2.1 q3.2.2.1).bind fun q4 =>
(dir_Dir_Restart 1 q4.2.1 q4.2.2.1).bind fun q5 =>
(dir_Dir_Read [97] q5.2.1 q5.2.2.1).bind fun q6 =>
(cond (decide (q3.1=0)) (some ((decide (q4.1=15)),q6.2.1,q6.2.2.1,())) (some (false,q6.2.1,q6.2.2.1,())):Option (Bool×(Unit×Int×Bool×Unit)×List (List UInt8×(List UInt8×List UInt8×Unit))×Unit)).bind fun v7 =>
(cond v7.1 (some (q6.1.2.1,v7.2.1,v7.2.2.1,())) (some (false,v7.2.1,v7.2.2.1,())):Option (Bool×(Unit×Int×Bool×Unit)×List (List UInt8×(List UInt8×List UInt8×Unit))×Unit)).bind fun v8 =>
 cond v8.1 (cond (decide (q6.1.1=[120])) ((dir_Dir_Down v8.2.1 v8.2.2.1).bind fun q9 =>
 cond (!q9.1) ((dir_Dir_Names q9.2.1 q9.2.2.1).bind fun q10 =>
(ref03_Same q10.1 ([[97]]:List (List UInt8))).bind fun r11 =>
 some r11) (some false)) (some false)) (some false)
noncomputable def law35_awake_T:TFn:={ ps:=.unit,res:=.bool,fn:=fun v=>law35_awake  }
noncomputable def law35_awake_V:TEnv:={ pure:=[(21,ref03_Same_T)],look:=[],glob:=G0T,ty:=[(9,.str)],raw:=[(10,dir_Dir_Read_R),(12,dir_Dir_Fuse_R),(13,dir_Dir_Restart_R),(14,dir_Dir_Down_R),(15,dir_Dir_Names_R),(18,dir_Dir_Append_R)],fresh:=[],deep:=[(5,dir_New_D)] }
theorem law35_awake_eq:runY Try.prog law35_awake_E law35_awake_H law35_awake_V law35_awake_Y Try.f7 law35_awake_T.ps law35_awake_T.res=law35_awake_T.fn:=by kernel_rfl
theorem law35_awake_Fok:SoundP Try.prog G0 7 law35_awake_F:=closeF_sound (runF_sound (P:=Try.prog) (E:=law35_awake_E) (h:=law35_awake_H) (f:=7) (fn:=Try.f7) ⟨same_ok,(envP_cons ref03_Same_Fok envP_nil),(envS_cons dir_New_Sok (envS_cons dir_Dir_Read_Sok (envS_cons dir_Dir_Fuse_Sok (envS_cons dir_Dir_Restart_Sok (envS_cons dir_Dir_Down_Sok (envS_cons dir_Dir_Names_Sok (envS_cons dir_Dir_Append_Sok envS_nil))))))),envP_nil,envX_nil⟩ Try.func7 rfl (by kernel_rfl))
theorem law35_awake_ok:TOk law35_awake_F law35_awake_T:=runY_ok (E:=law35_awake_E) (ET:=law35_awake_V) (EnvT.ofX (E:=law35_awake_E) (ET:=law35_awake_V) (pure_of (pairs_cons ref03_Same_ok pairs_nil)) looks_nil (raws_more (raws_cons dir_Dir_Read_ok rfl rfl (raws_cons dir_Dir_Fuse_ok rfl rfl (raws_cons dir_Dir_Restart_ok rfl rfl (raws_cons dir_Dir_Down_ok rfl rfl (raws_cons dir_Dir_Names_ok rfl rfl (raws_cons dir_Dir_Append_ok rfl rfl raws_nil)))))) rfl) G0_ok news_nil (h7:=(deeps_cons dir_New_ok rfl rfl rfl deeps_nil))) law35_awake_eq rfl
noncomputable def dir_Dir_Sync_E:Env:={ pure:=[],raw:=[(33,dir_Dir_deed_S)],glob:=G0,same:=[],look:=[],ext:=[] }
def dir_Dir_Sync_H:Hints:={ seqs:=[],loops:=[],own:=[] }
noncomputable def dir_Dir_Sync_S:SFn:=runF Try.prog dir_Dir_Sync_E dir_Dir_Sync_H Try.f16
theorem dir_Dir_Sync_Sok:SoundS Try.prog G0 16 dir_Dir_Sync_S:=runF_sound (P:=Try.prog) (E:=dir_Dir_Sync_E) (h:=dir_Dir_Sync_H) (f:=16) (fn:=Try.f16) ⟨same_ok,envP_nil,(envS_cons dir_Dir_deed_Sok envS_nil),envP_nil,envX_nil⟩ Try.func16 rfl (by kernel_rfl)
noncomputable def dir_Dir_Rename_E:Env:={ pure:=[],raw:=[(33,dir_Dir_deed_S)],glob:=G0,same:=[],look:=[],ext:=[] }
def dir_Dir_Rename_H:Hints:={ seqs:=[],loops:=[],own:=[] }
noncomputable def dir_Dir_Rename_S:SFn:=runF Try.prog dir_Dir_Rename_E dir_Dir_Rename_H Try.f19
theorem dir_Dir_Rename_Sok:SoundS Try.prog G0 19 dir_Dir_Rename_S:=runF_sound (P:=Try.prog) (E:=dir_Dir_Rename_E) (h:=dir_Dir_Rename_H) (f:=19) (fn:=Try.f19) ⟨same_ok,envP_nil,(envS_cons dir_Dir_deed_Sok envS_nil),envP_nil,envX_nil⟩ Try.func19 rfl (by kernel_rfl)
noncomputable def dir_Dir_Remove_E:Env:={ pure:=[],raw:=[(33,dir_Dir_deed_S)],glob:=G0,same:=[],look:=[],ext:=[] }
def dir_Dir_Remove_H:Hints:={ seqs:=[],loops:=[],own:=[] }
noncomputable def dir_Dir_Remove_S:SFn:=runF Try.prog dir_Dir_Remove_E dir_Dir_Remove_H Try.f17
theorem dir_Dir_Remove_Sok:SoundS Try.prog G0 17 dir_Dir_Remove_S:=runF_sound (P:=Try.prog) (E:=dir_Dir_Remove_E) (h:=dir_Dir_Remove_H) (f:=17) (fn:=Try.f17) ⟨same_ok,envP_nil,(envS_cons dir_Dir_deed_Sok envS_nil),envP_nil,envX_nil⟩ Try.func17 rfl (by kernel_rfl)
noncomputable def dir_Dir_Cut_E:Env:={ pure:=[],raw:=[(33,dir_Dir_deed_S)],glob:=G0,same:=[],look:=[],ext:=[] }
def dir_Dir_Cut_H:Hints:={ seqs:=[],loops:=[],own:=[] }
noncomputable def dir_Dir_Cut_S:SFn:=runF Try.prog dir_Dir_Cut_E dir_Dir_Cut_H Try.f20
theorem dir_Dir_Cut_Sok:SoundS Try.prog G0 20 dir_Dir_Cut_S:=runF_sound (P:=Try.prog) (E:=dir_Dir_Cut_E) (h:=dir_Dir_Cut_H) (f:=20) (fn:=Try.f20) ⟨same_ok,envP_nil,(envS_cons dir_Dir_deed_Sok envS_nil),envP_nil,envX_nil⟩ Try.func20 rfl (by kernel_rfl)
noncomputable def dir_Dir_Kept_E:Env:={ pure:=[],raw:=[(29,dir_Dir_none_S)],glob:=G0,same:=[],look:=[],ext:=[] }
def dir_Dir_Kept_H:Hints:={ seqs:=[],loops:=[],own:=[] }
noncomputable def dir_Dir_Kept_S:SFn:=runF Try.prog dir_Dir_Kept_E dir_Dir_Kept_H Try.f11
theorem dir_Dir_Kept_Sok:SoundS Try.prog G0 11 dir_Dir_Kept_S:=runF_sound (P:=Try.prog) (E:=dir_Dir_Kept_E) (h:=dir_Dir_Kept_H) (f:=11) (fn:=Try.f11) ⟨same_ok,envP_nil,(envS_cons dir_Dir_none_Sok envS_nil),envP_nil,envX_nil⟩ Try.func11 rfl (by kernel_rfl)
end Go.Proofs.Ytljlahifmblbbaa.Y
