import Derived.Test.YtgfpkhlabdcbmaaDoorS
import Derived.Test.YtgfpkhlabdcbmaaDoorT29
import GoSem.PinnedTables
set_option linter.unusedVariables false
set_option maxRecDepth 100000
namespace Go.Proofs.YtgfpkhlabdcbmaaDoor.Y
open Go.EM Go.TY Go.Proofs
theorem zb.{u,v}{A:Type u}{B:Type v} (a:A) (f:A→Option B):(some a).bind f=f a:=rfl
theorem zg.{u}{A:Type u}{l:List A}{i:Nat} (h:i<l.length):l[i]? = some l[i]:=List.getElem?_eq_getElem h
theorem zl.{u}{A:Type u}{a:A}{l:List A}:(a::l).length=l.length+1:=rfl
theorem zf {p:Prop} [Decidable p] (h:¬p):decide p=false:=decide_eq_false h
theorem zn.{u}{c:Prop}{h:Decidable c} (hc:¬c) {A:Sort u}{t e:A}:ite c t e=e:=if_neg hc
theorem zp.{u}{c:Prop}{h:Decidable c} (hc:c) {A:Sort u}{t e:A}:ite c t e=t:=if_pos hc
theorem zm.{u}{A:Type u}{l:List A}{n:Nat} (h:n<l.length):l[n]∈l:=List.getElem_mem h
theorem zt {p:Prop} [Decidable p] (h:p):decide p=true:=decide_eq_true h
noncomputable section
def G0:List (Nat×AVal):=[(0,.rptr tabFirst8),(1,.rptr tabAccept8)]
def G0T:List (Nat×TV):=[]
theorem G0_ok:GlobsOk G0 G0T:=globs_nil
theorem same_ok:∀ f,memN f []=true→Same Tryd.prog f:=by
 intro f h
 simp_all [memN]
def eZ (l:List (Nat×PFn)) (s:List Nat):Env:={ pure:=l,raw:=[],glob:=G0,same:=s,look:=[],ext:=[] }
def vZ (l:List (Nat×TFn)):TEnv:={ pure:=l,look:=[],glob:=G0T,ty:=[],raw:=[],fresh:=[] }
def hZ (l:List (Nat×List Nat)) (o:List Nat):Hints:={ seqs:=[],loops:=l,own:=o }
def yZ:TH:={ joins:=[],loops:=[],cuts:=[],ro:=[],news:=[] }
abbrev vV0:=(Int×List (List UInt8)×(Int×Int×List UInt8×Unit)×Int×List ((Int×Int×Unit)×Int×Unit)×Unit)
abbrev vV1:=((Int×Int×Unit)×Int×Unit)
abbrev vV2:=(vV1×vV0×Int×Unit)
abbrev vV3:=((Int×Int×Unit)×Int×Int×Bool×List vV0×Unit)
abbrev vV4:=(Int×List (vV1×Bool)×Unit)
abbrev tT5:Ty:=(.agg (.cons (.int .i64) (.cons (.sl .str) (.cons (.agg (.cons (.int .i64) (.cons (.int .i64) (.cons .str .unit)))) (.cons (.int .i64) (.cons (.sl (.agg (.cons (.agg (.cons (.int .i64) (.cons (.int .i64) .unit))) (.cons (.int .i64) .unit)))) .unit))))))
abbrev tT6:Ty:=(.agg (.cons (.agg (.cons (.int .i64) (.cons (.int .i64) .unit))) (.cons (.int .i64) .unit)))
abbrev tT7:Ty:=(.agg (.cons tT6 (.cons tT5 (.cons (.int .i64) .unit))))
abbrev tT8:Ty:=(.agg (.cons (.agg (.cons (.int .i64) (.cons (.int .i64) .unit))) (.cons (.int .i64) (.cons (.int .i64) (.cons .bool (.cons (.sl tT5) .unit))))))
abbrev tT9:Ty:=(.agg (.cons (.int .i64) (.cons (.int .i64) (.cons .str .unit))))
abbrev tT10:Ty:=(.cons (.int .i64) (.cons (.int .i64) .unit))
def zbs_E:Env:=(eZ [] [])
def zbs_H:Hints:=(hZ [] [])
def zbs_F:PFn:=closeF (runF Tryd.prog zbs_E zbs_H Tryd.f63)
def zbs_Y:TH:=yZ
def zbs (a0:Int) (a1:Int):Option Int :=
 cond (decide (a0<a1)) (
 some (-1)) (
 cond (decide (a0>a1)) (
 some 1) (
 some 0))
def zbs_T:TFn:={ ps:=tT10,res:=(.int .i64),fn:=fun v=>zbs v.1 v.2.1 }
def zbs_V:TEnv:=(vZ [])
theorem zbs_eq:runY Tryd.prog zbs_E zbs_H zbs_V zbs_Y Tryd.f63 zbs_T.ps zbs_T.res=zbs_T.fn:=by kernel_rfl
theorem zbs_Fok:SoundP Tryd.prog G0 63 zbs_F:=closeF_sound (runF_sound ⟨same_ok,envP_nil,envS_nil,envP_nil,envX_nil⟩ Tryd.func63 rfl (by kernel_rfl))
theorem zbs_ok:TOk zbs_F zbs_T:=runY_ok (E:=zbs_E) (ET:=zbs_V) (EnvT.ofX (pure_of pairs_nil) looks_nil raws_nil G0_ok news_nil) zbs_eq rfl
def zao_E:Env:=(eZ [(63,zbs_F)] [])
def zao_H:Hints:=(hZ [] [])
def zao_F:PFn:=closeF (runF Tryd.prog zao_E zao_H Tryd.f46)
def zao_Y:TH:={ loops:=[],ro:=[2,3] }
def zao (a0:(Int×Int×Unit)) (a1:(Int×Int×Unit)):Option Int :=
 cond (!decide (a0.1=a1.1)) (
(zbs a0.1 a1.1).bind fun r1 =>
 some r1) (
(zbs a0.2.1 a1.2.1).bind fun r2 =>
 some r2)
def zao_T:TFn:={ ps:=(.cons (.agg tT10) (.cons (.agg tT10) .unit)),res:=(.int .i64),fn:=fun v=>zao v.1 v.2.1 }
def zao_V:TEnv:=(vZ [(63,zbs_T)])
theorem zao_eq:runY Tryd.prog zao_E zao_H zao_V zao_Y Tryd.f46 zao_T.ps zao_T.res=zao_T.fn:=by kernel_rfl
theorem zao_Fok:SoundP Tryd.prog G0 46 zao_F:=closeF_sound (runF_sound ⟨same_ok,(envP_cons zbs_Fok envP_nil),envS_nil,envP_nil,envX_nil⟩ Tryd.func46 rfl (by kernel_rfl))
theorem zao_ok:TOk zao_F zao_T:=runY_ok (E:=zao_E) (ET:=zao_V) (EnvT.ofX (pure_of (pairs_cons zbs_ok pairs_nil)) looks_nil raws_nil G0_ok news_nil) zao_eq rfl
def za5_E:Env:=(eZ [(46,zao_F)] [])
def za5_H:Hints:=(hZ [(2,[0,3])] [])
def za5_F:PFn:=closeF (runF Tryd.prog za5_E za5_H Tryd.f29)
def za5_Y:TH:={ loops:=[(2,{ keep:=[(3,(.int .i64))],mem:=[] })],ro:=[] }
def za5_l2 (a0:List vV3) (y2:(Int×Unit)):Option ((Int×Unit)⊕Bool) :=
 cond (decide (y2.1<(a0.length:Int))) (
(atI a0 (IntKind.wrap .i64 (y2.1-1))).bind fun x1 =>
(atI a0 y2.1).bind fun x2 =>
(zao x1.1 x2.1).bind fun r3 =>
 cond (!decide (r3=(-1))) (
 some (.inr false)) (
 some (.inl ((IntKind.wrap .i64 (y2.1+1)),())))) (
 some (.inr true))
def za5 (a0:List vV3):Option Bool :=
 loopT (za5_l2 a0) (1,())
def za5_T:TFn:={ ps:=(.cons (.sl tT8) .unit),res:=.bool,fn:=fun v=>za5 v.1 }
def za5_V:TEnv:=(vZ [(46,zao_T)])
theorem za5_eq:runY Tryd.prog za5_E za5_H za5_V za5_Y Tryd.f29 za5_T.ps za5_T.res=za5_T.fn:=by kernel_rfl
theorem za5_Fok:SoundP Tryd.prog G0 29 za5_F:=closeF_sound (runF_sound ⟨same_ok,(envP_cons zao_Fok envP_nil),envS_nil,envP_nil,envX_nil⟩ Tryd.func29 rfl (by kernel_rfl))
theorem za5_ok:TOk za5_F za5_T:=runY_ok (E:=za5_E) (ET:=za5_V) (EnvT.ofX (pure_of (pairs_cons zao_ok pairs_nil)) looks_nil raws_nil G0_ok news_nil) za5_eq rfl
def zaz_E:Env:=(eZ [] [])
def zaz_H:Hints:=(hZ [(4,[0,3])] [])
def zaz_F:PFn:=closeF (runF Tryd.prog zaz_E zaz_H Tryd.f16)
def zaz_Y:TH:={ loops:=[(4,{ keep:=[(3,(.int .i64))],mem:=[] })],ro:=[] }
def zaz_l4 (a0:List (List UInt8)) (y4:(Int×Unit)):Option ((Int×Unit)⊕Bool) :=
 cond (decide (y4.1<(a0.length:Int))) (
(atI a0 y4.1).bind fun x1 =>
 cond (decide ((x1.length:Int)>120)) (
 some (.inr false)) (
 some (.inl ((IntKind.wrap .i64 (y4.1+1)),())))) (
 some (.inr true))
def zaz (a0:List (List UInt8)):Option Bool :=
 cond (decide ((a0.length:Int)>12)) (
 some false) (
 loopT (zaz_l4 a0) (0,()))
def zaz_T:TFn:={ ps:=(.cons (.sl .str) .unit),res:=.bool,fn:=fun v=>zaz v.1 }
def zaz_V:TEnv:=(vZ [])
theorem zaz_eq:runY Tryd.prog zaz_E zaz_H zaz_V zaz_Y Tryd.f16 zaz_T.ps zaz_T.res=zaz_T.fn:=by kernel_rfl
theorem zaz_Fok:SoundP Tryd.prog G0 16 zaz_F:=closeF_sound (runF_sound ⟨same_ok,envP_nil,envS_nil,envP_nil,envX_nil⟩ Tryd.func16 rfl (by kernel_rfl))
theorem zaz_ok:TOk zaz_F zaz_T:=runY_ok (E:=zaz_E) (ET:=zaz_V) (EnvT.ofX (pure_of pairs_nil) looks_nil raws_nil G0_ok news_nil) zaz_eq rfl
def zav_E:Env:=(eZ [(16,zaz_F)] [])
def zav_H:Hints:=(hZ [] [])
def zav_F:PFn:=closeF (runF Tryd.prog zav_E zav_H Tryd.f5)
def zav_Y:TH:={ loops:=[],ro:=[1] }
def zav (a0:vV0):Option Bool :=
(zaz a0.2.1).bind fun r1 =>
 cond r1 (cond (decide ((a0.2.2.1.2.2.1.length:Int)≤200)) (some (decide ((a0.2.2.2.2.1.length:Int)≤300))) (some false)) (some false)
def zav_T:TFn:={ ps:=(.cons tT5 .unit),res:=.bool,fn:=fun v=>zav v.1 }
def zav_V:TEnv:=(vZ [(16,zaz_T)])
theorem zav_eq:runY Tryd.prog zav_E zav_H zav_V zav_Y Tryd.f5 zav_T.ps zav_T.res=zav_T.fn:=by kernel_rfl
theorem zav_Fok:SoundP Tryd.prog G0 5 zav_F:=closeF_sound (runF_sound ⟨same_ok,(envP_cons zaz_Fok envP_nil),envS_nil,envP_nil,envX_nil⟩ Tryd.func5 rfl (by kernel_rfl))
theorem zav_ok:TOk zav_F zav_T:=runY_ok (E:=zav_E) (ET:=zav_V) (EnvT.ofX (pure_of (pairs_cons zaz_ok pairs_nil)) looks_nil raws_nil G0_ok news_nil) zav_eq rfl
def zba_E:Env:=(eZ [(5,zav_F)] [])
def zba_H:Hints:=(hZ [(4,[1,3])] [])
def zba_F:PFn:=closeF (runF Tryd.prog zba_E zba_H Tryd.f30)
def zba_Y:TH:={ loops:=[(4,{ keep:=[(1,(.bx 0 0)),(3,(.int .i64))],mem:=[.same] })],ro:=[1] }
def zba_l4 (a0:vV3) (y4:(Int×Unit)):Option ((Int×Unit)⊕Bool) :=
 cond (decide (y4.1<(a0.2.2.2.2.1.length:Int))) (
(atI a0.2.2.2.2.1 y4.1).bind fun x1 =>
(zav x1).bind fun r2 =>
 cond (!r2) (
 some (.inr false)) (
 some (.inl ((IntKind.wrap .i64 (y4.1+1)),())))) (
 some (.inr true))
def zba (a0:vV3):Option Bool :=
 cond (decide ((a0.2.2.2.2.1.length:Int)>20)) (
 some false) (
 loopT (zba_l4 a0) (0,()))
def zba_T:TFn:={ ps:=(.cons tT8 .unit),res:=.bool,fn:=fun v=>zba v.1 }
def zba_V:TEnv:=(vZ [(5,zav_T)])
theorem zba_eq:runY Tryd.prog zba_E zba_H zba_V zba_Y Tryd.f30 zba_T.ps zba_T.res=zba_T.fn:=by kernel_rfl
theorem zba_Fok:SoundP Tryd.prog G0 30 zba_F:=closeF_sound (runF_sound ⟨same_ok,(envP_cons zav_Fok envP_nil),envS_nil,envP_nil,envX_nil⟩ Tryd.func30 rfl (by kernel_rfl))
theorem zba_ok:TOk zba_F zba_T:=runY_ok (E:=zba_E) (ET:=zba_V) (EnvT.ofX (pure_of (pairs_cons zav_ok pairs_nil)) looks_nil raws_nil G0_ok news_nil) zba_eq rfl
def zay_E:Env:=(eZ [] [])
def zay_H:Hints:=(hZ [] [])
def zay_F:PFn:=closeF (runF Tryd.prog zay_E zay_H Tryd.f47)
def zay_Y:TH:={ loops:=[],ro:=[1] }
def zay (a0:(Int×Int×Unit)):Option Bool :=
 cond (decide (a0.1≥0)) (cond (decide (a0.1≤15)) (cond (decide (a0.2.1≥1)) (some (decide (a0.2.1≤1048576))) (some false)) (some false)) (some false)
def zay_T:TFn:={ ps:=(.cons (.agg tT10) .unit),res:=.bool,fn:=fun v=>zay v.1 }
def zay_V:TEnv:=(vZ [])
theorem zay_eq:runY Tryd.prog zay_E zay_H zay_V zay_Y Tryd.f47 zay_T.ps zay_T.res=zay_T.fn:=by kernel_rfl
theorem zay_Fok:SoundP Tryd.prog G0 47 zay_F:=closeF_sound (runF_sound ⟨same_ok,envP_nil,envS_nil,envP_nil,envX_nil⟩ Tryd.func47 rfl (by kernel_rfl))
theorem zay_ok:TOk zay_F zay_T:=runY_ok (E:=zay_E) (ET:=zay_V) (EnvT.ofX (pure_of pairs_nil) looks_nil raws_nil G0_ok news_nil) zay_eq rfl
def zbf_E:Env:=(eZ [] [])
def zbf_H:Hints:=(hZ [(17,[0,4,5,6,7])] [])
def zbf_F:PFn:=closeF (runF Tryd.prog zbf_E zbf_H Tryd.f93)
def zbf_Y:TH:={ joins:=[(14,{ keep:=[(4,(.int .i64)),(5,(.int .i64)),(6,(.int .i64))],mem:=[] }),(9,{ keep:=[(18,.bool)],mem:=[] }),(22,{ keep:=[(4,(.int .i64))],mem:=[] }),(24,{ keep:=[],mem:=[] })],loops:=[(17,{ keep:=[(4,(.int .i64)),(7,(.int .i64))],mem:=[] })],ro:=[] }
def zbf_l17 (a0:List UInt8) (v3:(Int×Int×Int×Unit)) (y17:(Int×Int×Unit)):Option ((Int×Int×Unit)⊕((Int×Unit)⊕(Int×Int×Unit))) :=
 cond (decide (y17.2.1<v3.2.1)) (
(atI a0 y17.2.1).bind fun b4 =>
 cond (decide ((b4.toNat:Int)<128)) (some (.inr (.inr (0,0,())))) ((atI a0 y17.2.1).bind fun b5 =>
 cond (decide ((b5.toNat:Int)>191)) (
 some (.inr (.inr (0,0,())))) (
(atI a0 y17.2.1).bind fun b6 =>
 some (.inl ((IntKind.wrap .i64 ((IntKind.wrap .i64 ((IntKind.wrap .i64 (64*y17.1))+(IntKind.wrap .i64 (b6.toNat:Int))))-128)),(IntKind.wrap .i64 (y17.2.1+1)),()))))) (
 some (.inr (.inl (y17.1,()))))
def zbf (a0:List UInt8):Option (Int×Int×Unit) :=
 cond (decide ((a0.length:Int)=0)) (
 some (0,0,())) (
(atI a0 0).bind fun b1 =>
(cond (decide ((IntKind.wrap .i64 (b1.toNat:Int))<128)) (
 some (.inr ((IntKind.wrap .i64 (b1.toNat:Int)),1,()))) (
(cond (decide ((IntKind.wrap .i64 (b1.toNat:Int))≥194)) (some (.inl ((decide ((IntKind.wrap .i64 (b1.toNat:Int))<224)),()))) (some (.inl (false,()))):Option ((Bool×Unit)⊕((Int×Int×Int×Unit)⊕(Int×Int×Unit)))).bind (joinS fun v2 =>
 cond v2.1 (
 some (.inl ((IntKind.wrap .i64 ((IntKind.wrap .i64 (b1.toNat:Int))-192)),2,128,()))) (
 cond (decide ((IntKind.wrap .i64 (b1.toNat:Int))≥224)) (cond (decide ((IntKind.wrap .i64 (b1.toNat:Int))<240)) (
 some (.inl ((IntKind.wrap .i64 ((IntKind.wrap .i64 (b1.toNat:Int))-224)),3,2048,()))) (
 cond (decide ((IntKind.wrap .i64 (b1.toNat:Int))≥240)) (cond (decide ((IntKind.wrap .i64 (b1.toNat:Int))<245)) (
 some (.inl ((IntKind.wrap .i64 ((IntKind.wrap .i64 (b1.toNat:Int))-240)),4,65536,()))) (
 some (.inr (0,0,())))) (some (.inr (0,0,()))))) (cond (decide ((IntKind.wrap .i64 (b1.toNat:Int))≥240)) (cond (decide ((IntKind.wrap .i64 (b1.toNat:Int))<245)) (
 some (.inl ((IntKind.wrap .i64 ((IntKind.wrap .i64 (b1.toNat:Int))-240)),4,65536,()))) (
 some (.inr (0,0,())))) (some (.inr (0,0,()))))))):Option ((Int×Int×Int×Unit)⊕(Int×Int×Unit))).bind (joinS fun v3 =>
 cond (decide ((a0.length:Int)<v3.2.1)) (
 some (0,0,())) (
(loopT (zbf_l17 a0 v3) (v3.1,1,()):Option ((Int×Unit)⊕(Int×Int×Unit))).bind (joinS fun v7 =>
(cond (decide (v7.1<v3.2.2.1)) (some (.inr (0,0,()))) (cond (decide (v7.1>1114111)) (some (.inr (0,0,()))) (cond (decide (v7.1≥55296)) (cond (decide (v7.1≤57343)) (
 some (.inr (0,0,()))) (
 some (.inl ()))) (some (.inl ())))):Option (Unit⊕(Int×Int×Unit))).bind (joinS fun v8 =>
 some (v7.1,v3.2.1,()))))))
def zbf_T:TFn:={ ps:=(.cons .str .unit),res:=(.tup tT10),fn:=fun v=>zbf v.1 }
def zbf_V:TEnv:=(vZ [])
theorem zbf_eq:runY Tryd.prog zbf_E zbf_H zbf_V zbf_Y Tryd.f93 zbf_T.ps zbf_T.res=zbf_T.fn:=by kernel_rfl
theorem zbf_Fok:SoundP Tryd.prog G0 93 zbf_F:=closeF_sound (runF_sound ⟨same_ok,envP_nil,envS_nil,envP_nil,envX_nil⟩ Tryd.func93 rfl (by kernel_rfl))
theorem zbf_ok:TOk zbf_F zbf_T:=runY_ok (E:=zbf_E) (ET:=zbf_V) (EnvT.ofX (pure_of pairs_nil) looks_nil raws_nil G0_ok news_nil) zbf_eq rfl
def za2_E:Env:=(eZ [(93,zbf_F)] [])
def za2_H:Hints:=(hZ [(3,[0,4,5])] [])
def za2_F:PFn:=closeF (runF Tryd.prog za2_E za2_H Tryd.f84)
def za2_Y:TH:={ loops:=[(3,{ keep:=[(4,(.own 0)),(5,(.int .i64))],mem:=[.row true 3 (.int .i64)] })],ro:=[] }
def za2_l3 (a0:List UInt8) (y3:(Int×List Int×Unit)):Option ((Int×List Int×Unit)⊕(List Int×Bool×Unit)) :=
 cond (decide (y3.1<(a0.length:Int))) (
(subI a0 y3.1 (a0.length:Int)).bind fun s1 =>
(zbf s1).bind fun r2 =>
 cond (decide (r2.2.1=0)) (
 some (.inr ([],false,()))) (
(roomT (y3.2.1.length+([r2.1]:List Int).length)).bind fun u3 =>
 some (.inl ((IntKind.wrap .i64 (y3.1+r2.2.1)),(y3.2.1++([r2.1]:List Int)),())))) (
 some (.inr (y3.2.1,true,())))
def za2 (a0:List UInt8):Option (List Int×Bool×Unit) :=
 loopT (za2_l3 a0) (0,[],())
def za2_T:TFn:={ ps:=(.cons .str .unit),res:=(.tup (.cons (.sl (.int .i64)) (.cons .bool .unit))),fn:=fun v=>za2 v.1 }
def za2_V:TEnv:={ pure:=[(93,zbf_T)],look:=[],glob:=G0T,ty:=[(3,(.int .i64))],raw:=[],fresh:=[] }
theorem za2_eq:runY Tryd.prog za2_E za2_H za2_V za2_Y Tryd.f84 za2_T.ps za2_T.res=za2_T.fn:=by kernel_rfl
theorem za2_Fok:SoundP Tryd.prog G0 84 za2_F:=closeF_sound (runF_sound ⟨same_ok,(envP_cons zbf_Fok envP_nil),envS_nil,envP_nil,envX_nil⟩ Tryd.func84 rfl (by kernel_rfl))
theorem za2_ok:TOk za2_F za2_T:=runY_ok (E:=za2_E) (ET:=za2_V) (EnvT.ofX (pure_of (pairs_cons zbf_ok pairs_nil)) looks_nil raws_nil G0_ok news_nil) za2_eq rfl
def zb0_E:Env:=(eZ [] [])
def zb0_H:Hints:=(hZ [] [])
def zb0_F:PFn:=closeF (runF Tryd.prog zb0_E zb0_H Tryd.f92)
def zb0_Y:TH:=yZ
def zb0 (a0:Int):Option Bool :=
 cond (decide (a0≥32)) (cond (decide (a0<127)) (some (!decide (a0=65533))) (cond (decide (a0>159)) (some (!decide (a0=65533))) (some false))) (some false)
def zb0_T:TFn:={ ps:=(.cons (.int .i64) .unit),res:=.bool,fn:=fun v=>zb0 v.1 }
def zb0_V:TEnv:=(vZ [])
theorem zb0_eq:runY Tryd.prog zb0_E zb0_H zb0_V zb0_Y Tryd.f92 zb0_T.ps zb0_T.res=zb0_T.fn:=by kernel_rfl
theorem zb0_Fok:SoundP Tryd.prog G0 92 zb0_F:=closeF_sound (runF_sound ⟨same_ok,envP_nil,envS_nil,envP_nil,envX_nil⟩ Tryd.func92 rfl (by kernel_rfl))
theorem zb0_ok:TOk zb0_F zb0_T:=runY_ok (E:=zb0_E) (ET:=zb0_V) (EnvT.ofX (pure_of pairs_nil) looks_nil raws_nil G0_ok news_nil) zb0_eq rfl
def za7_E:Env:=(eZ [(84,za2_F),(92,zb0_F)] [])
def za7_H:Hints:=(hZ [(3,[3,4,5])] [])
def za7_F:PFn:=closeF (runF Tryd.prog za7_E za7_H Tryd.f83)
def za7_Y:TH:={ joins:=[(7,{ keep:=[],mem:=[] })],loops:=[(3,{ keep:=[(5,(.int .i64))],mem:=[] })],ro:=[] }
def za7_l3 (r1:(List Int×Bool×Unit)) (y3:(Int×Unit)):Option ((Int×Unit)⊕(Unit⊕Bool)) :=
 cond (decide (y3.1<(r1.1.length:Int))) (
(atI r1.1 y3.1).bind fun x2 =>
(zb0 x2).bind fun r3 =>
 cond (!r3) (
 some (.inr (.inr false))) (
 some (.inl ((IntKind.wrap .i64 (y3.1+1)),())))) (
 some (.inr (.inl ())))
def za7 (a0:List UInt8):Option Bool :=
(za2 a0).bind fun r1 =>
(loopT (za7_l3 r1) (0,()):Option (Unit⊕Bool)).bind (joinS fun v4 =>
 cond r1.2.1 (cond (decide ((r1.1.length:Int)≥1)) (some (decide ((r1.1.length:Int)≤24))) (some false)) (some false))
def za7_T:TFn:={ ps:=(.cons .str .unit),res:=.bool,fn:=fun v=>za7 v.1 }
def za7_V:TEnv:=(vZ [(84,za2_T),(92,zb0_T)])
theorem za7_eq:runY Tryd.prog za7_E za7_H za7_V za7_Y Tryd.f83 za7_T.ps za7_T.res=za7_T.fn:=by kernel_rfl
theorem za7_Fok:SoundP Tryd.prog G0 83 za7_F:=closeF_sound (runF_sound ⟨same_ok,(envP_cons za2_Fok (envP_cons zb0_Fok envP_nil)),envS_nil,envP_nil,envX_nil⟩ Tryd.func83 rfl (by kernel_rfl))
theorem za7_ok:TOk za7_F za7_T:=runY_ok (E:=za7_E) (ET:=za7_V) (EnvT.ofX (pure_of (pairs_cons za2_ok (pairs_cons zb0_ok pairs_nil))) looks_nil raws_nil G0_ok news_nil) za7_eq rfl
def za0_E:Env:=(eZ [(83,za7_F)] [])
def za0_H:Hints:=(hZ [(6,[0,3])] [])
def za0_F:PFn:=closeF (runF Tryd.prog za0_E za0_H Tryd.f64)
def za0_Y:TH:={ loops:=[(6,{ keep:=[(3,(.int .i64))],mem:=[] })],ro:=[] }
def za0_l6 (a0:List (List UInt8)) (y6:(Int×Unit)):Option ((Int×Unit)⊕Int) :=
 cond (decide (y6.1<(a0.length:Int))) (
(atI a0 y6.1).bind fun x1 =>
(za7 x1).bind fun r2 =>
 cond (!r2) (
 some (.inr 8)) (
 some (.inl ((IntKind.wrap .i64 (y6.1+1)),())))) (
 some (.inr 0))
def za0 (a0:List (List UInt8)):Option Int :=
 cond (decide ((a0.length:Int)=0)) (
 some 8) (
 cond (decide ((a0.length:Int)>8)) (
 some 9) (
 loopT (za0_l6 a0) (0,())))
def za0_T:TFn:={ ps:=(.cons (.sl .str) .unit),res:=(.int .i64),fn:=fun v=>za0 v.1 }
def za0_V:TEnv:=(vZ [(83,za7_T)])
theorem za0_eq:runY Tryd.prog za0_E za0_H za0_V za0_Y Tryd.f64 za0_T.ps za0_T.res=za0_T.fn:=by kernel_rfl
theorem za0_Fok:SoundP Tryd.prog G0 64 za0_F:=closeF_sound (runF_sound ⟨same_ok,(envP_cons za7_Fok envP_nil),envS_nil,envP_nil,envX_nil⟩ Tryd.func64 rfl (by kernel_rfl))
theorem za0_ok:TOk za0_F za0_T:=runY_ok (E:=za0_E) (ET:=za0_V) (EnvT.ofX (pure_of (pairs_cons za7_ok pairs_nil)) looks_nil raws_nil G0_ok news_nil) za0_eq rfl
def zaw_E:Env:=(eZ [(84,za2_F)] [])
def zaw_H:Hints:=(hZ [] [])
def zaw_F:PFn:=closeF (runF Tryd.prog zaw_E zaw_H Tryd.f65)
def zaw_Y:TH:={ loops:=[],ro:=[1] }
def zaw (a0:(Int×Int×List UInt8×Unit)):Option Bool :=
 cond (decide (a0.1=1)) (
 cond (decide (a0.2.2.1=[])) (cond (decide (a0.2.1≥(-2147483647))) (some (decide (a0.2.1≤2147483647))) (some false)) (some false)) (
 cond (decide (a0.1=2)) (
(za2 a0.2.2.1).bind fun r1 =>
 cond (decide (a0.2.1=0)) (cond r1.2.1 (some (decide ((a0.2.2.1.length:Int)≤64))) (some false)) (some false)) (
 cond (decide (a0.1=3)) (cond (decide (a0.2.2.1=[])) (cond (decide (a0.2.1≥0)) (some (decide (a0.2.1≤1))) (some false)) (some false)) (some false)))
def zaw_T:TFn:={ ps:=(.cons tT9 .unit),res:=.bool,fn:=fun v=>zaw v.1 }
def zaw_V:TEnv:=(vZ [(84,za2_T)])
theorem zaw_eq:runY Tryd.prog zaw_E zaw_H zaw_V zaw_Y Tryd.f65 zaw_T.ps zaw_T.res=zaw_T.fn:=by kernel_rfl
theorem zaw_Fok:SoundP Tryd.prog G0 65 zaw_F:=closeF_sound (runF_sound ⟨same_ok,(envP_cons za2_Fok envP_nil),envS_nil,envP_nil,envX_nil⟩ Tryd.func65 rfl (by kernel_rfl))
theorem zaw_ok:TOk zaw_F zaw_T:=runY_ok (E:=zaw_E) (ET:=zaw_V) (EnvT.ofX (pure_of (pairs_cons za2_ok pairs_nil)) looks_nil raws_nil G0_ok news_nil) zaw_eq rfl
def zbm_E:Env:=(eZ [(46,zao_F),(63,zbs_F)] [])
def zbm_H:Hints:=(hZ [] [])
def zbm_F:PFn:=closeF (runF Tryd.prog zbm_E zbm_H Tryd.f85)
def zbm_Y:TH:={ loops:=[],ro:=[2,3] }
def zbm (a0:vV1) (a1:vV1):Option Int :=
(zao a0.1 a1.1).bind fun r1 =>
 cond (!decide (r1=0)) (
(zao a0.1 a1.1).bind fun r2 =>
 some r2) (
(zbs a0.2.1 a1.2.1).bind fun r3 =>
 some r3)
def zbm_T:TFn:={ ps:=(.cons tT6 (.cons tT6 .unit)),res:=(.int .i64),fn:=fun v=>zbm v.1 v.2.1 }
def zbm_V:TEnv:=(vZ [(46,zao_T),(63,zbs_T)])
theorem zbm_eq:runY Tryd.prog zbm_E zbm_H zbm_V zbm_Y Tryd.f85 zbm_T.ps zbm_T.res=zbm_T.fn:=by kernel_rfl
theorem zbm_Fok:SoundP Tryd.prog G0 85 zbm_F:=closeF_sound (runF_sound ⟨same_ok,(envP_cons zao_Fok (envP_cons zbs_Fok envP_nil)),envS_nil,envP_nil,envX_nil⟩ Tryd.func85 rfl (by kernel_rfl))
theorem zbm_ok:TOk zbm_F zbm_T:=runY_ok (E:=zbm_E) (ET:=zbm_V) (EnvT.ofX (pure_of (pairs_cons zao_ok (pairs_cons zbs_ok pairs_nil))) looks_nil raws_nil G0_ok news_nil) zbm_eq rfl
def zbc_E:Env:=(eZ [(47,zay_F),(85,zbm_F)] [])
def zbc_H:Hints:=(hZ [(2,[0,3])] [])
def zbc_F:PFn:=closeF (runF Tryd.prog zbc_E zbc_H Tryd.f66)
def zbc_Y:TH:={ loops:=[(2,{ keep:=[(3,(.int .i64))],mem:=[] })],ro:=[] }
def zbc_l2 (a0:List vV1) (y2:(Int×Unit)):Option ((Int×Unit)⊕Bool) :=
 cond (decide (y2.1<(a0.length:Int))) (
(atI a0 y2.1).bind fun x1 =>
(zay x1.1).bind fun r2 =>
 cond (!r2) (some (.inr false)) ((atI a0 y2.1).bind fun x3 =>
 cond (decide (x3.2.1<0)) (some (.inr false)) ((atI a0 y2.1).bind fun x4 =>
 cond (decide (x4.2.1>15)) (
 some (.inr false)) (
 cond (decide (y2.1>0)) ((atI a0 (IntKind.wrap .i64 (y2.1-1))).bind fun x5 =>
(atI a0 y2.1).bind fun x6 =>
(zbm x5 x6).bind fun r7 =>
 cond (!decide (r7=(-1))) (
 some (.inr false)) (
 some (.inl ((IntKind.wrap .i64 (y2.1+1)),())))) (some (.inl ((IntKind.wrap .i64 (y2.1+1)),()))))))) (
 some (.inr true))
def zbc (a0:List vV1):Option Bool :=
 loopT (zbc_l2 a0) (0,())
def zbc_T:TFn:={ ps:=(.cons (.sl tT6) .unit),res:=.bool,fn:=fun v=>zbc v.1 }
def zbc_V:TEnv:=(vZ [(47,zay_T),(85,zbm_T)])
theorem zbc_eq:runY Tryd.prog zbc_E zbc_H zbc_V zbc_Y Tryd.f66 zbc_T.ps zbc_T.res=zbc_T.fn:=by kernel_rfl
theorem zbc_Fok:SoundP Tryd.prog G0 66 zbc_F:=closeF_sound (runF_sound ⟨same_ok,(envP_cons zay_Fok (envP_cons zbm_Fok envP_nil)),envS_nil,envP_nil,envX_nil⟩ Tryd.func66 rfl (by kernel_rfl))
theorem zbc_ok:TOk zbc_F zbc_T:=runY_ok (E:=zbc_E) (ET:=zbc_V) (EnvT.ofX (pure_of (pairs_cons zay_ok (pairs_cons zbm_ok pairs_nil))) looks_nil raws_nil G0_ok news_nil) zbc_eq rfl
def za9_E:Env:=(eZ [(64,za0_F),(65,zaw_F),(66,zbc_F)] [])
def za9_H:Hints:=(hZ [] [])
def za9_F:PFn:=closeF (runF Tryd.prog za9_E za9_H Tryd.f48)
def za9_Y:TH:={ joins:=[(9,{ keep:=[(1,(.bx 0 0))],mem:=[.same,.gone] }),(11,{ keep:=[(1,(.bx 0 0))],mem:=[.same,.gone] }),(13,{ keep:=[(1,(.bx 0 0))],mem:=[.same,.gone] }),(15,{ keep:=[(1,(.bx 0 0))],mem:=[.same,.gone] })],loops:=[],cuts:=[(11,[(8,{ keep:=[(1,(.bx 0 0)),(55,.bool)],mem:=[.same,.gone] })])],ro:=[1],news:=[] }
def za9 (a0:vV0):Option Int :=
 cond (decide (a0.1<1)) (some 18) (cond (decide (a0.1>5)) (
 some 18) (
(za0 a0.2.1).bind fun r1 =>
 cond (!decide (r1=0)) (
 some r1) (
(cond (decide (a0.1=3)) (cond (!(eqV tT9 a0.2.2.1 (0,0,[],()))) (
 some (.inr 2)) (
 some (.inl ()))) (cond (decide (a0.1=5)) (cond (!(eqV tT9 a0.2.2.1 (0,0,[],()))) (
 some (.inr 2)) (
 some (.inl ()))) (some (.inl ()))):Option (Unit⊕Int)).bind (joinS fun v2 =>
(cond (!decide (a0.1=3)) (cond (!decide (a0.1=5)) ((zaw a0.2.2.1).bind fun r3 =>
 cond (!r3) (
 some (.inr 2)) (
 some (.inl ()))) (some (.inl ()))) (some (.inl ())):Option (Unit⊕Int)).bind (joinS fun v4 =>
((cond (!decide (a0.1=3)) (some ((!decide (a0.2.2.2.1=0)),())) (some (false,())):Option (Bool×Unit)).bind fun v5 =>
 cond v5.1 (some (.inr 2)) (cond (decide (a0.1=3)) (cond (decide (a0.2.2.2.1=0)) (some (.inr 2)) (cond (decide (a0.2.2.2.1>2147483647)) (some (.inr 2)) (cond (decide (a0.2.2.2.1<(-2147483647))) (
 some (.inr 2)) (
 some (.inl ()))))) (some (.inl ()))):Option (Unit⊕Int)).bind (joinS fun v6 =>
(cond (decide (a0.1=2)) (cond (decide ((a0.2.2.2.2.1.length:Int)>0)) (
 some (.inr 2)) (
 some (.inl ()))) (cond (decide (a0.1=3)) (cond (decide ((a0.2.2.2.2.1.length:Int)>0)) (
 some (.inr 2)) (
 some (.inl ()))) (some (.inl ()))):Option (Unit⊕Int)).bind (joinS fun v7 =>
 cond (decide ((a0.2.2.2.2.1.length:Int)>256)) (
 some 7) (
(zbc a0.2.2.2.2.1).bind fun r8 =>
 cond (!r8) (
 some 2) (
 some 0)))))))))
def za9_T:TFn:={ ps:=(.cons tT5 .unit),res:=(.int .i64),fn:=fun v=>za9 v.1 }
def za9_V:TEnv:=(vZ [(64,za0_T),(65,zaw_T),(66,zbc_T)])
theorem za9_eq:runY Tryd.prog za9_E za9_H za9_V za9_Y Tryd.f48 za9_T.ps za9_T.res=za9_T.fn:=by kernel_rfl
theorem za9_Fok:SoundP Tryd.prog G0 48 za9_F:=closeF_sound (runF_sound ⟨same_ok,(envP_cons za0_Fok (envP_cons zaw_Fok (envP_cons zbc_Fok envP_nil))),envS_nil,envP_nil,envX_nil⟩ Tryd.func48 rfl (by kernel_rfl))
theorem za9_ok:TOk za9_F za9_T:=runY_ok (E:=za9_E) (ET:=za9_V) (EnvT.ofX (pure_of (pairs_cons za0_ok (pairs_cons zaw_ok (pairs_cons zbc_ok pairs_nil)))) looks_nil raws_nil G0_ok news_nil) za9_eq rfl
def zbe_E:Env:=(eZ [] [])
def zbe_H:Hints:=(hZ [] [])
def zbe_F:PFn:=closeF (runF Tryd.prog zbe_E zbe_H Tryd.f49)
def zbe_Y:TH:={ loops:=[],cuts:=[(2,[(9,{ keep:=[(1,(.bx 0 0)),(3,(.bx 1 0)),(13,.bool)],mem:=[.same,.box 26 tT9] })])],ro:=[1],news:=[] }
def zbe (a0:vV0):Option Bool :=
(cond (decide (a0.1=0)) (some ((decide ((a0.2.1.length:Int)=0)),(0,0,[],()),())) (some (false,(0,0,[],()),())):Option (Bool×(Int×Int×List UInt8×Unit)×Unit)).bind fun v1 =>
 cond v1.1 (cond (eqV tT9 a0.2.2.1 v1.2.1) (cond (decide (a0.2.2.2.1=0)) (some (decide ((a0.2.2.2.2.1.length:Int)=0))) (some false)) (some false)) (some false)
def zbe_T:TFn:={ ps:=(.cons tT5 .unit),res:=.bool,fn:=fun v=>zbe v.1 }
def zbe_V:TEnv:=(vZ [])
theorem zbe_eq:runY Tryd.prog zbe_E zbe_H zbe_V zbe_Y Tryd.f49 zbe_T.ps zbe_T.res=zbe_T.fn:=by kernel_rfl
theorem zbe_Fok:SoundP Tryd.prog G0 49 zbe_F:=closeF_sound (runF_sound ⟨same_ok,envP_nil,envS_nil,envP_nil,envX_nil⟩ Tryd.func49 rfl (by kernel_rfl))
theorem zbe_ok:TOk zbe_F zbe_T:=runY_ok (E:=zbe_E) (ET:=zbe_V) (EnvT.ofX (pure_of pairs_nil) looks_nil raws_nil G0_ok news_nil) zbe_eq rfl
def za1_E:Env:=(eZ [(47,zay_F),(48,za9_F),(49,zbe_F)] [])
def za1_H:Hints:=(hZ [(8,[1,3])] [])
def za1_F:PFn:=closeF (runF Tryd.prog za1_E za1_H Tryd.f31)
def za1_Y:TH:={ loops:=[(8,{ keep:=[(1,(.bx 0 0)),(3,(.int .i64))],mem:=[.same] })],cuts:=[(1,[(9,{ keep:=[(1,(.bx 0 0)),(13,.bool)],mem:=[.same] })])],ro:=[1],news:=[] }
def za1_l8 (a0:vV3) (y8:(Int×Unit)):Option ((Int×Unit)⊕Int) :=
 cond (decide (y8.1<(a0.2.2.2.2.1.length:Int))) (
(atI a0.2.2.2.2.1 y8.1).bind fun x3 =>
(za9 x3).bind fun r4 =>
 cond (!decide (r4=0)) (cond a0.2.2.2.1 ((atI a0.2.2.2.2.1 y8.1).bind fun x5 =>
(zbe x5).bind fun r6 =>
 cond (!r6) (
 some (.inr r4)) (
 some (.inl ((IntKind.wrap .i64 (y8.1+1)),())))) (some (.inr r4))) (some (.inl ((IntKind.wrap .i64 (y8.1+1)),())))) (
 some (.inr 0))
def za1 (a0:vV3):Option Int :=
((zay a0.1).bind fun r1 =>
 cond (!r1) (some (true,())) (some ((decide (a0.2.1<0)),())):Option (Bool×Unit)).bind fun v2 =>
 cond v2.1 (some 2) (cond (decide (a0.2.1>7)) (some 2) (cond (decide (a0.2.2.1<1)) (some 2) (cond (decide (a0.2.2.1>1099511627776)) (
 some 2) (
 cond (decide ((a0.2.2.2.2.1.length:Int)=0)) (
 some 11) (
 cond (decide ((a0.2.2.2.2.1.length:Int)>16)) (
 some 7) (
 loopT (za1_l8 a0) (0,())))))))
def za1_T:TFn:={ ps:=(.cons tT8 .unit),res:=(.int .i64),fn:=fun v=>za1 v.1 }
def za1_V:TEnv:=(vZ [(47,zay_T),(48,za9_T),(49,zbe_T)])
theorem za1_eq:runY Tryd.prog za1_E za1_H za1_V za1_Y Tryd.f31 za1_T.ps za1_T.res=za1_T.fn:=by kernel_rfl
theorem za1_Fok:SoundP Tryd.prog G0 31 za1_F:=closeF_sound (runF_sound ⟨same_ok,(envP_cons zay_Fok (envP_cons za9_Fok (envP_cons zbe_Fok envP_nil))),envS_nil,envP_nil,envX_nil⟩ Tryd.func31 rfl (by kernel_rfl))
theorem za1_ok:TOk za1_F za1_T:=runY_ok (E:=za1_E) (ET:=za1_V) (EnvT.ofX (pure_of (pairs_cons zay_ok (pairs_cons za9_ok (pairs_cons zbe_ok pairs_nil)))) looks_nil raws_nil G0_ok news_nil) za1_eq rfl
def zbd_E:Env:=(eZ [(29,za5_F),(30,zba_F),(31,za1_F)] [])
def zbd_H:Hints:=(hZ [(4,[0,5])] [])
def zbd_F:PFn:=closeF (runF Tryd.prog zbd_E zbd_H Tryd.f14)
def zbd_Y:TH:={ loops:=[(4,{ keep:=[(5,(.int .i64))],mem:=[] })],ro:=[] }
def zbd_l4 (a0:List vV3) (y4:(Int×Unit)):Option ((Int×Unit)⊕Bool) :=
 cond (decide (y4.1<(a0.length:Int))) (
(atI a0 y4.1).bind fun x2 =>
(zba x2).bind fun r3 =>
 cond (!r3) (some (.inr false)) ((atI a0 y4.1).bind fun x4 =>
(za1 x4).bind fun r5 =>
 cond (!decide (r5=0)) (
 some (.inr false)) (
 some (.inl ((IntKind.wrap .i64 (y4.1+1)),()))))) (
 some (.inr true))
def zbd (a0:List vV3) (a1:Int):Option Bool :=
 cond (decide ((a0.length:Int)>a1)) (some false) ((za5 a0).bind fun r1 =>
 cond (!r1) (
 some false) (
 loopT (zbd_l4 a0) (0,())))
def zbd_T:TFn:={ ps:=(.cons (.sl tT8) (.cons (.int .i64) .unit)),res:=.bool,fn:=fun v=>zbd v.1 v.2.1 }
def zbd_V:TEnv:=(vZ [(29,za5_T),(30,zba_T),(31,za1_T)])
theorem zbd_eq:runY Tryd.prog zbd_E zbd_H zbd_V zbd_Y Tryd.f14 zbd_T.ps zbd_T.res=zbd_T.fn:=by kernel_rfl
theorem zbd_Fok:SoundP Tryd.prog G0 14 zbd_F:=closeF_sound (runF_sound ⟨same_ok,(envP_cons za5_Fok (envP_cons zba_Fok (envP_cons za1_Fok envP_nil))),envS_nil,envP_nil,envX_nil⟩ Tryd.func14 rfl (by kernel_rfl))
theorem zbd_ok:TOk zbd_F zbd_T:=runY_ok (E:=zbd_E) (ET:=zbd_V) (EnvT.ofX (pure_of (pairs_cons za5_ok (pairs_cons zba_ok (pairs_cons za1_ok pairs_nil)))) looks_nil raws_nil G0_ok news_nil) zbd_eq rfl
def zbv_E:Env:=(eZ [(47,zay_F)] [])
def zbv_H:Hints:=(hZ [] [])
def zbv_F:PFn:=closeF (runF Tryd.prog zbv_E zbv_H Tryd.f50)
def zbv_Y:TH:={ loops:=[],ro:=[1] }
def zbv (a0:vV1):Option Bool :=
(zay a0.1).bind fun r1 =>
 cond r1 (cond (decide (a0.2.1≥1)) (some (decide (a0.2.1≤64))) (some false)) (some false)
def zbv_T:TFn:={ ps:=(.cons tT6 .unit),res:=.bool,fn:=fun v=>zbv v.1 }
def zbv_V:TEnv:=(vZ [(47,zay_T)])
theorem zbv_eq:runY Tryd.prog zbv_E zbv_H zbv_V zbv_Y Tryd.f50 zbv_T.ps zbv_T.res=zbv_T.fn:=by kernel_rfl
theorem zbv_Fok:SoundP Tryd.prog G0 50 zbv_F:=closeF_sound (runF_sound ⟨same_ok,(envP_cons zay_Fok envP_nil),envS_nil,envP_nil,envX_nil⟩ Tryd.func50 rfl (by kernel_rfl))
theorem zbv_ok:TOk zbv_F zbv_T:=runY_ok (E:=zbv_E) (ET:=zbv_V) (EnvT.ofX (pure_of (pairs_cons zay_ok pairs_nil)) looks_nil raws_nil G0_ok news_nil) zbv_eq rfl
def za6_E:Env:=(eZ [(46,zao_F),(50,zbv_F)] [])
def za6_H:Hints:=(hZ [(2,[0,3])] [])
def za6_F:PFn:=closeF (runF Tryd.prog za6_E za6_H Tryd.f32)
def za6_Y:TH:={ loops:=[(2,{ keep:=[(3,(.int .i64))],mem:=[] })],ro:=[] }
def za6_l2 (a0:List vV1) (y2:(Int×Unit)):Option ((Int×Unit)⊕Bool) :=
 cond (decide (y2.1<(a0.length:Int))) (
(atI a0 y2.1).bind fun x1 =>
(zbv x1).bind fun r2 =>
 cond (!r2) (some (.inr false)) (cond (decide (y2.1>0)) ((atI a0 (IntKind.wrap .i64 (y2.1-1))).bind fun x3 =>
(atI a0 y2.1).bind fun x4 =>
(zao x3.1 x4.1).bind fun r5 =>
 cond (!decide (r5=(-1))) (
 some (.inr false)) (
 some (.inl ((IntKind.wrap .i64 (y2.1+1)),())))) (some (.inl ((IntKind.wrap .i64 (y2.1+1)),()))))) (
 some (.inr true))
def za6 (a0:List vV1):Option Bool :=
 loopT (za6_l2 a0) (0,())
def za6_T:TFn:={ ps:=(.cons (.sl tT6) .unit),res:=.bool,fn:=fun v=>za6 v.1 }
def za6_V:TEnv:=(vZ [(46,zao_T),(50,zbv_T)])
theorem za6_eq:runY Tryd.prog za6_E za6_H za6_V za6_Y Tryd.f32 za6_T.ps za6_T.res=za6_T.fn:=by kernel_rfl
theorem za6_Fok:SoundP Tryd.prog G0 32 za6_F:=closeF_sound (runF_sound ⟨same_ok,(envP_cons zao_Fok (envP_cons zbv_Fok envP_nil)),envS_nil,envP_nil,envX_nil⟩ Tryd.func32 rfl (by kernel_rfl))
theorem za6_ok:TOk za6_F za6_T:=runY_ok (E:=za6_E) (ET:=za6_V) (EnvT.ofX (pure_of (pairs_cons zao_ok (pairs_cons zbv_ok pairs_nil))) looks_nil raws_nil G0_ok news_nil) za6_eq rfl
def zbp_E:Env:=(eZ [(32,za6_F)] [])
def zbp_H:Hints:=(hZ [] [])
def zbp_F:PFn:=closeF (runF Tryd.prog zbp_E zbp_H Tryd.f15)
def zbp_Y:TH:=yZ
def zbp (a0:List vV1):Option Bool :=
 cond (decide ((a0.length:Int)≤100)) ((za6 a0).bind fun r1 =>
 some r1) (some false)
def zbp_T:TFn:={ ps:=(.cons (.sl tT6) .unit),res:=.bool,fn:=fun v=>zbp v.1 }
def zbp_V:TEnv:=(vZ [(32,za6_T)])
theorem zbp_eq:runY Tryd.prog zbp_E zbp_H zbp_V zbp_Y Tryd.f15 zbp_T.ps zbp_T.res=zbp_T.fn:=by kernel_rfl
theorem zbp_Fok:SoundP Tryd.prog G0 15 zbp_F:=closeF_sound (runF_sound ⟨same_ok,(envP_cons za6_Fok envP_nil),envS_nil,envP_nil,envX_nil⟩ Tryd.func15 rfl (by kernel_rfl))
theorem zbp_ok:TOk zbp_F zbp_T:=runY_ok (E:=zbp_E) (ET:=zbp_V) (EnvT.ofX (pure_of (pairs_cons za6_ok pairs_nil)) looks_nil raws_nil G0_ok news_nil) zbp_eq rfl
def zbl_E:Env:=(eZ [(14,zbd_F),(15,zbp_F)] [])
def zbl_H:Hints:=(hZ [] [])
def zbl_F:PFn:=closeF (runF Tryd.prog zbl_E zbl_H Tryd.f4)
def zbl_Y:TH:=yZ
def zbl (a0:List vV3) (a1:List vV1):Option Bool :=
(zbd a0 20).bind fun r1 =>
 cond r1 ((zbp a1).bind fun r2 =>
 some r2) (some false)
def zbl_T:TFn:={ ps:=(.cons (.sl tT8) (.cons (.sl tT6) .unit)),res:=.bool,fn:=fun v=>zbl v.1 v.2.1 }
def zbl_V:TEnv:=(vZ [(14,zbd_T),(15,zbp_T)])
theorem zbl_eq:runY Tryd.prog zbl_E zbl_H zbl_V zbl_Y Tryd.f4 zbl_T.ps zbl_T.res=zbl_T.fn:=by kernel_rfl
theorem zbl_Fok:SoundP Tryd.prog G0 4 zbl_F:=closeF_sound (runF_sound ⟨same_ok,(envP_cons zbd_Fok (envP_cons zbp_Fok envP_nil)),envS_nil,envP_nil,envX_nil⟩ Tryd.func4 rfl (by kernel_rfl))
theorem zbl_ok:TOk zbl_F zbl_T:=runY_ok (E:=zbl_E) (ET:=zbl_V) (EnvT.ofX (pure_of (pairs_cons zbd_ok (pairs_cons zbp_ok pairs_nil))) looks_nil raws_nil G0_ok news_nil) zbl_eq rfl
def zar_E:Env:=(eZ [] [])
def zar_H:Hints:=(hZ [] [])
def zar_F:PFn:=closeF (runF Tryd.prog zar_E zar_H Tryd.f82)
def zar_Y:TH:=yZ
def zar (a0:Int):Option Bool :=
 some (!decide (a0=a0))
def zar_T:TFn:={ ps:=(.cons (.int .i64) .unit),res:=.bool,fn:=fun v=>zar v.1 }
def zar_V:TEnv:=(vZ [])
theorem zar_eq:runY Tryd.prog zar_E zar_H zar_V zar_Y Tryd.f82 zar_T.ps zar_T.res=zar_T.fn:=by kernel_rfl
theorem zar_Fok:SoundP Tryd.prog G0 82 zar_F:=closeF_sound (runF_sound ⟨same_ok,envP_nil,envS_nil,envP_nil,envX_nil⟩ Tryd.func82 rfl (by kernel_rfl))
theorem zar_ok:TOk zar_F zar_T:=runY_ok (E:=zar_E) (ET:=zar_V) (EnvT.ofX (pure_of pairs_nil) looks_nil raws_nil G0_ok news_nil) zar_eq rfl
def zam_E:Env:=(eZ [(82,zar_F)] [])
def zam_H:Hints:=(hZ [] [])
def zam_F:PFn:=closeF (runF Tryd.prog zam_E zam_H Tryd.f62)
def zam_Y:TH:=yZ
def zam (a0:Int) (a1:Int):Option Int :=
(zar a0).bind fun r1 =>
(zar a1).bind fun r2 =>
 cond r1 (
 cond r2 (
 some 0) (
 some (-1))) (
 cond r2 (
 some 1) (
 cond (decide (a0<a1)) (
 some (-1)) (
 cond (decide (a0>a1)) (
 some 1) (
 some 0))))
def zam_T:TFn:={ ps:=tT10,res:=(.int .i64),fn:=fun v=>zam v.1 v.2.1 }
def zam_V:TEnv:=(vZ [(82,zar_T)])
theorem zam_eq:runY Tryd.prog zam_E zam_H zam_V zam_Y Tryd.f62 zam_T.ps zam_T.res=zam_T.fn:=by kernel_rfl
theorem zam_Fok:SoundP Tryd.prog G0 62 zam_F:=closeF_sound (runF_sound ⟨same_ok,(envP_cons zar_Fok envP_nil),envS_nil,envP_nil,envX_nil⟩ Tryd.func62 rfl (by kernel_rfl))
theorem zam_ok:TOk zam_F zam_T:=runY_ok (E:=zam_E) (ET:=zam_V) (EnvT.ofX (pure_of (pairs_cons zar_ok pairs_nil)) looks_nil raws_nil G0_ok news_nil) zam_eq rfl
def zbr_E:Env:=(eZ [] [])
def zbr_H:Hints:=(hZ [(3,[3,6,7,8])] [])
def zbr_F:PFn:=closeF (runF Tryd.prog zbr_E zbr_H Tryd.f60)
def zbr_Y:TH:={ loops:=[(3,{ keep:=[(8,(.int .i64))],mem:=[] })],ro:=[] }
def zbr_l3 (a0:List Int) (y3:(Int×Unit)):Option ((Int×Unit)⊕Int) :=
 cond (decide (y3.1<(a0.length:Int))) (
(atI a0 y3.1).bind fun x1 =>
 cond (!decide (x1=0)) (
 some (.inr x1)) (
 some (.inl ((IntKind.wrap .i64 (y3.1+1)),())))) (
 some (.inr 0))
def zbr (a0:List Int):Option Int :=
 loopT (zbr_l3 a0) (0,())
def zbr_T:TFn:={ ps:=(.cons (.sl (.int .i64)) .unit),res:=(.int .i64),fn:=fun v=>zbr v.1 }
def zbr_V:TEnv:=(vZ [])
theorem zbr_eq:runY Tryd.prog zbr_E zbr_H zbr_V zbr_Y Tryd.f60 zbr_T.ps zbr_T.res=zbr_T.fn:=by kernel_rfl
theorem zbr_Fok:SoundP Tryd.prog G0 60 zbr_F:=closeF_sound (runF_sound ⟨same_ok,envP_nil,envS_nil,envP_nil,envX_nil⟩ Tryd.func60 rfl (by kernel_rfl))
theorem zbr_ok:TOk zbr_F zbr_T:=runY_ok (E:=zbr_E) (ET:=zbr_V) (EnvT.ofX (pure_of pairs_nil) looks_nil raws_nil G0_ok news_nil) zbr_eq rfl
def za4_E:Env:=(eZ [(60,zbr_F),(62,zam_F)] [])
def za4_H:Hints:=(hZ [] [])
def za4_F:PFn:=closeF (runF Tryd.prog za4_E za4_H Tryd.f61)
def za4_Y:TH:={ loops:=[],ro:=[2,3] }
def za4 (a0:(Int×Int×Unit)) (a1:(Int×Int×Unit)):Option Int :=
(zam a0.1 a1.1).bind fun r1 =>
(zam a0.2.1 a1.2.1).bind fun r2 =>
(zbr ([r1,r2]:List Int)).bind fun r3 =>
 some r3
def za4_T:TFn:={ ps:=(.cons (.agg tT10) (.cons (.agg tT10) .unit)),res:=(.int .i64),fn:=fun v=>za4 v.1 v.2.1 }
def za4_V:TEnv:={ pure:=[(60,zbr_T),(62,zam_T)],look:=[],glob:=G0T,ty:=[(3,(.int .i64))],raw:=[],fresh:=[] }
theorem za4_eq:runY Tryd.prog za4_E za4_H za4_V za4_Y Tryd.f61 za4_T.ps za4_T.res=za4_T.fn:=by kernel_rfl
theorem za4_Fok:SoundP Tryd.prog G0 61 za4_F:=closeF_sound (runF_sound ⟨same_ok,(envP_cons zbr_Fok (envP_cons zam_Fok envP_nil)),envS_nil,envP_nil,envX_nil⟩ Tryd.func61 rfl (by kernel_rfl))
theorem za4_ok:TOk za4_F za4_T:=runY_ok (E:=za4_E) (ET:=za4_V) (EnvT.ofX (pure_of (pairs_cons zbr_ok (pairs_cons zam_ok pairs_nil))) looks_nil raws_nil G0_ok news_nil) za4_eq rfl
def zap_E:Env:=(eZ [(61,za4_F)] [])
def zap_H:Hints:=(hZ [] [])
def zap_F:PFn:=closeF (runF Tryd.prog zap_E zap_H Tryd.f68)
def zap_Y:TH:={ loops:=[],ro:=[2,3] }
def zap (a0:vV1) (a1:vV1):Option Int :=
(za4 a0.1 a1.1).bind fun r1 =>
 some r1
def zap_T:TFn:={ ps:=(.cons tT6 (.cons tT6 .unit)),res:=(.int .i64),fn:=fun v=>zap v.1 v.2.1 }
def zap_V:TEnv:=(vZ [(61,za4_T)])
theorem zap_eq:runY Tryd.prog zap_E zap_H zap_V zap_Y Tryd.f68 zap_T.ps zap_T.res=zap_T.fn:=by kernel_rfl
theorem zap_Fok:SoundP Tryd.prog G0 68 zap_F:=closeF_sound (runF_sound ⟨same_ok,(envP_cons za4_Fok envP_nil),envS_nil,envP_nil,envX_nil⟩ Tryd.func68 rfl (by kernel_rfl))
theorem zap_ok:TOk zap_F zap_T:=runY_ok (E:=zap_E) (ET:=zap_V) (EnvT.ofX (pure_of (pairs_cons za4_ok pairs_nil)) looks_nil raws_nil G0_ok news_nil) zap_eq rfl
def zab_E:Env:=(eZ [(68,zap_F)] [])
def zab_H:Hints:=(hZ [(3,[0,2,4,8,9,10])] [])
def zab_F:PFn:=closeF (runF Tryd.prog zab_E zab_H Tryd.f67)
def zab_Y:TH:={ joins:=[(8,{ keep:=[(4,(.bx 0 0)),(9,(.int .i64))],mem:=[.same] })],loops:=[(3,{ keep:=[(4,(.bx 0 0)),(9,(.int .i64)),(10,(.int .i64))],mem:=[.same] })],ro:=[4] }
def zab_l3 (a0:List vV1) (a1:vV1) (y3:(Int×Int×Unit)):Option ((Int×Int×Unit)⊕((Int×Unit)⊕(Int×Bool×Unit))) :=
 cond (decide (y3.1<y3.2.1)) (
(shrT .u64 (IntKind.wrap .u64 (IntKind.wrap .i64 (y3.1+y3.2.1))) 1).bind fun t1 =>
(atI a0 (IntKind.wrap .i64 t1)).bind fun x2 =>
(zap x2 a1).bind fun r3 =>
 cond (decide (r3<0)) (
 some (.inl ((IntKind.wrap .i64 ((IntKind.wrap .i64 t1)+1)),y3.2.1,()))) (
 some (.inl (y3.1,(IntKind.wrap .i64 t1),())))) (
 some (.inr (.inl (y3.1,()))))
def zab (a0:List vV1) (a1:vV1) (a2:Unit):Option (Int×Bool×Unit) :=
(loopT (zab_l3 a0 a1) (0,(a0.length:Int),()):Option ((Int×Unit)⊕(Int×Bool×Unit))).bind (joinS fun v4 =>
 cond (decide (v4.1<(a0.length:Int))) ((atI a0 v4.1).bind fun x5 =>
(zap x5 a1).bind fun r6 =>
 some (v4.1,(decide (r6=0)),())) (some (v4.1,false,())))
def zab_T:TFn:={ ps:=(.cons (.sl tT6) (.cons tT6 (.cons (.fn 68) .unit))),res:=(.tup (.cons (.int .i64) (.cons .bool .unit))),fn:=fun v=>zab v.1 v.2.1 v.2.2.1 }
def zab_V:TEnv:=(vZ [(68,zap_T)])
theorem zab_eq:runY Tryd.prog zab_E zab_H zab_V zab_Y Tryd.f67 zab_T.ps zab_T.res=zab_T.fn:=by kernel_rfl
theorem zab_Fok:SoundP Tryd.prog G0 67 zab_F:=closeF_sound (runF_sound ⟨same_ok,(envP_cons zap_Fok envP_nil),envS_nil,envP_nil,envX_nil⟩ Tryd.func67 rfl (by kernel_rfl))
theorem zab_ok:TOk zab_F zab_T:=runY_ok (E:=zab_E) (ET:=zab_V) (EnvT.ofX (pure_of (pairs_cons zap_ok pairs_nil)) looks_nil raws_nil G0_ok news_nil) zab_eq rfl
def zb3_E:Env:=(eZ [(67,zab_F)] [])
def zb3_H:Hints:=(hZ [] [])
def zb3_F:PFn:=closeF (runF Tryd.prog zb3_E zb3_H Tryd.f51)
def zb3_Y:TH:={ loops:=[],ro:=[3] }
def zb3 (a0:List vV1) (a1:(Int×Int×Unit)):Option (Int×Bool×Unit) :=
(zab a0 (a1,0,()) ()).bind fun r1 =>
 some (r1.1,r1.2.1,())
def zb3_T:TFn:={ ps:=(.cons (.sl tT6) (.cons (.agg tT10) .unit)),res:=(.tup (.cons (.int .i64) (.cons .bool .unit))),fn:=fun v=>zb3 v.1 v.2.1 }
def zb3_V:TEnv:=(vZ [(67,zab_T)])
theorem zb3_eq:runY Tryd.prog zb3_E zb3_H zb3_V zb3_Y Tryd.f51 zb3_T.ps zb3_T.res=zb3_T.fn:=by kernel_rfl
theorem zb3_Fok:SoundP Tryd.prog G0 51 zb3_F:=closeF_sound (runF_sound ⟨same_ok,(envP_cons zab_Fok envP_nil),envS_nil,envP_nil,envX_nil⟩ Tryd.func51 rfl (by kernel_rfl))
theorem zb3_ok:TOk zb3_F zb3_T:=runY_ok (E:=zb3_E) (ET:=zb3_V) (EnvT.ofX (pure_of (pairs_cons zab_ok pairs_nil)) looks_nil raws_nil G0_ok news_nil) zb3_eq rfl
def zby_E:Env:=(eZ [(51,zb3_F)] [])
def zby_H:Hints:=(hZ [] [])
def zby_F:PFn:=closeF (runF Tryd.prog zby_E zby_H Tryd.f33)
def zby_Y:TH:={ loops:=[],ro:=[3] }
def zby (a0:List vV1) (a1:(Int×Int×Unit)):Option Int :=
(zb3 a0 a1).bind fun r1 =>
 cond r1.2.1 (
(atI a0 r1.1).bind fun x2 =>
 some x2.2.1) (
 some 0)
def zby_T:TFn:={ ps:=(.cons (.sl tT6) (.cons (.agg tT10) .unit)),res:=(.int .i64),fn:=fun v=>zby v.1 v.2.1 }
def zby_V:TEnv:=(vZ [(51,zb3_T)])
theorem zby_eq:runY Tryd.prog zby_E zby_H zby_V zby_Y Tryd.f33 zby_T.ps zby_T.res=zby_T.fn:=by kernel_rfl
theorem zby_Fok:SoundP Tryd.prog G0 33 zby_F:=closeF_sound (runF_sound ⟨same_ok,(envP_cons zb3_Fok envP_nil),envS_nil,envP_nil,envX_nil⟩ Tryd.func33 rfl (by kernel_rfl))
theorem zby_ok:TOk zby_F zby_T:=runY_ok (E:=zby_E) (ET:=zby_V) (EnvT.ofX (pure_of (pairs_cons zb3_ok pairs_nil)) looks_nil raws_nil G0_ok news_nil) zby_eq rfl
def zbj_E:Env:=(eZ [(33,zby_F)] [])
def zbj_H:Hints:=(hZ [] [])
def zbj_F:PFn:=closeF (runF Tryd.prog zbj_E zbj_H Tryd.f18)
def zbj_Y:TH:={ loops:=[],ro:=[3] }
def zbj (a0:List vV1) (a1:(Int×Int×Unit)):Option Bool :=
(zby a0 a1).bind fun r1 =>
(remT r1 2).bind fun t2 =>
 some (decide (t2=0))
def zbj_T:TFn:={ ps:=(.cons (.sl tT6) (.cons (.agg tT10) .unit)),res:=.bool,fn:=fun v=>zbj v.1 v.2.1 }
def zbj_V:TEnv:=(vZ [(33,zby_T)])
theorem zbj_eq:runY Tryd.prog zbj_E zbj_H zbj_V zbj_Y Tryd.f18 zbj_T.ps zbj_T.res=zbj_T.fn:=by kernel_rfl
theorem zbj_Fok:SoundP Tryd.prog G0 18 zbj_F:=closeF_sound (runF_sound ⟨same_ok,(envP_cons zby_Fok envP_nil),envS_nil,envP_nil,envX_nil⟩ Tryd.func18 rfl (by kernel_rfl))
theorem zbj_ok:TOk zbj_F zbj_T:=runY_ok (E:=zbj_E) (ET:=zbj_V) (EnvT.ofX (pure_of (pairs_cons zby_ok pairs_nil)) looks_nil raws_nil G0_ok news_nil) zbj_eq rfl
def zas_E:Env:=(eZ [(18,zbj_F)] [])
def zas_H:Hints:=(hZ [(3,[1,5,13,14,15]),(7,[1,5,13,14,15,25,26,27]),(10,[1,5,13,14,15,25,26,27,32,33,34])] [])
def zas_S:SFn:=runF Tryd.prog zas_E zas_H Tryd.f17
def zas_Y:TH:={ loops:=[(3,{ keep:=[(5,(.mp 0)),(15,(.int .i64))],mem:=[.map tT6 .bool] }),(7,{ keep:=[(5,(.mp 0)),(27,(.int .i64))],mem:=[.map tT6 .bool,.gone] }),(10,{ keep:=[(5,(.mp 0)),(34,(.int .i64))],mem:=[.map tT6 .bool,.gone,.gone] })],ro:=[] }
def zas_l10 (y7:vV4) (x3:vV0) (y10:vV4):Option (vV4⊕(vV4⊕(vV4⊕(List (vV1×Bool))))) :=
 cond (decide (y10.1<(x3.2.2.2.2.1.length:Int))) (
(atI x3.2.2.2.2.1 y10.1).bind fun x4 =>
 some (.inl ((IntKind.wrap .i64 (y10.1+1)),(putK tT6 x4 true y10.2.1),()))) (
 some (.inr (.inl ((IntKind.wrap .i64 (y7.1+1)),y10.2.1,()))))
def zas_l7 (y3:vV4) (x1:vV3) (y7:vV4):Option (vV4⊕(vV4⊕(List (vV1×Bool)))) :=
 cond (decide (y7.1<(x1.2.2.2.2.1.length:Int))) (
(atI x1.2.2.2.2.1 y7.1).bind fun x3 =>
 loopT (zas_l10 y7 x3) (0,y7.2.1,())) (
 some (.inr (.inl ((IntKind.wrap .i64 (y3.1+1)),y7.2.1,()))))
def zas_l3 (a0:List vV3) (a1:List vV1) (y3:vV4):Option (vV4⊕(List (vV1×Bool))) :=
 cond (decide (y3.1<(a0.length:Int))) (
(atI a0 y3.1).bind fun x1 =>
(zbj a1 x1.1).bind fun r2 =>
 cond (!r2) (
 some (.inl ((IntKind.wrap .i64 (y3.1+1)),y3.2.1,()))) (
 loopT (zas_l7 y3 x1) (0,y3.2.1,()))) (
 some (.inr y3.2.1))
def zas (a0:List vV3) (a1:List vV1):Option (List (vV1×Bool)) :=
 loopT (zas_l3 a0 a1) (0,[],())
def zas_N:TNew:={ ps:=(.cons (.sl tT8) (.cons (.sl tT6) .unit)),e:=56,t:=(.sl (.cons tT6 .bool)),fn:=fun v=>zas v.1 v.2.1,mp:=true }
def zas_V:TEnv:={ pure:=[(18,zbj_T)],look:=[],glob:=G0T,ty:=[(4,.bool),(43,tT6)],raw:=[],fresh:=[] }
theorem zas_eq:newMY Tryd.prog zas_E zas_H zas_V zas_Y Tryd.f17 zas_N.ps tT6 .bool=zas_N.fn:=by kernel_rfl
theorem zas_Sok:SoundS Tryd.prog G0 17 zas_S:=runF_sound ⟨same_ok,(envP_cons zbj_Fok envP_nil),envS_nil,envP_nil,envX_nil⟩ Tryd.func17 rfl (by kernel_rfl)
theorem zas_ok:TNewOk zas_S zas_N:=newMY_ok (E:=zas_E) (ET:=zas_V) (EnvT.ofX (pure_of (pairs_cons zbj_ok pairs_nil)) looks_nil raws_nil G0_ok news_nil) zas_eq
def zb4_E:Env:={ pure:=[(18,zbj_F)],raw:=[(17,zas_S)],glob:=G0,same:=[],look:=[],ext:=[] }
def zb4_H:Hints:=(hZ [(4,[1,5,6,15,16,17]),(8,[1,5,6,8,15,16,17,27,28,29])] [])
def zb4_F:PFn:=closeF (runF Tryd.prog zb4_E zb4_H Tryd.f7)
def zb4_Y:TH:={ loops:=[(4,{ keep:=[(5,(.mp 0)),(6,(.own 4)),(17,(.int .i64))],mem:=[.map tT6 .bool,.gone,.gone,.gone,.row true 45 tT7] }),(8,{ keep:=[(5,(.mp 0)),(6,(.own 4)),(8,(.bx 5 0)),(29,(.int .i64))],mem:=[.map tT6 .bool,.gone,.gone,.gone,.row true 45 tT7,.box 55 tT8] })],ro:=[] }
def zb4_l8 (y4:(Int×List (vV1×Bool)×List vV2×Unit)) (x2:vV3) (y8:(Int×List (vV1×Bool)×List vV2×vV3×Unit)):Option ((Int×List (vV1×Bool)×List vV2×vV3×Unit)⊕((Int×List (vV1×Bool)×List vV2×Unit)⊕List vV2)) :=
 cond (decide (y8.1<(x2.2.2.2.2.1.length:Int))) (
(atI x2.2.2.2.2.1 y8.1).bind fun x4 =>
 cond (decide (x4.1=1)) (cond (!((getK tT6 false (y8.2.2.2.1.1,y8.1,()) y8.2.1).1)) (
(roomT (y8.2.2.1.length+([((y8.2.2.2.1.1,y8.1,()),x4,y8.2.2.2.1.2.2.1,())]:List vV2).length)).bind fun u5 =>
 some (.inl ((IntKind.wrap .i64 (y8.1+1)),y8.2.1,(y8.2.2.1++([((y8.2.2.2.1.1,y8.1,()),x4,y8.2.2.2.1.2.2.1,())]:List vV2)),y8.2.2.2.1,()))) (
 some (.inl ((IntKind.wrap .i64 (y8.1+1)),y8.2.1,y8.2.2.1,y8.2.2.2.1,())))) (cond (decide (x4.1=2)) (cond (!((getK tT6 false (y8.2.2.2.1.1,y8.1,()) y8.2.1).1)) (
(roomT (y8.2.2.1.length+([((y8.2.2.2.1.1,y8.1,()),x4,y8.2.2.2.1.2.2.1,())]:List vV2).length)).bind fun u6 =>
 some (.inl ((IntKind.wrap .i64 (y8.1+1)),y8.2.1,(y8.2.2.1++([((y8.2.2.2.1.1,y8.1,()),x4,y8.2.2.2.1.2.2.1,())]:List vV2)),y8.2.2.2.1,()))) (
 some (.inl ((IntKind.wrap .i64 (y8.1+1)),y8.2.1,y8.2.2.1,y8.2.2.2.1,())))) (cond (decide (x4.1=3)) (cond (!((getK tT6 false (y8.2.2.2.1.1,y8.1,()) y8.2.1).1)) (
(roomT (y8.2.2.1.length+([((y8.2.2.2.1.1,y8.1,()),x4,y8.2.2.2.1.2.2.1,())]:List vV2).length)).bind fun u7 =>
 some (.inl ((IntKind.wrap .i64 (y8.1+1)),y8.2.1,(y8.2.2.1++([((y8.2.2.2.1.1,y8.1,()),x4,y8.2.2.2.1.2.2.1,())]:List vV2)),y8.2.2.2.1,()))) (
 some (.inl ((IntKind.wrap .i64 (y8.1+1)),y8.2.1,y8.2.2.1,y8.2.2.2.1,())))) (some (.inl ((IntKind.wrap .i64 (y8.1+1)),y8.2.1,y8.2.2.1,y8.2.2.2.1,())))))) (
 some (.inr (.inl ((IntKind.wrap .i64 (y4.1+1)),y8.2.1,y8.2.2.1,()))))
def zb4_l4 (a0:List vV3) (a1:List vV1) (y4:(Int×List (vV1×Bool)×List vV2×Unit)):Option ((Int×List (vV1×Bool)×List vV2×Unit)⊕List vV2) :=
 cond (decide (y4.1<(a0.length:Int))) (
(atI a0 y4.1).bind fun x2 =>
(zbj a1 x2.1).bind fun r3 =>
 cond (!r3) (
 some (.inl ((IntKind.wrap .i64 (y4.1+1)),y4.2.1,y4.2.2.1,()))) (
 loopT (zb4_l8 y4 x2) (0,y4.2.1,y4.2.2.1,x2,()))) (
 some (.inr y4.2.2.1))
def zb4 (a0:List vV3) (a1:List vV1):Option (List vV2) :=
(zas a0 a1).bind fun n1 =>
 loopT (zb4_l4 a0 a1) (0,n1,[],())
def zb4_T:TFn:={ ps:=(.cons (.sl tT8) (.cons (.sl tT6) .unit)),res:=(.sl tT7),fn:=fun v=>zb4 v.1 v.2.1 }
def zb4_V:TEnv:={ pure:=[(18,zbj_T)],look:=[],glob:=G0T,ty:=[(45,tT7)],raw:=[],fresh:=[(17,zas_N)] }
theorem zb4_eq:runY Tryd.prog zb4_E zb4_H zb4_V zb4_Y Tryd.f7 zb4_T.ps zb4_T.res=zb4_T.fn:=by kernel_rfl
theorem zb4_Fok:SoundP Tryd.prog G0 7 zb4_F:=closeF_sound (runF_sound ⟨same_ok,(envP_cons zbj_Fok envP_nil),(envS_cons zas_Sok envS_nil),envP_nil,envX_nil⟩ Tryd.func7 rfl (by kernel_rfl))
theorem zb4_ok:TOk zb4_F zb4_T:=runY_ok (E:=zb4_E) (ET:=zb4_V) (EnvT.ofX (pure_of (pairs_cons zbj_ok pairs_nil)) looks_nil (raws_more raws_nil rfl) G0_ok (news_cons zas_ok rfl rfl rfl news_nil)) zb4_eq rfl
def zak_F:PFn:=decodeF
theorem zak_Fok:SoundP Tryd.prog G0 86 zak_F:=decode_sound (g3:=0) (g4:=1) ⟨Tryd.f86,Tryd.func86,rfl,by kernel_rfl⟩ (by kernel_rfl) (by kernel_rfl) (fun s w hT=>Tryd.utf8_DecodeRuneInString s w hT)
def zak (a0:List UInt8):Option (Int×Int×Unit):=decodeT a0
def zak_T:TFn:=decodeT_T
theorem zak_ok:TOk zak_F zak_T:=decodeT_ok
def zbi_E:Env:=(eZ [(86,zak_F)] [])
def zbi_H:Hints:=(hZ [(3,[0,4,10])] [])
def zbi_F:PFn:=closeF (runF Tryd.prog zbi_E zbi_H Tryd.f70)
def zbi_Y:TH:={ joins:=[(9,{ keep:=[(4,(.own 1)),(10,(.it 0))],mem:=[.iter,.row true 21 (.int .i32)] })],loops:=[(3,{ keep:=[(4,(.own 1)),(10,(.it 0))],mem:=[.iter,.row true 21 (.int .i32)] })],ro:=[] }
def zbi_l3 (a0:List UInt8) (y3:(Nat×List Int×Unit)):Option ((Nat×List Int×Unit)⊕(List Int×Bool×Unit)) :=
 cond (decide (y3.1<a0.length)) ((cond (decide (((Utf8.decode ⟨a0.toArray⟩ y3.1).1:Int)=65533)) (
(subI a0 (y3.1:Int) (a0.length:Int)).bind fun s1 =>
(zak s1).bind fun r2 =>
 cond (decide (r2.2.1≤1)) (
 some (.inr (.inr ([],false,())))) (
 some (.inl ((y3.1+(Utf8.decode ⟨a0.toArray⟩ y3.1).2),y3.2.1,())))) (
 some (.inl ((y3.1+(Utf8.decode ⟨a0.toArray⟩ y3.1).2),y3.2.1,()))):Option ((Nat×List Int×Unit)⊕((Nat×List Int×Unit)⊕(List Int×Bool×Unit)))).bind (joinS fun v3 =>
(roomT (v3.2.1.length+([((Utf8.decode ⟨a0.toArray⟩ y3.1).1:Int)]:List Int).length)).bind fun u4 =>
 some (.inl (v3.1,(v3.2.1++([((Utf8.decode ⟨a0.toArray⟩ y3.1).1:Int)]:List Int)),())))) (some (.inr (y3.2.1,true,())))
def zbi (a0:List UInt8):Option (List Int×Bool×Unit) :=
 loopT (zbi_l3 a0) (0,[],())
def zbi_T:TFn:={ ps:=(.cons .str .unit),res:=(.tup (.cons (.sl (.int .i32)) (.cons .bool .unit))),fn:=fun v=>zbi v.1 }
def zbi_V:TEnv:={ pure:=[(86,zak_T)],look:=[],glob:=G0T,ty:=[(21,(.int .i32))],raw:=[],fresh:=[] }
theorem zbi_eq:runY Tryd.prog zbi_E zbi_H zbi_V zbi_Y Tryd.f70 zbi_T.ps zbi_T.res=zbi_T.fn:=by kernel_rfl
theorem zbi_Fok:SoundP Tryd.prog G0 70 zbi_F:=closeF_sound (runF_sound ⟨same_ok,(envP_cons zak_Fok envP_nil),envS_nil,envP_nil,envX_nil⟩ Tryd.func70 rfl (by kernel_rfl))
theorem zbi_ok:TOk zbi_F zbi_T:=runY_ok (E:=zbi_E) (ET:=zbi_V) (EnvT.ofX (pure_of (pairs_cons zak_ok pairs_nil)) looks_nil raws_nil G0_ok news_nil) zbi_eq rfl
def zb7_E:Env:=(eZ [] [])
def zb7_H:Hints:=(hZ [] [])
def zb7_F:PFn:=closeF (runF Tryd.prog zb7_E zb7_H Tryd.f71)
def zb7_Y:TH:=yZ
def zb7 (a0:Int):Option Bool :=
 cond (decide (a0<32)) (
 cond (decide (a0<32)) (
 some false) (
 some (!decide (a0=65533)))) (
 cond (decide (a0≥127)) (cond (decide (a0<160)) (
 some false) (
 some (!decide (a0=65533)))) (some (!decide (a0=65533))))
def zb7_T:TFn:={ ps:=(.cons (.int .i32) .unit),res:=.bool,fn:=fun v=>zb7 v.1 }
def zb7_V:TEnv:=(vZ [])
theorem zb7_eq:runY Tryd.prog zb7_E zb7_H zb7_V zb7_Y Tryd.f71 zb7_T.ps zb7_T.res=zb7_T.fn:=by kernel_rfl
theorem zb7_Fok:SoundP Tryd.prog G0 71 zb7_F:=closeF_sound (runF_sound ⟨same_ok,envP_nil,envS_nil,envP_nil,envX_nil⟩ Tryd.func71 rfl (by kernel_rfl))
theorem zb7_ok:TOk zb7_F zb7_T:=runY_ok (E:=zb7_E) (ET:=zb7_V) (EnvT.ofX (pure_of pairs_nil) looks_nil raws_nil G0_ok news_nil) zb7_eq rfl
def zbh_E:Env:=(eZ [(70,zbi_F),(71,zb7_F)] [])
def zbh_H:Hints:=(hZ [(5,[24,25,26])] [])
def zbh_F:PFn:=closeF (runF Tryd.prog zbh_E zbh_H Tryd.f54)
def zbh_Y:TH:={ loops:=[(5,{ keep:=[(26,(.int .i64))],mem:=[] })],ro:=[] }
def zbh_l5 (r1:(List Int×Bool×Unit)) (y5:(Int×Unit)):Option ((Int×Unit)⊕Bool) :=
 cond (decide (y5.1<(r1.1.length:Int))) (
(atI r1.1 y5.1).bind fun x2 =>
(zb7 x2).bind fun r3 =>
 cond (!r3) (
 some (.inr false)) (
 some (.inl ((IntKind.wrap .i64 (y5.1+1)),())))) (
 some (.inr true))
def zbh (a0:List UInt8):Option Bool :=
(zbi a0).bind fun r1 =>
 cond (!r1.2.1) (some false) (cond (decide ((r1.1.length:Int)=0)) (some false) (cond (decide ((r1.1.length:Int)>24)) (
 some false) (
 loopT (zbh_l5 r1) (0,()))))
def zbh_T:TFn:={ ps:=(.cons .str .unit),res:=.bool,fn:=fun v=>zbh v.1 }
def zbh_V:TEnv:=(vZ [(70,zbi_T),(71,zb7_T)])
theorem zbh_eq:runY Tryd.prog zbh_E zbh_H zbh_V zbh_Y Tryd.f54 zbh_T.ps zbh_T.res=zbh_T.fn:=by kernel_rfl
theorem zbh_Fok:SoundP Tryd.prog G0 54 zbh_F:=closeF_sound (runF_sound ⟨same_ok,(envP_cons zbi_Fok (envP_cons zb7_Fok envP_nil)),envS_nil,envP_nil,envX_nil⟩ Tryd.func54 rfl (by kernel_rfl))
theorem zbh_ok:TOk zbh_F zbh_T:=runY_ok (E:=zbh_E) (ET:=zbh_V) (EnvT.ofX (pure_of (pairs_cons zbi_ok (pairs_cons zb7_ok pairs_nil))) looks_nil raws_nil G0_ok news_nil) zbh_eq rfl
def zat_E:Env:=(eZ [(54,zbh_F)] [])
def zat_H:Hints:=(hZ [] [])
def zat_F:PFn:=closeF (runF Tryd.prog zat_E zat_H Tryd.f53)
def zat_Y:TH:=yZ
def zat (a0:List UInt8):Option Bool :=
(zbh a0).bind fun r1 =>
 some (!r1)
def zat_T:TFn:={ ps:=(.cons .str .unit),res:=.bool,fn:=fun v=>zat v.1 }
def zat_V:TEnv:=(vZ [(54,zbh_T)])
theorem zat_eq:runY Tryd.prog zat_E zat_H zat_V zat_Y Tryd.f53 zat_T.ps zat_T.res=zat_T.fn:=by kernel_rfl
theorem zat_Fok:SoundP Tryd.prog G0 53 zat_F:=closeF_sound (runF_sound ⟨same_ok,(envP_cons zbh_Fok envP_nil),envS_nil,envP_nil,envX_nil⟩ Tryd.func53 rfl (by kernel_rfl))
theorem zat_ok:TOk zat_F zat_T:=runY_ok (E:=zat_E) (ET:=zat_V) (EnvT.ofX (pure_of (pairs_cons zbh_ok pairs_nil)) looks_nil raws_nil G0_ok news_nil) zat_eq rfl
def zaf_E:Env:=(eZ [(53,zat_F)] [])
def zaf_H:Hints:=(hZ [(2,[0,1,7,8])] [])
def zaf_F:PFn:=closeF (runF Tryd.prog zaf_E zaf_H Tryd.f69)
def zaf_Y:TH:={ loops:=[(2,{ keep:=[(8,(.int .i64))],mem:=[] })],ro:=[] }
def zaf_l2 (a0:List (List UInt8)) (y2:(Int×Unit)):Option ((Int×Unit)⊕Int) :=
 cond (decide (y2.1<(a0.length:Int))) (
(atI a0 y2.1).bind fun x1 =>
(zat x1).bind fun r2 =>
 cond r2 (
 some (.inr y2.1)) (
 some (.inl ((IntKind.wrap .i64 (y2.1+1)),())))) (
 some (.inr (-1)))
def zaf (a0:List (List UInt8)) (a1:Unit):Option Int :=
 loopT (zaf_l2 a0) (0,())
def zaf_T:TFn:={ ps:=(.cons (.sl .str) (.cons (.fn 53) .unit)),res:=(.int .i64),fn:=fun v=>zaf v.1 v.2.1 }
def zaf_V:TEnv:=(vZ [(53,zat_T)])
theorem zaf_eq:runY Tryd.prog zaf_E zaf_H zaf_V zaf_Y Tryd.f69 zaf_T.ps zaf_T.res=zaf_T.fn:=by kernel_rfl
theorem zaf_Fok:SoundP Tryd.prog G0 69 zaf_F:=closeF_sound (runF_sound ⟨same_ok,(envP_cons zat_Fok envP_nil),envS_nil,envP_nil,envX_nil⟩ Tryd.func69 rfl (by kernel_rfl))
theorem zaf_ok:TOk zaf_F zaf_T:=runY_ok (E:=zaf_E) (ET:=zaf_V) (EnvT.ofX (pure_of (pairs_cons zat_ok pairs_nil)) looks_nil raws_nil G0_ok news_nil) zaf_eq rfl
def zae_E:Env:=(eZ [(69,zaf_F)] [])
def zae_H:Hints:=(hZ [] [])
def zae_F:PFn:=closeF (runF Tryd.prog zae_E zae_H Tryd.f52)
def zae_Y:TH:=yZ
def zae (a0:List (List UInt8)) (a1:Unit):Option Bool :=
(zaf a0 a1).bind fun r1 =>
 some (decide (r1≥0))
def zae_T:TFn:={ ps:=(.cons (.sl .str) (.cons (.fn 53) .unit)),res:=.bool,fn:=fun v=>zae v.1 v.2.1 }
def zae_V:TEnv:=(vZ [(69,zaf_T)])
theorem zae_eq:runY Tryd.prog zae_E zae_H zae_V zae_Y Tryd.f52 zae_T.ps zae_T.res=zae_T.fn:=by kernel_rfl
theorem zae_Fok:SoundP Tryd.prog G0 52 zae_F:=closeF_sound (runF_sound ⟨same_ok,(envP_cons zaf_Fok envP_nil),envS_nil,envP_nil,envX_nil⟩ Tryd.func52 rfl (by kernel_rfl))
theorem zae_ok:TOk zae_F zae_T:=runY_ok (E:=zae_E) (ET:=zae_V) (EnvT.ofX (pure_of (pairs_cons zaf_ok pairs_nil)) looks_nil raws_nil G0_ok news_nil) zae_eq rfl
def zbq_E:Env:=(eZ [(52,zae_F)] [])
def zbq_H:Hints:=(hZ [] [])
def zbq_F:PFn:=closeF (runF Tryd.prog zbq_E zbq_H Tryd.f34)
def zbq_Y:TH:=yZ
def zbq (a0:List (List UInt8)):Option Int :=
 cond (decide ((a0.length:Int)=0)) (
 some 8) (
 cond (decide ((a0.length:Int)>8)) (
 some 9) (
(zae a0 ()).bind fun r1 =>
 cond r1 (
 some 8) (
 some 0)))
def zbq_T:TFn:={ ps:=(.cons (.sl .str) .unit),res:=(.int .i64),fn:=fun v=>zbq v.1 }
def zbq_V:TEnv:=(vZ [(52,zae_T)])
theorem zbq_eq:runY Tryd.prog zbq_E zbq_H zbq_V zbq_Y Tryd.f34 zbq_T.ps zbq_T.res=zbq_T.fn:=by kernel_rfl
theorem zbq_Fok:SoundP Tryd.prog G0 34 zbq_F:=closeF_sound (runF_sound ⟨same_ok,(envP_cons zae_Fok envP_nil),envS_nil,envP_nil,envX_nil⟩ Tryd.func34 rfl (by kernel_rfl))
theorem zbq_ok:TOk zbq_F zbq_T:=runY_ok (E:=zbq_E) (ET:=zbq_V) (EnvT.ofX (pure_of (pairs_cons zae_ok pairs_nil)) looks_nil raws_nil G0_ok news_nil) zbq_eq rfl
def za3_E:Env:=(eZ [(70,zbi_F)] [])
def za3_H:Hints:=(hZ [] [])
def za3_F:PFn:=closeF (runF Tryd.prog za3_E za3_H Tryd.f55)
def za3_Y:TH:={ loops:=[],ro:=[1] }
def za3 (a0:(Int×Int×List UInt8×Unit)):Option Bool :=
 cond (decide (a0.1=1)) (
 cond (decide (a0.2.2.1=[])) (cond (decide (a0.2.1≥(-2147483647))) (some (decide (a0.2.1≤2147483647))) (some false)) (some false)) (
 cond (decide (a0.1=2)) (
(zbi a0.2.2.1).bind fun r1 =>
 cond r1.2.1 (cond (decide (a0.2.1=0)) (some (decide ((a0.2.2.1.length:Int)≤64))) (some false)) (some false)) (
 cond (decide (a0.1=3)) (
 cond (decide (a0.2.2.1=[])) (cond (decide (a0.2.1=0)) (some true) (some (decide (a0.2.1=1)))) (some false)) (
 some false)))
def za3_T:TFn:={ ps:=(.cons tT9 .unit),res:=.bool,fn:=fun v=>za3 v.1 }
def za3_V:TEnv:=(vZ [(70,zbi_T)])
theorem za3_eq:runY Tryd.prog za3_E za3_H za3_V za3_Y Tryd.f55 za3_T.ps za3_T.res=za3_T.fn:=by kernel_rfl
theorem za3_Fok:SoundP Tryd.prog G0 55 za3_F:=closeF_sound (runF_sound ⟨same_ok,(envP_cons zbi_Fok envP_nil),envS_nil,envP_nil,envX_nil⟩ Tryd.func55 rfl (by kernel_rfl))
theorem za3_ok:TOk za3_F za3_T:=runY_ok (E:=za3_E) (ET:=za3_V) (EnvT.ofX (pure_of (pairs_cons zbi_ok pairs_nil)) looks_nil raws_nil G0_ok news_nil) za3_eq rfl
def zbu_E:Env:=(eZ [(55,za3_F)] [])
def zbu_H:Hints:=(hZ [] [])
def zbu_F:PFn:=closeF (runF Tryd.prog zbu_E zbu_H Tryd.f35)
def zbu_Y:TH:={ loops:=[],ro:=[1] }
def zbu (a0:vV0):Option Bool :=
 cond (decide (a0.1=3)) (some (eqV tT9 a0.2.2.1 (0,0,[],()))) (cond (decide (a0.1=5)) (
 some (eqV tT9 a0.2.2.1 (0,0,[],()))) (
(za3 a0.2.2.1).bind fun r1 =>
 some r1))
def zbu_T:TFn:={ ps:=(.cons tT5 .unit),res:=.bool,fn:=fun v=>zbu v.1 }
def zbu_V:TEnv:=(vZ [(55,za3_T)])
theorem zbu_eq:runY Tryd.prog zbu_E zbu_H zbu_V zbu_Y Tryd.f35 zbu_T.ps zbu_T.res=zbu_T.fn:=by kernel_rfl
theorem zbu_Fok:SoundP Tryd.prog G0 35 zbu_F:=closeF_sound (runF_sound ⟨same_ok,(envP_cons za3_Fok envP_nil),envS_nil,envP_nil,envX_nil⟩ Tryd.func35 rfl (by kernel_rfl))
theorem zbu_ok:TOk zbu_F zbu_T:=runY_ok (E:=zbu_E) (ET:=zbu_V) (EnvT.ofX (pure_of (pairs_cons za3_ok pairs_nil)) looks_nil raws_nil G0_ok news_nil) zbu_eq rfl
def zbz_E:Env:=(eZ [] [])
def zbz_H:Hints:=(hZ [] [])
def zbz_F:PFn:=closeF (runF Tryd.prog zbz_E zbz_H Tryd.f36)
def zbz_Y:TH:={ loops:=[],ro:=[1] }
def zbz (a0:vV0):Option Bool :=
 cond (decide (a0.1=3)) (
 cond (!decide (a0.2.2.2.1=0)) (cond (decide (a0.2.2.2.1≥(-2147483647))) (some (decide (a0.2.2.2.1≤2147483647))) (some false)) (some false)) (
 some (decide (a0.2.2.2.1=0)))
def zbz_T:TFn:={ ps:=(.cons tT5 .unit),res:=.bool,fn:=fun v=>zbz v.1 }
def zbz_V:TEnv:=(vZ [])
theorem zbz_eq:runY Tryd.prog zbz_E zbz_H zbz_V zbz_Y Tryd.f36 zbz_T.ps zbz_T.res=zbz_T.fn:=by kernel_rfl
theorem zbz_Fok:SoundP Tryd.prog G0 36 zbz_F:=closeF_sound (runF_sound ⟨same_ok,envP_nil,envS_nil,envP_nil,envX_nil⟩ Tryd.func36 rfl (by kernel_rfl))
theorem zbz_ok:TOk zbz_F zbz_T:=runY_ok (E:=zbz_E) (ET:=zbz_V) (EnvT.ofX (pure_of pairs_nil) looks_nil raws_nil G0_ok news_nil) zbz_eq rfl
def zbt_E:Env:=(eZ [] [])
def zbt_H:Hints:=(hZ [] [])
def zbt_F:PFn:=closeF (runF Tryd.prog zbt_E zbt_H Tryd.f56)
def zbt_Y:TH:={ loops:=[],ro:=[1] }
def zbt (a0:(Int×Int×Unit)):Option Bool :=
 cond (decide (a0.1≥0)) (cond (decide (a0.1<16)) (cond (decide (a0.2.1≥1)) (some (decide (a0.2.1≤1048576))) (some false)) (some false)) (some false)
def zbt_T:TFn:={ ps:=(.cons (.agg tT10) .unit),res:=.bool,fn:=fun v=>zbt v.1 }
def zbt_V:TEnv:=(vZ [])
theorem zbt_eq:runY Tryd.prog zbt_E zbt_H zbt_V zbt_Y Tryd.f56 zbt_T.ps zbt_T.res=zbt_T.fn:=by kernel_rfl
theorem zbt_Fok:SoundP Tryd.prog G0 56 zbt_F:=closeF_sound (runF_sound ⟨same_ok,envP_nil,envS_nil,envP_nil,envX_nil⟩ Tryd.func56 rfl (by kernel_rfl))
theorem zbt_ok:TOk zbt_F zbt_T:=runY_ok (E:=zbt_E) (ET:=zbt_V) (EnvT.ofX (pure_of pairs_nil) looks_nil raws_nil G0_ok news_nil) zbt_eq rfl
def zb5_E:Env:=(eZ [(60,zbr_F),(61,za4_F),(62,zam_F)] [])
def zb5_H:Hints:=(hZ [] [])
def zb5_F:PFn:=closeF (runF Tryd.prog zb5_E zb5_H Tryd.f43)
def zb5_Y:TH:={ loops:=[],ro:=[2,3] }
def zb5 (a0:vV1) (a1:vV1):Option Int :=
(za4 a0.1 a1.1).bind fun r1 =>
(zam a0.2.1 a1.2.1).bind fun r2 =>
(zbr ([r1,r2]:List Int)).bind fun r3 =>
 some r3
def zb5_T:TFn:={ ps:=(.cons tT6 (.cons tT6 .unit)),res:=(.int .i64),fn:=fun v=>zb5 v.1 v.2.1 }
def zb5_V:TEnv:={ pure:=[(60,zbr_T),(61,za4_T),(62,zam_T)],look:=[],glob:=G0T,ty:=[(3,(.int .i64))],raw:=[],fresh:=[] }
theorem zb5_eq:runY Tryd.prog zb5_E zb5_H zb5_V zb5_Y Tryd.f43 zb5_T.ps zb5_T.res=zb5_T.fn:=by kernel_rfl
theorem zb5_Fok:SoundP Tryd.prog G0 43 zb5_F:=closeF_sound (runF_sound ⟨same_ok,(envP_cons zbr_Fok (envP_cons za4_Fok (envP_cons zam_Fok envP_nil))),envS_nil,envP_nil,envX_nil⟩ Tryd.func43 rfl (by kernel_rfl))
theorem zb5_ok:TOk zb5_F zb5_T:=runY_ok (E:=zb5_E) (ET:=zb5_V) (EnvT.ofX (pure_of (pairs_cons zbr_ok (pairs_cons za4_ok (pairs_cons zam_ok pairs_nil)))) looks_nil raws_nil G0_ok news_nil) zb5_eq rfl
theorem zar_FokD : @SoundP ⟨True⟩ Tryd.prog G0 82 zar_F:=by
 letI:Drawn:=⟨True⟩
 exact closeF_sound (runF_sound ⟨same_ok,envP_nil,envS_nil,envP_nil,envX_nil⟩ Tryd.func82 rfl (by kernel_rfl))
theorem zam_FokD : @SoundP ⟨True⟩ Tryd.prog G0 62 zam_F:=by
 letI:Drawn:=⟨True⟩
 exact closeF_sound (runF_sound ⟨same_ok,(envP_cons zar_FokD envP_nil),envS_nil,envP_nil,envX_nil⟩ Tryd.func62 rfl (by kernel_rfl))
theorem zbr_FokD : @SoundP ⟨True⟩ Tryd.prog G0 60 zbr_F:=by
 letI:Drawn:=⟨True⟩
 exact closeF_sound (runF_sound ⟨same_ok,envP_nil,envS_nil,envP_nil,envX_nil⟩ Tryd.func60 rfl (by kernel_rfl))
theorem za4_FokD : @SoundP ⟨True⟩ Tryd.prog G0 61 za4_F:=by
 letI:Drawn:=⟨True⟩
 exact closeF_sound (runF_sound ⟨same_ok,(envP_cons zbr_FokD (envP_cons zam_FokD envP_nil)),envS_nil,envP_nil,envX_nil⟩ Tryd.func61 rfl (by kernel_rfl))
theorem zb5_FokD : @SoundP ⟨True⟩ Tryd.prog G0 43 zb5_F:=by
 letI:Drawn:=⟨True⟩
 exact closeF_sound (runF_sound ⟨same_ok,(envP_cons zbr_FokD (envP_cons za4_FokD (envP_cons zam_FokD envP_nil))),envS_nil,envP_nil,envX_nil⟩ Tryd.func43 rfl (by kernel_rfl))
def zag_ren:Go.Shelf.Ren:=⟨fun | 6=>42 | 14=>58 | 15=>59 | 20=>72 | 21=>73 | 22=>74 | 23=>75 | 24=>76 | 25=>77 | 26=>78 | 27=>79 | 28=>80 | 29=>81 | 46=>87 | 47=>88 | 48=>89 | 49=>90 | 50=>91 | 57=>95 | n=>n,fun | 0=>0 | 3=>3 | 4=>4 | 5=>5 | 9=>9 | 22=>27 | 24=>43 | 25=>78 | 39=>94 | 45=>106 | 46=>107 | 50=>86 | 53=>113 | 55=>115 | 66=>122 | 70=>126 | 76=>130 | 77=>128 | n=>n,fun | n=>n⟩
theorem zag_lays:Go.Proofs.SlLaysF0.n6 Tryd.prog zag_ren:={
 mixed:=by kernel_rfl
 f6:=⟨Tryd.f42.name,by decide,Tryd.func42.trans (congrArg some (by kernel_rfl))⟩
 f14:=⟨Tryd.f58.name,by decide,Tryd.func58.trans (congrArg some (by kernel_rfl))⟩
 f15:=Tryd.func59.trans (congrArg some (by kernel_rfl))
 f20:=⟨Tryd.f72.name,by decide,Tryd.func72.trans (congrArg some (by kernel_rfl))⟩
 f21:=⟨Tryd.f73.name,by decide,Tryd.func73.trans (congrArg some (by kernel_rfl))⟩
 f22:=⟨Tryd.f74.name,by decide,Tryd.func74.trans (congrArg some (by kernel_rfl))⟩
 f23:=⟨Tryd.f75.name,by decide,Tryd.func75.trans (congrArg some (by kernel_rfl))⟩
 f24:=⟨Tryd.f76.name,by decide,Tryd.func76.trans (congrArg some (by kernel_rfl))⟩
 f25:=⟨Tryd.f77.name,by decide,Tryd.func77.trans (congrArg some (by kernel_rfl))⟩
 f26:=⟨Tryd.f78.name,by decide,Tryd.func78.trans (congrArg some (by kernel_rfl))⟩
 f27:=⟨Tryd.f79.name,by decide,Tryd.func79.trans (congrArg some (by kernel_rfl))⟩
 f28:=Tryd.func80.trans (congrArg some (by kernel_rfl))
 f29:=Tryd.func81.trans (congrArg some (by kernel_rfl))
 f46:=⟨Tryd.f87.name,by decide,Tryd.func87.trans (congrArg some (by kernel_rfl))⟩
 f47:=Tryd.func88.trans (congrArg some (by kernel_rfl))
 f48:=Tryd.func89.trans (congrArg some (by kernel_rfl))
 f49:=⟨Tryd.f90.name,by decide,Tryd.func90.trans (congrArg some (by kernel_rfl))⟩
 f50:=⟨Tryd.f91.name,by decide,Tryd.func91.trans (congrArg some (by kernel_rfl))⟩
 f57:=⟨Tryd.f95.name,by decide,Tryd.func95.trans (congrArg some (by kernel_rfl))⟩
 t0:=Tryd.underlying0
 a0:=Tryd.isAgg0
 z0:=Tryd.sizeOf0
 v0:=Tryd.zeroValue0
 t3:=Tryd.underlying3
 a3:=Tryd.isAgg3
 z3:=Tryd.sizeOf3
 v3:=Tryd.zeroValue3
 t4:=Tryd.underlying4
 a4:=Tryd.isAgg4
 z4:=Tryd.sizeOf4
 v4:=Tryd.zeroValue4
 t5:=Tryd.underlying5
 a5:=Tryd.isAgg5
 z5:=Tryd.sizeOf5
 v5:=Tryd.zeroValue5
 t9:=Tryd.underlying9
 a9:=Tryd.isAgg9
 z9:=Tryd.sizeOf9
 v9:=Tryd.zeroValue9
 t22:=Tryd.underlying27
 a22:=Tryd.isAgg27
 z22:=Tryd.sizeOf27
 v22:=Tryd.zeroValue27
 t25:=Tryd.underlying78
 a25:=Tryd.isAgg78
 z25:=Tryd.sizeOf78
 v25:=Tryd.zeroValue78
 t39:=Tryd.underlying94
 a39:=Tryd.isAgg94
 z39:=Tryd.sizeOf94
 v39:=Tryd.zeroValue94
 t45:=Tryd.underlying106
 a45:=Tryd.isAgg106
 z45:=Tryd.sizeOf106
 v45:=Tryd.zeroValue106
 t46:=Tryd.underlying107
 a46:=Tryd.isAgg107
 z46:=Tryd.sizeOf107
 v46:=Tryd.zeroValue107
 t50:=Tryd.underlying86
 a50:=Tryd.isAgg86
 z50:=Tryd.sizeOf86
 v50:=Tryd.zeroValue86
 t53:=Tryd.underlying113
 a53:=Tryd.isAgg113
 z53:=Tryd.sizeOf113
 v53:=Tryd.zeroValue113
 t55:=Tryd.underlying115
 a55:=Tryd.isAgg115
 z55:=Tryd.sizeOf115
 v55:=Tryd.zeroValue115
 t66:=Tryd.underlying122
 a66:=Tryd.isAgg122
 z66:=Tryd.sizeOf122
 v66:=Tryd.zeroValue122
 t70:=Tryd.underlying126
 a70:=Tryd.isAgg126
 z70:=Tryd.sizeOf126
 v70:=Tryd.zeroValue126
 t76:=Tryd.underlying130
 a76:=Tryd.isAgg130
 z76:=Tryd.sizeOf130
 v76:=Tryd.zeroValue130
 t77:=Tryd.underlying128
 a77:=Tryd.isAgg128
 z77:=Tryd.sizeOf128
 v77:=Tryd.zeroValue128 }
def zag_S:SFn:=sortS zb5_F 43 3 43
theorem zag_Sok:SoundS Tryd.prog G0 42 zag_S:=sortS_sound (M:=3) (g:=43) zag_lays (by decide) (fun w=>Tryd.isAgg43 w) (fun w=>Tryd.sizeOf43 w) zb5_FokD ⟨Tryd.f42,Tryd.func42,rfl,by kernel_rfl⟩
def zag (w0:List vV1):Option (Unit×List vV1×Unit):=(sortT (fun x y=>zb5 x y) w0).map fun l=>((),(l,()))
def zag_R:TRaw:=sortR false 43 43 tT6 (fun x y=>zb5 x y)
theorem zag_ok:TRawOk zag_S zag_R:=sortR_ok rfl rfl rfl rfl zb5_ok
def zb9_E:Env:=(eZ [(43,zb5_F),(56,zbt_F)] [])
def zb9_H:Hints:=(hZ [(2,[0,5,6,7])] [])
def zb9_F:PFn:=closeF (runF Tryd.prog zb9_E zb9_H Tryd.f37)
def zb9_Y:TH:={ loops:=[(2,{ keep:=[(7,(.int .i64))],mem:=[] })],cuts:=[(4,[(9,{ keep:=[(4,(.bx 0 0)),(20,.bool)],mem:=[.box 43 tT6] }),(5,{ keep:=[(4,(.bx 0 0)),(25,.bool)],mem:=[.box 43 tT6] })])],ro:=[],news:=[] }
def zb9_l2 (a0:List vV1) (y2:(Int×Unit)):Option ((Int×Unit)⊕Bool) :=
 cond (decide (y2.1<(a0.length:Int))) (
(atI a0 y2.1).bind fun x1 =>
((zbt x1.1).bind fun r2 =>
 cond (!r2) (some (true,x1,())) (some ((decide (x1.2.1<0)),x1,())):Option (Bool×vV1×Unit)).bind fun v3 =>
(cond v3.1 (some (true,v3.2.1,())) (some ((decide (v3.2.1.2.1≥16)),v3.2.1,())):Option (Bool×vV1×Unit)).bind fun v4 =>
 cond v4.1 (some (.inr false)) (cond (decide (y2.1>0)) ((atI a0 (IntKind.wrap .i64 (y2.1-1))).bind fun x5 =>
(zb5 x5 v4.2.1).bind fun r6 =>
 cond (decide (r6≥0)) (
 some (.inr false)) (
 some (.inl ((IntKind.wrap .i64 (y2.1+1)),())))) (some (.inl ((IntKind.wrap .i64 (y2.1+1)),()))))) (
 some (.inr true))
def zb9 (a0:List vV1):Option Bool :=
 loopT (zb9_l2 a0) (0,())
def zb9_T:TFn:={ ps:=(.cons (.sl tT6) .unit),res:=.bool,fn:=fun v=>zb9 v.1 }
def zb9_V:TEnv:=(vZ [(43,zb5_T),(56,zbt_T)])
theorem zb9_eq:runY Tryd.prog zb9_E zb9_H zb9_V zb9_Y Tryd.f37 zb9_T.ps zb9_T.res=zb9_T.fn:=by kernel_rfl
theorem zb9_Fok:SoundP Tryd.prog G0 37 zb9_F:=closeF_sound (runF_sound ⟨same_ok,(envP_cons zb5_Fok (envP_cons zbt_Fok envP_nil)),envS_nil,envP_nil,envX_nil⟩ Tryd.func37 rfl (by kernel_rfl))
theorem zb9_ok:TOk zb9_F zb9_T:=runY_ok (E:=zb9_E) (ET:=zb9_V) (EnvT.ofX (pure_of (pairs_cons zb5_ok (pairs_cons zbt_ok pairs_nil))) looks_nil raws_nil G0_ok news_nil) zb9_eq rfl
def zb6_E:Env:=(eZ [(34,zbq_F),(35,zbu_F),(36,zbz_F),(37,zb9_F)] [])
def zb6_H:Hints:=(hZ [] [])
def zb6_F:PFn:=closeF (runF Tryd.prog zb6_E zb6_H Tryd.f19)
def zb6_Y:TH:={ joins:=[(10,{ keep:=[(1,(.bx 0 0)),(32,.bool)],mem:=[.same] })],loops:=[],cuts:=[(6,[(8,{ keep:=[(1,(.bx 0 0)),(26,.bool)],mem:=[.same] }),(5,{ keep:=[(1,(.bx 0 0)),(31,.bool)],mem:=[.same] })]),(9,[(8,{ keep:=[(1,(.bx 0 0)),(46,.bool)],mem:=[.same] })])],ro:=[1],news:=[] }
def zb6 (a0:vV0):Option Int :=
 cond (decide (a0.1<1)) (some 18) (cond (decide (a0.1>5)) (
 some 18) (
(zbq a0.2.1).bind fun r1 =>
 cond (!decide (r1=0)) (
 some r1) (
(cond (decide (a0.1=1)) (some (true,())) (some ((decide (a0.1=4)),())):Option (Bool×Unit)).bind fun v2 =>
(cond v2.1 (some (true,())) (some ((decide (a0.1=5)),())):Option (Bool×Unit)).bind fun v3 =>
((zbu a0).bind fun r4 =>
 cond (!r4) (
 some (.inl ((!r4),()))) (
(zbz a0).bind fun r5 =>
 cond (!r5) (
 some (.inl ((!r5),()))) (
(cond (!v3.1) (some ((decide ((a0.2.2.2.2.1.length:Int)>0)),())) (some (false,())):Option (Bool×Unit)).bind fun v6 =>
 some (.inl (v6.1,())))):Option ((Bool×Unit)⊕Int)).bind (joinS fun v7 =>
 cond v7.1 (
 some 2) (
 cond (decide ((a0.2.2.2.2.1.length:Int)>256)) (
 some 7) (
(zb9 a0.2.2.2.2.1).bind fun r8 =>
 cond (!r8) (
 some 2) (
 some 0)))))))
def zb6_T:TFn:={ ps:=(.cons tT5 .unit),res:=(.int .i64),fn:=fun v=>zb6 v.1 }
def zb6_V:TEnv:=(vZ [(34,zbq_T),(35,zbu_T),(36,zbz_T),(37,zb9_T)])
theorem zb6_eq:runY Tryd.prog zb6_E zb6_H zb6_V zb6_Y Tryd.f19 zb6_T.ps zb6_T.res=zb6_T.fn:=by kernel_rfl
theorem zb6_Fok:SoundP Tryd.prog G0 19 zb6_F:=closeF_sound (runF_sound ⟨same_ok,(envP_cons zbq_Fok (envP_cons zbu_Fok (envP_cons zbz_Fok (envP_cons zb9_Fok envP_nil)))),envS_nil,envP_nil,envX_nil⟩ Tryd.func19 rfl (by kernel_rfl))
theorem zb6_ok:TOk zb6_F zb6_T:=runY_ok (E:=zb6_E) (ET:=zb6_V) (EnvT.ofX (pure_of (pairs_cons zbq_ok (pairs_cons zbu_ok (pairs_cons zbz_ok (pairs_cons zb9_ok pairs_nil))))) looks_nil raws_nil G0_ok news_nil) zb6_eq rfl
def zcb_E:Env:=(eZ [] [])
def zcb_H:Hints:=(hZ [] [])
def zcb_F:PFn:=closeF (runF Tryd.prog zcb_E zcb_H Tryd.f26)
def zcb_Y:TH:={ joins:=[(6,{ keep:=[(6,.bool)],mem:=[] })],loops:=[],ro:=[] }
def zcb (a0:Int):Option Int :=
 cond (decide (a0=1)) (
 some 1) (
(cond (decide (a0=2)) (
 some (.inl ((decide (a0=2)),()))) (
 some (.inl ((decide (a0=4)),()))):Option ((Bool×Unit)⊕Int)).bind (joinS fun v1 =>
 cond v1.1 (
 some 2) (
 cond (decide (a0=3)) (
 some 3) (
 some 0))))
def zcb_T:TFn:={ ps:=(.cons (.int .i64) .unit),res:=(.int .i64),fn:=fun v=>zcb v.1 }
def zcb_V:TEnv:=(vZ [])
theorem zcb_eq:runY Tryd.prog zcb_E zcb_H zcb_V zcb_Y Tryd.f26 zcb_T.ps zcb_T.res=zcb_T.fn:=by kernel_rfl
theorem zcb_Fok:SoundP Tryd.prog G0 26 zcb_F:=closeF_sound (runF_sound ⟨same_ok,envP_nil,envS_nil,envP_nil,envX_nil⟩ Tryd.func26 rfl (by kernel_rfl))
theorem zcb_ok:TOk zcb_F zcb_T:=runY_ok (E:=zcb_E) (ET:=zcb_V) (EnvT.ofX (pure_of pairs_nil) looks_nil raws_nil G0_ok news_nil) zcb_eq rfl
def zaj_E:Env:=(eZ [] [])
def zaj_H:Hints:=(hZ [(4,[0,1,12,13])] [])
def zaj_F:PFn:=closeF (runF Tryd.prog zaj_E zaj_H Tryd.f44)
def zaj_Y:TH:={ loops:=[(4,{ keep:=[(13,(.int .i64))],mem:=[] })],ro:=[] }
def zaj_l4 (a0:List (List UInt8)) (a1:List (List UInt8)) (y4:(Int×Unit)):Option ((Int×Unit)⊕Bool) :=
 cond (decide (y4.1<(a0.length:Int))) (
(atI a0 y4.1).bind fun x1 =>
(atI a1 y4.1).bind fun x2 =>
 cond (!decide (x1=x2)) (
 some (.inr false)) (
 some (.inl ((IntKind.wrap .i64 (y4.1+1)),())))) (
 some (.inr true))
def zaj (a0:List (List UInt8)) (a1:List (List UInt8)):Option Bool :=
 cond (!decide ((a0.length:Int)=(a1.length:Int))) (
 some false) (
 loopT (zaj_l4 a0 a1) (0,()))
def zaj_T:TFn:={ ps:=(.cons (.sl .str) (.cons (.sl .str) .unit)),res:=.bool,fn:=fun v=>zaj v.1 v.2.1 }
def zaj_V:TEnv:=(vZ [])
theorem zaj_eq:runY Tryd.prog zaj_E zaj_H zaj_V zaj_Y Tryd.f44 zaj_T.ps zaj_T.res=zaj_T.fn:=by kernel_rfl
theorem zaj_Fok:SoundP Tryd.prog G0 44 zaj_F:=closeF_sound (runF_sound ⟨same_ok,envP_nil,envS_nil,envP_nil,envX_nil⟩ Tryd.func44 rfl (by kernel_rfl))
theorem zaj_ok:TOk zaj_F zaj_T:=runY_ok (E:=zaj_E) (ET:=zaj_V) (EnvT.ofX (pure_of pairs_nil) looks_nil raws_nil G0_ok news_nil) zaj_eq rfl
def zbw_E:Env:=(eZ [(44,zaj_F)] [])
def zbw_H:Hints:=(hZ [] [])
def zbw_F:PFn:=closeF (runF Tryd.prog zbw_E zbw_H Tryd.f27)
def zbw_Y:TH:=yZ
def zbw (a0:List (List UInt8)) (a1:List (List UInt8)):Option Bool :=
(zaj a0 a1).bind fun r1 =>
 some r1
def zbw_T:TFn:={ ps:=(.cons (.sl .str) (.cons (.sl .str) .unit)),res:=.bool,fn:=fun v=>zbw v.1 v.2.1 }
def zbw_V:TEnv:=(vZ [(44,zaj_T)])
theorem zbw_eq:runY Tryd.prog zbw_E zbw_H zbw_V zbw_Y Tryd.f27 zbw_T.ps zbw_T.res=zbw_T.fn:=by kernel_rfl
theorem zbw_Fok:SoundP Tryd.prog G0 27 zbw_F:=closeF_sound (runF_sound ⟨same_ok,(envP_cons zaj_Fok envP_nil),envS_nil,envP_nil,envX_nil⟩ Tryd.func27 rfl (by kernel_rfl))
theorem zbw_ok:TOk zbw_F zbw_T:=runY_ok (E:=zbw_E) (ET:=zbw_V) (EnvT.ofX (pure_of (pairs_cons zaj_ok pairs_nil)) looks_nil raws_nil G0_ok news_nil) zbw_eq rfl
def zbo_E:Env:=(eZ [(44,zaj_F)] [])
def zbo_H:Hints:=(hZ [] [])
def zbo_F:PFn:=closeF (runF Tryd.prog zbo_E zbo_H Tryd.f28)
def zbo_Y:TH:=yZ
def zbo (a0:List (List UInt8)) (a1:List (List UInt8)):Option Bool :=
 cond (decide ((a0.length:Int)≥(a1.length:Int))) ((subI a0 0 (a1.length:Int)).bind fun s1 =>
(zaj s1 a1).bind fun r2 =>
 some r2) (some false)
def zbo_T:TFn:={ ps:=(.cons (.sl .str) (.cons (.sl .str) .unit)),res:=.bool,fn:=fun v=>zbo v.1 v.2.1 }
def zbo_V:TEnv:=(vZ [(44,zaj_T)])
theorem zbo_eq:runY Tryd.prog zbo_E zbo_H zbo_V zbo_Y Tryd.f28 zbo_T.ps zbo_T.res=zbo_T.fn:=by kernel_rfl
theorem zbo_Fok:SoundP Tryd.prog G0 28 zbo_F:=closeF_sound (runF_sound ⟨same_ok,(envP_cons zaj_Fok envP_nil),envS_nil,envP_nil,envX_nil⟩ Tryd.func28 rfl (by kernel_rfl))
theorem zbo_ok:TOk zbo_F zbo_T:=runY_ok (E:=zbo_E) (ET:=zbo_V) (EnvT.ofX (pure_of (pairs_cons zaj_ok pairs_nil)) looks_nil raws_nil G0_ok news_nil) zbo_eq rfl
def zaq_E:Env:=(eZ [(26,zcb_F),(27,zbw_F),(28,zbo_F)] [])
def zaq_H:Hints:=(hZ [] [])
def zaq_F:PFn:=closeF (runF Tryd.prog zaq_E zaq_H Tryd.f39)
def zaq_Y:TH:={ loops:=[],ro:=[3] }
def zaq (a0:vV2) (a1:vV0) (a2:Int):Option Bool :=
(zbw a0.2.1.2.1 a1.2.1).bind fun r1 =>
 cond r1 (
(zcb a0.2.1.1).bind fun r2 =>
 some (!decide (r2=a2))) (
(zbo a0.2.1.2.1 a1.2.1).bind fun r3 =>
 cond r3 (some true) ((zbo a1.2.1 a0.2.1.2.1).bind fun r4 =>
 some r4))
def zaq_T:TFn:={ ps:=(.cons tT7 (.cons (.rp tT5 0) (.cons (.rp (.int .i64) 0) .unit))),res:=.bool,fn:=fun v=>zaq v.1 v.2.1 v.2.2.1 }
def zaq_V:TEnv:=(vZ [(26,zcb_T),(27,zbw_T),(28,zbo_T)])
theorem zaq_eq:runY Tryd.prog zaq_E zaq_H zaq_V zaq_Y Tryd.f39 zaq_T.ps zaq_T.res=zaq_T.fn:=by kernel_rfl
theorem zaq_Fok:SoundP Tryd.prog G0 39 zaq_F:=closeF_sound (runF_sound ⟨same_ok,(envP_cons zcb_Fok (envP_cons zbw_Fok (envP_cons zbo_Fok envP_nil))),envS_nil,envP_nil,envX_nil⟩ Tryd.func39 rfl (by kernel_rfl))
theorem zaq_ok:TOk zaq_F zaq_T:=runY_ok (E:=zaq_E) (ET:=zaq_V) (EnvT.ofX (pure_of (pairs_cons zcb_ok (pairs_cons zbw_ok (pairs_cons zbo_ok pairs_nil)))) looks_nil raws_nil G0_ok news_nil) zaq_eq rfl
def zad_E:Env:=(eZ [(39,zaq_F)] [])
def zad_H:Hints:=(hZ [(2,[0,1,7,8])] [])
def zad_F:PFn:=closeF (runF Tryd.prog zad_E zad_H Tryd.f57)
def zad_Y:TH:={ loops:=[(2,{ keep:=[(8,(.int .i64))],mem:=[] })],ro:=[] }
def zad_l2 (a0:List vV2) (a1:(vV0×Int×Unit)) (y2:(Int×Unit)):Option ((Int×Unit)⊕Int) :=
 cond (decide (y2.1<(a0.length:Int))) (
(atI a0 y2.1).bind fun x1 =>
(zaq x1 a1.1 a1.2.1).bind fun r2 =>
 cond r2 (
 some (.inr y2.1)) (
 some (.inl ((IntKind.wrap .i64 (y2.1+1)),())))) (
 some (.inr (-1)))
def zad (a0:List vV2) (a1:(vV0×Int×Unit)):Option Int :=
 loopT (zad_l2 a0 a1) (0,())
def zad_T:TFn:={ ps:=(.cons (.sl tT7) (.cons (.cl 39 (.cons (.rp tT5 0) (.cons (.rp (.int .i64) 0) .unit))) .unit)),res:=(.int .i64),fn:=fun v=>zad v.1 v.2.1 }
def zad_V:TEnv:=(vZ [(39,zaq_T)])
theorem zad_eq:runY Tryd.prog zad_E zad_H zad_V zad_Y Tryd.f57 zad_T.ps zad_T.res=zad_T.fn:=by kernel_rfl
theorem zad_Fok:SoundP Tryd.prog G0 57 zad_F:=closeF_sound (runF_sound ⟨same_ok,(envP_cons zaq_Fok envP_nil),envS_nil,envP_nil,envX_nil⟩ Tryd.func57 rfl (by kernel_rfl))
theorem zad_ok:TOk zad_F zad_T:=runY_ok (E:=zad_E) (ET:=zad_V) (EnvT.ofX (pure_of (pairs_cons zaq_ok pairs_nil)) looks_nil raws_nil G0_ok news_nil) zad_eq rfl
def zac_E:Env:=(eZ [(57,zad_F)] [])
def zac_H:Hints:=(hZ [] [])
def zac_F:PFn:=closeF (runF Tryd.prog zac_E zac_H Tryd.f38)
def zac_Y:TH:=yZ
def zac (a0:List vV2) (a1:(vV0×Int×Unit)):Option Bool :=
(zad a0 a1).bind fun r1 =>
 some (decide (r1≥0))
def zac_T:TFn:={ ps:=(.cons (.sl tT7) (.cons (.cl 39 (.cons (.rp tT5 0) (.cons (.rp (.int .i64) 0) .unit))) .unit)),res:=.bool,fn:=fun v=>zac v.1 v.2.1 }
def zac_V:TEnv:=(vZ [(57,zad_T)])
theorem zac_eq:runY Tryd.prog zac_E zac_H zac_V zac_Y Tryd.f38 zac_T.ps zac_T.res=zac_T.fn:=by kernel_rfl
theorem zac_Fok:SoundP Tryd.prog G0 38 zac_F:=closeF_sound (runF_sound ⟨same_ok,(envP_cons zad_Fok envP_nil),envS_nil,envP_nil,envX_nil⟩ Tryd.func38 rfl (by kernel_rfl))
theorem zac_ok:TOk zac_F zac_T:=runY_ok (E:=zac_E) (ET:=zac_V) (EnvT.ofX (pure_of (pairs_cons zad_ok pairs_nil)) looks_nil raws_nil G0_ok news_nil) zac_eq rfl
def zbb_E:Env:=(eZ [(26,zcb_F),(38,zac_F)] [])
def zbb_H:Hints:={ seqs:=[],loops:=[],own:=[],frz:=[(2,[3,5])] }
def zbb_F:PFn:=closeF (runF Tryd.prog zbb_E zbb_H Tryd.f20)
def zbb_Y:TH:=yZ
def zbb (a0:List vV2) (a1:vV0):Option Bool :=
(zcb a1.1).bind fun r1 =>
 cond (!decide (r1=0)) ((zac a0 (a1,r1,())).bind fun r2 =>
 some r2) (some false)
def zbb_T:TFn:={ ps:=(.cons (.sl tT7) (.cons tT5 .unit)),res:=.bool,fn:=fun v=>zbb v.1 v.2.1 }
def zbb_V:TEnv:=(vZ [(26,zcb_T),(38,zac_T)])
theorem zbb_eq:runY Tryd.prog zbb_E zbb_H zbb_V zbb_Y Tryd.f20 zbb_T.ps zbb_T.res=zbb_T.fn:=by kernel_rfl
theorem zbb_Fok:SoundP Tryd.prog G0 20 zbb_F:=closeF_sound (runF_sound ⟨same_ok,(envP_cons zcb_Fok (envP_cons zac_Fok envP_nil)),envS_nil,envP_nil,envX_nil⟩ Tryd.func20 rfl (by kernel_rfl))
theorem zbb_ok:TOk zbb_F zbb_T:=runY_ok (E:=zbb_E) (ET:=zbb_V) (EnvT.ofX (pure_of (pairs_cons zcb_ok (pairs_cons zac_ok pairs_nil))) looks_nil raws_nil G0_ok news_nil) zbb_eq rfl
def zai_ren:Go.Shelf.Ren:=⟨fun | 41=>21 | n=>n,fun | 22=>24 | 23=>9 | 4=>4 | n=>n,fun | n=>n⟩
theorem zai_lays:Go.Proofs.SlLaysE0.n41 Tryd.prog zai_ren:={
 mixed:=by kernel_rfl
 f41:=⟨Tryd.f21.name,by decide,Tryd.func21.trans (congrArg some (by kernel_rfl))⟩
 t4:=Tryd.underlying4
 a4:=Tryd.isAgg4
 z4:=Tryd.sizeOf4
 v4:=Tryd.zeroValue4
 t22:=Tryd.underlying24
 a22:=Tryd.isAgg24
 z22:=Tryd.sizeOf24
 v22:=Tryd.zeroValue24 }
def zai_F:PFn:=(cloneF 1)
theorem zai_Fok:SoundP Tryd.prog G0 21 zai_F:=clone_lays zai_lays 1 ⟨Tryd.f21,Tryd.func21,rfl,by kernel_rfl⟩ (by kernel_rfl) (by kernel_rfl) (by kernel_rfl) (by kernel_rfl) (by kernel_rfl) (by decide) (fun w=>Tryd.sizeOf9 w)
def zai (a0:List (List UInt8)):Option (List (List UInt8)):=cloneT a0
def zai_T:TFn:=cloneT_T .str
theorem zai_ok:TOk zai_F zai_T:=cloneT_ok rfl rfl rfl
def zca_E:Env:=(eZ [(26,zcb_F),(27,zbw_F)] [])
def zca_H:Hints:=(hZ [(3,[1,2,7,10,11,12])] [])
def zca_F:PFn:=closeF (runF Tryd.prog zca_E zca_H Tryd.f10)
def zca_Y:TH:={ loops:=[(3,{ keep:=[(7,(.own 1)),(12,(.int .i64))],mem:=[.gone,.row true 45 tT7] })],ro:=[] }
def zca_l3 (a0:List vV2) (a1:List (List UInt8)) (a2:Int) (y3:(Int×List vV2×Unit)):Option ((Int×List vV2×Unit)⊕List vV2) :=
 cond (decide (y3.1<(a0.length:Int))) (
(atI a0 y3.1).bind fun x1 =>
(zcb x1.2.1.1).bind fun r2 =>
 cond (decide (r2=a2)) ((zbw x1.2.1.2.1 a1).bind fun r3 =>
 cond r3 (
(roomT (y3.2.1.length+([x1]:List vV2).length)).bind fun u4 =>
 some (.inl ((IntKind.wrap .i64 (y3.1+1)),(y3.2.1++([x1]:List vV2)),()))) (
 some (.inl ((IntKind.wrap .i64 (y3.1+1)),y3.2.1,())))) (some (.inl ((IntKind.wrap .i64 (y3.1+1)),y3.2.1,())))) (
 some (.inr y3.2.1))
def zca (a0:List vV2) (a1:List (List UInt8)) (a2:Int):Option (List vV2) :=
 loopT (zca_l3 a0 a1 a2) (0,[],())
def zca_T:TFn:={ ps:=(.cons (.sl tT7) (.cons (.sl .str) (.cons (.int .i64) .unit))),res:=(.sl tT7),fn:=fun v=>zca v.1 v.2.1 v.2.2.1 }
def zca_V:TEnv:={ pure:=[(26,zcb_T),(27,zbw_T)],look:=[],glob:=G0T,ty:=[(45,tT7)],raw:=[],fresh:=[] }
theorem zca_eq:runY Tryd.prog zca_E zca_H zca_V zca_Y Tryd.f10 zca_T.ps zca_T.res=zca_T.fn:=by kernel_rfl
theorem zca_Fok:SoundP Tryd.prog G0 10 zca_F:=closeF_sound (runF_sound ⟨same_ok,(envP_cons zcb_Fok (envP_cons zbw_Fok envP_nil)),envS_nil,envP_nil,envX_nil⟩ Tryd.func10 rfl (by kernel_rfl))
theorem zca_ok:TOk zca_F zca_T:=runY_ok (E:=zca_E) (ET:=zca_V) (EnvT.ofX (pure_of (pairs_cons zcb_ok (pairs_cons zbw_ok pairs_nil))) looks_nil raws_nil G0_ok news_nil) zca_eq rfl
def zbx_E:Env:=(eZ [] [])
def zbx_H:Hints:=(hZ [(3,[3,6,7,8])] [])
def zbx_S:SFn:=runF Tryd.prog zbx_E zbx_H Tryd.f40
def zbx_Y:TH:={ loops:=[(3,{ keep:=[(3,(.own 1)),(8,(.int .i64))],mem:=[.gone,.row true 43 tT6] })],ro:=[] }
def zbx_l3 (a0:List vV2) (y3:(Int×List vV1×Unit)):Option ((Int×List vV1×Unit)⊕(List vV1)) :=
 cond (decide (y3.1<(a0.length:Int))) (
(atI a0 y3.1).bind fun x1 =>
(roomT (y3.2.1.length+([x1.1]:List vV1).length)).bind fun u2 =>
 some (.inl ((IntKind.wrap .i64 (y3.1+1)),(y3.2.1++([x1.1]:List vV1)),()))) (
 some (.inr y3.2.1))
def zbx (a0:List vV2):Option (List vV1) :=
 loopT (zbx_l3 a0) (0,[],())
def zbx_N:TNew:={ ps:=(.cons (.sl tT7) .unit),e:=43,t:=(.sl tT6),fn:=fun v=>zbx v.1,row:=true }
def zbx_V:TEnv:={ pure:=[],look:=[],glob:=G0T,ty:=[(43,tT6)],raw:=[],fresh:=[] }
theorem zbx_eq:newRY Tryd.prog zbx_E zbx_H zbx_V zbx_Y Tryd.f40 zbx_N.ps 43 tT6=zbx_N.fn:=by kernel_rfl
theorem zbx_Sok:SoundS Tryd.prog G0 40 zbx_S:=runF_sound ⟨same_ok,envP_nil,envS_nil,envP_nil,envX_nil⟩ Tryd.func40 rfl (by kernel_rfl)
theorem zbx_ok:TNewOk zbx_S zbx_N:=newRY_ok (E:=zbx_E) (ET:=zbx_V) (EnvT.ofX (pure_of pairs_nil) looks_nil raws_nil G0_ok news_nil) zbx_eq
def zb2_E:Env:=(eZ [(10,zca_F)] [])
def zb2_H:Hints:=(hZ [(3,[5,7,12,13,14])] [])
def zb2_S:SFn:=runF Tryd.prog zb2_E zb2_H Tryd.f41
def zb2_Y:TH:={ loops:=[(3,{ keep:=[(5,(.bx 0 0)),(7,(.own 2)),(14,(.int .i64))],mem:=[.same,.gone,.row true 43 tT6] })],ro:=[5] }
def zb2_l3 (a2:(Int×Int×List UInt8×Unit)) (r1:List vV2) (y3:(Int×List vV1×Unit)):Option ((Int×List vV1×Unit)⊕(List vV1)) :=
 cond (decide (y3.1<(r1.length:Int))) (
(atI r1 y3.1).bind fun x2 =>
 cond (eqV tT9 x2.2.1.2.2.1 a2) (
(roomT (y3.2.1.length+([x2.1]:List vV1).length)).bind fun u3 =>
 some (.inl ((IntKind.wrap .i64 (y3.1+1)),(y3.2.1++([x2.1]:List vV1)),()))) (
 some (.inl ((IntKind.wrap .i64 (y3.1+1)),y3.2.1,())))) (
 some (.inr y3.2.1))
def zb2 (a0:List vV2) (a1:List (List UInt8)) (a2:(Int×Int×List UInt8×Unit)):Option (List vV1) :=
(zca a0 a1 2).bind fun r1 =>
 loopT (zb2_l3 a2 r1) (0,[],())
def zb2_N:TNew:={ ps:=(.cons (.sl tT7) (.cons (.sl .str) (.cons tT9 .unit))),e:=43,t:=(.sl tT6),fn:=fun v=>zb2 v.1 v.2.1 v.2.2.1,row:=true }
def zb2_V:TEnv:={ pure:=[(10,zca_T)],look:=[],glob:=G0T,ty:=[(43,tT6)],raw:=[],fresh:=[] }
theorem zb2_eq:newRY Tryd.prog zb2_E zb2_H zb2_V zb2_Y Tryd.f41 zb2_N.ps 43 tT6=zb2_N.fn:=by kernel_rfl
theorem zb2_Sok:SoundS Tryd.prog G0 41 zb2_S:=runF_sound ⟨same_ok,(envP_cons zca_Fok envP_nil),envS_nil,envP_nil,envX_nil⟩ Tryd.func41 rfl (by kernel_rfl)
theorem zb2_ok:TNewOk zb2_S zb2_N:=newRY_ok (E:=zb2_E) (ET:=zb2_V) (EnvT.ofX (pure_of (pairs_cons zca_ok pairs_nil)) looks_nil raws_nil G0_ok news_nil) zb2_eq
def zbg_E:Env:=(eZ [(28,zbo_F)] [])
def zbg_H:Hints:=(hZ [(3,[1,5,8,9,10])] [])
def zbg_F:PFn:=closeF (runF Tryd.prog zbg_E zbg_H Tryd.f12)
def zbg_Y:TH:={ loops:=[(3,{ keep:=[(5,(.own 1)),(10,(.int .i64))],mem:=[.gone,.row true 45 tT7] })],ro:=[] }
def zbg_l3 (a0:List vV2) (a1:List (List UInt8)) (y3:(Int×List vV2×Unit)):Option ((Int×List vV2×Unit)⊕List vV2) :=
 cond (decide (y3.1<(a0.length:Int))) (
(atI a0 y3.1).bind fun x1 =>
(zbo x1.2.1.2.1 a1).bind fun r2 =>
 cond r2 (
(roomT (y3.2.1.length+([x1]:List vV2).length)).bind fun u3 =>
 some (.inl ((IntKind.wrap .i64 (y3.1+1)),(y3.2.1++([x1]:List vV2)),()))) (
 some (.inl ((IntKind.wrap .i64 (y3.1+1)),y3.2.1,())))) (
 some (.inr y3.2.1))
def zbg (a0:List vV2) (a1:List (List UInt8)):Option (List vV2) :=
 loopT (zbg_l3 a0 a1) (0,[],())
def zbg_T:TFn:={ ps:=(.cons (.sl tT7) (.cons (.sl .str) .unit)),res:=(.sl tT7),fn:=fun v=>zbg v.1 v.2.1 }
def zbg_V:TEnv:={ pure:=[(28,zbo_T)],look:=[],glob:=G0T,ty:=[(45,tT7)],raw:=[],fresh:=[] }
theorem zbg_eq:runY Tryd.prog zbg_E zbg_H zbg_V zbg_Y Tryd.f12 zbg_T.ps zbg_T.res=zbg_T.fn:=by kernel_rfl
theorem zbg_Fok:SoundP Tryd.prog G0 12 zbg_F:=closeF_sound (runF_sound ⟨same_ok,(envP_cons zbo_Fok envP_nil),envS_nil,envP_nil,envX_nil⟩ Tryd.func12 rfl (by kernel_rfl))
theorem zbg_ok:TOk zbg_F zbg_T:=runY_ok (E:=zbg_E) (ET:=zbg_V) (EnvT.ofX (pure_of (pairs_cons zbo_ok pairs_nil)) looks_nil raws_nil G0_ok news_nil) zbg_eq rfl
def zan_E:Env:={ pure:=[(10,zca_F),(12,zbg_F)],raw:=[(40,zbx_S),(41,zb2_S),(42,zag_S)],glob:=G0,same:=[],look:=[],ext:=[] }
def zan_H:Hints:=(hZ [] [])
def zan_F:PFn:=closeF (runF Tryd.prog zan_E zan_H Tryd.f22)
def zan_Y:TH:={ joins:=[(9,{ keep:=[(5,(.own 1))],mem:=[.same,.row false 43 tT6] })],loops:=[],ro:=[3] }
def zan (a0:List vV2) (a1:vV0):Option (List vV1) :=
(cond (decide (a1.1=1)) (
(zca a0 a1.2.1 1).bind fun r1 =>
(zbx r1).bind fun n2 =>
 some (.inl (n2,()))) (
 cond (decide (a1.1=4)) (
(zb2 a0 a1.2.1 a1.2.2.1).bind fun n3 =>
 some (.inl (n3,()))) (
 cond (decide (a1.1=5)) (
(zbg a0 a1.2.1).bind fun r4 =>
(zbx r4).bind fun n5 =>
 some (.inl (n5,()))) (
 some (.inl ([],()))))):Option ((List vV1×Unit)⊕List vV1)).bind (joinS fun v6 =>
(zag v6.1).bind fun q7 =>
 some q7.2.1)
def zan_T:TFn:={ ps:=(.cons (.sl tT7) (.cons tT5 .unit)),res:=(.sl tT6),fn:=fun v=>zan v.1 v.2.1 }
def zan_V:TEnv:={ pure:=[(10,zca_T),(12,zbg_T)],look:=[],glob:=G0T,ty:=[],raw:=[(42,zag_R)],fresh:=[(40,zbx_N),(41,zb2_N)] }
theorem zan_eq:runY Tryd.prog zan_E zan_H zan_V zan_Y Tryd.f22 zan_T.ps zan_T.res=zan_T.fn:=by kernel_rfl
theorem zan_Fok:SoundP Tryd.prog G0 22 zan_F:=closeF_sound (runF_sound ⟨same_ok,(envP_cons zca_Fok (envP_cons zbg_Fok envP_nil)),(envS_cons zbx_Sok (envS_cons zb2_Sok (envS_cons zag_Sok envS_nil))),envP_nil,envX_nil⟩ Tryd.func22 rfl (by kernel_rfl))
theorem zan_ok:TOk zan_F zan_T:=runY_ok (E:=zan_E) (ET:=zan_V) (EnvT.ofX (pure_of (pairs_cons zca_ok (pairs_cons zbg_ok pairs_nil))) looks_nil (raws_more (raws_more (raws_cons zag_ok rfl rfl raws_nil) rfl) rfl) G0_ok (news_cons zbx_ok rfl rfl rfl (news_cons zb2_ok rfl rfl rfl news_nil))) zan_eq rfl
def zbn_E:Env:=(eZ [(19,zb6_F),(20,zbb_F),(21,zai_F),(22,zan_F)] [])
def zbn_H:Hints:=(hZ [] [])
def zbn_F:PFn:=closeF (runF Tryd.prog zbn_E zbn_H Tryd.f8)
def zbn_Y:TH:=yZ
def zbn (a0:List vV2) (a1:vV0):Option (vV0×Int×Unit) :=
(zb6 (a1.1,a1.2.1,a1.2.2.1,a1.2.2.2.1,[],())).bind fun r1 =>
 cond (!decide (r1=0)) (
 some ((0,[],(0,0,[],()),0,[],()),r1,())) (
(zbb a0 (a1.1,a1.2.1,a1.2.2.1,a1.2.2.2.1,[],())).bind fun r2 =>
 cond r2 (
 some ((0,[],(0,0,[],()),0,[],()),10,())) (
(zai a1.2.1).bind fun r3 =>
(zan a0 (a1.1,r3,a1.2.2.1,a1.2.2.2.1,[],())).bind fun r4 =>
 cond (decide ((r4.length:Int)=0)) (cond (decide (a1.1=4)) (some ((0,[],(0,0,[],()),0,[],()),11,())) (cond (decide (a1.1=5)) (
 some ((0,[],(0,0,[],()),0,[],()),11,())) (
 cond (decide ((r4.length:Int)>256)) (
 some ((0,[],(0,0,[],()),0,[],()),7,())) (
 some ((a1.1,r3,a1.2.2.1,a1.2.2.2.1,r4,()),0,()))))) (cond (decide ((r4.length:Int)>256)) (
 some ((0,[],(0,0,[],()),0,[],()),7,())) (
 some ((a1.1,r3,a1.2.2.1,a1.2.2.2.1,r4,()),0,())))))
def zbn_T:TFn:={ ps:=(.cons (.sl tT7) (.cons tT5 .unit)),res:=(.tup (.cons tT5 (.cons (.int .i64) .unit))),fn:=fun v=>zbn v.1 v.2.1 }
def zbn_V:TEnv:=(vZ [(19,zb6_T),(20,zbb_T),(21,zai_T),(22,zan_T)])
theorem zbn_eq:runY Tryd.prog zbn_E zbn_H zbn_V zbn_Y Tryd.f8 zbn_T.ps zbn_T.res=zbn_T.fn:=by kernel_rfl
theorem zbn_Fok:SoundP Tryd.prog G0 8 zbn_F:=closeF_sound (runF_sound ⟨same_ok,(envP_cons zb6_Fok (envP_cons zbb_Fok (envP_cons zai_Fok (envP_cons zan_Fok envP_nil)))),envS_nil,envP_nil,envX_nil⟩ Tryd.func8 rfl (by kernel_rfl))
theorem zbn_ok:TOk zbn_F zbn_T:=runY_ok (E:=zbn_E) (ET:=zbn_V) (EnvT.ofX (pure_of (pairs_cons zb6_ok (pairs_cons zbb_ok (pairs_cons zai_ok (pairs_cons zan_ok pairs_nil))))) looks_nil raws_nil G0_ok news_nil) zbn_eq rfl
def zax_E:Env:=(eZ [(7,zb4_F),(8,zbn_F)] [])
def zax_H:Hints:=(hZ [] [])
def zax_F:PFn:=closeF (runF Tryd.prog zax_E zax_H Tryd.f6)
def zax_Y:TH:=yZ
def zax:Option Bool :=
(zb4 ([((0,1,()),0,1,false,([(3,([[97]]:List (List UInt8)),(0,0,[],()),1,[],())]:List vV0),())]:List vV3) []).bind fun r1 =>
(zbn r1 (1,([[97]]:List (List UInt8)),(1,1,[],()),0,[],())).bind fun r2 =>
(zbn r1 (1,([[97],[107]]:List (List UInt8)),(1,1,[],()),0,[],())).bind fun r3 =>
(zbn r1 (1,([[98]]:List (List UInt8)),(1,1,[],()),0,[],())).bind fun r4 =>
 cond (decide (r2.2.1=10)) (cond (decide (r3.2.1=10)) (some (decide (r4.2.1=0))) (some false)) (some false)
def zax_T:TFn:={ ps:=.unit,res:=.bool,fn:=fun v=>zax  }
def zax_V:TEnv:={ pure:=[(7,zb4_T),(8,zbn_T)],look:=[],glob:=G0T,ty:=[(9,.str),(29,tT5),(55,tT8)],raw:=[],fresh:=[] }
theorem zax_eq:runY Tryd.prog zax_E zax_H zax_V zax_Y Tryd.f6 zax_T.ps zax_T.res=zax_T.fn:=by kernel_rfl
theorem zax_Fok:SoundP Tryd.prog G0 6 zax_F:=closeF_sound (runF_sound ⟨same_ok,(envP_cons zb4_Fok (envP_cons zbn_Fok envP_nil)),envS_nil,envP_nil,envX_nil⟩ Tryd.func6 rfl (by kernel_rfl))
theorem zax_ok:TOk zax_F zax_T:=runY_ok (E:=zax_E) (ET:=zax_V) (EnvT.ofX (pure_of (pairs_cons zb4_ok (pairs_cons zbn_ok pairs_nil))) looks_nil raws_nil G0_ok news_nil) zax_eq rfl
def zbk_E:Env:=(eZ [] [])
def zbk_H:Hints:=(hZ [] [])
def zbk_F:PFn:=closeF (runF Tryd.prog zbk_E zbk_H Tryd.f11)
def zbk_Y:TH:=yZ
def zbk (a0:Int):Option Int :=
 cond (decide (a0=1)) (
 some 1) (
 cond (decide (a0=2)) (some 2) (cond (decide (a0=4)) (
 some 2) (
 cond (decide (a0=3)) (
 some 3) (
 some 0))))
def zbk_T:TFn:={ ps:=(.cons (.int .i64) .unit),res:=(.int .i64),fn:=fun v=>zbk v.1 }
def zbk_V:TEnv:=(vZ [])
theorem zbk_eq:runY Tryd.prog zbk_E zbk_H zbk_V zbk_Y Tryd.f11 zbk_T.ps zbk_T.res=zbk_T.fn:=by kernel_rfl
theorem zbk_Fok:SoundP Tryd.prog G0 11 zbk_F:=closeF_sound (runF_sound ⟨same_ok,envP_nil,envS_nil,envP_nil,envX_nil⟩ Tryd.func11 rfl (by kernel_rfl))
theorem zbk_ok:TOk zbk_F zbk_T:=runY_ok (E:=zbk_E) (ET:=zbk_V) (EnvT.ofX (pure_of pairs_nil) looks_nil raws_nil G0_ok news_nil) zbk_eq rfl
def zah_E:Env:=(eZ [] [])
def zah_H:Hints:=(hZ [(4,[0,1,12,13])] [])
def zah_F:PFn:=closeF (runF Tryd.prog zah_E zah_H Tryd.f45)
def zah_Y:TH:={ loops:=[(4,{ keep:=[(13,(.int .i64))],mem:=[] })],ro:=[] }
def zah_l4 (a0:List vV1) (a1:List vV1) (y4:(Int×Unit)):Option ((Int×Unit)⊕Bool) :=
 cond (decide (y4.1<(a0.length:Int))) (
(atI a0 y4.1).bind fun x1 =>
(atI a1 y4.1).bind fun x2 =>
 cond (!(eqV tT6 x1 x2)) (
 some (.inr false)) (
 some (.inl ((IntKind.wrap .i64 (y4.1+1)),())))) (
 some (.inr true))
def zah (a0:List vV1) (a1:List vV1):Option Bool :=
 cond (!decide ((a0.length:Int)=(a1.length:Int))) (
 some false) (
 loopT (zah_l4 a0 a1) (0,()))
def zah_T:TFn:={ ps:=(.cons (.sl tT6) (.cons (.sl tT6) .unit)),res:=.bool,fn:=fun v=>zah v.1 v.2.1 }
def zah_V:TEnv:=(vZ [])
theorem zah_eq:runY Tryd.prog zah_E zah_H zah_V zah_Y Tryd.f45 zah_T.ps zah_T.res=zah_T.fn:=by kernel_rfl
theorem zah_Fok:SoundP Tryd.prog G0 45 zah_F:=closeF_sound (runF_sound ⟨same_ok,envP_nil,envS_nil,envP_nil,envX_nil⟩ Tryd.func45 rfl (by kernel_rfl))
theorem zah_ok:TOk zah_F zah_T:=runY_ok (E:=zah_E) (ET:=zah_V) (EnvT.ofX (pure_of pairs_nil) looks_nil raws_nil G0_ok news_nil) zah_eq rfl
def zb8_E:Env:=(eZ [(44,zaj_F),(45,zah_F)] [])
def zb8_H:Hints:=(hZ [] [])
def zb8_F:PFn:=closeF (runF Tryd.prog zb8_E zb8_H Tryd.f25)
def zb8_Y:TH:={ loops:=[],cuts:=[(1,[(12,{ keep:=[(2,(.bx 0 0)),(3,(.bx 1 0)),(16,.bool)],mem:=[.same,.same] }),(7,{ keep:=[(2,(.bx 0 0)),(3,(.bx 1 0)),(23,.bool)],mem:=[.same,.same] })])],ro:=[2,3],news:=[] }
def zb8 (a0:vV0) (a1:vV0):Option Bool :=
(cond (decide (a0.1=a1.1)) (some ((eqV tT9 a0.2.2.1 a1.2.2.1),())) (some (false,())):Option (Bool×Unit)).bind fun v1 =>
(cond v1.1 (some ((decide (a0.2.2.2.1=a1.2.2.2.1)),())) (some (false,())):Option (Bool×Unit)).bind fun v2 =>
 cond v2.1 ((zaj a0.2.1 a1.2.1).bind fun r3 =>
 cond r3 ((zah a0.2.2.2.2.1 a1.2.2.2.2.1).bind fun r4 =>
 some r4) (some false)) (some false)
def zb8_T:TFn:={ ps:=(.cons tT5 (.cons tT5 .unit)),res:=.bool,fn:=fun v=>zb8 v.1 v.2.1 }
def zb8_V:TEnv:=(vZ [(44,zaj_T),(45,zah_T)])
theorem zb8_eq:runY Tryd.prog zb8_E zb8_H zb8_V zb8_Y Tryd.f25 zb8_T.ps zb8_T.res=zb8_T.fn:=by kernel_rfl
theorem zb8_Fok:SoundP Tryd.prog G0 25 zb8_F:=closeF_sound (runF_sound ⟨same_ok,(envP_cons zaj_Fok (envP_cons zah_Fok envP_nil)),envS_nil,envP_nil,envX_nil⟩ Tryd.func25 rfl (by kernel_rfl))
theorem zb8_ok:TOk zb8_F zb8_T:=runY_ok (E:=zb8_E) (ET:=zb8_V) (EnvT.ofX (pure_of (pairs_cons zaj_ok (pairs_cons zah_ok pairs_nil))) looks_nil raws_nil G0_ok news_nil) zb8_eq rfl
def za8_E:Env:=(eZ [(25,zb8_F)] [])
def za8_H:Hints:=(hZ [] [])
def za8_F:PFn:=closeF (runF Tryd.prog za8_E za8_H Tryd.f24)
def za8_Y:TH:={ loops:=[],ro:=[2,3] }
def za8 (a0:vV2) (a1:vV2):Option Bool :=
 cond (eqV tT6 a0.1 a1.1) (cond (decide (a0.2.2.1=a1.2.2.1)) ((zb8 a0.2.1 a1.2.1).bind fun r1 =>
 some r1) (some false)) (some false)
def za8_T:TFn:={ ps:=(.cons tT7 (.cons tT7 .unit)),res:=.bool,fn:=fun v=>za8 v.1 v.2.1 }
def za8_V:TEnv:=(vZ [(25,zb8_T)])
theorem za8_eq:runY Tryd.prog za8_E za8_H za8_V za8_Y Tryd.f24 za8_T.ps za8_T.res=za8_T.fn:=by kernel_rfl
theorem za8_Fok:SoundP Tryd.prog G0 24 za8_F:=closeF_sound (runF_sound ⟨same_ok,(envP_cons zb8_Fok envP_nil),envS_nil,envP_nil,envX_nil⟩ Tryd.func24 rfl (by kernel_rfl))
theorem za8_ok:TOk za8_F za8_T:=runY_ok (E:=za8_E) (ET:=za8_V) (EnvT.ofX (pure_of (pairs_cons zb8_ok pairs_nil)) looks_nil raws_nil G0_ok news_nil) za8_eq rfl
def zaa_E:Env:=(eZ [(24,za8_F)] [])
def zaa_H:Hints:=(hZ [(4,[1,2,15,16,17])] [])
def zaa_F:PFn:=closeF (runF Tryd.prog zaa_E zaa_H Tryd.f23)
def zaa_Y:TH:={ loops:=[(4,{ keep:=[(17,(.int .i64))],mem:=[] })],ro:=[] }
def zaa_l4 (a0:List vV2) (a1:List vV2) (y4:(Int×Unit)):Option ((Int×Unit)⊕Bool) :=
 cond (decide (y4.1<(a0.length:Int))) (
(atI a0 y4.1).bind fun x1 =>
(atI a1 y4.1).bind fun x2 =>
(za8 x1 x2).bind fun r3 =>
 cond (!r3) (
 some (.inr false)) (
 some (.inl ((IntKind.wrap .i64 (y4.1+1)),())))) (
 some (.inr true))
def zaa (a0:List vV2) (a1:List vV2) (a2:Unit):Option Bool :=
 cond (!decide ((a0.length:Int)=(a1.length:Int))) (
 some false) (
 loopT (zaa_l4 a0 a1) (0,()))
def zaa_T:TFn:={ ps:=(.cons (.sl tT7) (.cons (.sl tT7) (.cons (.fn 24) .unit))),res:=.bool,fn:=fun v=>zaa v.1 v.2.1 v.2.2.1 }
def zaa_V:TEnv:=(vZ [(24,za8_T)])
theorem zaa_eq:runY Tryd.prog zaa_E zaa_H zaa_V zaa_Y Tryd.f23 zaa_T.ps zaa_T.res=zaa_T.fn:=by kernel_rfl
theorem zaa_Fok:SoundP Tryd.prog G0 23 zaa_F:=closeF_sound (runF_sound ⟨same_ok,(envP_cons za8_Fok envP_nil),envS_nil,envP_nil,envX_nil⟩ Tryd.func23 rfl (by kernel_rfl))
theorem zaa_ok:TOk zaa_F zaa_T:=runY_ok (E:=zaa_E) (ET:=zaa_V) (EnvT.ofX (pure_of (pairs_cons za8_ok pairs_nil)) looks_nil raws_nil G0_ok news_nil) zaa_eq rfl
def zb1_E:Env:=(eZ [(23,zaa_F)] [])
def zb1_H:Hints:=(hZ [] [])
def zb1_F:PFn:=closeF (runF Tryd.prog zb1_E zb1_H Tryd.f9)
def zb1_Y:TH:=yZ
def zb1 (a0:List vV2) (a1:List vV2):Option Bool :=
(zaa a0 a1 ()).bind fun r1 =>
 some r1
def zb1_T:TFn:={ ps:=(.cons (.sl tT7) (.cons (.sl tT7) .unit)),res:=.bool,fn:=fun v=>zb1 v.1 v.2.1 }
def zb1_V:TEnv:=(vZ [(23,zaa_T)])
theorem zb1_eq:runY Tryd.prog zb1_E zb1_H zb1_V zb1_Y Tryd.f9 zb1_T.ps zb1_T.res=zb1_T.fn:=by kernel_rfl
theorem zb1_Fok:SoundP Tryd.prog G0 9 zb1_F:=closeF_sound (runF_sound ⟨same_ok,(envP_cons zaa_Fok envP_nil),envS_nil,envP_nil,envX_nil⟩ Tryd.func9 rfl (by kernel_rfl))
theorem zb1_ok:TOk zb1_F zb1_T:=runY_ok (E:=zb1_E) (ET:=zb1_V) (EnvT.ofX (pure_of (pairs_cons zaa_ok pairs_nil)) looks_nil raws_nil G0_ok news_nil) zb1_eq rfl
def zau_E:Env:=(eZ [] [])
def zau_H:Hints:=(hZ [(2,[2,3,5])] [])
def zau_F:PFn:=closeF (runF Tryd.prog zau_E zau_H Tryd.f13)
def zau_Y:TH:={ loops:=[(2,{ keep:=[(2,(.bx 0 0)),(3,(.bx 1 0)),(5,(.int .i64))],mem:=[.same,.same] })],ro:=[2,3] }
def zau_l2 (a0:vV0) (a1:vV1) (y2:(Int×Unit)):Option ((Int×Unit)⊕Bool) :=
 cond (decide (y2.1<(a0.2.2.2.2.1.length:Int))) (
(atI a0.2.2.2.2.1 y2.1).bind fun x1 =>
 cond (eqV tT6 x1 a1) (
 some (.inr true)) (
 some (.inl ((IntKind.wrap .i64 (y2.1+1)),())))) (
 some (.inr false))
def zau (a0:vV0) (a1:vV1):Option Bool :=
 loopT (zau_l2 a0 a1) (0,())
def zau_T:TFn:={ ps:=(.cons tT5 (.cons tT6 .unit)),res:=.bool,fn:=fun v=>zau v.1 v.2.1 }
def zau_V:TEnv:=(vZ [])
theorem zau_eq:runY Tryd.prog zau_E zau_H zau_V zau_Y Tryd.f13 zau_T.ps zau_T.res=zau_T.fn:=by kernel_rfl
theorem zau_Fok:SoundP Tryd.prog G0 13 zau_F:=closeF_sound (runF_sound ⟨same_ok,envP_nil,envS_nil,envP_nil,envX_nil⟩ Tryd.func13 rfl (by kernel_rfl))
theorem zau_ok:TOk zau_F zau_T:=runY_ok (E:=zau_E) (ET:=zau_V) (EnvT.ofX (pure_of pairs_nil) looks_nil raws_nil G0_ok news_nil) zau_eq rfl
def zal_E:Env:=(eZ [(4,zbl_F),(5,zav_F),(6,zax_F),(7,zb4_F),(8,zbn_F),(9,zb1_F),(10,zca_F),(11,zbk_F),(12,zbg_F),(13,zau_F)] [])
def zal_H:Hints:=(hZ [(9,[7,8,10,11])] [46,55,61,67])
def zal_F:PFn:=closeF (runF Tryd.prog zal_E zal_H Tryd.f3)
def zal_Y:TH:={ joins:=[(18,{ keep:=[(8,(.bx 1 0)),(10,(.int .i64))],mem:=[.same,.box 29 tT5] })],loops:=[(9,{ keep:=[(8,(.bx 1 0)),(10,(.int .i64)),(11,(.int .i64))],mem:=[.same,.box 29 tT5] })],cuts:=[(13,[(6,{ keep:=[(8,(.bx 1 0)),(79,.bool)],mem:=[.same,.box 29 tT5] }),(9,{ keep:=[(8,(.bx 1 0)),(88,.bool)],mem:=[.same,.box 29 tT5] }),(28,{ keep:=[(8,(.bx 1 0)),(116,.bool)],mem:=[.same,.box 29 tT5] }),(8,{ keep:=[(8,(.bx 1 0)),(124,.bool)],mem:=[.same,.box 29 tT5] })])],ro:=[5],news:=[] }
def zal_l9 (r5:List vV2) (y9:(Int×Int×vV0×Unit)):Option ((Int×Int×vV0×Unit)⊕((Int×vV0×Unit)⊕Bool)) :=
 cond (decide (y9.2.1<(r5.length:Int))) (
(atI r5 y9.2.1).bind fun x8 =>
(atI r5 y9.2.1).bind fun x9 =>
(zbk x9.2.1.1).bind fun r10 =>
(zca ([x8]:List vV2) y9.2.2.1.2.1 r10).bind fun r11 =>
(atI r5 y9.2.1).bind fun x12 =>
(zb1 r11 ([x12]:List vV2)).bind fun r13 =>
(atI r5 y9.2.1).bind fun x14 =>
(zbg ([x14]:List vV2) y9.2.2.1.2.1).bind fun r15 =>
(cond (decide (y9.2.2.1.1=1)) (some (r13,y9.2.2.1,())) (some (false,y9.2.2.1,())):Option (Bool×vV0×Unit)).bind fun v16 =>
(cond v16.1 ((atI r5 y9.2.1).bind fun x17 =>
 some ((decide (x17.2.1.1=1)),v16.2.1,())) (some (false,v16.2.1,())):Option (Bool×vV0×Unit)).bind fun v18 =>
(cond v18.1 (some (true,v18.2.1,())) (cond (decide (v18.2.1.1=4)) (cond r13 ((atI r5 y9.2.1).bind fun x19 =>
 cond (decide (x19.2.1.1=2)) ((atI r5 y9.2.1).bind fun x20 =>
 some ((eqV tT9 x20.2.1.2.2.1 v18.2.1.2.2.1),v18.2.1,())) (some (false,v18.2.1,()))) (some (false,v18.2.1,()))) (some (false,v18.2.1,()))):Option (Bool×vV0×Unit)).bind fun v21 =>
(cond v21.1 (some (true,v21.2.1,())) (cond (decide (v21.2.1.1=5)) (some ((decide ((r15.length:Int)=1)),v21.2.1,())) (some (false,v21.2.1,()))):Option (Bool×vV0×Unit)).bind fun v22 =>
(atI r5 y9.2.1).bind fun x23 =>
(zau v22.2.1 x23.1).bind fun r24 =>
 cond (!(r24==v22.1)) (
 some (.inr (.inr false))) (
 cond v22.1 (
 some (.inl ((IntKind.wrap .i64 (y9.1+1)),(IntKind.wrap .i64 (y9.2.1+1)),v22.2.1,()))) (
 some (.inl (y9.1,(IntKind.wrap .i64 (y9.2.1+1)),v22.2.1,()))))) (
 some (.inr (.inl (y9.1,y9.2.2.1,()))))
def zal (a0:List vV3) (a1:List vV1) (a2:vV0):Option Bool :=
(zbl a0 a1).bind fun r1 =>
 cond (!r1) ((zax).bind fun r2 =>
 some r2) ((zav a2).bind fun r3 =>
 cond (!r3) (
(zax).bind fun r4 =>
 some r4) (
(zb4 a0 a1).bind fun r5 =>
(zbn r5 a2).bind fun r6 =>
 cond (!decide (r6.2.1=0)) (
(zax).bind fun r7 =>
 some r7) (
(loopT (zal_l9 r5) (0,0,r6.1,()):Option ((Int×vV0×Unit)⊕Bool)).bind (joinS fun v25 =>
 cond (decide (v25.1=(v25.2.1.2.2.2.2.1.length:Int))) ((zax).bind fun r26 =>
 some r26) (some false)))))
def zal_T:TFn:={ ps:=(.cons (.sl tT8) (.cons (.sl tT6) (.cons tT5 .unit))),res:=.bool,fn:=fun v=>zal v.1 v.2.1 v.2.2.1 }
def zal_V:TEnv:={ pure:=[(4,zbl_T),(5,zav_T),(6,zax_T),(7,zb4_T),(8,zbn_T),(9,zb1_T),(10,zca_T),(11,zbk_T),(12,zbg_T),(13,zau_T)],look:=[],glob:=G0T,ty:=[(45,tT7)],raw:=[],fresh:=[] }
theorem zal_eq:runY Tryd.prog zal_E zal_H zal_V zal_Y Tryd.f3 zal_T.ps zal_T.res=zal_T.fn:=by kernel_rfl
theorem zal_Fok:SoundP Tryd.prog G0 3 zal_F:=closeF_sound (runF_sound ⟨same_ok,(envP_cons zbl_Fok (envP_cons zav_Fok (envP_cons zax_Fok (envP_cons zb4_Fok (envP_cons zbn_Fok (envP_cons zb1_Fok (envP_cons zca_Fok (envP_cons zbk_Fok (envP_cons zbg_Fok (envP_cons zau_Fok envP_nil)))))))))),envS_nil,envP_nil,envX_nil⟩ Tryd.func3 rfl (by kernel_rfl))
theorem zal_ok:TOk zal_F zal_T:=runY_ok (E:=zal_E) (ET:=zal_V) (EnvT.ofX (pure_of (pairs_cons zbl_ok (pairs_cons zav_ok (pairs_cons zax_ok (pairs_cons zb4_ok (pairs_cons zbn_ok (pairs_cons zb1_ok (pairs_cons zca_ok (pairs_cons zbk_ok (pairs_cons zbg_ok (pairs_cons zau_ok pairs_nil))))))))))) looks_nil raws_nil G0_ok news_nil) zal_eq rfl
end
end Go.Proofs.YtgfpkhlabdcbmaaDoor.Y
