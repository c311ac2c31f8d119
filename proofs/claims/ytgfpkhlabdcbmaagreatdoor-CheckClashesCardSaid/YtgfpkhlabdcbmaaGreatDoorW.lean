import Derived.Test.YtgfpkhlabdcbmaaGreatDoorS
import Derived.Test.YtgfpkhlabdcbmaaGreatDoorT29
import GoSem.PinnedTables
set_option linter.unusedVariables false
set_option maxRecDepth 100000
namespace Go.Proofs.YtgfpkhlabdcbmaaGreatDoor.Y
open Go.EM Go.TY Go.Proofs
theorem zb.{u,v}{A:Type u}{B:Type v} (a:A) (f:A→Option B):(some a).bind f=f a:=rfl
theorem zg.{u}{A:Type u}{l:List A}{i:Nat} (h:i<l.length):l[i]? = some l[i]:=List.getElem?_eq_getElem h
theorem zl.{u}{A:Type u}{a:A}{l:List A}:(a::l).length=l.length+1:=rfl
theorem zf {p:Prop} [Decidable p] (h:¬p):decide p=false:=decide_eq_false h
theorem zn.{u}{c:Prop}{h:Decidable c} (hc:¬c) {A:Sort u}{t e:A}:ite c t e=e:=if_neg hc
theorem zp.{u}{c:Prop}{h:Decidable c} (hc:c) {A:Sort u}{t e:A}:ite c t e=t:=if_pos hc
theorem zm.{u}{A:Type u}{l:List A}{n:Nat} (h:n<l.length):l[n]∈l:=List.getElem_mem h
theorem zt {p:Prop} [Decidable p] (h:p):decide p=true:=decide_eq_true h
noncomputable section
def G0:List (Nat×AVal):=[(0,.rptr tabFirst8),(1,.rptr tabAccept8)]
def G0T:List (Nat×TV):=[]
theorem G0_ok:GlobsOk G0 G0T:=globs_nil
theorem same_ok:∀ f,memN f [188]=true→Same Tryz.prog f:=by
 intro f h
 by_cases e188:f=188
 · subst e188; exact ⟨Tryz.f188,Tryz.func188,by kernel_rfl,by kernel_rfl,by kernel_rfl,by kernel_rfl⟩
 simp_all [memN]
def eZ (l:List (Nat×PFn)) (s:List Nat):Env:={ pure:=l,raw:=[],glob:=G0,same:=s,look:=[],ext:=[] }
def vZ (l:List (Nat×TFn)):TEnv:={ pure:=l,look:=[],glob:=G0T,ty:=[],raw:=[],fresh:=[] }
def hZ (l:List (Nat×List Nat)) (o:List Nat):Hints:={ seqs:=[],loops:=l,own:=o }
def yZ:TH:={ joins:=[],loops:=[],cuts:=[],ro:=[],news:=[] }
abbrev vV0:=(Int×List (List UInt8)×(Int×Int×List UInt8×Unit)×Int×List ((Int×Int×Unit)×Int×Unit)×Unit)
abbrev vV1:=((Int×Int×Unit)×Int×Unit)
abbrev vV2:=((Int×Int×Unit)×Int×Int×Bool×List vV0×Unit)
abbrev vV3:=(List (List UInt8)×Int×Unit)
abbrev vV4:=(vV1×vV0×Int×Unit)
abbrev vV5:=(Int×List (vV1×Bool)×Unit)
abbrev tT6:Ty:=(.agg (.cons (.int .i64) (.cons (.sl .str) (.cons (.agg (.cons (.int .i64) (.cons (.int .i64) (.cons .str .unit)))) (.cons (.int .i64) (.cons (.sl (.agg (.cons (.agg (.cons (.int .i64) (.cons (.int .i64) .unit))) (.cons (.int .i64) .unit)))) .unit))))))
abbrev tT7:Ty:=(.agg (.cons (.agg (.cons (.int .i64) (.cons (.int .i64) .unit))) (.cons (.int .i64) .unit)))
abbrev tT8:Ty:=(.agg (.cons (.agg (.cons (.int .i64) (.cons (.int .i64) .unit))) (.cons (.int .i64) (.cons (.int .i64) (.cons .bool (.cons (.sl tT6) .unit))))))
abbrev tT9:Ty:=(.cons (.int .i64) .unit)
abbrev tT10:Ty:=(.agg (.cons tT7 (.cons tT6 tT9)))
abbrev tT11:Ty:=(.agg (.cons (.int .i64) (.cons (.int .i64) (.cons .str .unit))))
abbrev tT12:Ty:=(.agg (.cons (.sl .str) tT9))
abbrev tT13:Ty:=(.cons (.agg (.cons (.int .i64) tT9)) .unit)
def zbv_E:Env:=(eZ [] [188])
def zbv_H:Hints:=(hZ [] [])
def zbv_F:PFn:=closeF (runF Tryz.prog zbv_E zbv_H Tryz.f111)
def zbv_Y:TH:=yZ
def zbv (a0:Int) (a1:Int):Option Int :=
 cond (decide (a0<a1)) (
 some (-1)) (
 cond (decide (a0>a1)) (
 some 1) (
 some 0))
def zbv_T:TFn:={ ps:=(.cons (.int .i64) tT9),res:=(.int .i64),fn:=fun v=>zbv v.1 v.2.1 }
def zbv_V:TEnv:=(vZ [])
theorem zbv_eq:runY Tryz.prog zbv_E zbv_H zbv_V zbv_Y Tryz.f111 zbv_T.ps zbv_T.res=zbv_T.fn:=by kernel_rfl
theorem zbv_Fok:SoundP Tryz.prog G0 111 zbv_F:=closeF_sound (runF_sound ⟨same_ok,envP_nil,envS_nil,envP_nil,envX_nil⟩ Tryz.func111 rfl (by kernel_rfl))
theorem zbv_ok:TOk zbv_F zbv_T:=runY_ok (E:=zbv_E) (ET:=zbv_V) (EnvT.ofX (pure_of pairs_nil) looks_nil raws_nil G0_ok news_nil) zbv_eq rfl
def zat_E:Env:=(eZ [(111,zbv_F)] [188])
def zat_H:Hints:=(hZ [] [])
def zat_F:PFn:=closeF (runF Tryz.prog zat_E zat_H Tryz.f110)
def zat_Y:TH:={ loops:=[],ro:=[2,3] }
def zat (a0:(Int×Int×Unit)) (a1:(Int×Int×Unit)):Option Int :=
 cond (!decide (a0.1=a1.1)) (
(zbv a0.1 a1.1).bind fun r1 =>
 some r1) (
(zbv a0.2.1 a1.2.1).bind fun r2 =>
 some r2)
def zat_T:TFn:={ ps:=(.cons (.agg (.cons (.int .i64) tT9)) tT13),res:=(.int .i64),fn:=fun v=>zat v.1 v.2.1 }
def zat_V:TEnv:=(vZ [(111,zbv_T)])
theorem zat_eq:runY Tryz.prog zat_E zat_H zat_V zat_Y Tryz.f110 zat_T.ps zat_T.res=zat_T.fn:=by kernel_rfl
theorem zat_Fok:SoundP Tryz.prog G0 110 zat_F:=closeF_sound (runF_sound ⟨same_ok,(envP_cons zbv_Fok envP_nil),envS_nil,envP_nil,envX_nil⟩ Tryz.func110 rfl (by kernel_rfl))
theorem zat_ok:TOk zat_F zat_T:=runY_ok (E:=zat_E) (ET:=zat_V) (EnvT.ofX (pure_of (pairs_cons zbv_ok pairs_nil)) looks_nil raws_nil G0_ok news_nil) zat_eq rfl
def zbh_E:Env:=(eZ [(110,zat_F)] [188])
def zbh_H:Hints:=(hZ [(2,[0,3])] [])
def zbh_F:PFn:=closeF (runF Tryz.prog zbh_E zbh_H Tryz.f93)
def zbh_Y:TH:={ loops:=[(2,{ keep:=[(3,(.int .i64))],mem:=[] })],ro:=[] }
def zbh_l2 (a0:List vV2) (y2:(Int×Unit)):Option ((Int×Unit)⊕Bool) :=
 cond (decide (y2.1<(a0.length:Int))) (
(atI a0 (IntKind.wrap .i64 (y2.1-1))).bind fun x1 =>
(atI a0 y2.1).bind fun x2 =>
(zat x1.1 x2.1).bind fun r3 =>
 cond (!decide (r3=(-1))) (
 some (.inr false)) (
 some (.inl ((IntKind.wrap .i64 (y2.1+1)),())))) (
 some (.inr true))
def zbh (a0:List vV2):Option Bool :=
 loopT (zbh_l2 a0) (1,())
def zbh_T:TFn:={ ps:=(.cons (.sl tT8) .unit),res:=.bool,fn:=fun v=>zbh v.1 }
def zbh_V:TEnv:=(vZ [(110,zat_T)])
theorem zbh_eq:runY Tryz.prog zbh_E zbh_H zbh_V zbh_Y Tryz.f93 zbh_T.ps zbh_T.res=zbh_T.fn:=by kernel_rfl
theorem zbh_Fok:SoundP Tryz.prog G0 93 zbh_F:=closeF_sound (runF_sound ⟨same_ok,(envP_cons zat_Fok envP_nil),envS_nil,envP_nil,envX_nil⟩ Tryz.func93 rfl (by kernel_rfl))
theorem zbh_ok:TOk zbh_F zbh_T:=runY_ok (E:=zbh_E) (ET:=zbh_V) (EnvT.ofX (pure_of (pairs_cons zat_ok pairs_nil)) looks_nil raws_nil G0_ok news_nil) zbh_eq rfl
def za6_E:Env:=(eZ [] [188])
def za6_H:Hints:=(hZ [(4,[0,3])] [])
def za6_F:PFn:=closeF (runF Tryz.prog za6_E za6_H Tryz.f24)
def za6_Y:TH:={ loops:=[(4,{ keep:=[(3,(.int .i64))],mem:=[] })],ro:=[] }
def za6_l4 (a0:List (List UInt8)) (y4:(Int×Unit)):Option ((Int×Unit)⊕Bool) :=
 cond (decide (y4.1<(a0.length:Int))) (
(atI a0 y4.1).bind fun x1 =>
 cond (decide ((x1.length:Int)>120)) (
 some (.inr false)) (
 some (.inl ((IntKind.wrap .i64 (y4.1+1)),())))) (
 some (.inr true))
def za6 (a0:List (List UInt8)):Option Bool :=
 cond (decide ((a0.length:Int)>12)) (
 some false) (
 loopT (za6_l4 a0) (0,()))
def za6_T:TFn:={ ps:=(.cons (.sl .str) .unit),res:=.bool,fn:=fun v=>za6 v.1 }
def za6_V:TEnv:=(vZ [])
theorem za6_eq:runY Tryz.prog za6_E za6_H za6_V za6_Y Tryz.f24 za6_T.ps za6_T.res=za6_T.fn:=by kernel_rfl
theorem za6_Fok:SoundP Tryz.prog G0 24 za6_F:=closeF_sound (runF_sound ⟨same_ok,envP_nil,envS_nil,envP_nil,envX_nil⟩ Tryz.func24 rfl (by kernel_rfl))
theorem za6_ok:TOk za6_F za6_T:=runY_ok (E:=za6_E) (ET:=za6_V) (EnvT.ofX (pure_of pairs_nil) looks_nil raws_nil G0_ok news_nil) za6_eq rfl
def zbo_E:Env:=(eZ [(24,za6_F)] [188])
def zbo_H:Hints:=(hZ [] [])
def zbo_F:PFn:=closeF (runF Tryz.prog zbo_E zbo_H Tryz.f11)
def zbo_Y:TH:={ loops:=[],ro:=[1] }
def zbo (a0:vV0):Option Bool :=
(za6 a0.2.1).bind fun r1 =>
 cond r1 (cond (decide ((a0.2.2.1.2.2.1.length:Int)≤200)) (some (decide ((a0.2.2.2.2.1.length:Int)≤300))) (some false)) (some false)
def zbo_T:TFn:={ ps:=(.cons tT6 .unit),res:=.bool,fn:=fun v=>zbo v.1 }
def zbo_V:TEnv:=(vZ [(24,za6_T)])
theorem zbo_eq:runY Tryz.prog zbo_E zbo_H zbo_V zbo_Y Tryz.f11 zbo_T.ps zbo_T.res=zbo_T.fn:=by kernel_rfl
theorem zbo_Fok:SoundP Tryz.prog G0 11 zbo_F:=closeF_sound (runF_sound ⟨same_ok,(envP_cons za6_Fok envP_nil),envS_nil,envP_nil,envX_nil⟩ Tryz.func11 rfl (by kernel_rfl))
theorem zbo_ok:TOk zbo_F zbo_T:=runY_ok (E:=zbo_E) (ET:=zbo_V) (EnvT.ofX (pure_of (pairs_cons za6_ok pairs_nil)) looks_nil raws_nil G0_ok news_nil) zbo_eq rfl
def za9_E:Env:=(eZ [(11,zbo_F)] [188])
def za9_H:Hints:=(hZ [(4,[1,3])] [])
def za9_F:PFn:=closeF (runF Tryz.prog za9_E za9_H Tryz.f94)
def za9_Y:TH:={ loops:=[(4,{ keep:=[(1,(.bx 0 0)),(3,(.int .i64))],mem:=[.same] })],ro:=[1] }
def za9_l4 (a0:vV2) (y4:(Int×Unit)):Option ((Int×Unit)⊕Bool) :=
 cond (decide (y4.1<(a0.2.2.2.2.1.length:Int))) (
(atI a0.2.2.2.2.1 y4.1).bind fun x1 =>
(zbo x1).bind fun r2 =>
 cond (!r2) (
 some (.inr false)) (
 some (.inl ((IntKind.wrap .i64 (y4.1+1)),())))) (
 some (.inr true))
def za9 (a0:vV2):Option Bool :=
 cond (decide ((a0.2.2.2.2.1.length:Int)>20)) (
 some false) (
 loopT (za9_l4 a0) (0,()))
def za9_T:TFn:={ ps:=(.cons tT8 .unit),res:=.bool,fn:=fun v=>za9 v.1 }
def za9_V:TEnv:=(vZ [(11,zbo_T)])
theorem za9_eq:runY Tryz.prog za9_E za9_H za9_V za9_Y Tryz.f94 za9_T.ps za9_T.res=za9_T.fn:=by kernel_rfl
theorem za9_Fok:SoundP Tryz.prog G0 94 za9_F:=closeF_sound (runF_sound ⟨same_ok,(envP_cons zbo_Fok envP_nil),envS_nil,envP_nil,envX_nil⟩ Tryz.func94 rfl (by kernel_rfl))
theorem za9_ok:TOk za9_F za9_T:=runY_ok (E:=za9_E) (ET:=za9_V) (EnvT.ofX (pure_of (pairs_cons zbo_ok pairs_nil)) looks_nil raws_nil G0_ok news_nil) za9_eq rfl
def zbj_E:Env:=(eZ [] [188])
def zbj_H:Hints:=(hZ [] [])
def zbj_F:PFn:=closeF (runF Tryz.prog zbj_E zbj_H Tryz.f116)
def zbj_Y:TH:={ loops:=[],ro:=[1] }
def zbj (a0:(Int×Int×Unit)):Option Bool :=
 cond (decide (a0.1≥0)) (cond (decide (a0.1≤15)) (cond (decide (a0.2.1≥1)) (some (decide (a0.2.1≤1048576))) (some false)) (some false)) (some false)
def zbj_T:TFn:={ ps:=tT13,res:=.bool,fn:=fun v=>zbj v.1 }
def zbj_V:TEnv:=(vZ [])
theorem zbj_eq:runY Tryz.prog zbj_E zbj_H zbj_V zbj_Y Tryz.f116 zbj_T.ps zbj_T.res=zbj_T.fn:=by kernel_rfl
theorem zbj_Fok:SoundP Tryz.prog G0 116 zbj_F:=closeF_sound (runF_sound ⟨same_ok,envP_nil,envS_nil,envP_nil,envX_nil⟩ Tryz.func116 rfl (by kernel_rfl))
theorem zbj_ok:TOk zbj_F zbj_T:=runY_ok (E:=zbj_E) (ET:=zbj_V) (EnvT.ofX (pure_of pairs_nil) looks_nil raws_nil G0_ok news_nil) zbj_eq rfl
def zbs_E:Env:=(eZ [] [188])
def zbs_H:Hints:=(hZ [(17,[0,4,5,6,7])] [])
def zbs_F:PFn:=closeF (runF Tryz.prog zbs_E zbs_H Tryz.f160)
def zbs_Y:TH:={ joins:=[(14,{ keep:=[(4,(.int .i64)),(5,(.int .i64)),(6,(.int .i64))],mem:=[] }),(9,{ keep:=[(18,.bool)],mem:=[] }),(22,{ keep:=[(4,(.int .i64))],mem:=[] }),(24,{ keep:=[],mem:=[] })],loops:=[(17,{ keep:=[(4,(.int .i64)),(7,(.int .i64))],mem:=[] })],ro:=[] }
def zbs_l17 (a0:List UInt8) (v3:(Int×Int×Int×Unit)) (y17:(Int×Int×Unit)):Option ((Int×Int×Unit)⊕((Int×Unit)⊕(Int×Int×Unit))) :=
 cond (decide (y17.2.1<v3.2.1)) (
(atI a0 y17.2.1).bind fun b4 =>
 cond (decide ((b4.toNat:Int)<128)) (some (.inr (.inr (0,0,())))) ((atI a0 y17.2.1).bind fun b5 =>
 cond (decide ((b5.toNat:Int)>191)) (
 some (.inr (.inr (0,0,())))) (
(atI a0 y17.2.1).bind fun b6 =>
 some (.inl ((IntKind.wrap .i64 ((IntKind.wrap .i64 ((IntKind.wrap .i64 (64*y17.1))+(IntKind.wrap .i64 (b6.toNat:Int))))-128)),(IntKind.wrap .i64 (y17.2.1+1)),()))))) (
 some (.inr (.inl (y17.1,()))))
def zbs (a0:List UInt8):Option (Int×Int×Unit) :=
 cond (decide ((a0.length:Int)=0)) (
 some (0,0,())) (
(atI a0 0).bind fun b1 =>
(cond (decide ((IntKind.wrap .i64 (b1.toNat:Int))<128)) (
 some (.inr ((IntKind.wrap .i64 (b1.toNat:Int)),1,()))) (
(cond (decide ((IntKind.wrap .i64 (b1.toNat:Int))≥194)) (some (.inl ((decide ((IntKind.wrap .i64 (b1.toNat:Int))<224)),()))) (some (.inl (false,()))):Option ((Bool×Unit)⊕((Int×Int×Int×Unit)⊕(Int×Int×Unit)))).bind (joinS fun v2 =>
 cond v2.1 (
 some (.inl ((IntKind.wrap .i64 ((IntKind.wrap .i64 (b1.toNat:Int))-192)),2,128,()))) (
 cond (decide ((IntKind.wrap .i64 (b1.toNat:Int))≥224)) (cond (decide ((IntKind.wrap .i64 (b1.toNat:Int))<240)) (
 some (.inl ((IntKind.wrap .i64 ((IntKind.wrap .i64 (b1.toNat:Int))-224)),3,2048,()))) (
 cond (decide ((IntKind.wrap .i64 (b1.toNat:Int))≥240)) (cond (decide ((IntKind.wrap .i64 (b1.toNat:Int))<245)) (
 some (.inl ((IntKind.wrap .i64 ((IntKind.wrap .i64 (b1.toNat:Int))-240)),4,65536,()))) (
 some (.inr (0,0,())))) (some (.inr (0,0,()))))) (cond (decide ((IntKind.wrap .i64 (b1.toNat:Int))≥240)) (cond (decide ((IntKind.wrap .i64 (b1.toNat:Int))<245)) (
 some (.inl ((IntKind.wrap .i64 ((IntKind.wrap .i64 (b1.toNat:Int))-240)),4,65536,()))) (
 some (.inr (0,0,())))) (some (.inr (0,0,()))))))):Option ((Int×Int×Int×Unit)⊕(Int×Int×Unit))).bind (joinS fun v3 =>
 cond (decide ((a0.length:Int)<v3.2.1)) (
 some (0,0,())) (
(loopT (zbs_l17 a0 v3) (v3.1,1,()):Option ((Int×Unit)⊕(Int×Int×Unit))).bind (joinS fun v7 =>
(cond (decide (v7.1<v3.2.2.1)) (some (.inr (0,0,()))) (cond (decide (v7.1>1114111)) (some (.inr (0,0,()))) (cond (decide (v7.1≥55296)) (cond (decide (v7.1≤57343)) (
 some (.inr (0,0,()))) (
 some (.inl ()))) (some (.inl ())))):Option (Unit⊕(Int×Int×Unit))).bind (joinS fun v8 =>
 some (v7.1,v3.2.1,()))))))
def zbs_T:TFn:={ ps:=(.cons .str .unit),res:=(.tup (.cons (.int .i64) tT9)),fn:=fun v=>zbs v.1 }
def zbs_V:TEnv:=(vZ [])
theorem zbs_eq:runY Tryz.prog zbs_E zbs_H zbs_V zbs_Y Tryz.f160 zbs_T.ps zbs_T.res=zbs_T.fn:=by kernel_rfl
theorem zbs_Fok:SoundP Tryz.prog G0 160 zbs_F:=closeF_sound (runF_sound ⟨same_ok,envP_nil,envS_nil,envP_nil,envX_nil⟩ Tryz.func160 rfl (by kernel_rfl))
theorem zbs_ok:TOk zbs_F zbs_T:=runY_ok (E:=zbs_E) (ET:=zbs_V) (EnvT.ofX (pure_of pairs_nil) looks_nil raws_nil G0_ok news_nil) zbs_eq rfl
def zbm_E:Env:=(eZ [(160,zbs_F)] [188])
def zbm_H:Hints:=(hZ [(3,[0,4,5])] [])
def zbm_F:PFn:=closeF (runF Tryz.prog zbm_E zbm_H Tryz.f115)
def zbm_Y:TH:={ loops:=[(3,{ keep:=[(4,(.own 0)),(5,(.int .i64))],mem:=[.row true 3 (.int .i64)] })],ro:=[] }
def zbm_l3 (a0:List UInt8) (y3:(Int×List Int×Unit)):Option ((Int×List Int×Unit)⊕(List Int×Bool×Unit)) :=
 cond (decide (y3.1<(a0.length:Int))) (
(subI a0 y3.1 (a0.length:Int)).bind fun s1 =>
(zbs s1).bind fun r2 =>
 cond (decide (r2.2.1=0)) (
 some (.inr ([],false,()))) (
(roomT (y3.2.1.length+([r2.1]:List Int).length)).bind fun u3 =>
 some (.inl ((IntKind.wrap .i64 (y3.1+r2.2.1)),(y3.2.1++([r2.1]:List Int)),())))) (
 some (.inr (y3.2.1,true,())))
def zbm (a0:List UInt8):Option (List Int×Bool×Unit) :=
 loopT (zbm_l3 a0) (0,[],())
def zbm_T:TFn:={ ps:=(.cons .str .unit),res:=(.tup (.cons (.sl (.int .i64)) (.cons .bool .unit))),fn:=fun v=>zbm v.1 }
def zbm_V:TEnv:={ pure:=[(160,zbs_T)],look:=[],glob:=G0T,ty:=[(3,(.int .i64))],raw:=[],fresh:=[] }
theorem zbm_eq:runY Tryz.prog zbm_E zbm_H zbm_V zbm_Y Tryz.f115 zbm_T.ps zbm_T.res=zbm_T.fn:=by kernel_rfl
theorem zbm_Fok:SoundP Tryz.prog G0 115 zbm_F:=closeF_sound (runF_sound ⟨same_ok,(envP_cons zbs_Fok envP_nil),envS_nil,envP_nil,envX_nil⟩ Tryz.func115 rfl (by kernel_rfl))
theorem zbm_ok:TOk zbm_F zbm_T:=runY_ok (E:=zbm_E) (ET:=zbm_V) (EnvT.ofX (pure_of (pairs_cons zbs_ok pairs_nil)) looks_nil raws_nil G0_ok news_nil) zbm_eq rfl
def zcg_E:Env:=(eZ [] [188])
def zcg_H:Hints:=(hZ [] [])
def zcg_F:PFn:=closeF (runF Tryz.prog zcg_E zcg_H Tryz.f159)
def zcg_Y:TH:=yZ
def zcg (a0:Int):Option Bool :=
 cond (decide (a0≥32)) (cond (decide (a0<127)) (some (!decide (a0=65533))) (cond (decide (a0>159)) (some (!decide (a0=65533))) (some false))) (some false)
def zcg_T:TFn:={ ps:=tT9,res:=.bool,fn:=fun v=>zcg v.1 }
def zcg_V:TEnv:=(vZ [])
theorem zcg_eq:runY Tryz.prog zcg_E zcg_H zcg_V zcg_Y Tryz.f159 zcg_T.ps zcg_T.res=zcg_T.fn:=by kernel_rfl
theorem zcg_Fok:SoundP Tryz.prog G0 159 zcg_F:=closeF_sound (runF_sound ⟨same_ok,envP_nil,envS_nil,envP_nil,envX_nil⟩ Tryz.func159 rfl (by kernel_rfl))
theorem zcg_ok:TOk zcg_F zcg_T:=runY_ok (E:=zcg_E) (ET:=zcg_V) (EnvT.ofX (pure_of pairs_nil) looks_nil raws_nil G0_ok news_nil) zcg_eq rfl
def zbf_E:Env:=(eZ [(115,zbm_F),(159,zcg_F)] [188])
def zbf_H:Hints:=(hZ [(3,[3,4,5])] [])
def zbf_F:PFn:=closeF (runF Tryz.prog zbf_E zbf_H Tryz.f114)
def zbf_Y:TH:={ joins:=[(7,{ keep:=[],mem:=[] })],loops:=[(3,{ keep:=[(5,(.int .i64))],mem:=[] })],ro:=[] }
def zbf_l3 (r1:(List Int×Bool×Unit)) (y3:(Int×Unit)):Option ((Int×Unit)⊕(Unit⊕Bool)) :=
 cond (decide (y3.1<(r1.1.length:Int))) (
(atI r1.1 y3.1).bind fun x2 =>
(zcg x2).bind fun r3 =>
 cond (!r3) (
 some (.inr (.inr false))) (
 some (.inl ((IntKind.wrap .i64 (y3.1+1)),())))) (
 some (.inr (.inl ())))
def zbf (a0:List UInt8):Option Bool :=
(zbm a0).bind fun r1 =>
(loopT (zbf_l3 r1) (0,()):Option (Unit⊕Bool)).bind (joinS fun v4 =>
 cond r1.2.1 (cond (decide ((r1.1.length:Int)≥1)) (some (decide ((r1.1.length:Int)≤24))) (some false)) (some false))
def zbf_T:TFn:={ ps:=(.cons .str .unit),res:=.bool,fn:=fun v=>zbf v.1 }
def zbf_V:TEnv:=(vZ [(115,zbm_T),(159,zcg_T)])
theorem zbf_eq:runY Tryz.prog zbf_E zbf_H zbf_V zbf_Y Tryz.f114 zbf_T.ps zbf_T.res=zbf_T.fn:=by kernel_rfl
theorem zbf_Fok:SoundP Tryz.prog G0 114 zbf_F:=closeF_sound (runF_sound ⟨same_ok,(envP_cons zbm_Fok (envP_cons zcg_Fok envP_nil)),envS_nil,envP_nil,envX_nil⟩ Tryz.func114 rfl (by kernel_rfl))
theorem zbf_ok:TOk zbf_F zbf_T:=runY_ok (E:=zbf_E) (ET:=zbf_V) (EnvT.ofX (pure_of (pairs_cons zbm_ok (pairs_cons zcg_ok pairs_nil))) looks_nil raws_nil G0_ok news_nil) zbf_eq rfl
def zbl_E:Env:=(eZ [(114,zbf_F)] [188])
def zbl_H:Hints:=(hZ [(6,[0,3])] [])
def zbl_F:PFn:=closeF (runF Tryz.prog zbl_E zbl_H Tryz.f59)
def zbl_Y:TH:={ loops:=[(6,{ keep:=[(3,(.int .i64))],mem:=[] })],ro:=[] }
def zbl_l6 (a0:List (List UInt8)) (y6:(Int×Unit)):Option ((Int×Unit)⊕Int) :=
 cond (decide (y6.1<(a0.length:Int))) (
(atI a0 y6.1).bind fun x1 =>
(zbf x1).bind fun r2 =>
 cond (!r2) (
 some (.inr 8)) (
 some (.inl ((IntKind.wrap .i64 (y6.1+1)),())))) (
 some (.inr 0))
def zbl (a0:List (List UInt8)):Option Int :=
 cond (decide ((a0.length:Int)=0)) (
 some 8) (
 cond (decide ((a0.length:Int)>8)) (
 some 9) (
 loopT (zbl_l6 a0) (0,())))
def zbl_T:TFn:={ ps:=(.cons (.sl .str) .unit),res:=(.int .i64),fn:=fun v=>zbl v.1 }
def zbl_V:TEnv:=(vZ [(114,zbf_T)])
theorem zbl_eq:runY Tryz.prog zbl_E zbl_H zbl_V zbl_Y Tryz.f59 zbl_T.ps zbl_T.res=zbl_T.fn:=by kernel_rfl
theorem zbl_Fok:SoundP Tryz.prog G0 59 zbl_F:=closeF_sound (runF_sound ⟨same_ok,(envP_cons zbf_Fok envP_nil),envS_nil,envP_nil,envX_nil⟩ Tryz.func59 rfl (by kernel_rfl))
theorem zbl_ok:TOk zbl_F zbl_T:=runY_ok (E:=zbl_E) (ET:=zbl_V) (EnvT.ofX (pure_of (pairs_cons zbf_ok pairs_nil)) looks_nil raws_nil G0_ok news_nil) zbl_eq rfl
def za8_E:Env:=(eZ [(115,zbm_F)] [188])
def za8_H:Hints:=(hZ [] [])
def za8_F:PFn:=closeF (runF Tryz.prog za8_E za8_H Tryz.f60)
def za8_Y:TH:={ loops:=[],ro:=[1] }
def za8 (a0:(Int×Int×List UInt8×Unit)):Option Bool :=
 cond (decide (a0.1=1)) (
 cond (decide (a0.2.2.1=[])) (cond (decide (a0.2.1≥(-2147483647))) (some (decide (a0.2.1≤2147483647))) (some false)) (some false)) (
 cond (decide (a0.1=2)) (
(zbm a0.2.2.1).bind fun r1 =>
 cond (decide (a0.2.1=0)) (cond r1.2.1 (some (decide ((a0.2.2.1.length:Int)≤64))) (some false)) (some false)) (
 cond (decide (a0.1=3)) (cond (decide (a0.2.2.1=[])) (cond (decide (a0.2.1≥0)) (some (decide (a0.2.1≤1))) (some false)) (some false)) (some false)))
def za8_T:TFn:={ ps:=(.cons tT11 .unit),res:=.bool,fn:=fun v=>za8 v.1 }
def za8_V:TEnv:=(vZ [(115,zbm_T)])
theorem za8_eq:runY Tryz.prog za8_E za8_H za8_V za8_Y Tryz.f60 za8_T.ps za8_T.res=za8_T.fn:=by kernel_rfl
theorem za8_Fok:SoundP Tryz.prog G0 60 za8_F:=closeF_sound (runF_sound ⟨same_ok,(envP_cons zbm_Fok envP_nil),envS_nil,envP_nil,envX_nil⟩ Tryz.func60 rfl (by kernel_rfl))
theorem za8_ok:TOk za8_F za8_T:=runY_ok (E:=za8_E) (ET:=za8_V) (EnvT.ofX (pure_of (pairs_cons zbm_ok pairs_nil)) looks_nil raws_nil G0_ok news_nil) za8_eq rfl
def zbp_E:Env:=(eZ [(110,zat_F),(111,zbv_F)] [188])
def zbp_H:Hints:=(hZ [] [])
def zbp_F:PFn:=closeF (runF Tryz.prog zbp_E zbp_H Tryz.f56)
def zbp_Y:TH:={ loops:=[],ro:=[2,3] }
def zbp (a0:vV1) (a1:vV1):Option Int :=
(zat a0.1 a1.1).bind fun r1 =>
 cond (!decide (r1=0)) (
(zat a0.1 a1.1).bind fun r2 =>
 some r2) (
(zbv a0.2.1 a1.2.1).bind fun r3 =>
 some r3)
def zbp_T:TFn:={ ps:=(.cons tT7 (.cons tT7 .unit)),res:=(.int .i64),fn:=fun v=>zbp v.1 v.2.1 }
def zbp_V:TEnv:=(vZ [(110,zat_T),(111,zbv_T)])
theorem zbp_eq:runY Tryz.prog zbp_E zbp_H zbp_V zbp_Y Tryz.f56 zbp_T.ps zbp_T.res=zbp_T.fn:=by kernel_rfl
theorem zbp_Fok:SoundP Tryz.prog G0 56 zbp_F:=closeF_sound (runF_sound ⟨same_ok,(envP_cons zat_Fok (envP_cons zbv_Fok envP_nil)),envS_nil,envP_nil,envX_nil⟩ Tryz.func56 rfl (by kernel_rfl))
theorem zbp_ok:TOk zbp_F zbp_T:=runY_ok (E:=zbp_E) (ET:=zbp_V) (EnvT.ofX (pure_of (pairs_cons zat_ok (pairs_cons zbv_ok pairs_nil))) looks_nil raws_nil G0_ok news_nil) zbp_eq rfl
def zbx_E:Env:=(eZ [(56,zbp_F),(116,zbj_F)] [188])
def zbx_H:Hints:=(hZ [(2,[0,3])] [])
def zbx_F:PFn:=closeF (runF Tryz.prog zbx_E zbx_H Tryz.f61)
def zbx_Y:TH:={ loops:=[(2,{ keep:=[(3,(.int .i64))],mem:=[] })],ro:=[] }
def zbx_l2 (a0:List vV1) (y2:(Int×Unit)):Option ((Int×Unit)⊕Bool) :=
 cond (decide (y2.1<(a0.length:Int))) (
(atI a0 y2.1).bind fun x1 =>
(zbj x1.1).bind fun r2 =>
 cond (!r2) (some (.inr false)) ((atI a0 y2.1).bind fun x3 =>
 cond (decide (x3.2.1<0)) (some (.inr false)) ((atI a0 y2.1).bind fun x4 =>
 cond (decide (x4.2.1>15)) (
 some (.inr false)) (
 cond (decide (y2.1>0)) ((atI a0 (IntKind.wrap .i64 (y2.1-1))).bind fun x5 =>
(atI a0 y2.1).bind fun x6 =>
(zbp x5 x6).bind fun r7 =>
 cond (!decide (r7=(-1))) (
 some (.inr false)) (
 some (.inl ((IntKind.wrap .i64 (y2.1+1)),())))) (some (.inl ((IntKind.wrap .i64 (y2.1+1)),()))))))) (
 some (.inr true))
def zbx (a0:List vV1):Option Bool :=
 loopT (zbx_l2 a0) (0,())
def zbx_T:TFn:={ ps:=(.cons (.sl tT7) .unit),res:=.bool,fn:=fun v=>zbx v.1 }
def zbx_V:TEnv:=(vZ [(56,zbp_T),(116,zbj_T)])
theorem zbx_eq:runY Tryz.prog zbx_E zbx_H zbx_V zbx_Y Tryz.f61 zbx_T.ps zbx_T.res=zbx_T.fn:=by kernel_rfl
theorem zbx_Fok:SoundP Tryz.prog G0 61 zbx_F:=closeF_sound (runF_sound ⟨same_ok,(envP_cons zbp_Fok (envP_cons zbj_Fok envP_nil)),envS_nil,envP_nil,envX_nil⟩ Tryz.func61 rfl (by kernel_rfl))
theorem zbx_ok:TOk zbx_F zbx_T:=runY_ok (E:=zbx_E) (ET:=zbx_V) (EnvT.ofX (pure_of (pairs_cons zbp_ok (pairs_cons zbj_ok pairs_nil))) looks_nil raws_nil G0_ok news_nil) zbx_eq rfl
def zba_E:Env:=(eZ [(59,zbl_F),(60,za8_F),(61,zbx_F)] [188])
def zba_H:Hints:=(hZ [] [])
def zba_F:PFn:=closeF (runF Tryz.prog zba_E zba_H Tryz.f18)
def zba_Y:TH:={ joins:=[(9,{ keep:=[(1,(.bx 0 0))],mem:=[.same,.gone] }),(11,{ keep:=[(1,(.bx 0 0))],mem:=[.same,.gone] }),(13,{ keep:=[(1,(.bx 0 0))],mem:=[.same,.gone] }),(15,{ keep:=[(1,(.bx 0 0))],mem:=[.same,.gone] })],loops:=[],cuts:=[(11,[(8,{ keep:=[(1,(.bx 0 0)),(55,.bool)],mem:=[.same,.gone] })])],ro:=[1],news:=[] }
def zba (a0:vV0):Option Int :=
 cond (decide (a0.1<1)) (some 18) (cond (decide (a0.1>5)) (
 some 18) (
(zbl a0.2.1).bind fun r1 =>
 cond (!decide (r1=0)) (
 some r1) (
(cond (decide (a0.1=3)) (cond (!(eqV tT11 a0.2.2.1 (0,0,[],()))) (
 some (.inr 2)) (
 some (.inl ()))) (cond (decide (a0.1=5)) (cond (!(eqV tT11 a0.2.2.1 (0,0,[],()))) (
 some (.inr 2)) (
 some (.inl ()))) (some (.inl ()))):Option (Unit⊕Int)).bind (joinS fun v2 =>
(cond (!decide (a0.1=3)) (cond (!decide (a0.1=5)) ((za8 a0.2.2.1).bind fun r3 =>
 cond (!r3) (
 some (.inr 2)) (
 some (.inl ()))) (some (.inl ()))) (some (.inl ())):Option (Unit⊕Int)).bind (joinS fun v4 =>
((cond (!decide (a0.1=3)) (some ((!decide (a0.2.2.2.1=0)),())) (some (false,())):Option (Bool×Unit)).bind fun v5 =>
 cond v5.1 (some (.inr 2)) (cond (decide (a0.1=3)) (cond (decide (a0.2.2.2.1=0)) (some (.inr 2)) (cond (decide (a0.2.2.2.1>2147483647)) (some (.inr 2)) (cond (decide (a0.2.2.2.1<(-2147483647))) (
 some (.inr 2)) (
 some (.inl ()))))) (some (.inl ()))):Option (Unit⊕Int)).bind (joinS fun v6 =>
(cond (decide (a0.1=2)) (cond (decide ((a0.2.2.2.2.1.length:Int)>0)) (
 some (.inr 2)) (
 some (.inl ()))) (cond (decide (a0.1=3)) (cond (decide ((a0.2.2.2.2.1.length:Int)>0)) (
 some (.inr 2)) (
 some (.inl ()))) (some (.inl ()))):Option (Unit⊕Int)).bind (joinS fun v7 =>
 cond (decide ((a0.2.2.2.2.1.length:Int)>256)) (
 some 7) (
(zbx a0.2.2.2.2.1).bind fun r8 =>
 cond (!r8) (
 some 2) (
 some 0)))))))))
def zba_T:TFn:={ ps:=(.cons tT6 .unit),res:=(.int .i64),fn:=fun v=>zba v.1 }
def zba_V:TEnv:=(vZ [(59,zbl_T),(60,za8_T),(61,zbx_T)])
theorem zba_eq:runY Tryz.prog zba_E zba_H zba_V zba_Y Tryz.f18 zba_T.ps zba_T.res=zba_T.fn:=by kernel_rfl
theorem zba_Fok:SoundP Tryz.prog G0 18 zba_F:=closeF_sound (runF_sound ⟨same_ok,(envP_cons zbl_Fok (envP_cons za8_Fok (envP_cons zbx_Fok envP_nil))),envS_nil,envP_nil,envX_nil⟩ Tryz.func18 rfl (by kernel_rfl))
theorem zba_ok:TOk zba_F zba_T:=runY_ok (E:=zba_E) (ET:=zba_V) (EnvT.ofX (pure_of (pairs_cons zbl_ok (pairs_cons za8_ok (pairs_cons zbx_ok pairs_nil)))) looks_nil raws_nil G0_ok news_nil) zba_eq rfl
def zb2_E:Env:=(eZ [] [188])
def zb2_H:Hints:=(hZ [] [])
def zb2_F:PFn:=closeF (runF Tryz.prog zb2_E zb2_H Tryz.f19)
def zb2_Y:TH:={ loops:=[],cuts:=[(2,[(9,{ keep:=[(1,(.bx 0 0)),(3,(.bx 1 0)),(13,.bool)],mem:=[.same,.box 26 tT11] })])],ro:=[1],news:=[] }
def zb2 (a0:vV0):Option Bool :=
(cond (decide (a0.1=0)) (some ((decide ((a0.2.1.length:Int)=0)),(0,0,[],()),())) (some (false,(0,0,[],()),())):Option (Bool×(Int×Int×List UInt8×Unit)×Unit)).bind fun v1 =>
 cond v1.1 (cond (eqV tT11 a0.2.2.1 v1.2.1) (cond (decide (a0.2.2.2.1=0)) (some (decide ((a0.2.2.2.2.1.length:Int)=0))) (some false)) (some false)) (some false)
def zb2_T:TFn:={ ps:=(.cons tT6 .unit),res:=.bool,fn:=fun v=>zb2 v.1 }
def zb2_V:TEnv:=(vZ [])
theorem zb2_eq:runY Tryz.prog zb2_E zb2_H zb2_V zb2_Y Tryz.f19 zb2_T.ps zb2_T.res=zb2_T.fn:=by kernel_rfl
theorem zb2_Fok:SoundP Tryz.prog G0 19 zb2_F:=closeF_sound (runF_sound ⟨same_ok,envP_nil,envS_nil,envP_nil,envX_nil⟩ Tryz.func19 rfl (by kernel_rfl))
theorem zb2_ok:TOk zb2_F zb2_T:=runY_ok (E:=zb2_E) (ET:=zb2_V) (EnvT.ofX (pure_of pairs_nil) looks_nil raws_nil G0_ok news_nil) zb2_eq rfl
def zbc_E:Env:=(eZ [(18,zba_F),(19,zb2_F),(116,zbj_F)] [188])
def zbc_H:Hints:=(hZ [(8,[1,3])] [])
def zbc_F:PFn:=closeF (runF Tryz.prog zbc_E zbc_H Tryz.f95)
def zbc_Y:TH:={ loops:=[(8,{ keep:=[(1,(.bx 0 0)),(3,(.int .i64))],mem:=[.same] })],cuts:=[(1,[(9,{ keep:=[(1,(.bx 0 0)),(13,.bool)],mem:=[.same] })])],ro:=[1],news:=[] }
def zbc_l8 (a0:vV2) (y8:(Int×Unit)):Option ((Int×Unit)⊕Int) :=
 cond (decide (y8.1<(a0.2.2.2.2.1.length:Int))) (
(atI a0.2.2.2.2.1 y8.1).bind fun x3 =>
(zba x3).bind fun r4 =>
 cond (!decide (r4=0)) (cond a0.2.2.2.1 ((atI a0.2.2.2.2.1 y8.1).bind fun x5 =>
(zb2 x5).bind fun r6 =>
 cond (!r6) (
 some (.inr r4)) (
 some (.inl ((IntKind.wrap .i64 (y8.1+1)),())))) (some (.inr r4))) (some (.inl ((IntKind.wrap .i64 (y8.1+1)),())))) (
 some (.inr 0))
def zbc (a0:vV2):Option Int :=
((zbj a0.1).bind fun r1 =>
 cond (!r1) (some (true,())) (some ((decide (a0.2.1<0)),())):Option (Bool×Unit)).bind fun v2 =>
 cond v2.1 (some 2) (cond (decide (a0.2.1>7)) (some 2) (cond (decide (a0.2.2.1<1)) (some 2) (cond (decide (a0.2.2.1>1099511627776)) (
 some 2) (
 cond (decide ((a0.2.2.2.2.1.length:Int)=0)) (
 some 11) (
 cond (decide ((a0.2.2.2.2.1.length:Int)>16)) (
 some 7) (
 loopT (zbc_l8 a0) (0,())))))))
def zbc_T:TFn:={ ps:=(.cons tT8 .unit),res:=(.int .i64),fn:=fun v=>zbc v.1 }
def zbc_V:TEnv:=(vZ [(18,zba_T),(19,zb2_T),(116,zbj_T)])
theorem zbc_eq:runY Tryz.prog zbc_E zbc_H zbc_V zbc_Y Tryz.f95 zbc_T.ps zbc_T.res=zbc_T.fn:=by kernel_rfl
theorem zbc_Fok:SoundP Tryz.prog G0 95 zbc_F:=closeF_sound (runF_sound ⟨same_ok,(envP_cons zba_Fok (envP_cons zb2_Fok (envP_cons zbj_Fok envP_nil))),envS_nil,envP_nil,envX_nil⟩ Tryz.func95 rfl (by kernel_rfl))
theorem zbc_ok:TOk zbc_F zbc_T:=runY_ok (E:=zbc_E) (ET:=zbc_V) (EnvT.ofX (pure_of (pairs_cons zba_ok (pairs_cons zb2_ok (pairs_cons zbj_ok pairs_nil)))) looks_nil raws_nil G0_ok news_nil) zbc_eq rfl
def zb3_E:Env:=(eZ [(93,zbh_F),(94,za9_F),(95,zbc_F)] [188])
def zb3_H:Hints:=(hZ [(4,[0,5])] [])
def zb3_F:PFn:=closeF (runF Tryz.prog zb3_E zb3_H Tryz.f46)
def zb3_Y:TH:={ loops:=[(4,{ keep:=[(5,(.int .i64))],mem:=[] })],ro:=[] }
def zb3_l4 (a0:List vV2) (y4:(Int×Unit)):Option ((Int×Unit)⊕Bool) :=
 cond (decide (y4.1<(a0.length:Int))) (
(atI a0 y4.1).bind fun x2 =>
(za9 x2).bind fun r3 =>
 cond (!r3) (some (.inr false)) ((atI a0 y4.1).bind fun x4 =>
(zbc x4).bind fun r5 =>
 cond (!decide (r5=0)) (
 some (.inr false)) (
 some (.inl ((IntKind.wrap .i64 (y4.1+1)),()))))) (
 some (.inr true))
def zb3 (a0:List vV2) (a1:Int):Option Bool :=
 cond (decide ((a0.length:Int)>a1)) (some false) ((zbh a0).bind fun r1 =>
 cond (!r1) (
 some false) (
 loopT (zb3_l4 a0) (0,())))
def zb3_T:TFn:={ ps:=(.cons (.sl tT8) tT9),res:=.bool,fn:=fun v=>zb3 v.1 v.2.1 }
def zb3_V:TEnv:=(vZ [(93,zbh_T),(94,za9_T),(95,zbc_T)])
theorem zb3_eq:runY Tryz.prog zb3_E zb3_H zb3_V zb3_Y Tryz.f46 zb3_T.ps zb3_T.res=zb3_T.fn:=by kernel_rfl
theorem zb3_Fok:SoundP Tryz.prog G0 46 zb3_F:=closeF_sound (runF_sound ⟨same_ok,(envP_cons zbh_Fok (envP_cons za9_Fok (envP_cons zbc_Fok envP_nil))),envS_nil,envP_nil,envX_nil⟩ Tryz.func46 rfl (by kernel_rfl))
theorem zb3_ok:TOk zb3_F zb3_T:=runY_ok (E:=zb3_E) (ET:=zb3_V) (EnvT.ofX (pure_of (pairs_cons zbh_ok (pairs_cons za9_ok (pairs_cons zbc_ok pairs_nil)))) looks_nil raws_nil G0_ok news_nil) zb3_eq rfl
def zcd_E:Env:=(eZ [(116,zbj_F)] [188])
def zcd_H:Hints:=(hZ [] [])
def zcd_F:PFn:=closeF (runF Tryz.prog zcd_E zcd_H Tryz.f151)
def zcd_Y:TH:={ loops:=[],ro:=[1] }
def zcd (a0:vV1):Option Bool :=
(zbj a0.1).bind fun r1 =>
 cond r1 (cond (decide (a0.2.1≥1)) (some (decide (a0.2.1≤64))) (some false)) (some false)
def zcd_T:TFn:={ ps:=(.cons tT7 .unit),res:=.bool,fn:=fun v=>zcd v.1 }
def zcd_V:TEnv:=(vZ [(116,zbj_T)])
theorem zcd_eq:runY Tryz.prog zcd_E zcd_H zcd_V zcd_Y Tryz.f151 zcd_T.ps zcd_T.res=zcd_T.fn:=by kernel_rfl
theorem zcd_Fok:SoundP Tryz.prog G0 151 zcd_F:=closeF_sound (runF_sound ⟨same_ok,(envP_cons zbj_Fok envP_nil),envS_nil,envP_nil,envX_nil⟩ Tryz.func151 rfl (by kernel_rfl))
theorem zcd_ok:TOk zcd_F zcd_T:=runY_ok (E:=zcd_E) (ET:=zcd_V) (EnvT.ofX (pure_of (pairs_cons zbj_ok pairs_nil)) looks_nil raws_nil G0_ok news_nil) zcd_eq rfl
def zbe_E:Env:=(eZ [(110,zat_F),(151,zcd_F)] [188])
def zbe_H:Hints:=(hZ [(2,[0,3])] [])
def zbe_F:PFn:=closeF (runF Tryz.prog zbe_E zbe_H Tryz.f96)
def zbe_Y:TH:={ loops:=[(2,{ keep:=[(3,(.int .i64))],mem:=[] })],ro:=[] }
def zbe_l2 (a0:List vV1) (y2:(Int×Unit)):Option ((Int×Unit)⊕Bool) :=
 cond (decide (y2.1<(a0.length:Int))) (
(atI a0 y2.1).bind fun x1 =>
(zcd x1).bind fun r2 =>
 cond (!r2) (some (.inr false)) (cond (decide (y2.1>0)) ((atI a0 (IntKind.wrap .i64 (y2.1-1))).bind fun x3 =>
(atI a0 y2.1).bind fun x4 =>
(zat x3.1 x4.1).bind fun r5 =>
 cond (!decide (r5=(-1))) (
 some (.inr false)) (
 some (.inl ((IntKind.wrap .i64 (y2.1+1)),())))) (some (.inl ((IntKind.wrap .i64 (y2.1+1)),()))))) (
 some (.inr true))
def zbe (a0:List vV1):Option Bool :=
 loopT (zbe_l2 a0) (0,())
def zbe_T:TFn:={ ps:=(.cons (.sl tT7) .unit),res:=.bool,fn:=fun v=>zbe v.1 }
def zbe_V:TEnv:=(vZ [(110,zat_T),(151,zcd_T)])
theorem zbe_eq:runY Tryz.prog zbe_E zbe_H zbe_V zbe_Y Tryz.f96 zbe_T.ps zbe_T.res=zbe_T.fn:=by kernel_rfl
theorem zbe_Fok:SoundP Tryz.prog G0 96 zbe_F:=closeF_sound (runF_sound ⟨same_ok,(envP_cons zat_Fok (envP_cons zcd_Fok envP_nil)),envS_nil,envP_nil,envX_nil⟩ Tryz.func96 rfl (by kernel_rfl))
theorem zbe_ok:TOk zbe_F zbe_T:=runY_ok (E:=zbe_E) (ET:=zbe_V) (EnvT.ofX (pure_of (pairs_cons zat_ok (pairs_cons zcd_ok pairs_nil))) looks_nil raws_nil G0_ok news_nil) zbe_eq rfl
def zbu_E:Env:=(eZ [(96,zbe_F)] [188])
def zbu_H:Hints:=(hZ [] [])
def zbu_F:PFn:=closeF (runF Tryz.prog zbu_E zbu_H Tryz.f47)
def zbu_Y:TH:=yZ
def zbu (a0:List vV1):Option Bool :=
 cond (decide ((a0.length:Int)≤100)) ((zbe a0).bind fun r1 =>
 some r1) (some false)
def zbu_T:TFn:={ ps:=(.cons (.sl tT7) .unit),res:=.bool,fn:=fun v=>zbu v.1 }
def zbu_V:TEnv:=(vZ [(96,zbe_T)])
theorem zbu_eq:runY Tryz.prog zbu_E zbu_H zbu_V zbu_Y Tryz.f47 zbu_T.ps zbu_T.res=zbu_T.fn:=by kernel_rfl
theorem zbu_Fok:SoundP Tryz.prog G0 47 zbu_F:=closeF_sound (runF_sound ⟨same_ok,(envP_cons zbe_Fok envP_nil),envS_nil,envP_nil,envX_nil⟩ Tryz.func47 rfl (by kernel_rfl))
theorem zbu_ok:TOk zbu_F zbu_T:=runY_ok (E:=zbu_E) (ET:=zbu_V) (EnvT.ofX (pure_of (pairs_cons zbe_ok pairs_nil)) looks_nil raws_nil G0_ok news_nil) zbu_eq rfl
def zb1_E:Env:=(eZ [(46,zb3_F),(47,zbu_F)] [188])
def zb1_H:Hints:=(hZ [] [])
def zb1_F:PFn:=closeF (runF Tryz.prog zb1_E zb1_H Tryz.f10)
def zb1_Y:TH:=yZ
def zb1 (a0:List vV2) (a1:List vV1):Option Bool :=
(zb3 a0 20).bind fun r1 =>
 cond r1 ((zbu a1).bind fun r2 =>
 some r2) (some false)
def zb1_T:TFn:={ ps:=(.cons (.sl tT8) (.cons (.sl tT7) .unit)),res:=.bool,fn:=fun v=>zb1 v.1 v.2.1 }
def zb1_V:TEnv:=(vZ [(46,zb3_T),(47,zbu_T)])
theorem zb1_eq:runY Tryz.prog zb1_E zb1_H zb1_V zb1_Y Tryz.f10 zb1_T.ps zb1_T.res=zb1_T.fn:=by kernel_rfl
theorem zb1_Fok:SoundP Tryz.prog G0 10 zb1_F:=closeF_sound (runF_sound ⟨same_ok,(envP_cons zb3_Fok (envP_cons zbu_Fok envP_nil)),envS_nil,envP_nil,envX_nil⟩ Tryz.func10 rfl (by kernel_rfl))
theorem zb1_ok:TOk zb1_F zb1_T:=runY_ok (E:=zb1_E) (ET:=zb1_V) (EnvT.ofX (pure_of (pairs_cons zb3_ok (pairs_cons zbu_ok pairs_nil))) looks_nil raws_nil G0_ok news_nil) zb1_eq rfl
def za0_E:Env:=(eZ [] [188])
def za0_H:Hints:=(hZ [] [])
def za0_F:PFn:=closeF (runF Tryz.prog za0_E za0_H Tryz.f174)
def za0_Y:TH:=yZ
def za0 (a0:Int):Option Bool :=
 some (!decide (a0=a0))
def za0_T:TFn:={ ps:=tT9,res:=.bool,fn:=fun v=>za0 v.1 }
def za0_V:TEnv:=(vZ [])
theorem za0_eq:runY Tryz.prog za0_E za0_H za0_V za0_Y Tryz.f174 za0_T.ps za0_T.res=za0_T.fn:=by kernel_rfl
theorem za0_Fok:SoundP Tryz.prog G0 174 za0_F:=closeF_sound (runF_sound ⟨same_ok,envP_nil,envS_nil,envP_nil,envX_nil⟩ Tryz.func174 rfl (by kernel_rfl))
theorem za0_ok:TOk za0_F za0_T:=runY_ok (E:=za0_E) (ET:=za0_V) (EnvT.ofX (pure_of pairs_nil) looks_nil raws_nil G0_ok news_nil) za0_eq rfl
def zas_E:Env:=(eZ [(174,za0_F)] [188])
def zas_H:Hints:=(hZ [] [])
def zas_F:PFn:=closeF (runF Tryz.prog zas_E zas_H Tryz.f126)
def zas_Y:TH:=yZ
def zas (a0:Int) (a1:Int):Option Int :=
(za0 a0).bind fun r1 =>
(za0 a1).bind fun r2 =>
 cond r1 (
 cond r2 (
 some 0) (
 some (-1))) (
 cond r2 (
 some 1) (
 cond (decide (a0<a1)) (
 some (-1)) (
 cond (decide (a0>a1)) (
 some 1) (
 some 0))))
def zas_T:TFn:={ ps:=(.cons (.int .i64) tT9),res:=(.int .i64),fn:=fun v=>zas v.1 v.2.1 }
def zas_V:TEnv:=(vZ [(174,za0_T)])
theorem zas_eq:runY Tryz.prog zas_E zas_H zas_V zas_Y Tryz.f126 zas_T.ps zas_T.res=zas_T.fn:=by kernel_rfl
theorem zas_Fok:SoundP Tryz.prog G0 126 zas_F:=closeF_sound (runF_sound ⟨same_ok,(envP_cons za0_Fok envP_nil),envS_nil,envP_nil,envX_nil⟩ Tryz.func126 rfl (by kernel_rfl))
theorem zas_ok:TOk zas_F zas_T:=runY_ok (E:=zas_E) (ET:=zas_V) (EnvT.ofX (pure_of (pairs_cons za0_ok pairs_nil)) looks_nil raws_nil G0_ok news_nil) zas_eq rfl
def zb4_E:Env:=(eZ [] [188])
def zb4_H:Hints:=(hZ [(3,[3,6,7,8])] [])
def zb4_F:PFn:=closeF (runF Tryz.prog zb4_E zb4_H Tryz.f124)
def zb4_Y:TH:={ loops:=[(3,{ keep:=[(8,(.int .i64))],mem:=[] })],ro:=[] }
def zb4_l3 (a0:List Int) (y3:(Int×Unit)):Option ((Int×Unit)⊕Int) :=
 cond (decide (y3.1<(a0.length:Int))) (
(atI a0 y3.1).bind fun x1 =>
 cond (!decide (x1=0)) (
 some (.inr x1)) (
 some (.inl ((IntKind.wrap .i64 (y3.1+1)),())))) (
 some (.inr 0))
def zb4 (a0:List Int):Option Int :=
 loopT (zb4_l3 a0) (0,())
def zb4_T:TFn:={ ps:=(.cons (.sl (.int .i64)) .unit),res:=(.int .i64),fn:=fun v=>zb4 v.1 }
def zb4_V:TEnv:=(vZ [])
theorem zb4_eq:runY Tryz.prog zb4_E zb4_H zb4_V zb4_Y Tryz.f124 zb4_T.ps zb4_T.res=zb4_T.fn:=by kernel_rfl
theorem zb4_Fok:SoundP Tryz.prog G0 124 zb4_F:=closeF_sound (runF_sound ⟨same_ok,envP_nil,envS_nil,envP_nil,envX_nil⟩ Tryz.func124 rfl (by kernel_rfl))
theorem zb4_ok:TOk zb4_F zb4_T:=runY_ok (E:=zb4_E) (ET:=zb4_V) (EnvT.ofX (pure_of pairs_nil) looks_nil raws_nil G0_ok news_nil) zb4_eq rfl
def za5_E:Env:=(eZ [(124,zb4_F),(126,zas_F)] [188])
def za5_H:Hints:=(hZ [] [])
def za5_F:PFn:=closeF (runF Tryz.prog za5_E za5_H Tryz.f119)
def za5_Y:TH:={ loops:=[],ro:=[2,3] }
def za5 (a0:(Int×Int×Unit)) (a1:(Int×Int×Unit)):Option Int :=
(zas a0.1 a1.1).bind fun r1 =>
(zas a0.2.1 a1.2.1).bind fun r2 =>
(zb4 ([r1,r2]:List Int)).bind fun r3 =>
 some r3
def za5_T:TFn:={ ps:=(.cons (.agg (.cons (.int .i64) tT9)) tT13),res:=(.int .i64),fn:=fun v=>za5 v.1 v.2.1 }
def za5_V:TEnv:={ pure:=[(124,zb4_T),(126,zas_T)],look:=[],glob:=G0T,ty:=[(3,(.int .i64))],raw:=[],fresh:=[] }
theorem za5_eq:runY Tryz.prog za5_E za5_H za5_V za5_Y Tryz.f119 za5_T.ps za5_T.res=za5_T.fn:=by kernel_rfl
theorem za5_Fok:SoundP Tryz.prog G0 119 za5_F:=closeF_sound (runF_sound ⟨same_ok,(envP_cons zb4_Fok (envP_cons zas_Fok envP_nil)),envS_nil,envP_nil,envX_nil⟩ Tryz.func119 rfl (by kernel_rfl))
theorem za5_ok:TOk za5_F za5_T:=runY_ok (E:=za5_E) (ET:=za5_V) (EnvT.ofX (pure_of (pairs_cons zb4_ok (pairs_cons zas_ok pairs_nil))) looks_nil raws_nil G0_ok news_nil) za5_eq rfl
def zaw_E:Env:=(eZ [(119,za5_F)] [188])
def zaw_H:Hints:=(hZ [] [])
def zaw_F:PFn:=closeF (runF Tryz.prog zaw_E zaw_H Tryz.f191)
def zaw_Y:TH:={ loops:=[],ro:=[2,3] }
def zaw (a0:vV1) (a1:vV1):Option Int :=
(za5 a0.1 a1.1).bind fun r1 =>
 some r1
def zaw_T:TFn:={ ps:=(.cons tT7 (.cons tT7 .unit)),res:=(.int .i64),fn:=fun v=>zaw v.1 v.2.1 }
def zaw_V:TEnv:=(vZ [(119,za5_T)])
theorem zaw_eq:runY Tryz.prog zaw_E zaw_H zaw_V zaw_Y Tryz.f191 zaw_T.ps zaw_T.res=zaw_T.fn:=by kernel_rfl
theorem zaw_Fok:SoundP Tryz.prog G0 191 zaw_F:=closeF_sound (runF_sound ⟨same_ok,(envP_cons za5_Fok envP_nil),envS_nil,envP_nil,envX_nil⟩ Tryz.func191 rfl (by kernel_rfl))
theorem zaw_ok:TOk zaw_F zaw_T:=runY_ok (E:=zaw_E) (ET:=zaw_V) (EnvT.ofX (pure_of (pairs_cons za5_ok pairs_nil)) looks_nil raws_nil G0_ok news_nil) zaw_eq rfl
def zaa_E:Env:=(eZ [(191,zaw_F)] [188])
def zaa_H:Hints:=(hZ [(3,[0,2,4,8,9,10])] [])
def zaa_F:PFn:=closeF (runF Tryz.prog zaa_E zaa_H Tryz.f190)
def zaa_Y:TH:={ joins:=[(8,{ keep:=[(4,(.bx 0 0)),(9,(.int .i64))],mem:=[.same] })],loops:=[(3,{ keep:=[(4,(.bx 0 0)),(9,(.int .i64)),(10,(.int .i64))],mem:=[.same] })],ro:=[4] }
def zaa_l3 (a0:List vV1) (a1:vV1) (y3:(Int×Int×Unit)):Option ((Int×Int×Unit)⊕((Int×Unit)⊕(Int×Bool×Unit))) :=
 cond (decide (y3.1<y3.2.1)) (
(shrT .u64 (IntKind.wrap .u64 (IntKind.wrap .i64 (y3.1+y3.2.1))) 1).bind fun t1 =>
(atI a0 (IntKind.wrap .i64 t1)).bind fun x2 =>
(zaw x2 a1).bind fun r3 =>
 cond (decide (r3<0)) (
 some (.inl ((IntKind.wrap .i64 ((IntKind.wrap .i64 t1)+1)),y3.2.1,()))) (
 some (.inl (y3.1,(IntKind.wrap .i64 t1),())))) (
 some (.inr (.inl (y3.1,()))))
def zaa (a0:List vV1) (a1:vV1) (a2:Unit):Option (Int×Bool×Unit) :=
(loopT (zaa_l3 a0 a1) (0,(a0.length:Int),()):Option ((Int×Unit)⊕(Int×Bool×Unit))).bind (joinS fun v4 =>
 cond (decide (v4.1<(a0.length:Int))) ((atI a0 v4.1).bind fun x5 =>
(zaw x5 a1).bind fun r6 =>
 some (v4.1,(decide (r6=0)),())) (some (v4.1,false,())))
def zaa_T:TFn:={ ps:=(.cons (.sl tT7) (.cons tT7 (.cons (.fn 191) .unit))),res:=(.tup (.cons (.int .i64) (.cons .bool .unit))),fn:=fun v=>zaa v.1 v.2.1 v.2.2.1 }
def zaa_V:TEnv:=(vZ [(191,zaw_T)])
theorem zaa_eq:runY Tryz.prog zaa_E zaa_H zaa_V zaa_Y Tryz.f190 zaa_T.ps zaa_T.res=zaa_T.fn:=by kernel_rfl
theorem zaa_Fok:SoundP Tryz.prog G0 190 zaa_F:=closeF_sound (runF_sound ⟨same_ok,(envP_cons zaw_Fok envP_nil),envS_nil,envP_nil,envX_nil⟩ Tryz.func190 rfl (by kernel_rfl))
theorem zaa_ok:TOk zaa_F zaa_T:=runY_ok (E:=zaa_E) (ET:=zaa_V) (EnvT.ofX (pure_of (pairs_cons zaw_ok pairs_nil)) looks_nil raws_nil G0_ok news_nil) zaa_eq rfl
def zcm_E:Env:=(eZ [(190,zaa_F)] [188])
def zcm_H:Hints:=(hZ [] [])
def zcm_F:PFn:=closeF (runF Tryz.prog zcm_E zcm_H Tryz.f150)
def zcm_Y:TH:={ loops:=[],ro:=[3] }
def zcm (a0:List vV1) (a1:(Int×Int×Unit)):Option (Int×Bool×Unit) :=
(zaa a0 (a1,0,()) ()).bind fun r1 =>
 some (r1.1,r1.2.1,())
def zcm_T:TFn:={ ps:=(.cons (.sl tT7) tT13),res:=(.tup (.cons (.int .i64) (.cons .bool .unit))),fn:=fun v=>zcm v.1 v.2.1 }
def zcm_V:TEnv:=(vZ [(190,zaa_T)])
theorem zcm_eq:runY Tryz.prog zcm_E zcm_H zcm_V zcm_Y Tryz.f150 zcm_T.ps zcm_T.res=zcm_T.fn:=by kernel_rfl
theorem zcm_Fok:SoundP Tryz.prog G0 150 zcm_F:=closeF_sound (runF_sound ⟨same_ok,(envP_cons zaa_Fok envP_nil),envS_nil,envP_nil,envX_nil⟩ Tryz.func150 rfl (by kernel_rfl))
theorem zcm_ok:TOk zcm_F zcm_T:=runY_ok (E:=zcm_E) (ET:=zcm_V) (EnvT.ofX (pure_of (pairs_cons zaa_ok pairs_nil)) looks_nil raws_nil G0_ok news_nil) zcm_eq rfl
def zb7_E:Env:=(eZ [(150,zcm_F)] [188])
def zb7_H:Hints:=(hZ [] [])
def zb7_F:PFn:=closeF (runF Tryz.prog zb7_E zb7_H Tryz.f92)
def zb7_Y:TH:={ loops:=[],ro:=[3] }
def zb7 (a0:List vV1) (a1:(Int×Int×Unit)):Option Int :=
(zcm a0 a1).bind fun r1 =>
 cond r1.2.1 (
(atI a0 r1.1).bind fun x2 =>
 some x2.2.1) (
 some 0)
def zb7_T:TFn:={ ps:=(.cons (.sl tT7) tT13),res:=(.int .i64),fn:=fun v=>zb7 v.1 v.2.1 }
def zb7_V:TEnv:=(vZ [(150,zcm_T)])
theorem zb7_eq:runY Tryz.prog zb7_E zb7_H zb7_V zb7_Y Tryz.f92 zb7_T.ps zb7_T.res=zb7_T.fn:=by kernel_rfl
theorem zb7_Fok:SoundP Tryz.prog G0 92 zb7_F:=closeF_sound (runF_sound ⟨same_ok,(envP_cons zcm_Fok envP_nil),envS_nil,envP_nil,envX_nil⟩ Tryz.func92 rfl (by kernel_rfl))
theorem zb7_ok:TOk zb7_F zb7_T:=runY_ok (E:=zb7_E) (ET:=zb7_V) (EnvT.ofX (pure_of (pairs_cons zcm_ok pairs_nil)) looks_nil raws_nil G0_ok news_nil) zb7_eq rfl
def zb6_E:Env:=(eZ [(92,zb7_F)] [188])
def zb6_H:Hints:=(hZ [] [])
def zb6_F:PFn:=closeF (runF Tryz.prog zb6_E zb6_H Tryz.f45)
def zb6_Y:TH:={ loops:=[],ro:=[3] }
def zb6 (a0:List vV1) (a1:(Int×Int×Unit)):Option Bool :=
(zb7 a0 a1).bind fun r1 =>
(remT r1 2).bind fun t2 =>
 some (decide (t2=0))
def zb6_T:TFn:={ ps:=(.cons (.sl tT7) tT13),res:=.bool,fn:=fun v=>zb6 v.1 v.2.1 }
def zb6_V:TEnv:=(vZ [(92,zb7_T)])
theorem zb6_eq:runY Tryz.prog zb6_E zb6_H zb6_V zb6_Y Tryz.f45 zb6_T.ps zb6_T.res=zb6_T.fn:=by kernel_rfl
theorem zb6_Fok:SoundP Tryz.prog G0 45 zb6_F:=closeF_sound (runF_sound ⟨same_ok,(envP_cons zb7_Fok envP_nil),envS_nil,envP_nil,envX_nil⟩ Tryz.func45 rfl (by kernel_rfl))
theorem zb6_ok:TOk zb6_F zb6_T:=runY_ok (E:=zb6_E) (ET:=zb6_V) (EnvT.ofX (pure_of (pairs_cons zb7_ok pairs_nil)) looks_nil raws_nil G0_ok news_nil) zb6_eq rfl
def za1_E:Env:=(eZ [(45,zb6_F)] [188])
def za1_H:Hints:=(hZ [(3,[1,5,13,14,15]),(7,[1,5,13,14,15,25,26,27]),(10,[1,5,13,14,15,25,26,27,32,33,34])] [])
def za1_S:SFn:=runF Tryz.prog za1_E za1_H Tryz.f52
def za1_Y:TH:={ loops:=[(3,{ keep:=[(5,(.mp 0)),(15,(.int .i64))],mem:=[.map tT7 .bool] }),(7,{ keep:=[(5,(.mp 0)),(27,(.int .i64))],mem:=[.map tT7 .bool,.gone] }),(10,{ keep:=[(5,(.mp 0)),(34,(.int .i64))],mem:=[.map tT7 .bool,.gone,.gone] })],ro:=[] }
def za1_l10 (y7:vV5) (x3:vV0) (y10:vV5):Option (vV5⊕(vV5⊕(vV5⊕(List (vV1×Bool))))) :=
 cond (decide (y10.1<(x3.2.2.2.2.1.length:Int))) (
(atI x3.2.2.2.2.1 y10.1).bind fun x4 =>
 some (.inl ((IntKind.wrap .i64 (y10.1+1)),(putK tT7 x4 true y10.2.1),()))) (
 some (.inr (.inl ((IntKind.wrap .i64 (y7.1+1)),y10.2.1,()))))
def za1_l7 (y3:vV5) (x1:vV2) (y7:vV5):Option (vV5⊕(vV5⊕(List (vV1×Bool)))) :=
 cond (decide (y7.1<(x1.2.2.2.2.1.length:Int))) (
(atI x1.2.2.2.2.1 y7.1).bind fun x3 =>
 loopT (za1_l10 y7 x3) (0,y7.2.1,())) (
 some (.inr (.inl ((IntKind.wrap .i64 (y3.1+1)),y7.2.1,()))))
def za1_l3 (a0:List vV2) (a1:List vV1) (y3:vV5):Option (vV5⊕(List (vV1×Bool))) :=
 cond (decide (y3.1<(a0.length:Int))) (
(atI a0 y3.1).bind fun x1 =>
(zb6 a1 x1.1).bind fun r2 =>
 cond (!r2) (
 some (.inl ((IntKind.wrap .i64 (y3.1+1)),y3.2.1,()))) (
 loopT (za1_l7 y3 x1) (0,y3.2.1,()))) (
 some (.inr y3.2.1))
def za1 (a0:List vV2) (a1:List vV1):Option (List (vV1×Bool)) :=
 loopT (za1_l3 a0 a1) (0,[],())
def za1_N:TNew:={ ps:=(.cons (.sl tT8) (.cons (.sl tT7) .unit)),e:=91,t:=(.sl (.cons tT7 .bool)),fn:=fun v=>za1 v.1 v.2.1,mp:=true }
def za1_V:TEnv:={ pure:=[(45,zb6_T)],look:=[],glob:=G0T,ty:=[(4,.bool),(94,tT7)],raw:=[],fresh:=[] }
theorem za1_eq:newMY Tryz.prog za1_E za1_H za1_V za1_Y Tryz.f52 za1_N.ps tT7 .bool=za1_N.fn:=by kernel_rfl
theorem za1_Sok:SoundS Tryz.prog G0 52 za1_S:=runF_sound ⟨same_ok,(envP_cons zb6_Fok envP_nil),envS_nil,envP_nil,envX_nil⟩ Tryz.func52 rfl (by kernel_rfl)
theorem za1_ok:TNewOk za1_S za1_N:=newMY_ok (E:=za1_E) (ET:=za1_V) (EnvT.ofX (pure_of (pairs_cons zb6_ok pairs_nil)) looks_nil raws_nil G0_ok news_nil) za1_eq
def zck_E:Env:={ pure:=[(45,zb6_F)],raw:=[(52,za1_S)],glob:=G0,same:=[188],look:=[],ext:=[] }
def zck_H:Hints:=(hZ [(4,[1,5,6,15,16,17]),(8,[1,5,6,8,15,16,17,27,28,29])] [])
def zck_F:PFn:=closeF (runF Tryz.prog zck_E zck_H Tryz.f14)
def zck_Y:TH:={ loops:=[(4,{ keep:=[(5,(.mp 0)),(6,(.own 4)),(17,(.int .i64))],mem:=[.map tT7 .bool,.gone,.gone,.gone,.row true 96 tT10] }),(8,{ keep:=[(5,(.mp 0)),(6,(.own 4)),(8,(.bx 5 0)),(29,(.int .i64))],mem:=[.map tT7 .bool,.gone,.gone,.gone,.row true 96 tT10,.box 51 tT8] })],ro:=[] }
def zck_l8 (y4:(Int×List (vV1×Bool)×List vV4×Unit)) (x2:vV2) (y8:(Int×List (vV1×Bool)×List vV4×vV2×Unit)):Option ((Int×List (vV1×Bool)×List vV4×vV2×Unit)⊕((Int×List (vV1×Bool)×List vV4×Unit)⊕List vV4)) :=
 cond (decide (y8.1<(x2.2.2.2.2.1.length:Int))) (
(atI x2.2.2.2.2.1 y8.1).bind fun x4 =>
 cond (decide (x4.1=1)) (cond (!((getK tT7 false (y8.2.2.2.1.1,y8.1,()) y8.2.1).1)) (
(roomT (y8.2.2.1.length+([((y8.2.2.2.1.1,y8.1,()),x4,y8.2.2.2.1.2.2.1,())]:List vV4).length)).bind fun u5 =>
 some (.inl ((IntKind.wrap .i64 (y8.1+1)),y8.2.1,(y8.2.2.1++([((y8.2.2.2.1.1,y8.1,()),x4,y8.2.2.2.1.2.2.1,())]:List vV4)),y8.2.2.2.1,()))) (
 some (.inl ((IntKind.wrap .i64 (y8.1+1)),y8.2.1,y8.2.2.1,y8.2.2.2.1,())))) (cond (decide (x4.1=2)) (cond (!((getK tT7 false (y8.2.2.2.1.1,y8.1,()) y8.2.1).1)) (
(roomT (y8.2.2.1.length+([((y8.2.2.2.1.1,y8.1,()),x4,y8.2.2.2.1.2.2.1,())]:List vV4).length)).bind fun u6 =>
 some (.inl ((IntKind.wrap .i64 (y8.1+1)),y8.2.1,(y8.2.2.1++([((y8.2.2.2.1.1,y8.1,()),x4,y8.2.2.2.1.2.2.1,())]:List vV4)),y8.2.2.2.1,()))) (
 some (.inl ((IntKind.wrap .i64 (y8.1+1)),y8.2.1,y8.2.2.1,y8.2.2.2.1,())))) (cond (decide (x4.1=3)) (cond (!((getK tT7 false (y8.2.2.2.1.1,y8.1,()) y8.2.1).1)) (
(roomT (y8.2.2.1.length+([((y8.2.2.2.1.1,y8.1,()),x4,y8.2.2.2.1.2.2.1,())]:List vV4).length)).bind fun u7 =>
 some (.inl ((IntKind.wrap .i64 (y8.1+1)),y8.2.1,(y8.2.2.1++([((y8.2.2.2.1.1,y8.1,()),x4,y8.2.2.2.1.2.2.1,())]:List vV4)),y8.2.2.2.1,()))) (
 some (.inl ((IntKind.wrap .i64 (y8.1+1)),y8.2.1,y8.2.2.1,y8.2.2.2.1,())))) (some (.inl ((IntKind.wrap .i64 (y8.1+1)),y8.2.1,y8.2.2.1,y8.2.2.2.1,())))))) (
 some (.inr (.inl ((IntKind.wrap .i64 (y4.1+1)),y8.2.1,y8.2.2.1,()))))
def zck_l4 (a0:List vV2) (a1:List vV1) (y4:(Int×List (vV1×Bool)×List vV4×Unit)):Option ((Int×List (vV1×Bool)×List vV4×Unit)⊕List vV4) :=
 cond (decide (y4.1<(a0.length:Int))) (
(atI a0 y4.1).bind fun x2 =>
(zb6 a1 x2.1).bind fun r3 =>
 cond (!r3) (
 some (.inl ((IntKind.wrap .i64 (y4.1+1)),y4.2.1,y4.2.2.1,()))) (
 loopT (zck_l8 y4 x2) (0,y4.2.1,y4.2.2.1,x2,()))) (
 some (.inr y4.2.2.1))
def zck (a0:List vV2) (a1:List vV1):Option (List vV4) :=
(za1 a0 a1).bind fun n1 =>
 loopT (zck_l4 a0 a1) (0,n1,[],())
def zck_T:TFn:={ ps:=(.cons (.sl tT8) (.cons (.sl tT7) .unit)),res:=(.sl tT10),fn:=fun v=>zck v.1 v.2.1 }
def zck_V:TEnv:={ pure:=[(45,zb6_T)],look:=[],glob:=G0T,ty:=[(96,tT10)],raw:=[],fresh:=[(52,za1_N)] }
theorem zck_eq:runY Tryz.prog zck_E zck_H zck_V zck_Y Tryz.f14 zck_T.ps zck_T.res=zck_T.fn:=by kernel_rfl
theorem zck_Fok:SoundP Tryz.prog G0 14 zck_F:=closeF_sound (runF_sound ⟨same_ok,(envP_cons zb6_Fok envP_nil),(envS_cons za1_Sok envS_nil),envP_nil,envX_nil⟩ Tryz.func14 rfl (by kernel_rfl))
theorem zck_ok:TOk zck_F zck_T:=runY_ok (E:=zck_E) (ET:=zck_V) (EnvT.ofX (pure_of (pairs_cons zb6_ok pairs_nil)) looks_nil (raws_more raws_nil rfl) G0_ok (news_cons za1_ok rfl rfl rfl news_nil)) zck_eq rfl
def zam_ren:Go.Shelf.Ren:=⟨fun | 41=>50 | n=>n,fun | 22=>24 | 23=>9 | 4=>4 | n=>n,fun | n=>n⟩
theorem zam_lays:Go.Proofs.SlLaysE0.n41 Tryz.prog zam_ren:={
 mixed:=by kernel_rfl
 f41:=⟨Tryz.f50.name,by decide,Tryz.func50.trans (congrArg some (by kernel_rfl))⟩
 t4:=Tryz.underlying4
 a4:=Tryz.isAgg4
 z4:=Tryz.sizeOf4
 v4:=Tryz.zeroValue4
 t22:=Tryz.underlying24
 a22:=Tryz.isAgg24
 z22:=Tryz.sizeOf24
 v22:=Tryz.zeroValue24 }
def zam_F:PFn:=(cloneF 1)
theorem zam_Fok:SoundP Tryz.prog G0 50 zam_F:=clone_lays zam_lays 1 ⟨Tryz.f50,Tryz.func50,rfl,by kernel_rfl⟩ (by kernel_rfl) (by kernel_rfl) (by kernel_rfl) (by kernel_rfl) (by kernel_rfl) (by decide) (fun w=>Tryz.sizeOf9 w)
def zam (a0:List (List UInt8)):Option (List (List UInt8)):=cloneT a0
def zam_T:TFn:=cloneT_T .str
theorem zam_ok:TOk zam_F zam_T:=cloneT_ok rfl rfl rfl
def zcq_E:Env:=(eZ [] [188])
def zcq_H:Hints:=(hZ [] [])
def zcq_F:PFn:=closeF (runF Tryz.prog zcq_E zcq_H Tryz.f63)
def zcq_Y:TH:={ joins:=[(6,{ keep:=[(6,.bool)],mem:=[] })],loops:=[],ro:=[] }
def zcq (a0:Int):Option Int :=
 cond (decide (a0=1)) (
 some 1) (
(cond (decide (a0=2)) (
 some (.inl ((decide (a0=2)),()))) (
 some (.inl ((decide (a0=4)),()))):Option ((Bool×Unit)⊕Int)).bind (joinS fun v1 =>
 cond v1.1 (
 some 2) (
 cond (decide (a0=3)) (
 some 3) (
 some 0))))
def zcq_T:TFn:={ ps:=tT9,res:=(.int .i64),fn:=fun v=>zcq v.1 }
def zcq_V:TEnv:=(vZ [])
theorem zcq_eq:runY Tryz.prog zcq_E zcq_H zcq_V zcq_Y Tryz.f63 zcq_T.ps zcq_T.res=zcq_T.fn:=by kernel_rfl
theorem zcq_Fok:SoundP Tryz.prog G0 63 zcq_F:=closeF_sound (runF_sound ⟨same_ok,envP_nil,envS_nil,envP_nil,envX_nil⟩ Tryz.func63 rfl (by kernel_rfl))
theorem zcq_ok:TOk zcq_F zcq_T:=runY_ok (E:=zcq_E) (ET:=zcq_V) (EnvT.ofX (pure_of pairs_nil) looks_nil raws_nil G0_ok news_nil) zcq_eq rfl
def zar_E:Env:=(eZ [] [188])
def zar_H:Hints:=(hZ [] [])
def zar_F:PFn:=closeF (runF Tryz.prog zar_E zar_H Tryz.f235)
def zar_Y:TH:=yZ
def zar (a0:List UInt8):Option Bool :=
 some (!decide (a0=a0))
def zar_T:TFn:={ ps:=(.cons .str .unit),res:=.bool,fn:=fun v=>zar v.1 }
def zar_V:TEnv:=(vZ [])
theorem zar_eq:runY Tryz.prog zar_E zar_H zar_V zar_Y Tryz.f235 zar_T.ps zar_T.res=zar_T.fn:=by kernel_rfl
theorem zar_Fok:SoundP Tryz.prog G0 235 zar_F:=closeF_sound (runF_sound ⟨same_ok,envP_nil,envS_nil,envP_nil,envX_nil⟩ Tryz.func235 rfl (by kernel_rfl))
theorem zar_ok:TOk zar_F zar_T:=runY_ok (E:=zar_E) (ET:=zar_V) (EnvT.ofX (pure_of pairs_nil) looks_nil raws_nil G0_ok news_nil) zar_eq rfl
def zap_E:Env:=(eZ [(235,zar_F)] [188])
def zap_H:Hints:=(hZ [] [])
def zap_F:PFn:=closeF (runF Tryz.prog zap_E zap_H Tryz.f209)
def zap_Y:TH:=yZ
def zap (a0:List UInt8) (a1:List UInt8):Option Int :=
(zar a0).bind fun r1 =>
(zar a1).bind fun r2 =>
 cond r1 (
 cond r2 (
 some 0) (
 some (-1))) (
 cond r2 (
 some 1) (
 cond (Op.bytesLess a0 a1) (
 some (-1)) (
 cond (!(Op.bytesLess a0 a1||decide (a0=a1))) (
 some 1) (
 some 0))))
def zap_T:TFn:={ ps:=(.cons .str (.cons .str .unit)),res:=(.int .i64),fn:=fun v=>zap v.1 v.2.1 }
def zap_V:TEnv:=(vZ [(235,zar_T)])
theorem zap_eq:runY Tryz.prog zap_E zap_H zap_V zap_Y Tryz.f209 zap_T.ps zap_T.res=zap_T.fn:=by kernel_rfl
theorem zap_Fok:SoundP Tryz.prog G0 209 zap_F:=closeF_sound (runF_sound ⟨same_ok,(envP_cons zar_Fok envP_nil),envS_nil,envP_nil,envX_nil⟩ Tryz.func209 rfl (by kernel_rfl))
theorem zap_ok:TOk zap_F zap_T:=runY_ok (E:=zap_E) (ET:=zap_V) (EnvT.ofX (pure_of (pairs_cons zar_ok pairs_nil)) looks_nil raws_nil G0_ok news_nil) zap_eq rfl
def zal_E:Env:=(eZ [(209,zap_F)] [188])
def zal_H:Hints:=(hZ [(2,[0,1,9,10,11])] [])
def zal_F:PFn:=closeF (runF Tryz.prog zal_E zal_H Tryz.f173)
def zal_Y:TH:={ joins:=[(11,{ keep:=[],mem:=[] })],loops:=[(2,{ keep:=[(11,(.int .i64))],mem:=[] })],ro:=[] }
def zal_l2 (a0:List (List UInt8)) (a1:List (List UInt8)) (y2:(Int×Unit)):Option ((Int×Unit)⊕(Unit⊕Int)) :=
 cond (decide (y2.1<(a0.length:Int))) (
(atI a0 y2.1).bind fun x1 =>
 cond (decide (y2.1≥(a1.length:Int))) (
 some (.inr (.inr 1))) (
(atI a1 y2.1).bind fun x2 =>
(zap x1 x2).bind fun r3 =>
 cond (!decide (r3=0)) (
 some (.inr (.inr r3))) (
 some (.inl ((IntKind.wrap .i64 (y2.1+1)),()))))) (
 some (.inr (.inl ())))
def zal (a0:List (List UInt8)) (a1:List (List UInt8)):Option Int :=
(loopT (zal_l2 a0 a1) (0,()):Option (Unit⊕Int)).bind (joinS fun v4 =>
 cond (decide ((a0.length:Int)<(a1.length:Int))) (
 some (-1)) (
 some 0))
def zal_T:TFn:={ ps:=(.cons (.sl .str) (.cons (.sl .str) .unit)),res:=(.int .i64),fn:=fun v=>zal v.1 v.2.1 }
def zal_V:TEnv:=(vZ [(209,zap_T)])
theorem zal_eq:runY Tryz.prog zal_E zal_H zal_V zal_Y Tryz.f173 zal_T.ps zal_T.res=zal_T.fn:=by kernel_rfl
theorem zal_Fok:SoundP Tryz.prog G0 173 zal_F:=closeF_sound (runF_sound ⟨same_ok,(envP_cons zap_Fok envP_nil),envS_nil,envP_nil,envX_nil⟩ Tryz.func173 rfl (by kernel_rfl))
theorem zal_ok:TOk zal_F zal_T:=runY_ok (E:=zal_E) (ET:=zal_V) (EnvT.ofX (pure_of (pairs_cons zap_ok pairs_nil)) looks_nil raws_nil G0_ok news_nil) zal_eq rfl
def za3_E:Env:=(eZ [(173,zal_F)] [188])
def za3_H:Hints:=(hZ [] [])
def za3_F:PFn:=closeF (runF Tryz.prog za3_E za3_H Tryz.f125)
def za3_Y:TH:=yZ
def za3 (a0:List (List UInt8)) (a1:List (List UInt8)):Option Int :=
(zal a0 a1).bind fun r1 =>
 some r1
def za3_T:TFn:={ ps:=(.cons (.sl .str) (.cons (.sl .str) .unit)),res:=(.int .i64),fn:=fun v=>za3 v.1 v.2.1 }
def za3_V:TEnv:=(vZ [(173,zal_T)])
theorem za3_eq:runY Tryz.prog za3_E za3_H za3_V za3_Y Tryz.f125 za3_T.ps za3_T.res=za3_T.fn:=by kernel_rfl
theorem za3_Fok:SoundP Tryz.prog G0 125 za3_F:=closeF_sound (runF_sound ⟨same_ok,(envP_cons zal_Fok envP_nil),envS_nil,envP_nil,envX_nil⟩ Tryz.func125 rfl (by kernel_rfl))
theorem za3_ok:TOk za3_F za3_T:=runY_ok (E:=za3_E) (ET:=za3_V) (EnvT.ofX (pure_of (pairs_cons zal_ok pairs_nil)) looks_nil raws_nil G0_ok news_nil) za3_eq rfl
def za4_E:Env:=(eZ [(124,zb4_F),(125,za3_F),(126,zas_F)] [188])
def za4_H:Hints:=(hZ [] [])
def za4_F:PFn:=closeF (runF Tryz.prog za4_E za4_H Tryz.f65)
def za4_Y:TH:={ loops:=[],ro:=[2,3] }
def za4 (a0:vV3) (a1:vV3):Option Int :=
(za3 a0.1 a1.1).bind fun r1 =>
(zas a0.2.1 a1.2.1).bind fun r2 =>
(zb4 ([r1,r2]:List Int)).bind fun r3 =>
 some r3
def za4_T:TFn:={ ps:=(.cons tT12 (.cons tT12 .unit)),res:=(.int .i64),fn:=fun v=>za4 v.1 v.2.1 }
def za4_V:TEnv:={ pure:=[(124,zb4_T),(125,za3_T),(126,zas_T)],look:=[],glob:=G0T,ty:=[(3,(.int .i64))],raw:=[],fresh:=[] }
theorem za4_eq:runY Tryz.prog za4_E za4_H za4_V za4_Y Tryz.f65 za4_T.ps za4_T.res=za4_T.fn:=by kernel_rfl
theorem za4_Fok:SoundP Tryz.prog G0 65 za4_F:=closeF_sound (runF_sound ⟨same_ok,(envP_cons zb4_Fok (envP_cons za3_Fok (envP_cons zas_Fok envP_nil))),envS_nil,envP_nil,envX_nil⟩ Tryz.func65 rfl (by kernel_rfl))
theorem za4_ok:TOk za4_F za4_T:=runY_ok (E:=za4_E) (ET:=za4_V) (EnvT.ofX (pure_of (pairs_cons zb4_ok (pairs_cons za3_ok (pairs_cons zas_ok pairs_nil)))) looks_nil raws_nil G0_ok news_nil) za4_eq rfl
theorem za0_FokD : @SoundP ⟨True⟩ Tryz.prog G0 174 za0_F:=by
 letI:Drawn:=⟨True⟩
 exact closeF_sound (runF_sound ⟨same_ok,envP_nil,envS_nil,envP_nil,envX_nil⟩ Tryz.func174 rfl (by kernel_rfl))
theorem zas_FokD : @SoundP ⟨True⟩ Tryz.prog G0 126 zas_F:=by
 letI:Drawn:=⟨True⟩
 exact closeF_sound (runF_sound ⟨same_ok,(envP_cons za0_FokD envP_nil),envS_nil,envP_nil,envX_nil⟩ Tryz.func126 rfl (by kernel_rfl))
theorem zb4_FokD : @SoundP ⟨True⟩ Tryz.prog G0 124 zb4_F:=by
 letI:Drawn:=⟨True⟩
 exact closeF_sound (runF_sound ⟨same_ok,envP_nil,envS_nil,envP_nil,envX_nil⟩ Tryz.func124 rfl (by kernel_rfl))
theorem zar_FokD : @SoundP ⟨True⟩ Tryz.prog G0 235 zar_F:=by
 letI:Drawn:=⟨True⟩
 exact closeF_sound (runF_sound ⟨same_ok,envP_nil,envS_nil,envP_nil,envX_nil⟩ Tryz.func235 rfl (by kernel_rfl))
theorem zap_FokD : @SoundP ⟨True⟩ Tryz.prog G0 209 zap_F:=by
 letI:Drawn:=⟨True⟩
 exact closeF_sound (runF_sound ⟨same_ok,(envP_cons zar_FokD envP_nil),envS_nil,envP_nil,envX_nil⟩ Tryz.func209 rfl (by kernel_rfl))
theorem zal_FokD : @SoundP ⟨True⟩ Tryz.prog G0 173 zal_F:=by
 letI:Drawn:=⟨True⟩
 exact closeF_sound (runF_sound ⟨same_ok,(envP_cons zap_FokD envP_nil),envS_nil,envP_nil,envX_nil⟩ Tryz.func173 rfl (by kernel_rfl))
theorem za3_FokD : @SoundP ⟨True⟩ Tryz.prog G0 125 za3_F:=by
 letI:Drawn:=⟨True⟩
 exact closeF_sound (runF_sound ⟨same_ok,(envP_cons zal_FokD envP_nil),envS_nil,envP_nil,envX_nil⟩ Tryz.func125 rfl (by kernel_rfl))
theorem za4_FokD : @SoundP ⟨True⟩ Tryz.prog G0 65 za4_F:=by
 letI:Drawn:=⟨True⟩
 exact closeF_sound (runF_sound ⟨same_ok,(envP_cons zb4_FokD (envP_cons za3_FokD (envP_cons zas_FokD envP_nil))),envS_nil,envP_nil,envX_nil⟩ Tryz.func65 rfl (by kernel_rfl))
def zaf_ren:Go.Shelf.Ren:=⟨fun | 6=>64 | 14=>122 | 15=>123 | 20=>163 | 21=>164 | 22=>165 | 23=>166 | 24=>167 | 25=>168 | 26=>169 | 27=>170 | 28=>171 | 29=>172 | 46=>204 | 47=>205 | 48=>206 | 49=>207 | 50=>208 | 57=>234 | n=>n,fun | 0=>0 | 3=>3 | 4=>4 | 5=>5 | 9=>9 | 22=>53 | 24=>65 | 25=>107 | 39=>162 | 45=>194 | 46=>195 | 50=>155 | 53=>201 | 55=>203 | 66=>223 | 70=>227 | 76=>249 | 77=>189 | n=>n,fun | n=>n⟩
theorem zaf_lays:Go.Proofs.SlLaysF0.n6 Tryz.prog zaf_ren:={
 mixed:=by kernel_rfl
 f6:=⟨Tryz.f64.name,by decide,Tryz.func64.trans (congrArg some (by kernel_rfl))⟩
 f14:=⟨Tryz.f122.name,by decide,Tryz.func122.trans (congrArg some (by kernel_rfl))⟩
 f15:=Tryz.func123.trans (congrArg some (by kernel_rfl))
 f20:=⟨Tryz.f163.name,by decide,Tryz.func163.trans (congrArg some (by kernel_rfl))⟩
 f21:=⟨Tryz.f164.name,by decide,Tryz.func164.trans (congrArg some (by kernel_rfl))⟩
 f22:=⟨Tryz.f165.name,by decide,Tryz.func165.trans (congrArg some (by kernel_rfl))⟩
 f23:=⟨Tryz.f166.name,by decide,Tryz.func166.trans (congrArg some (by kernel_rfl))⟩
 f24:=⟨Tryz.f167.name,by decide,Tryz.func167.trans (congrArg some (by kernel_rfl))⟩
 f25:=⟨Tryz.f168.name,by decide,Tryz.func168.trans (congrArg some (by kernel_rfl))⟩
 f26:=⟨Tryz.f169.name,by decide,Tryz.func169.trans (congrArg some (by kernel_rfl))⟩
 f27:=⟨Tryz.f170.name,by decide,Tryz.func170.trans (congrArg some (by kernel_rfl))⟩
 f28:=Tryz.func171.trans (congrArg some (by kernel_rfl))
 f29:=Tryz.func172.trans (congrArg some (by kernel_rfl))
 f46:=⟨Tryz.f204.name,by decide,Tryz.func204.trans (congrArg some (by kernel_rfl))⟩
 f47:=Tryz.func205.trans (congrArg some (by kernel_rfl))
 f48:=Tryz.func206.trans (congrArg some (by kernel_rfl))
 f49:=⟨Tryz.f207.name,by decide,Tryz.func207.trans (congrArg some (by kernel_rfl))⟩
 f50:=⟨Tryz.f208.name,by decide,Tryz.func208.trans (congrArg some (by kernel_rfl))⟩
 f57:=⟨Tryz.f234.name,by decide,Tryz.func234.trans (congrArg some (by kernel_rfl))⟩
 t0:=Tryz.underlying0
 a0:=Tryz.isAgg0
 z0:=Tryz.sizeOf0
 v0:=Tryz.zeroValue0
 t3:=Tryz.underlying3
 a3:=Tryz.isAgg3
 z3:=Tryz.sizeOf3
 v3:=Tryz.zeroValue3
 t4:=Tryz.underlying4
 a4:=Tryz.isAgg4
 z4:=Tryz.sizeOf4
 v4:=Tryz.zeroValue4
 t5:=Tryz.underlying5
 a5:=Tryz.isAgg5
 z5:=Tryz.sizeOf5
 v5:=Tryz.zeroValue5
 t9:=Tryz.underlying9
 a9:=Tryz.isAgg9
 z9:=Tryz.sizeOf9
 v9:=Tryz.zeroValue9
 t22:=Tryz.underlying53
 a22:=Tryz.isAgg53
 z22:=Tryz.sizeOf53
 v22:=Tryz.zeroValue53
 t25:=Tryz.underlying107
 a25:=Tryz.isAgg107
 z25:=Tryz.sizeOf107
 v25:=Tryz.zeroValue107
 t39:=Tryz.underlying162
 a39:=Tryz.isAgg162
 z39:=Tryz.sizeOf162
 v39:=Tryz.zeroValue162
 t45:=Tryz.underlying194
 a45:=Tryz.isAgg194
 z45:=Tryz.sizeOf194
 v45:=Tryz.zeroValue194
 t46:=Tryz.underlying195
 a46:=Tryz.isAgg195
 z46:=Tryz.sizeOf195
 v46:=Tryz.zeroValue195
 t50:=Tryz.underlying155
 a50:=Tryz.isAgg155
 z50:=Tryz.sizeOf155
 v50:=Tryz.zeroValue155
 t53:=Tryz.underlying201
 a53:=Tryz.isAgg201
 z53:=Tryz.sizeOf201
 v53:=Tryz.zeroValue201
 t55:=Tryz.underlying203
 a55:=Tryz.isAgg203
 z55:=Tryz.sizeOf203
 v55:=Tryz.zeroValue203
 t66:=Tryz.underlying223
 a66:=Tryz.isAgg223
 z66:=Tryz.sizeOf223
 v66:=Tryz.zeroValue223
 t70:=Tryz.underlying227
 a70:=Tryz.isAgg227
 z70:=Tryz.sizeOf227
 v70:=Tryz.zeroValue227
 t76:=Tryz.underlying249
 a76:=Tryz.isAgg249
 z76:=Tryz.sizeOf249
 v76:=Tryz.zeroValue249
 t77:=Tryz.underlying189
 a77:=Tryz.isAgg189
 z77:=Tryz.sizeOf189
 v77:=Tryz.zeroValue189 }
def zaf_S:SFn:=sortS za4_F 65 2 65
theorem zaf_Sok:SoundS Tryz.prog G0 64 zaf_S:=sortS_sound (M:=2) (g:=65) zaf_lays (by decide) (fun w=>Tryz.isAgg65 w) (fun w=>Tryz.sizeOf65 w) za4_FokD ⟨Tryz.f64,Tryz.func64,rfl,by kernel_rfl⟩
def zaf (w0:List vV3):Option (Unit×List vV3×Unit):=(sortT (fun x y=>za4 x y) w0).map fun l=>((),(l,()))
def zaf_R:TRaw:=sortR false 65 65 tT12 (fun x y=>za4 x y)
theorem zaf_ok:TRawOk zaf_S zaf_R:=sortR_ok rfl rfl rfl rfl za4_ok
def zaz_E:Env:=(eZ [(65,za4_F)] [188])
def zaz_H:Hints:=(hZ [] [])
def zaz_F:PFn:=closeF (runF Tryz.prog zaz_E zaz_H Tryz.f67)
def zaz_Y:TH:={ loops:=[],ro:=[2,3] }
def zaz (a0:vV3) (a1:vV3):Option Bool :=
(za4 a0 a1).bind fun r1 =>
 some (decide (r1=0))
def zaz_T:TFn:={ ps:=(.cons tT12 (.cons tT12 .unit)),res:=.bool,fn:=fun v=>zaz v.1 v.2.1 }
def zaz_V:TEnv:=(vZ [(65,za4_T)])
theorem zaz_eq:runY Tryz.prog zaz_E zaz_H zaz_V zaz_Y Tryz.f67 zaz_T.ps zaz_T.res=zaz_T.fn:=by kernel_rfl
theorem zaz_Fok:SoundP Tryz.prog G0 67 zaz_F:=closeF_sound (runF_sound ⟨same_ok,(envP_cons za4_Fok envP_nil),envS_nil,envP_nil,envX_nil⟩ Tryz.func67 rfl (by kernel_rfl))
theorem zaz_ok:TOk zaz_F zaz_T:=runY_ok (E:=zaz_E) (ET:=zaz_V) (EnvT.ofX (pure_of (pairs_cons za4_ok pairs_nil)) looks_nil raws_nil G0_ok news_nil) zaz_eq rfl
def zad_E:Env:=(eZ [(67,zaz_F)] [188])
def zad_H:Hints:=(hZ [(4,[0,1,5]),(9,[0,1,5,6,7])] [])
def zad_S:SFn:=giveS (runF Tryz.prog zad_E zad_H Tryz.f66)
def zad_Y:TH:={ joins:=[(14,{ keep:=[(0,(.own 0)),(5,(.int .i64))],mem:=[.row false 65 tT12] })],loops:=[(4,{ keep:=[(0,(.own 0)),(5,(.int .i64))],mem:=[.row false 65 tT12] }),(9,{ keep:=[(0,(.own 0)),(5,(.int .i64)),(6,(.vw 0)),(7,(.int .i64))],mem:=[.row false 65 tT12] })],ro:=[] }
def zad_l9 (y9:(Int×(Nat×Nat)×Int×List vV3×Unit)):Option ((Int×(Nat×Nat)×Int×List vV3×Unit)⊕((Int×List vV3×Unit)⊕((Int×List vV3×Unit)⊕(List vV3)))) :=
 cond (decide (y9.2.2.1<(y9.2.1.2:Int))) (
 cond y9.2.2.2.1.isEmpty (none) ((inI y9.2.1.2 y9.2.2.1).bind fun i7 =>
(y9.2.2.2.1[(y9.2.1.1+i7)]?).bind fun x8 =>
 cond y9.2.2.2.1.isEmpty (none) ((inI y9.2.1.2 (IntKind.wrap .i64 (y9.2.2.1-1))).bind fun i9 =>
(y9.2.2.2.1[(y9.2.1.1+i9)]?).bind fun x10 =>
(zaz x8 x10).bind fun r11 =>
 cond (!r11) (
 cond y9.2.2.2.1.isEmpty (none) ((inI y9.2.1.2 y9.2.2.1).bind fun i12 =>
(y9.2.2.2.1[(y9.2.1.1+i12)]?).bind fun x13 =>
(inI y9.2.2.2.1.length y9.1).bind fun i14 =>
(y9.2.2.2.1[i14]?).bind fun x15 =>
 some (.inl ((IntKind.wrap .i64 (y9.1+1)),y9.2.1,(IntKind.wrap .i64 (y9.2.2.1+1)),(y9.2.2.2.1.set i14 x13),())))) (
 some (.inl (y9.1,y9.2.1,(IntKind.wrap .i64 (y9.2.2.1+1)),y9.2.2.2.1,())))))) (
 some (.inr (.inl (y9.1,y9.2.2.2.1,()))))
def zad_l4 (y4:(Int×List vV3×Unit)):Option ((Int×List vV3×Unit)⊕(List vV3)) :=
 cond (decide (y4.1<(y4.2.1.length:Int))) (
(inI y4.2.1.length y4.1).bind fun i1 =>
(y4.2.1[i1]?).bind fun x2 =>
(inI y4.2.1.length (IntKind.wrap .i64 (y4.1-1))).bind fun i3 =>
(y4.2.1[i3]?).bind fun x4 =>
(zaz x2 x4).bind fun r5 =>
 cond r5 (
 cond y4.2.1.isEmpty (none) ((viewI (y4.2.1.length) y4.1 (y4.2.1.length:Int)).bind fun p6 =>
(loopT (zad_l9) (y4.1,p6,1,y4.2.1,()):Option ((Int×List vV3×Unit)⊕((Int×List vV3×Unit)⊕(List vV3)))).bind (joinS fun v16 =>
 cond v16.2.1.isEmpty (none) ((viewI (v16.2.1.length) v16.1 (v16.2.1.length:Int)).bind fun p17 =>
 cond v16.2.1.isEmpty (none) ((if p17.1+p17.2≤v16.2.1.length then some () else none).bind fun u18 =>
 cond (v16.2.1.take p17.1++List.replicate p17.2 ([],0,())++v16.2.1.drop (p17.1+p17.2)).isEmpty (none) ((viewI ((v16.2.1.take p17.1++List.replicate p17.2 ([],0,())++v16.2.1.drop (p17.1+p17.2)).length) 0 v16.1).bind fun p19 =>
(cond (v16.2.1.take p17.1++List.replicate p17.2 ([],0,())++v16.2.1.drop (p17.1+p17.2)).isEmpty none (if p19.1+p19.2≤(v16.2.1.take p17.1++List.replicate p17.2 ([],0,())++v16.2.1.drop (p17.1+p17.2)).length then some (((v16.2.1.take p17.1++List.replicate p17.2 ([],0,())++v16.2.1.drop (p17.1+p17.2)).drop p19.1).take p19.2) else none)).map .inr)))))) (
 some (.inl ((IntKind.wrap .i64 (y4.1+1)),y4.2.1,())))) (
 some (.inr y4.2.1))
def zad_g (w0:List vV3):Option (List vV3) :=
 cond (decide ((w0.length:Int)<2)) (
 some w0) (
 loopT (zad_l4) (1,w0,()))
def zad (w0:List vV3):Option (List vV3×Unit):=(zad_g w0).map fun l=>(l,())
def zad_R:TRaw:={ ps:=(.cons (.own 0) (.cons (.fn 67) .unit)),ins:=[.row false 65 tT12],res:=(.sl tT12),outs:=[.gone],fn:=fun v w=>zad w.1 }
def zad_V:TEnv:=(vZ [(67,zaz_T)])
theorem zad_eq:giveY Tryz.prog zad_E zad_H zad_V zad_Y Tryz.f66 (.cons (.own 0) (.cons (.fn 67) .unit)) false 65 tT12=fun _ w=>zad_g w:=by kernel_rfl
theorem zad_Sok:SoundS Tryz.prog G0 66 zad_S:=giveS_sound (runF_sound ⟨same_ok,(envP_cons zaz_Fok envP_nil),envS_nil,envP_nil,envX_nil⟩ Tryz.func66 rfl (by kernel_rfl))
theorem zad_ok:TRawOk zad_S zad_R:=giveY_ok (E:=zad_E) (ET:=zad_V) (EnvT.ofX (pure_of (pairs_cons zaz_ok pairs_nil)) looks_nil raws_nil G0_ok news_nil) zad_eq
def zbk_E:Env:={ pure:=[(50,zam_F),(63,zcq_F)],raw:=[(64,zaf_S),(66,zad_S)],glob:=G0,same:=[188],look:=[],ext:=[] }
def zbk_H:Hints:=(hZ [(3,[3,6,7,8])] [])
def zbk_F:PFn:=closeF (runF Tryz.prog zbk_E zbk_H Tryz.f23)
def zbk_Y:TH:={ joins:=[(7,{ keep:=[(3,(.own 1))],mem:=[.gone,.row true 65 tT12] })],loops:=[(3,{ keep:=[(3,(.own 1)),(8,(.int .i64))],mem:=[.gone,.row true 65 tT12] })],ro:=[] }
def zbk_l3 (a0:List vV4) (y3:(Int×List vV3×Unit)):Option ((Int×List vV3×Unit)⊕((List vV3×Unit)⊕List vV3)) :=
 cond (decide (y3.1<(a0.length:Int))) (
(atI a0 y3.1).bind fun x1 =>
(zam x1.2.1.2.1).bind fun r2 =>
(zcq x1.2.1.1).bind fun r3 =>
(roomT (y3.2.1.length+([(r2,r3,())]:List vV3).length)).bind fun u4 =>
 some (.inl ((IntKind.wrap .i64 (y3.1+1)),(y3.2.1++([(r2,r3,())]:List vV3)),()))) (
 some (.inr (.inl (y3.2.1,()))))
def zbk (a0:List vV4):Option (List vV3) :=
(loopT (zbk_l3 a0) (0,[],()):Option ((List vV3×Unit)⊕List vV3)).bind (joinS fun v5 =>
(zaf v5.1).bind fun q6 =>
(zad q6.2.1).bind fun q7 =>
 some q7.1)
def zbk_T:TFn:={ ps:=(.cons (.sl tT10) .unit),res:=(.sl tT12),fn:=fun v=>zbk v.1 }
def zbk_V:TEnv:={ pure:=[(50,zam_T),(63,zcq_T)],look:=[],glob:=G0T,ty:=[(65,tT12)],raw:=[(64,zaf_R),(66,zad_R)],fresh:=[] }
theorem zbk_eq:runY Tryz.prog zbk_E zbk_H zbk_V zbk_Y Tryz.f23 zbk_T.ps zbk_T.res=zbk_T.fn:=by kernel_rfl
theorem zbk_Fok:SoundP Tryz.prog G0 23 zbk_F:=closeF_sound (runF_sound ⟨same_ok,(envP_cons zam_Fok (envP_cons zcq_Fok envP_nil)),(envS_cons zaf_Sok (envS_cons zad_Sok envS_nil)),envP_nil,envX_nil⟩ Tryz.func23 rfl (by kernel_rfl))
theorem zbk_ok:TOk zbk_F zbk_T:=runY_ok (E:=zbk_E) (ET:=zbk_V) (EnvT.ofX (pure_of (pairs_cons zam_ok (pairs_cons zcq_ok pairs_nil))) looks_nil (raws_cons zaf_ok rfl rfl (raws_cons zad_ok rfl rfl raws_nil)) G0_ok news_nil) zbk_eq rfl
def zbz_E:Env:=(eZ [] [188])
def zbz_H:Hints:=(hZ [] [])
def zbz_F:PFn:=closeF (runF Tryz.prog zbz_E zbz_H Tryz.f149)
def zbz_Y:TH:=yZ
def zbz (a0:Int) (a1:Int):Option Int :=
 cond (decide (a0<a1)) (
 some (-1)) (
 cond (decide (a0>a1)) (
 some 1) (
 some 0))
def zbz_T:TFn:={ ps:=(.cons (.int .i64) tT9),res:=(.int .i64),fn:=fun v=>zbz v.1 v.2.1 }
def zbz_V:TEnv:=(vZ [])
theorem zbz_eq:runY Tryz.prog zbz_E zbz_H zbz_V zbz_Y Tryz.f149 zbz_T.ps zbz_T.res=zbz_T.fn:=by kernel_rfl
theorem zbz_Fok:SoundP Tryz.prog G0 149 zbz_F:=closeF_sound (runF_sound ⟨same_ok,envP_nil,envS_nil,envP_nil,envX_nil⟩ Tryz.func149 rfl (by kernel_rfl))
theorem zbz_ok:TOk zbz_F zbz_T:=runY_ok (E:=zbz_E) (ET:=zbz_V) (EnvT.ofX (pure_of pairs_nil) looks_nil raws_nil G0_ok news_nil) zbz_eq rfl
def zbn_E:Env:=(eZ [(149,zbz_F)] [188])
def zbn_H:Hints:=(hZ [(2,[0,1,5])] [])
def zbn_F:PFn:=closeF (runF Tryz.prog zbn_E zbn_H Tryz.f91)
def zbn_Y:TH:={ joins:=[(6,{ keep:=[],mem:=[] })],loops:=[(2,{ keep:=[(5,(.int .i64))],mem:=[] })],ro:=[] }
def zbn_l2 (a0:List UInt8) (a1:List UInt8) (y2:(Int×Unit)):Option ((Int×Unit)⊕(Unit⊕Int)) :=
 cond (decide (y2.1<(a0.length:Int))) (cond (decide (y2.1<(a1.length:Int))) (
(atI a0 y2.1).bind fun b1 =>
(atI a1 y2.1).bind fun b2 =>
 cond (!decide ((b1.toNat:Int)=(b2.toNat:Int))) (
(atI a0 y2.1).bind fun b3 =>
(atI a1 y2.1).bind fun b4 =>
(zbz (IntKind.wrap .i64 (b3.toNat:Int)) (IntKind.wrap .i64 (b4.toNat:Int))).bind fun r5 =>
 some (.inr (.inr r5))) (
 some (.inl ((IntKind.wrap .i64 (y2.1+1)),())))) (
 some (.inr (.inl ())))) (some (.inr (.inl ())))
def zbn (a0:List UInt8) (a1:List UInt8):Option Int :=
(loopT (zbn_l2 a0 a1) (0,()):Option (Unit⊕Int)).bind (joinS fun v6 =>
(zbz (a0.length:Int) (a1.length:Int)).bind fun r7 =>
 some r7)
def zbn_T:TFn:={ ps:=(.cons .str (.cons .str .unit)),res:=(.int .i64),fn:=fun v=>zbn v.1 v.2.1 }
def zbn_V:TEnv:=(vZ [(149,zbz_T)])
theorem zbn_eq:runY Tryz.prog zbn_E zbn_H zbn_V zbn_Y Tryz.f91 zbn_T.ps zbn_T.res=zbn_T.fn:=by kernel_rfl
theorem zbn_Fok:SoundP Tryz.prog G0 91 zbn_F:=closeF_sound (runF_sound ⟨same_ok,(envP_cons zbz_Fok envP_nil),envS_nil,envP_nil,envX_nil⟩ Tryz.func91 rfl (by kernel_rfl))
theorem zbn_ok:TOk zbn_F zbn_T:=runY_ok (E:=zbn_E) (ET:=zbn_V) (EnvT.ofX (pure_of (pairs_cons zbz_ok pairs_nil)) looks_nil raws_nil G0_ok news_nil) zbn_eq rfl
def zav_E:Env:=(eZ [(91,zbn_F)] [188])
def zav_H:Hints:=(hZ [(2,[0,1,5])] [])
def zav_F:PFn:=closeF (runF Tryz.prog zav_E zav_H Tryz.f44)
def zav_Y:TH:={ joins:=[(7,{ keep:=[],mem:=[] })],loops:=[(2,{ keep:=[(5,(.int .i64))],mem:=[] })],ro:=[] }
def zav_l2 (a0:List (List UInt8)) (a1:List (List UInt8)) (y2:(Int×Unit)):Option ((Int×Unit)⊕(Unit⊕Int)) :=
 cond (decide (y2.1<(a0.length:Int))) (cond (decide (y2.1<(a1.length:Int))) (
(atI a0 y2.1).bind fun x1 =>
(atI a1 y2.1).bind fun x2 =>
(zbn x1 x2).bind fun r3 =>
 cond (!decide (r3=0)) (
 some (.inr (.inr r3))) (
 some (.inl ((IntKind.wrap .i64 (y2.1+1)),())))) (
 some (.inr (.inl ())))) (some (.inr (.inl ())))
def zav (a0:List (List UInt8)) (a1:List (List UInt8)):Option Int :=
(loopT (zav_l2 a0 a1) (0,()):Option (Unit⊕Int)).bind (joinS fun v4 =>
 cond (decide ((a0.length:Int)<(a1.length:Int))) (
 some (-1)) (
 cond (decide ((a0.length:Int)>(a1.length:Int))) (
 some 1) (
 some 0)))
def zav_T:TFn:={ ps:=(.cons (.sl .str) (.cons (.sl .str) .unit)),res:=(.int .i64),fn:=fun v=>zav v.1 v.2.1 }
def zav_V:TEnv:=(vZ [(91,zbn_T)])
theorem zav_eq:runY Tryz.prog zav_E zav_H zav_V zav_Y Tryz.f44 zav_T.ps zav_T.res=zav_T.fn:=by kernel_rfl
theorem zav_Fok:SoundP Tryz.prog G0 44 zav_F:=closeF_sound (runF_sound ⟨same_ok,(envP_cons zbn_Fok envP_nil),envS_nil,envP_nil,envX_nil⟩ Tryz.func44 rfl (by kernel_rfl))
theorem zav_ok:TOk zav_F zav_T:=runY_ok (E:=zav_E) (ET:=zav_V) (EnvT.ofX (pure_of (pairs_cons zbn_ok pairs_nil)) looks_nil raws_nil G0_ok news_nil) zav_eq rfl
def za7_E:Env:=(eZ [] [188])
def za7_H:Hints:=(hZ [(4,[0,1,5])] [])
def za7_F:PFn:=closeF (runF Tryz.prog za7_E za7_H Tryz.f109)
def za7_Y:TH:={ loops:=[(4,{ keep:=[(5,(.int .i64))],mem:=[] })],ro:=[] }
def za7_l4 (a0:List (List UInt8)) (a1:List (List UInt8)) (y4:(Int×Unit)):Option ((Int×Unit)⊕Bool) :=
 cond (decide (y4.1<(a1.length:Int))) (
(atI a0 y4.1).bind fun x1 =>
(atI a1 y4.1).bind fun x2 =>
 cond (!decide (x1=x2)) (
 some (.inr false)) (
 some (.inl ((IntKind.wrap .i64 (y4.1+1)),())))) (
 some (.inr true))
def za7 (a0:List (List UInt8)) (a1:List (List UInt8)):Option Bool :=
 cond (decide ((a1.length:Int)>(a0.length:Int))) (
 some false) (
 loopT (za7_l4 a0 a1) (0,()))
def za7_T:TFn:={ ps:=(.cons (.sl .str) (.cons (.sl .str) .unit)),res:=.bool,fn:=fun v=>za7 v.1 v.2.1 }
def za7_V:TEnv:=(vZ [])
theorem za7_eq:runY Tryz.prog za7_E za7_H za7_V za7_Y Tryz.f109 za7_T.ps za7_T.res=za7_T.fn:=by kernel_rfl
theorem za7_Fok:SoundP Tryz.prog G0 109 za7_F:=closeF_sound (runF_sound ⟨same_ok,envP_nil,envS_nil,envP_nil,envX_nil⟩ Tryz.func109 rfl (by kernel_rfl))
theorem za7_ok:TOk za7_F za7_T:=runY_ok (E:=za7_E) (ET:=za7_V) (EnvT.ofX (pure_of pairs_nil) looks_nil raws_nil G0_ok news_nil) za7_eq rfl
def zbg_E:Env:=(eZ [(44,zav_F),(109,za7_F)] [188])
def zbg_H:Hints:=(hZ [] [])
def zbg_F:PFn:=closeF (runF Tryz.prog zbg_E zbg_H Tryz.f53)
def zbg_Y:TH:=yZ
def zbg (a0:List (List UInt8)) (a1:Int) (a2:List (List UInt8)) (a3:Int):Option Bool :=
(zav a0 a2).bind fun r1 =>
 cond (decide (r1=0)) (
 some (!decide (a1=a3))) (
(za7 a0 a2).bind fun r2 =>
 cond r2 (some true) ((za7 a2 a0).bind fun r3 =>
 some r3))
def zbg_T:TFn:={ ps:=(.cons (.sl .str) (.cons (.int .i64) (.cons (.sl .str) tT9))),res:=.bool,fn:=fun v=>zbg v.1 v.2.1 v.2.2.1 v.2.2.2.1 }
def zbg_V:TEnv:=(vZ [(44,zav_T),(109,za7_T)])
theorem zbg_eq:runY Tryz.prog zbg_E zbg_H zbg_V zbg_Y Tryz.f53 zbg_T.ps zbg_T.res=zbg_T.fn:=by kernel_rfl
theorem zbg_Fok:SoundP Tryz.prog G0 53 zbg_F:=closeF_sound (runF_sound ⟨same_ok,(envP_cons zav_Fok (envP_cons za7_Fok envP_nil)),envS_nil,envP_nil,envX_nil⟩ Tryz.func53 rfl (by kernel_rfl))
theorem zbg_ok:TOk zbg_F zbg_T:=runY_ok (E:=zbg_E) (ET:=zbg_V) (EnvT.ofX (pure_of (pairs_cons zav_ok (pairs_cons za7_ok pairs_nil))) looks_nil raws_nil G0_ok news_nil) zbg_eq rfl
def zay_E:Env:=(eZ [(53,zbg_F)] [188])
def zay_H:Hints:=(hZ [(3,[0,3,4]),(6,[0,3,4,5])] [])
def zay_F:PFn:=closeF (runF Tryz.prog zay_E zay_H Tryz.f22)
def zay_Y:TH:={ loops:=[(3,{ keep:=[(3,(.int .i64)),(4,(.int .i64))],mem:=[] }),(6,{ keep:=[(3,(.int .i64)),(5,(.int .i64))],mem:=[] })],ro:=[] }
def zay_l6 (y3:(Int×Int×Unit)) (a0:List vV3) (y6:(Int×Int×Unit)):Option ((Int×Int×Unit)⊕((Int×Int×Unit)⊕Int)) :=
 cond (decide (y6.2.1<y3.2.1)) (
(atI a0 y3.2.1).bind fun x1 =>
(atI a0 y3.2.1).bind fun x2 =>
(atI a0 y6.2.1).bind fun x3 =>
(atI a0 y6.2.1).bind fun x4 =>
(zbg x1.1 x2.2.1 x3.1 x4.2.1).bind fun r5 =>
 cond r5 (
 some (.inl ((IntKind.wrap .i64 (y6.1+1)),(IntKind.wrap .i64 (y6.2.1+1)),()))) (
 some (.inl (y6.1,(IntKind.wrap .i64 (y6.2.1+1)),())))) (
 some (.inr (.inl (y6.1,(IntKind.wrap .i64 (y3.2.1+1)),()))))
def zay_l3 (a0:List vV3) (y3:(Int×Int×Unit)):Option ((Int×Int×Unit)⊕Int) :=
 cond (decide (y3.2.1<(a0.length:Int))) (
 loopT (zay_l6 y3 a0) (y3.1,0,())) (
 some (.inr y3.1))
def zay (a0:List vV3):Option Int :=
 loopT (zay_l3 a0) (0,0,())
def zay_T:TFn:={ ps:=(.cons (.sl tT12) .unit),res:=(.int .i64),fn:=fun v=>zay v.1 }
def zay_V:TEnv:=(vZ [(53,zbg_T)])
theorem zay_eq:runY Tryz.prog zay_E zay_H zay_V zay_Y Tryz.f22 zay_T.ps zay_T.res=zay_T.fn:=by kernel_rfl
theorem zay_Fok:SoundP Tryz.prog G0 22 zay_F:=closeF_sound (runF_sound ⟨same_ok,(envP_cons zbg_Fok envP_nil),envS_nil,envP_nil,envX_nil⟩ Tryz.func22 rfl (by kernel_rfl))
theorem zay_ok:TOk zay_F zay_T:=runY_ok (E:=zay_E) (ET:=zay_V) (EnvT.ofX (pure_of (pairs_cons zbg_ok pairs_nil)) looks_nil raws_nil G0_ok news_nil) zay_eq rfl
def zb8_E:Env:=(eZ [(119,za5_F)] [188])
def zb8_H:Hints:=(hZ [] [])
def zb8_F:PFn:=closeF (runF Tryz.prog zb8_E zb8_H Tryz.f118)
def zb8_Y:TH:={ loops:=[],ro:=[2,3] }
def zb8 (a0:vV2) (a1:(Int×Int×Unit)):Option Int :=
(za5 a0.1 a1).bind fun r1 =>
 some r1
def zb8_T:TFn:={ ps:=(.cons tT8 tT13),res:=(.int .i64),fn:=fun v=>zb8 v.1 v.2.1 }
def zb8_V:TEnv:=(vZ [(119,za5_T)])
theorem zb8_eq:runY Tryz.prog zb8_E zb8_H zb8_V zb8_Y Tryz.f118 zb8_T.ps zb8_T.res=zb8_T.fn:=by kernel_rfl
theorem zb8_Fok:SoundP Tryz.prog G0 118 zb8_F:=closeF_sound (runF_sound ⟨same_ok,(envP_cons za5_Fok envP_nil),envS_nil,envP_nil,envX_nil⟩ Tryz.func118 rfl (by kernel_rfl))
theorem zb8_ok:TOk zb8_F zb8_T:=runY_ok (E:=zb8_E) (ET:=zb8_V) (EnvT.ofX (pure_of (pairs_cons za5_ok pairs_nil)) looks_nil raws_nil G0_ok news_nil) zb8_eq rfl
def zak_ren:Go.Shelf.Ren:=⟨fun | 41=>121 | n=>n,fun | 22=>22 | 23=>51 | 4=>4 | n=>n,fun | n=>n⟩
theorem zak_lays:Go.Proofs.SlLaysE0.n41 Tryz.prog zak_ren:={
 mixed:=by kernel_rfl
 f41:=⟨Tryz.f121.name,by decide,Tryz.func121.trans (congrArg some (by kernel_rfl))⟩
 t4:=Tryz.underlying4
 a4:=Tryz.isAgg4
 z4:=Tryz.sizeOf4
 v4:=Tryz.zeroValue4
 t22:=Tryz.underlying22
 a22:=Tryz.isAgg22
 z22:=Tryz.sizeOf22
 v22:=Tryz.zeroValue22 }
def zak_S:SFn:=cloneS 6 51
theorem zak_Sok:SoundS Tryz.prog G0 121 zak_S:=clone_own zak_lays rfl rfl (elem_lays (P:=Tryz.prog) (te:=51) (M:=6) (by kernel_rfl) (by kernel_rfl) (by kernel_rfl) (by kernel_rfl) (by kernel_rfl) (by kernel_rfl) (by kernel_rfl) (by kernel_rfl)) ⟨Tryz.f121,Tryz.func121,rfl,by kernel_rfl⟩
def zak (a0:List vV2):Option (List vV2):=cloneT a0
def zak_N:TNew:=cloneN 51 tT8
theorem zak_ok:TNewOk zak_S zak_N:=cloneN_ok rfl rfl rfl
def zaj_ren:Go.Shelf.Ren:=⟨fun | 22=>120 | 29=>161 | 30=>162 | n=>n,fun | 24=>22 | 9=>51 | 0=>0 | 3=>3 | 4=>4 | n=>n,fun | n=>n⟩
theorem zaj_lays:InsL Tryz.prog zaj_ren:={
 mixed:=by kernel_rfl
 f22:=⟨Tryz.f120.name,by decide,Tryz.func120.trans (congrArg some (by kernel_rfl))⟩
 f29:=⟨Tryz.f161.name,by decide,by kernel_rfl,by kernel_rfl,Tryz.func161.trans (congrArg some (by kernel_rfl))⟩
 t0:=Tryz.underlying0
 a0:=Tryz.isAgg0
 z0:=Tryz.sizeOf0
 v0:=Tryz.zeroValue0
 t3:=Tryz.underlying3
 a3:=Tryz.isAgg3
 z3:=Tryz.sizeOf3
 v3:=Tryz.zeroValue3
 t4:=Tryz.underlying4
 a4:=Tryz.isAgg4
 z4:=Tryz.sizeOf4
 v4:=Tryz.zeroValue4
 t24:=Tryz.underlying22
 a24:=Tryz.isAgg22
 z24:=Tryz.sizeOf22
 v24:=Tryz.zeroValue22 }
def zaj_S:SFn:=insertS 6 51
theorem zaj_Sok:SoundS Tryz.prog G0 120 zaj_S:=insert_own zaj_lays rfl rfl rfl (elem_lays (P:=Tryz.prog) (te:=51) (M:=6) (by kernel_rfl) (by kernel_rfl) (by kernel_rfl) (by kernel_rfl) (by kernel_rfl) (by kernel_rfl) (by kernel_rfl) (by kernel_rfl)) true Tryz.isAgg51 ⟨Tryz.f120,Tryz.func120,rfl,by kernel_rfl⟩
def zaj (a1:Int) (a2:List vV2) (w0:List vV2):Option (Unit×List vV2×Unit):=(insT w0 a1 a2).map fun l=>((),(l,()))
def zaj_R:TRaw:=insR false 51 tT8
theorem zaj_ok:TRawOk zaj_S zaj_R:=insR_ok rfl rfl rfl rfl (by decide)
def zab_E:Env:=(eZ [(118,zb8_F)] [188])
def zab_H:Hints:=(hZ [(3,[0,2,4,8,9,10])] [])
def zab_F:PFn:=closeF (runF Tryz.prog zab_E zab_H Tryz.f117)
def zab_Y:TH:={ joins:=[(8,{ keep:=[(4,(.bx 0 0)),(9,(.int .i64))],mem:=[.same] })],loops:=[(3,{ keep:=[(4,(.bx 0 0)),(9,(.int .i64)),(10,(.int .i64))],mem:=[.same] })],ro:=[4] }
def zab_l3 (a0:List vV2) (a1:(Int×Int×Unit)) (y3:(Int×Int×Unit)):Option ((Int×Int×Unit)⊕((Int×Unit)⊕(Int×Bool×Unit))) :=
 cond (decide (y3.1<y3.2.1)) (
(shrT .u64 (IntKind.wrap .u64 (IntKind.wrap .i64 (y3.1+y3.2.1))) 1).bind fun t1 =>
(atI a0 (IntKind.wrap .i64 t1)).bind fun x2 =>
(zb8 x2 a1).bind fun r3 =>
 cond (decide (r3<0)) (
 some (.inl ((IntKind.wrap .i64 ((IntKind.wrap .i64 t1)+1)),y3.2.1,()))) (
 some (.inl (y3.1,(IntKind.wrap .i64 t1),())))) (
 some (.inr (.inl (y3.1,()))))
def zab (a0:List vV2) (a1:(Int×Int×Unit)) (a2:Unit):Option (Int×Bool×Unit) :=
(loopT (zab_l3 a0 a1) (0,(a0.length:Int),()):Option ((Int×Unit)⊕(Int×Bool×Unit))).bind (joinS fun v4 =>
 cond (decide (v4.1<(a0.length:Int))) ((atI a0 v4.1).bind fun x5 =>
(zb8 x5 a1).bind fun r6 =>
 some (v4.1,(decide (r6=0)),())) (some (v4.1,false,())))
def zab_T:TFn:={ ps:=(.cons (.sl tT8) (.cons (.agg (.cons (.int .i64) tT9)) (.cons (.fn 118) .unit))),res:=(.tup (.cons (.int .i64) (.cons .bool .unit))),fn:=fun v=>zab v.1 v.2.1 v.2.2.1 }
def zab_V:TEnv:=(vZ [(118,zb8_T)])
theorem zab_eq:runY Tryz.prog zab_E zab_H zab_V zab_Y Tryz.f117 zab_T.ps zab_T.res=zab_T.fn:=by kernel_rfl
theorem zab_Fok:SoundP Tryz.prog G0 117 zab_F:=closeF_sound (runF_sound ⟨same_ok,(envP_cons zb8_Fok envP_nil),envS_nil,envP_nil,envX_nil⟩ Tryz.func117 rfl (by kernel_rfl))
theorem zab_ok:TOk zab_F zab_T:=runY_ok (E:=zab_E) (ET:=zab_V) (EnvT.ofX (pure_of (pairs_cons zb8_ok pairs_nil)) looks_nil raws_nil G0_ok news_nil) zab_eq rfl
def zcp_E:Env:={ pure:=[(117,zab_F)],raw:=[(121,zak_S),(120,zaj_S)],glob:=G0,same:=[188],look:=[],ext:=[] }
def zcp_H:Hints:={ seqs:=[],loops:=[],own:=[19],frz:=[(4,[3])] }
def zcp_F:PFn:=closeF (runF Tryz.prog zcp_E zcp_H Tryz.f62)
def zcp_Y:TH:=yZ
def zcp (a0:List vV2) (a1:vV2):Option (List vV2) :=
(zab a0 a1.1 ()).bind fun r1 =>
 cond r1.2.1 (
 some a0) (
(zak a0).bind fun n2 =>
(zaj r1.1 ([a1]:List vV2) n2).bind fun q3 =>
 some q3.2.1)
def zcp_T:TFn:={ ps:=(.cons (.sl tT8) (.cons tT8 .unit)),res:=(.sl tT8),fn:=fun v=>zcp v.1 v.2.1 }
def zcp_V:TEnv:={ pure:=[(117,zab_T)],look:=[],glob:=G0T,ty:=[(51,tT8)],raw:=[(120,zaj_R)],fresh:=[(121,zak_N)] }
theorem zcp_eq:runY Tryz.prog zcp_E zcp_H zcp_V zcp_Y Tryz.f62 zcp_T.ps zcp_T.res=zcp_T.fn:=by kernel_rfl
theorem zcp_Fok:SoundP Tryz.prog G0 62 zcp_F:=closeF_sound (runF_sound ⟨same_ok,(envP_cons zab_Fok envP_nil),(envS_cons zak_Sok (envS_cons zaj_Sok envS_nil)),envP_nil,envX_nil⟩ Tryz.func62 rfl (by kernel_rfl))
theorem zcp_ok:TOk zcp_F zcp_T:=runY_ok (E:=zcp_E) (ET:=zcp_V) (EnvT.ofX (pure_of (pairs_cons zab_ok pairs_nil)) looks_nil (raws_more (raws_cons zaj_ok rfl rfl raws_nil) rfl) G0_ok (news_cons zak_ok rfl rfl rfl news_nil)) zcp_eq rfl
def zcb_E:Env:=(eZ [(62,zcp_F)] [188])
def zcb_H:Hints:=(hZ [] [])
def zcb_F:PFn:=closeF (runF Tryz.prog zcb_E zcb_H Tryz.f21)
def zcb_Y:TH:={ loops:=[],ro:=[3] }
def zcb (a0:List vV2) (a1:vV2):Option (List vV2) :=
 cond (decide ((a1.2.2.2.2.1.length:Int)=0)) (
 some a0) (
(zcp a0 a1).bind fun r1 =>
 some r1)
def zcb_T:TFn:={ ps:=(.cons (.sl tT8) (.cons tT8 .unit)),res:=(.sl tT8),fn:=fun v=>zcb v.1 v.2.1 }
def zcb_V:TEnv:=(vZ [(62,zcp_T)])
theorem zcb_eq:runY Tryz.prog zcb_E zcb_H zcb_V zcb_Y Tryz.f21 zcb_T.ps zcb_T.res=zcb_T.fn:=by kernel_rfl
theorem zcb_Fok:SoundP Tryz.prog G0 21 zcb_F:=closeF_sound (runF_sound ⟨same_ok,(envP_cons zcp_Fok envP_nil),envS_nil,envP_nil,envX_nil⟩ Tryz.func21 rfl (by kernel_rfl))
theorem zcb_ok:TOk zcb_F zcb_T:=runY_ok (E:=zcb_E) (ET:=zcb_V) (EnvT.ofX (pure_of (pairs_cons zcp_ok pairs_nil)) looks_nil raws_nil G0_ok news_nil) zcb_eq rfl
def zao_F:PFn:=decodeF
theorem zao_Fok:SoundP Tryz.prog G0 229 zao_F:=decode_sound (g3:=0) (g4:=1) ⟨Tryz.f229,Tryz.func229,rfl,by kernel_rfl⟩ (by kernel_rfl) (by kernel_rfl) (fun s w hT=>Tryz.utf8_DecodeRuneInString s w hT)
def zao (a0:List UInt8):Option (Int×Int×Unit):=decodeT a0
def zao_T:TFn:=decodeT_T
theorem zao_ok:TOk zao_F zao_T:=decodeT_ok
def zbw_E:Env:=(eZ [(229,zao_F)] [188])
def zbw_H:Hints:=(hZ [(3,[0,4,10])] [])
def zbw_F:PFn:=closeF (runF Tryz.prog zbw_E zbw_H Tryz.f193)
def zbw_Y:TH:={ joins:=[(9,{ keep:=[(4,(.own 1)),(10,(.it 0))],mem:=[.iter,.row true 21 (.int .i32)] })],loops:=[(3,{ keep:=[(4,(.own 1)),(10,(.it 0))],mem:=[.iter,.row true 21 (.int .i32)] })],ro:=[] }
def zbw_l3 (a0:List UInt8) (y3:(Nat×List Int×Unit)):Option ((Nat×List Int×Unit)⊕(List Int×Bool×Unit)) :=
 cond (decide (y3.1<a0.length)) ((cond (decide (((Utf8.decode ⟨a0.toArray⟩ y3.1).1:Int)=65533)) (
(subI a0 (y3.1:Int) (a0.length:Int)).bind fun s1 =>
(zao s1).bind fun r2 =>
 cond (decide (r2.2.1≤1)) (
 some (.inr (.inr ([],false,())))) (
 some (.inl ((y3.1+(Utf8.decode ⟨a0.toArray⟩ y3.1).2),y3.2.1,())))) (
 some (.inl ((y3.1+(Utf8.decode ⟨a0.toArray⟩ y3.1).2),y3.2.1,()))):Option ((Nat×List Int×Unit)⊕((Nat×List Int×Unit)⊕(List Int×Bool×Unit)))).bind (joinS fun v3 =>
(roomT (v3.2.1.length+([((Utf8.decode ⟨a0.toArray⟩ y3.1).1:Int)]:List Int).length)).bind fun u4 =>
 some (.inl (v3.1,(v3.2.1++([((Utf8.decode ⟨a0.toArray⟩ y3.1).1:Int)]:List Int)),())))) (some (.inr (y3.2.1,true,())))
def zbw (a0:List UInt8):Option (List Int×Bool×Unit) :=
 loopT (zbw_l3 a0) (0,[],())
def zbw_T:TFn:={ ps:=(.cons .str .unit),res:=(.tup (.cons (.sl (.int .i32)) (.cons .bool .unit))),fn:=fun v=>zbw v.1 }
def zbw_V:TEnv:={ pure:=[(229,zao_T)],look:=[],glob:=G0T,ty:=[(21,(.int .i32))],raw:=[],fresh:=[] }
theorem zbw_eq:runY Tryz.prog zbw_E zbw_H zbw_V zbw_Y Tryz.f193 zbw_T.ps zbw_T.res=zbw_T.fn:=by kernel_rfl
theorem zbw_Fok:SoundP Tryz.prog G0 193 zbw_F:=closeF_sound (runF_sound ⟨same_ok,(envP_cons zao_Fok envP_nil),envS_nil,envP_nil,envX_nil⟩ Tryz.func193 rfl (by kernel_rfl))
theorem zbw_ok:TOk zbw_F zbw_T:=runY_ok (E:=zbw_E) (ET:=zbw_V) (EnvT.ofX (pure_of (pairs_cons zao_ok pairs_nil)) looks_nil raws_nil G0_ok news_nil) zbw_eq rfl
def zch_E:Env:=(eZ [] [188])
def zch_H:Hints:=(hZ [] [])
def zch_F:PFn:=closeF (runF Tryz.prog zch_E zch_H Tryz.f194)
def zch_Y:TH:=yZ
def zch (a0:Int):Option Bool :=
 cond (decide (a0<32)) (
 cond (decide (a0<32)) (
 some false) (
 some (!decide (a0=65533)))) (
 cond (decide (a0≥127)) (cond (decide (a0<160)) (
 some false) (
 some (!decide (a0=65533)))) (some (!decide (a0=65533))))
def zch_T:TFn:={ ps:=(.cons (.int .i32) .unit),res:=.bool,fn:=fun v=>zch v.1 }
def zch_V:TEnv:=(vZ [])
theorem zch_eq:runY Tryz.prog zch_E zch_H zch_V zch_Y Tryz.f194 zch_T.ps zch_T.res=zch_T.fn:=by kernel_rfl
theorem zch_Fok:SoundP Tryz.prog G0 194 zch_F:=closeF_sound (runF_sound ⟨same_ok,envP_nil,envS_nil,envP_nil,envX_nil⟩ Tryz.func194 rfl (by kernel_rfl))
theorem zch_ok:TOk zch_F zch_T:=runY_ok (E:=zch_E) (ET:=zch_V) (EnvT.ofX (pure_of pairs_nil) looks_nil raws_nil G0_ok news_nil) zch_eq rfl
def zb5_E:Env:=(eZ [(193,zbw_F),(194,zch_F)] [188])
def zb5_H:Hints:=(hZ [(5,[24,25,26])] [])
def zb5_F:PFn:=closeF (runF Tryz.prog zb5_E zb5_H Tryz.f154)
def zb5_Y:TH:={ loops:=[(5,{ keep:=[(26,(.int .i64))],mem:=[] })],ro:=[] }
def zb5_l5 (r1:(List Int×Bool×Unit)) (y5:(Int×Unit)):Option ((Int×Unit)⊕Bool) :=
 cond (decide (y5.1<(r1.1.length:Int))) (
(atI r1.1 y5.1).bind fun x2 =>
(zch x2).bind fun r3 =>
 cond (!r3) (
 some (.inr false)) (
 some (.inl ((IntKind.wrap .i64 (y5.1+1)),())))) (
 some (.inr true))
def zb5 (a0:List UInt8):Option Bool :=
(zbw a0).bind fun r1 =>
 cond (!r1.2.1) (some false) (cond (decide ((r1.1.length:Int)=0)) (some false) (cond (decide ((r1.1.length:Int)>24)) (
 some false) (
 loopT (zb5_l5 r1) (0,()))))
def zb5_T:TFn:={ ps:=(.cons .str .unit),res:=.bool,fn:=fun v=>zb5 v.1 }
def zb5_V:TEnv:=(vZ [(193,zbw_T),(194,zch_T)])
theorem zb5_eq:runY Tryz.prog zb5_E zb5_H zb5_V zb5_Y Tryz.f154 zb5_T.ps zb5_T.res=zb5_T.fn:=by kernel_rfl
theorem zb5_Fok:SoundP Tryz.prog G0 154 zb5_F:=closeF_sound (runF_sound ⟨same_ok,(envP_cons zbw_Fok (envP_cons zch_Fok envP_nil)),envS_nil,envP_nil,envX_nil⟩ Tryz.func154 rfl (by kernel_rfl))
theorem zb5_ok:TOk zb5_F zb5_T:=runY_ok (E:=zb5_E) (ET:=zb5_V) (EnvT.ofX (pure_of (pairs_cons zbw_ok (pairs_cons zch_ok pairs_nil))) looks_nil raws_nil G0_ok news_nil) zb5_eq rfl
def za2_E:Env:=(eZ [(154,zb5_F)] [188])
def za2_H:Hints:=(hZ [] [])
def za2_F:PFn:=closeF (runF Tryz.prog za2_E za2_H Tryz.f153)
def za2_Y:TH:=yZ
def za2 (a0:List UInt8):Option Bool :=
(zb5 a0).bind fun r1 =>
 some (!r1)
def za2_T:TFn:={ ps:=(.cons .str .unit),res:=.bool,fn:=fun v=>za2 v.1 }
def za2_V:TEnv:=(vZ [(154,zb5_T)])
theorem za2_eq:runY Tryz.prog za2_E za2_H za2_V za2_Y Tryz.f153 za2_T.ps za2_T.res=za2_T.fn:=by kernel_rfl
theorem za2_Fok:SoundP Tryz.prog G0 153 za2_F:=closeF_sound (runF_sound ⟨same_ok,(envP_cons zb5_Fok envP_nil),envS_nil,envP_nil,envX_nil⟩ Tryz.func153 rfl (by kernel_rfl))
theorem za2_ok:TOk za2_F za2_T:=runY_ok (E:=za2_E) (ET:=za2_V) (EnvT.ofX (pure_of (pairs_cons zb5_ok pairs_nil)) looks_nil raws_nil G0_ok news_nil) za2_eq rfl
def zah_E:Env:=(eZ [(153,za2_F)] [188])
def zah_H:Hints:=(hZ [(2,[0,1,7,8])] [])
def zah_F:PFn:=closeF (runF Tryz.prog zah_E zah_H Tryz.f192)
def zah_Y:TH:={ loops:=[(2,{ keep:=[(8,(.int .i64))],mem:=[] })],ro:=[] }
def zah_l2 (a0:List (List UInt8)) (y2:(Int×Unit)):Option ((Int×Unit)⊕Int) :=
 cond (decide (y2.1<(a0.length:Int))) (
(atI a0 y2.1).bind fun x1 =>
(za2 x1).bind fun r2 =>
 cond r2 (
 some (.inr y2.1)) (
 some (.inl ((IntKind.wrap .i64 (y2.1+1)),())))) (
 some (.inr (-1)))
def zah (a0:List (List UInt8)) (a1:Unit):Option Int :=
 loopT (zah_l2 a0) (0,())
def zah_T:TFn:={ ps:=(.cons (.sl .str) (.cons (.fn 153) .unit)),res:=(.int .i64),fn:=fun v=>zah v.1 v.2.1 }
def zah_V:TEnv:=(vZ [(153,za2_T)])
theorem zah_eq:runY Tryz.prog zah_E zah_H zah_V zah_Y Tryz.f192 zah_T.ps zah_T.res=zah_T.fn:=by kernel_rfl
theorem zah_Fok:SoundP Tryz.prog G0 192 zah_F:=closeF_sound (runF_sound ⟨same_ok,(envP_cons za2_Fok envP_nil),envS_nil,envP_nil,envX_nil⟩ Tryz.func192 rfl (by kernel_rfl))
theorem zah_ok:TOk zah_F zah_T:=runY_ok (E:=zah_E) (ET:=zah_V) (EnvT.ofX (pure_of (pairs_cons za2_ok pairs_nil)) looks_nil raws_nil G0_ok news_nil) zah_eq rfl
def zag_E:Env:=(eZ [(192,zah_F)] [188])
def zag_H:Hints:=(hZ [] [])
def zag_F:PFn:=closeF (runF Tryz.prog zag_E zag_H Tryz.f152)
def zag_Y:TH:=yZ
def zag (a0:List (List UInt8)) (a1:Unit):Option Bool :=
(zah a0 a1).bind fun r1 =>
 some (decide (r1≥0))
def zag_T:TFn:={ ps:=(.cons (.sl .str) (.cons (.fn 153) .unit)),res:=.bool,fn:=fun v=>zag v.1 v.2.1 }
def zag_V:TEnv:=(vZ [(192,zah_T)])
theorem zag_eq:runY Tryz.prog zag_E zag_H zag_V zag_Y Tryz.f152 zag_T.ps zag_T.res=zag_T.fn:=by kernel_rfl
theorem zag_Fok:SoundP Tryz.prog G0 152 zag_F:=closeF_sound (runF_sound ⟨same_ok,(envP_cons zah_Fok envP_nil),envS_nil,envP_nil,envX_nil⟩ Tryz.func152 rfl (by kernel_rfl))
theorem zag_ok:TOk zag_F zag_T:=runY_ok (E:=zag_E) (ET:=zag_V) (EnvT.ofX (pure_of (pairs_cons zah_ok pairs_nil)) looks_nil raws_nil G0_ok news_nil) zag_eq rfl
def zbq_E:Env:=(eZ [(152,zag_F)] [188])
def zbq_H:Hints:=(hZ [] [])
def zbq_F:PFn:=closeF (runF Tryz.prog zbq_E zbq_H Tryz.f97)
def zbq_Y:TH:=yZ
def zbq (a0:List (List UInt8)):Option Int :=
 cond (decide ((a0.length:Int)=0)) (
 some 8) (
 cond (decide ((a0.length:Int)>8)) (
 some 9) (
(zag a0 ()).bind fun r1 =>
 cond r1 (
 some 8) (
 some 0)))
def zbq_T:TFn:={ ps:=(.cons (.sl .str) .unit),res:=(.int .i64),fn:=fun v=>zbq v.1 }
def zbq_V:TEnv:=(vZ [(152,zag_T)])
theorem zbq_eq:runY Tryz.prog zbq_E zbq_H zbq_V zbq_Y Tryz.f97 zbq_T.ps zbq_T.res=zbq_T.fn:=by kernel_rfl
theorem zbq_Fok:SoundP Tryz.prog G0 97 zbq_F:=closeF_sound (runF_sound ⟨same_ok,(envP_cons zag_Fok envP_nil),envS_nil,envP_nil,envX_nil⟩ Tryz.func97 rfl (by kernel_rfl))
theorem zbq_ok:TOk zbq_F zbq_T:=runY_ok (E:=zbq_E) (ET:=zbq_V) (EnvT.ofX (pure_of (pairs_cons zag_ok pairs_nil)) looks_nil raws_nil G0_ok news_nil) zbq_eq rfl
def zbd_E:Env:=(eZ [(193,zbw_F)] [188])
def zbd_H:Hints:=(hZ [] [])
def zbd_F:PFn:=closeF (runF Tryz.prog zbd_E zbd_H Tryz.f155)
def zbd_Y:TH:={ loops:=[],ro:=[1] }
def zbd (a0:(Int×Int×List UInt8×Unit)):Option Bool :=
 cond (decide (a0.1=1)) (
 cond (decide (a0.2.2.1=[])) (cond (decide (a0.2.1≥(-2147483647))) (some (decide (a0.2.1≤2147483647))) (some false)) (some false)) (
 cond (decide (a0.1=2)) (
(zbw a0.2.2.1).bind fun r1 =>
 cond r1.2.1 (cond (decide (a0.2.1=0)) (some (decide ((a0.2.2.1.length:Int)≤64))) (some false)) (some false)) (
 cond (decide (a0.1=3)) (
 cond (decide (a0.2.2.1=[])) (cond (decide (a0.2.1=0)) (some true) (some (decide (a0.2.1=1)))) (some false)) (
 some false)))
def zbd_T:TFn:={ ps:=(.cons tT11 .unit),res:=.bool,fn:=fun v=>zbd v.1 }
def zbd_V:TEnv:=(vZ [(193,zbw_T)])
theorem zbd_eq:runY Tryz.prog zbd_E zbd_H zbd_V zbd_Y Tryz.f155 zbd_T.ps zbd_T.res=zbd_T.fn:=by kernel_rfl
theorem zbd_Fok:SoundP Tryz.prog G0 155 zbd_F:=closeF_sound (runF_sound ⟨same_ok,(envP_cons zbw_Fok envP_nil),envS_nil,envP_nil,envX_nil⟩ Tryz.func155 rfl (by kernel_rfl))
theorem zbd_ok:TOk zbd_F zbd_T:=runY_ok (E:=zbd_E) (ET:=zbd_V) (EnvT.ofX (pure_of (pairs_cons zbw_ok pairs_nil)) looks_nil raws_nil G0_ok news_nil) zbd_eq rfl
def zcc_E:Env:=(eZ [(155,zbd_F)] [188])
def zcc_H:Hints:=(hZ [] [])
def zcc_F:PFn:=closeF (runF Tryz.prog zcc_E zcc_H Tryz.f98)
def zcc_Y:TH:={ loops:=[],ro:=[1] }
def zcc (a0:vV0):Option Bool :=
 cond (decide (a0.1=3)) (some (eqV tT11 a0.2.2.1 (0,0,[],()))) (cond (decide (a0.1=5)) (
 some (eqV tT11 a0.2.2.1 (0,0,[],()))) (
(zbd a0.2.2.1).bind fun r1 =>
 some r1))
def zcc_T:TFn:={ ps:=(.cons tT6 .unit),res:=.bool,fn:=fun v=>zcc v.1 }
def zcc_V:TEnv:=(vZ [(155,zbd_T)])
theorem zcc_eq:runY Tryz.prog zcc_E zcc_H zcc_V zcc_Y Tryz.f98 zcc_T.ps zcc_T.res=zcc_T.fn:=by kernel_rfl
theorem zcc_Fok:SoundP Tryz.prog G0 98 zcc_F:=closeF_sound (runF_sound ⟨same_ok,(envP_cons zbd_Fok envP_nil),envS_nil,envP_nil,envX_nil⟩ Tryz.func98 rfl (by kernel_rfl))
theorem zcc_ok:TOk zcc_F zcc_T:=runY_ok (E:=zcc_E) (ET:=zcc_V) (EnvT.ofX (pure_of (pairs_cons zbd_ok pairs_nil)) looks_nil raws_nil G0_ok news_nil) zcc_eq rfl
def zca_E:Env:=(eZ [] [188])
def zca_H:Hints:=(hZ [] [])
def zca_F:PFn:=closeF (runF Tryz.prog zca_E zca_H Tryz.f99)
def zca_Y:TH:={ loops:=[],ro:=[1] }
def zca (a0:vV0):Option Bool :=
 cond (decide (a0.1=3)) (
 cond (!decide (a0.2.2.2.1=0)) (cond (decide (a0.2.2.2.1≥(-2147483647))) (some (decide (a0.2.2.2.1≤2147483647))) (some false)) (some false)) (
 some (decide (a0.2.2.2.1=0)))
def zca_T:TFn:={ ps:=(.cons tT6 .unit),res:=.bool,fn:=fun v=>zca v.1 }
def zca_V:TEnv:=(vZ [])
theorem zca_eq:runY Tryz.prog zca_E zca_H zca_V zca_Y Tryz.f99 zca_T.ps zca_T.res=zca_T.fn:=by kernel_rfl
theorem zca_Fok:SoundP Tryz.prog G0 99 zca_F:=closeF_sound (runF_sound ⟨same_ok,envP_nil,envS_nil,envP_nil,envX_nil⟩ Tryz.func99 rfl (by kernel_rfl))
theorem zca_ok:TOk zca_F zca_T:=runY_ok (E:=zca_E) (ET:=zca_V) (EnvT.ofX (pure_of pairs_nil) looks_nil raws_nil G0_ok news_nil) zca_eq rfl
def zcf_E:Env:=(eZ [] [188])
def zcf_H:Hints:=(hZ [] [])
def zcf_F:PFn:=closeF (runF Tryz.prog zcf_E zcf_H Tryz.f156)
def zcf_Y:TH:={ loops:=[],ro:=[1] }
def zcf (a0:(Int×Int×Unit)):Option Bool :=
 cond (decide (a0.1≥0)) (cond (decide (a0.1<16)) (cond (decide (a0.2.1≥1)) (some (decide (a0.2.1≤1048576))) (some false)) (some false)) (some false)
def zcf_T:TFn:={ ps:=tT13,res:=.bool,fn:=fun v=>zcf v.1 }
def zcf_V:TEnv:=(vZ [])
theorem zcf_eq:runY Tryz.prog zcf_E zcf_H zcf_V zcf_Y Tryz.f156 zcf_T.ps zcf_T.res=zcf_T.fn:=by kernel_rfl
theorem zcf_Fok:SoundP Tryz.prog G0 156 zcf_F:=closeF_sound (runF_sound ⟨same_ok,envP_nil,envS_nil,envP_nil,envX_nil⟩ Tryz.func156 rfl (by kernel_rfl))
theorem zcf_ok:TOk zcf_F zcf_T:=runY_ok (E:=zcf_E) (ET:=zcf_V) (EnvT.ofX (pure_of pairs_nil) looks_nil raws_nil G0_ok news_nil) zcf_eq rfl
def zcl_E:Env:=(eZ [(119,za5_F),(124,zb4_F),(126,zas_F)] [188])
def zcl_H:Hints:=(hZ [] [])
def zcl_F:PFn:=closeF (runF Tryz.prog zcl_E zcl_H Tryz.f108)
def zcl_Y:TH:={ loops:=[],ro:=[2,3] }
def zcl (a0:vV1) (a1:vV1):Option Int :=
(za5 a0.1 a1.1).bind fun r1 =>
(zas a0.2.1 a1.2.1).bind fun r2 =>
(zb4 ([r1,r2]:List Int)).bind fun r3 =>
 some r3
def zcl_T:TFn:={ ps:=(.cons tT7 (.cons tT7 .unit)),res:=(.int .i64),fn:=fun v=>zcl v.1 v.2.1 }
def zcl_V:TEnv:={ pure:=[(119,za5_T),(124,zb4_T),(126,zas_T)],look:=[],glob:=G0T,ty:=[(3,(.int .i64))],raw:=[],fresh:=[] }
theorem zcl_eq:runY Tryz.prog zcl_E zcl_H zcl_V zcl_Y Tryz.f108 zcl_T.ps zcl_T.res=zcl_T.fn:=by kernel_rfl
theorem zcl_Fok:SoundP Tryz.prog G0 108 zcl_F:=closeF_sound (runF_sound ⟨same_ok,(envP_cons za5_Fok (envP_cons zb4_Fok (envP_cons zas_Fok envP_nil))),envS_nil,envP_nil,envX_nil⟩ Tryz.func108 rfl (by kernel_rfl))
theorem zcl_ok:TOk zcl_F zcl_T:=runY_ok (E:=zcl_E) (ET:=zcl_V) (EnvT.ofX (pure_of (pairs_cons za5_ok (pairs_cons zb4_ok (pairs_cons zas_ok pairs_nil)))) looks_nil raws_nil G0_ok news_nil) zcl_eq rfl
theorem za5_FokD : @SoundP ⟨True⟩ Tryz.prog G0 119 za5_F:=by
 letI:Drawn:=⟨True⟩
 exact closeF_sound (runF_sound ⟨same_ok,(envP_cons zb4_FokD (envP_cons zas_FokD envP_nil)),envS_nil,envP_nil,envX_nil⟩ Tryz.func119 rfl (by kernel_rfl))
theorem zcl_FokD : @SoundP ⟨True⟩ Tryz.prog G0 108 zcl_F:=by
 letI:Drawn:=⟨True⟩
 exact closeF_sound (runF_sound ⟨same_ok,(envP_cons za5_FokD (envP_cons zb4_FokD (envP_cons zas_FokD envP_nil))),envS_nil,envP_nil,envX_nil⟩ Tryz.func108 rfl (by kernel_rfl))
def zai_ren:Go.Shelf.Ren:=⟨fun | 6=>107 | 14=>158 | 15=>123 | 20=>195 | 21=>196 | 22=>197 | 23=>198 | 24=>199 | 25=>200 | 26=>201 | 27=>202 | 28=>171 | 29=>172 | 46=>230 | 47=>205 | 48=>206 | 49=>231 | 50=>232 | 57=>250 | n=>n,fun | 0=>0 | 3=>3 | 4=>4 | 5=>5 | 9=>9 | 22=>27 | 24=>94 | 25=>101 | 39=>162 | 45=>194 | 46=>195 | 50=>155 | 53=>201 | 55=>203 | 66=>223 | 70=>227 | 76=>249 | 77=>189 | n=>n,fun | n=>n⟩
theorem zai_lays:Go.Proofs.SlLaysF0.n6 Tryz.prog zai_ren:={
 mixed:=by kernel_rfl
 f6:=⟨Tryz.f107.name,by decide,Tryz.func107.trans (congrArg some (by kernel_rfl))⟩
 f14:=⟨Tryz.f158.name,by decide,Tryz.func158.trans (congrArg some (by kernel_rfl))⟩
 f15:=Tryz.func123.trans (congrArg some (by kernel_rfl))
 f20:=⟨Tryz.f195.name,by decide,Tryz.func195.trans (congrArg some (by kernel_rfl))⟩
 f21:=⟨Tryz.f196.name,by decide,Tryz.func196.trans (congrArg some (by kernel_rfl))⟩
 f22:=⟨Tryz.f197.name,by decide,Tryz.func197.trans (congrArg some (by kernel_rfl))⟩
 f23:=⟨Tryz.f198.name,by decide,Tryz.func198.trans (congrArg some (by kernel_rfl))⟩
 f24:=⟨Tryz.f199.name,by decide,Tryz.func199.trans (congrArg some (by kernel_rfl))⟩
 f25:=⟨Tryz.f200.name,by decide,Tryz.func200.trans (congrArg some (by kernel_rfl))⟩
 f26:=⟨Tryz.f201.name,by decide,Tryz.func201.trans (congrArg some (by kernel_rfl))⟩
 f27:=⟨Tryz.f202.name,by decide,Tryz.func202.trans (congrArg some (by kernel_rfl))⟩
 f28:=Tryz.func171.trans (congrArg some (by kernel_rfl))
 f29:=Tryz.func172.trans (congrArg some (by kernel_rfl))
 f46:=⟨Tryz.f230.name,by decide,Tryz.func230.trans (congrArg some (by kernel_rfl))⟩
 f47:=Tryz.func205.trans (congrArg some (by kernel_rfl))
 f48:=Tryz.func206.trans (congrArg some (by kernel_rfl))
 f49:=⟨Tryz.f231.name,by decide,Tryz.func231.trans (congrArg some (by kernel_rfl))⟩
 f50:=⟨Tryz.f232.name,by decide,Tryz.func232.trans (congrArg some (by kernel_rfl))⟩
 f57:=⟨Tryz.f250.name,by decide,Tryz.func250.trans (congrArg some (by kernel_rfl))⟩
 t0:=Tryz.underlying0
 a0:=Tryz.isAgg0
 z0:=Tryz.sizeOf0
 v0:=Tryz.zeroValue0
 t3:=Tryz.underlying3
 a3:=Tryz.isAgg3
 z3:=Tryz.sizeOf3
 v3:=Tryz.zeroValue3
 t4:=Tryz.underlying4
 a4:=Tryz.isAgg4
 z4:=Tryz.sizeOf4
 v4:=Tryz.zeroValue4
 t5:=Tryz.underlying5
 a5:=Tryz.isAgg5
 z5:=Tryz.sizeOf5
 v5:=Tryz.zeroValue5
 t9:=Tryz.underlying9
 a9:=Tryz.isAgg9
 z9:=Tryz.sizeOf9
 v9:=Tryz.zeroValue9
 t22:=Tryz.underlying27
 a22:=Tryz.isAgg27
 z22:=Tryz.sizeOf27
 v22:=Tryz.zeroValue27
 t25:=Tryz.underlying101
 a25:=Tryz.isAgg101
 z25:=Tryz.sizeOf101
 v25:=Tryz.zeroValue101
 t39:=Tryz.underlying162
 a39:=Tryz.isAgg162
 z39:=Tryz.sizeOf162
 v39:=Tryz.zeroValue162
 t45:=Tryz.underlying194
 a45:=Tryz.isAgg194
 z45:=Tryz.sizeOf194
 v45:=Tryz.zeroValue194
 t46:=Tryz.underlying195
 a46:=Tryz.isAgg195
 z46:=Tryz.sizeOf195
 v46:=Tryz.zeroValue195
 t50:=Tryz.underlying155
 a50:=Tryz.isAgg155
 z50:=Tryz.sizeOf155
 v50:=Tryz.zeroValue155
 t53:=Tryz.underlying201
 a53:=Tryz.isAgg201
 z53:=Tryz.sizeOf201
 v53:=Tryz.zeroValue201
 t55:=Tryz.underlying203
 a55:=Tryz.isAgg203
 z55:=Tryz.sizeOf203
 v55:=Tryz.zeroValue203
 t66:=Tryz.underlying223
 a66:=Tryz.isAgg223
 z66:=Tryz.sizeOf223
 v66:=Tryz.zeroValue223
 t70:=Tryz.underlying227
 a70:=Tryz.isAgg227
 z70:=Tryz.sizeOf227
 v70:=Tryz.zeroValue227
 t76:=Tryz.underlying249
 a76:=Tryz.isAgg249
 z76:=Tryz.sizeOf249
 v76:=Tryz.zeroValue249
 t77:=Tryz.underlying189
 a77:=Tryz.isAgg189
 z77:=Tryz.sizeOf189
 v77:=Tryz.zeroValue189 }
def zai_S:SFn:=sortS zcl_F 108 3 94
theorem zai_Sok:SoundS Tryz.prog G0 107 zai_S:=sortS_sound (M:=3) (g:=108) zai_lays (by decide) (fun w=>Tryz.isAgg94 w) (fun w=>Tryz.sizeOf94 w) zcl_FokD ⟨Tryz.f107,Tryz.func107,rfl,by kernel_rfl⟩
def zai (w0:List vV1):Option (Unit×List vV1×Unit):=(sortT (fun x y=>zcl x y) w0).map fun l=>((),(l,()))
def zai_R:TRaw:=sortR false 108 94 tT7 (fun x y=>zcl x y)
theorem zai_ok:TRawOk zai_S zai_R:=sortR_ok rfl rfl rfl rfl zcl_ok
def zco_E:Env:=(eZ [(108,zcl_F),(156,zcf_F)] [188])
def zco_H:Hints:=(hZ [(2,[0,5,6,7])] [])
def zco_F:PFn:=closeF (runF Tryz.prog zco_E zco_H Tryz.f100)
def zco_Y:TH:={ loops:=[(2,{ keep:=[(7,(.int .i64))],mem:=[] })],cuts:=[(4,[(9,{ keep:=[(4,(.bx 0 0)),(20,.bool)],mem:=[.box 94 tT7] }),(5,{ keep:=[(4,(.bx 0 0)),(25,.bool)],mem:=[.box 94 tT7] })])],ro:=[],news:=[] }
def zco_l2 (a0:List vV1) (y2:(Int×Unit)):Option ((Int×Unit)⊕Bool) :=
 cond (decide (y2.1<(a0.length:Int))) (
(atI a0 y2.1).bind fun x1 =>
((zcf x1.1).bind fun r2 =>
 cond (!r2) (some (true,x1,())) (some ((decide (x1.2.1<0)),x1,())):Option (Bool×vV1×Unit)).bind fun v3 =>
(cond v3.1 (some (true,v3.2.1,())) (some ((decide (v3.2.1.2.1≥16)),v3.2.1,())):Option (Bool×vV1×Unit)).bind fun v4 =>
 cond v4.1 (some (.inr false)) (cond (decide (y2.1>0)) ((atI a0 (IntKind.wrap .i64 (y2.1-1))).bind fun x5 =>
(zcl x5 v4.2.1).bind fun r6 =>
 cond (decide (r6≥0)) (
 some (.inr false)) (
 some (.inl ((IntKind.wrap .i64 (y2.1+1)),())))) (some (.inl ((IntKind.wrap .i64 (y2.1+1)),()))))) (
 some (.inr true))
def zco (a0:List vV1):Option Bool :=
 loopT (zco_l2 a0) (0,())
def zco_T:TFn:={ ps:=(.cons (.sl tT7) .unit),res:=.bool,fn:=fun v=>zco v.1 }
def zco_V:TEnv:=(vZ [(108,zcl_T),(156,zcf_T)])
theorem zco_eq:runY Tryz.prog zco_E zco_H zco_V zco_Y Tryz.f100 zco_T.ps zco_T.res=zco_T.fn:=by kernel_rfl
theorem zco_Fok:SoundP Tryz.prog G0 100 zco_F:=closeF_sound (runF_sound ⟨same_ok,(envP_cons zcl_Fok (envP_cons zcf_Fok envP_nil)),envS_nil,envP_nil,envX_nil⟩ Tryz.func100 rfl (by kernel_rfl))
theorem zco_ok:TOk zco_F zco_T:=runY_ok (E:=zco_E) (ET:=zco_V) (EnvT.ofX (pure_of (pairs_cons zcl_ok (pairs_cons zcf_ok pairs_nil))) looks_nil raws_nil G0_ok news_nil) zco_eq rfl
def zcj_E:Env:=(eZ [(97,zbq_F),(98,zcc_F),(99,zca_F),(100,zco_F)] [188])
def zcj_H:Hints:=(hZ [] [])
def zcj_F:PFn:=closeF (runF Tryz.prog zcj_E zcj_H Tryz.f48)
def zcj_Y:TH:={ joins:=[(10,{ keep:=[(1,(.bx 0 0)),(32,.bool)],mem:=[.same] })],loops:=[],cuts:=[(6,[(8,{ keep:=[(1,(.bx 0 0)),(26,.bool)],mem:=[.same] }),(5,{ keep:=[(1,(.bx 0 0)),(31,.bool)],mem:=[.same] })]),(9,[(8,{ keep:=[(1,(.bx 0 0)),(46,.bool)],mem:=[.same] })])],ro:=[1],news:=[] }
def zcj (a0:vV0):Option Int :=
 cond (decide (a0.1<1)) (some 18) (cond (decide (a0.1>5)) (
 some 18) (
(zbq a0.2.1).bind fun r1 =>
 cond (!decide (r1=0)) (
 some r1) (
(cond (decide (a0.1=1)) (some (true,())) (some ((decide (a0.1=4)),())):Option (Bool×Unit)).bind fun v2 =>
(cond v2.1 (some (true,())) (some ((decide (a0.1=5)),())):Option (Bool×Unit)).bind fun v3 =>
((zcc a0).bind fun r4 =>
 cond (!r4) (
 some (.inl ((!r4),()))) (
(zca a0).bind fun r5 =>
 cond (!r5) (
 some (.inl ((!r5),()))) (
(cond (!v3.1) (some ((decide ((a0.2.2.2.2.1.length:Int)>0)),())) (some (false,())):Option (Bool×Unit)).bind fun v6 =>
 some (.inl (v6.1,())))):Option ((Bool×Unit)⊕Int)).bind (joinS fun v7 =>
 cond v7.1 (
 some 2) (
 cond (decide ((a0.2.2.2.2.1.length:Int)>256)) (
 some 7) (
(zco a0.2.2.2.2.1).bind fun r8 =>
 cond (!r8) (
 some 2) (
 some 0)))))))
def zcj_T:TFn:={ ps:=(.cons tT6 .unit),res:=(.int .i64),fn:=fun v=>zcj v.1 }
def zcj_V:TEnv:=(vZ [(97,zbq_T),(98,zcc_T),(99,zca_T),(100,zco_T)])
theorem zcj_eq:runY Tryz.prog zcj_E zcj_H zcj_V zcj_Y Tryz.f48 zcj_T.ps zcj_T.res=zcj_T.fn:=by kernel_rfl
theorem zcj_Fok:SoundP Tryz.prog G0 48 zcj_F:=closeF_sound (runF_sound ⟨same_ok,(envP_cons zbq_Fok (envP_cons zcc_Fok (envP_cons zca_Fok (envP_cons zco_Fok envP_nil)))),envS_nil,envP_nil,envX_nil⟩ Tryz.func48 rfl (by kernel_rfl))
theorem zcj_ok:TOk zcj_F zcj_T:=runY_ok (E:=zcj_E) (ET:=zcj_V) (EnvT.ofX (pure_of (pairs_cons zbq_ok (pairs_cons zcc_ok (pairs_cons zca_ok (pairs_cons zco_ok pairs_nil))))) looks_nil raws_nil G0_ok news_nil) zcj_eq rfl
def zan_E:Env:=(eZ [] [188])
def zan_H:Hints:=(hZ [(4,[0,1,12,13])] [])
def zan_F:PFn:=closeF (runF Tryz.prog zan_E zan_H Tryz.f132)
def zan_Y:TH:={ loops:=[(4,{ keep:=[(13,(.int .i64))],mem:=[] })],ro:=[] }
def zan_l4 (a0:List (List UInt8)) (a1:List (List UInt8)) (y4:(Int×Unit)):Option ((Int×Unit)⊕Bool) :=
 cond (decide (y4.1<(a0.length:Int))) (
(atI a0 y4.1).bind fun x1 =>
(atI a1 y4.1).bind fun x2 =>
 cond (!decide (x1=x2)) (
 some (.inr false)) (
 some (.inl ((IntKind.wrap .i64 (y4.1+1)),())))) (
 some (.inr true))
def zan (a0:List (List UInt8)) (a1:List (List UInt8)):Option Bool :=
 cond (!decide ((a0.length:Int)=(a1.length:Int))) (
 some false) (
 loopT (zan_l4 a0 a1) (0,()))
def zan_T:TFn:={ ps:=(.cons (.sl .str) (.cons (.sl .str) .unit)),res:=.bool,fn:=fun v=>zan v.1 v.2.1 }
def zan_V:TEnv:=(vZ [])
theorem zan_eq:runY Tryz.prog zan_E zan_H zan_V zan_Y Tryz.f132 zan_T.ps zan_T.res=zan_T.fn:=by kernel_rfl
theorem zan_Fok:SoundP Tryz.prog G0 132 zan_F:=closeF_sound (runF_sound ⟨same_ok,envP_nil,envS_nil,envP_nil,envX_nil⟩ Tryz.func132 rfl (by kernel_rfl))
theorem zan_ok:TOk zan_F zan_T:=runY_ok (E:=zan_E) (ET:=zan_V) (EnvT.ofX (pure_of pairs_nil) looks_nil raws_nil G0_ok news_nil) zan_eq rfl
def zce_E:Env:=(eZ [(132,zan_F)] [188])
def zce_H:Hints:=(hZ [] [])
def zce_F:PFn:=closeF (runF Tryz.prog zce_E zce_H Tryz.f72)
def zce_Y:TH:=yZ
def zce (a0:List (List UInt8)) (a1:List (List UInt8)):Option Bool :=
(zan a0 a1).bind fun r1 =>
 some r1
def zce_T:TFn:={ ps:=(.cons (.sl .str) (.cons (.sl .str) .unit)),res:=.bool,fn:=fun v=>zce v.1 v.2.1 }
def zce_V:TEnv:=(vZ [(132,zan_T)])
theorem zce_eq:runY Tryz.prog zce_E zce_H zce_V zce_Y Tryz.f72 zce_T.ps zce_T.res=zce_T.fn:=by kernel_rfl
theorem zce_Fok:SoundP Tryz.prog G0 72 zce_F:=closeF_sound (runF_sound ⟨same_ok,(envP_cons zan_Fok envP_nil),envS_nil,envP_nil,envX_nil⟩ Tryz.func72 rfl (by kernel_rfl))
theorem zce_ok:TOk zce_F zce_T:=runY_ok (E:=zce_E) (ET:=zce_V) (EnvT.ofX (pure_of (pairs_cons zan_ok pairs_nil)) looks_nil raws_nil G0_ok news_nil) zce_eq rfl
def zbr_E:Env:=(eZ [(132,zan_F)] [188])
def zbr_H:Hints:=(hZ [] [])
def zbr_F:PFn:=closeF (runF Tryz.prog zbr_E zbr_H Tryz.f103)
def zbr_Y:TH:=yZ
def zbr (a0:List (List UInt8)) (a1:List (List UInt8)):Option Bool :=
 cond (decide ((a0.length:Int)≥(a1.length:Int))) ((subI a0 0 (a1.length:Int)).bind fun s1 =>
(zan s1 a1).bind fun r2 =>
 some r2) (some false)
def zbr_T:TFn:={ ps:=(.cons (.sl .str) (.cons (.sl .str) .unit)),res:=.bool,fn:=fun v=>zbr v.1 v.2.1 }
def zbr_V:TEnv:=(vZ [(132,zan_T)])
theorem zbr_eq:runY Tryz.prog zbr_E zbr_H zbr_V zbr_Y Tryz.f103 zbr_T.ps zbr_T.res=zbr_T.fn:=by kernel_rfl
theorem zbr_Fok:SoundP Tryz.prog G0 103 zbr_F:=closeF_sound (runF_sound ⟨same_ok,(envP_cons zan_Fok envP_nil),envS_nil,envP_nil,envX_nil⟩ Tryz.func103 rfl (by kernel_rfl))
theorem zbr_ok:TOk zbr_F zbr_T:=runY_ok (E:=zbr_E) (ET:=zbr_V) (EnvT.ofX (pure_of (pairs_cons zan_ok pairs_nil)) looks_nil raws_nil G0_ok news_nil) zbr_eq rfl
def zax_E:Env:=(eZ [(63,zcq_F),(72,zce_F),(103,zbr_F)] [188])
def zax_H:Hints:=(hZ [] [])
def zax_F:PFn:=closeF (runF Tryz.prog zax_E zax_H Tryz.f102)
def zax_Y:TH:={ loops:=[],ro:=[3] }
def zax (a0:vV4) (a1:vV0) (a2:Int):Option Bool :=
(zce a0.2.1.2.1 a1.2.1).bind fun r1 =>
 cond r1 (
(zcq a0.2.1.1).bind fun r2 =>
 some (!decide (r2=a2))) (
(zbr a0.2.1.2.1 a1.2.1).bind fun r3 =>
 cond r3 (some true) ((zbr a1.2.1 a0.2.1.2.1).bind fun r4 =>
 some r4))
def zax_T:TFn:={ ps:=(.cons tT10 (.cons (.rp tT6 0) (.cons (.rp (.int .i64) 0) .unit))),res:=.bool,fn:=fun v=>zax v.1 v.2.1 v.2.2.1 }
def zax_V:TEnv:=(vZ [(63,zcq_T),(72,zce_T),(103,zbr_T)])
theorem zax_eq:runY Tryz.prog zax_E zax_H zax_V zax_Y Tryz.f102 zax_T.ps zax_T.res=zax_T.fn:=by kernel_rfl
theorem zax_Fok:SoundP Tryz.prog G0 102 zax_F:=closeF_sound (runF_sound ⟨same_ok,(envP_cons zcq_Fok (envP_cons zce_Fok (envP_cons zbr_Fok envP_nil))),envS_nil,envP_nil,envX_nil⟩ Tryz.func102 rfl (by kernel_rfl))
theorem zax_ok:TOk zax_F zax_T:=runY_ok (E:=zax_E) (ET:=zax_V) (EnvT.ofX (pure_of (pairs_cons zcq_ok (pairs_cons zce_ok (pairs_cons zbr_ok pairs_nil)))) looks_nil raws_nil G0_ok news_nil) zax_eq rfl
def zae_E:Env:=(eZ [(102,zax_F)] [188])
def zae_H:Hints:=(hZ [(2,[0,1,7,8])] [])
def zae_F:PFn:=closeF (runF Tryz.prog zae_E zae_H Tryz.f157)
def zae_Y:TH:={ loops:=[(2,{ keep:=[(8,(.int .i64))],mem:=[] })],ro:=[] }
def zae_l2 (a0:List vV4) (a1:(vV0×Int×Unit)) (y2:(Int×Unit)):Option ((Int×Unit)⊕Int) :=
 cond (decide (y2.1<(a0.length:Int))) (
(atI a0 y2.1).bind fun x1 =>
(zax x1 a1.1 a1.2.1).bind fun r2 =>
 cond r2 (
 some (.inr y2.1)) (
 some (.inl ((IntKind.wrap .i64 (y2.1+1)),())))) (
 some (.inr (-1)))
def zae (a0:List vV4) (a1:(vV0×Int×Unit)):Option Int :=
 loopT (zae_l2 a0 a1) (0,())
def zae_T:TFn:={ ps:=(.cons (.sl tT10) (.cons (.cl 102 (.cons (.rp tT6 0) (.cons (.rp (.int .i64) 0) .unit))) .unit)),res:=(.int .i64),fn:=fun v=>zae v.1 v.2.1 }
def zae_V:TEnv:=(vZ [(102,zax_T)])
theorem zae_eq:runY Tryz.prog zae_E zae_H zae_V zae_Y Tryz.f157 zae_T.ps zae_T.res=zae_T.fn:=by kernel_rfl
theorem zae_Fok:SoundP Tryz.prog G0 157 zae_F:=closeF_sound (runF_sound ⟨same_ok,(envP_cons zax_Fok envP_nil),envS_nil,envP_nil,envX_nil⟩ Tryz.func157 rfl (by kernel_rfl))
theorem zae_ok:TOk zae_F zae_T:=runY_ok (E:=zae_E) (ET:=zae_V) (EnvT.ofX (pure_of (pairs_cons zax_ok pairs_nil)) looks_nil raws_nil G0_ok news_nil) zae_eq rfl
def zac_E:Env:=(eZ [(157,zae_F)] [188])
def zac_H:Hints:=(hZ [] [])
def zac_F:PFn:=closeF (runF Tryz.prog zac_E zac_H Tryz.f101)
def zac_Y:TH:=yZ
def zac (a0:List vV4) (a1:(vV0×Int×Unit)):Option Bool :=
(zae a0 a1).bind fun r1 =>
 some (decide (r1≥0))
def zac_T:TFn:={ ps:=(.cons (.sl tT10) (.cons (.cl 102 (.cons (.rp tT6 0) (.cons (.rp (.int .i64) 0) .unit))) .unit)),res:=.bool,fn:=fun v=>zac v.1 v.2.1 }
def zac_V:TEnv:=(vZ [(157,zae_T)])
theorem zac_eq:runY Tryz.prog zac_E zac_H zac_V zac_Y Tryz.f101 zac_T.ps zac_T.res=zac_T.fn:=by kernel_rfl
theorem zac_Fok:SoundP Tryz.prog G0 101 zac_F:=closeF_sound (runF_sound ⟨same_ok,(envP_cons zae_Fok envP_nil),envS_nil,envP_nil,envX_nil⟩ Tryz.func101 rfl (by kernel_rfl))
theorem zac_ok:TOk zac_F zac_T:=runY_ok (E:=zac_E) (ET:=zac_V) (EnvT.ofX (pure_of (pairs_cons zae_ok pairs_nil)) looks_nil raws_nil G0_ok news_nil) zac_eq rfl
def zbi_E:Env:=(eZ [(63,zcq_F),(101,zac_F)] [188])
def zbi_H:Hints:={ seqs:=[],loops:=[],own:=[],frz:=[(2,[3,5])] }
def zbi_F:PFn:=closeF (runF Tryz.prog zbi_E zbi_H Tryz.f49)
def zbi_Y:TH:=yZ
def zbi (a0:List vV4) (a1:vV0):Option Bool :=
(zcq a1.1).bind fun r1 =>
 cond (!decide (r1=0)) ((zac a0 (a1,r1,())).bind fun r2 =>
 some r2) (some false)
def zbi_T:TFn:={ ps:=(.cons (.sl tT10) (.cons tT6 .unit)),res:=.bool,fn:=fun v=>zbi v.1 v.2.1 }
def zbi_V:TEnv:=(vZ [(63,zcq_T),(101,zac_T)])
theorem zbi_eq:runY Tryz.prog zbi_E zbi_H zbi_V zbi_Y Tryz.f49 zbi_T.ps zbi_T.res=zbi_T.fn:=by kernel_rfl
theorem zbi_Fok:SoundP Tryz.prog G0 49 zbi_F:=closeF_sound (runF_sound ⟨same_ok,(envP_cons zcq_Fok (envP_cons zac_Fok envP_nil)),envS_nil,envP_nil,envX_nil⟩ Tryz.func49 rfl (by kernel_rfl))
theorem zbi_ok:TOk zbi_F zbi_T:=runY_ok (E:=zbi_E) (ET:=zbi_V) (EnvT.ofX (pure_of (pairs_cons zcq_ok (pairs_cons zac_ok pairs_nil))) looks_nil raws_nil G0_ok news_nil) zbi_eq rfl
def zcn_E:Env:=(eZ [(63,zcq_F),(72,zce_F)] [188])
def zcn_H:Hints:=(hZ [(3,[1,2,7,10,11,12])] [])
def zcn_F:PFn:=closeF (runF Tryz.prog zcn_E zcn_H Tryz.f32)
def zcn_Y:TH:={ loops:=[(3,{ keep:=[(7,(.own 1)),(12,(.int .i64))],mem:=[.gone,.row true 96 tT10] })],ro:=[] }
def zcn_l3 (a0:List vV4) (a1:List (List UInt8)) (a2:Int) (y3:(Int×List vV4×Unit)):Option ((Int×List vV4×Unit)⊕List vV4) :=
 cond (decide (y3.1<(a0.length:Int))) (
(atI a0 y3.1).bind fun x1 =>
(zcq x1.2.1.1).bind fun r2 =>
 cond (decide (r2=a2)) ((zce x1.2.1.2.1 a1).bind fun r3 =>
 cond r3 (
(roomT (y3.2.1.length+([x1]:List vV4).length)).bind fun u4 =>
 some (.inl ((IntKind.wrap .i64 (y3.1+1)),(y3.2.1++([x1]:List vV4)),()))) (
 some (.inl ((IntKind.wrap .i64 (y3.1+1)),y3.2.1,())))) (some (.inl ((IntKind.wrap .i64 (y3.1+1)),y3.2.1,())))) (
 some (.inr y3.2.1))
def zcn (a0:List vV4) (a1:List (List UInt8)) (a2:Int):Option (List vV4) :=
 loopT (zcn_l3 a0 a1 a2) (0,[],())
def zcn_T:TFn:={ ps:=(.cons (.sl tT10) (.cons (.sl .str) tT9)),res:=(.sl tT10),fn:=fun v=>zcn v.1 v.2.1 v.2.2.1 }
def zcn_V:TEnv:={ pure:=[(63,zcq_T),(72,zce_T)],look:=[],glob:=G0T,ty:=[(96,tT10)],raw:=[],fresh:=[] }
theorem zcn_eq:runY Tryz.prog zcn_E zcn_H zcn_V zcn_Y Tryz.f32 zcn_T.ps zcn_T.res=zcn_T.fn:=by kernel_rfl
theorem zcn_Fok:SoundP Tryz.prog G0 32 zcn_F:=closeF_sound (runF_sound ⟨same_ok,(envP_cons zcq_Fok (envP_cons zce_Fok envP_nil)),envS_nil,envP_nil,envX_nil⟩ Tryz.func32 rfl (by kernel_rfl))
theorem zcn_ok:TOk zcn_F zcn_T:=runY_ok (E:=zcn_E) (ET:=zcn_V) (EnvT.ofX (pure_of (pairs_cons zcq_ok (pairs_cons zce_ok pairs_nil))) looks_nil raws_nil G0_ok news_nil) zcn_eq rfl
def zb9_E:Env:=(eZ [] [188])
def zb9_H:Hints:=(hZ [(3,[3,6,7,8])] [])
def zb9_S:SFn:=runF Tryz.prog zb9_E zb9_H Tryz.f104
def zb9_Y:TH:={ loops:=[(3,{ keep:=[(3,(.own 1)),(8,(.int .i64))],mem:=[.gone,.row true 94 tT7] })],ro:=[] }
def zb9_l3 (a0:List vV4) (y3:(Int×List vV1×Unit)):Option ((Int×List vV1×Unit)⊕(List vV1)) :=
 cond (decide (y3.1<(a0.length:Int))) (
(atI a0 y3.1).bind fun x1 =>
(roomT (y3.2.1.length+([x1.1]:List vV1).length)).bind fun u2 =>
 some (.inl ((IntKind.wrap .i64 (y3.1+1)),(y3.2.1++([x1.1]:List vV1)),()))) (
 some (.inr y3.2.1))
def zb9 (a0:List vV4):Option (List vV1) :=
 loopT (zb9_l3 a0) (0,[],())
def zb9_N:TNew:={ ps:=(.cons (.sl tT10) .unit),e:=94,t:=(.sl tT7),fn:=fun v=>zb9 v.1,row:=true }
def zb9_V:TEnv:={ pure:=[],look:=[],glob:=G0T,ty:=[(94,tT7)],raw:=[],fresh:=[] }
theorem zb9_eq:newRY Tryz.prog zb9_E zb9_H zb9_V zb9_Y Tryz.f104 zb9_N.ps 94 tT7=zb9_N.fn:=by kernel_rfl
theorem zb9_Sok:SoundS Tryz.prog G0 104 zb9_S:=runF_sound ⟨same_ok,envP_nil,envS_nil,envP_nil,envX_nil⟩ Tryz.func104 rfl (by kernel_rfl)
theorem zb9_ok:TNewOk zb9_S zb9_N:=newRY_ok (E:=zb9_E) (ET:=zb9_V) (EnvT.ofX (pure_of pairs_nil) looks_nil raws_nil G0_ok news_nil) zb9_eq
def zci_E:Env:=(eZ [(32,zcn_F)] [188])
def zci_H:Hints:=(hZ [(3,[5,7,12,13,14])] [])
def zci_S:SFn:=runF Tryz.prog zci_E zci_H Tryz.f105
def zci_Y:TH:={ loops:=[(3,{ keep:=[(5,(.bx 0 0)),(7,(.own 2)),(14,(.int .i64))],mem:=[.same,.gone,.row true 94 tT7] })],ro:=[5] }
def zci_l3 (a2:(Int×Int×List UInt8×Unit)) (r1:List vV4) (y3:(Int×List vV1×Unit)):Option ((Int×List vV1×Unit)⊕(List vV1)) :=
 cond (decide (y3.1<(r1.length:Int))) (
(atI r1 y3.1).bind fun x2 =>
 cond (eqV tT11 x2.2.1.2.2.1 a2) (
(roomT (y3.2.1.length+([x2.1]:List vV1).length)).bind fun u3 =>
 some (.inl ((IntKind.wrap .i64 (y3.1+1)),(y3.2.1++([x2.1]:List vV1)),()))) (
 some (.inl ((IntKind.wrap .i64 (y3.1+1)),y3.2.1,())))) (
 some (.inr y3.2.1))
def zci (a0:List vV4) (a1:List (List UInt8)) (a2:(Int×Int×List UInt8×Unit)):Option (List vV1) :=
(zcn a0 a1 2).bind fun r1 =>
 loopT (zci_l3 a2 r1) (0,[],())
def zci_N:TNew:={ ps:=(.cons (.sl tT10) (.cons (.sl .str) (.cons tT11 .unit))),e:=94,t:=(.sl tT7),fn:=fun v=>zci v.1 v.2.1 v.2.2.1,row:=true }
def zci_V:TEnv:={ pure:=[(32,zcn_T)],look:=[],glob:=G0T,ty:=[(94,tT7)],raw:=[],fresh:=[] }
theorem zci_eq:newRY Tryz.prog zci_E zci_H zci_V zci_Y Tryz.f105 zci_N.ps 94 tT7=zci_N.fn:=by kernel_rfl
theorem zci_Sok:SoundS Tryz.prog G0 105 zci_S:=runF_sound ⟨same_ok,(envP_cons zcn_Fok envP_nil),envS_nil,envP_nil,envX_nil⟩ Tryz.func105 rfl (by kernel_rfl)
theorem zci_ok:TNewOk zci_S zci_N:=newRY_ok (E:=zci_E) (ET:=zci_V) (EnvT.ofX (pure_of (pairs_cons zcn_ok pairs_nil)) looks_nil raws_nil G0_ok news_nil) zci_eq
def zbt_E:Env:=(eZ [(103,zbr_F)] [188])
def zbt_H:Hints:=(hZ [(3,[1,5,8,9,10])] [])
def zbt_F:PFn:=closeF (runF Tryz.prog zbt_E zbt_H Tryz.f106)
def zbt_Y:TH:={ loops:=[(3,{ keep:=[(5,(.own 1)),(10,(.int .i64))],mem:=[.gone,.row true 96 tT10] })],ro:=[] }
def zbt_l3 (a0:List vV4) (a1:List (List UInt8)) (y3:(Int×List vV4×Unit)):Option ((Int×List vV4×Unit)⊕List vV4) :=
 cond (decide (y3.1<(a0.length:Int))) (
(atI a0 y3.1).bind fun x1 =>
(zbr x1.2.1.2.1 a1).bind fun r2 =>
 cond r2 (
(roomT (y3.2.1.length+([x1]:List vV4).length)).bind fun u3 =>
 some (.inl ((IntKind.wrap .i64 (y3.1+1)),(y3.2.1++([x1]:List vV4)),()))) (
 some (.inl ((IntKind.wrap .i64 (y3.1+1)),y3.2.1,())))) (
 some (.inr y3.2.1))
def zbt (a0:List vV4) (a1:List (List UInt8)):Option (List vV4) :=
 loopT (zbt_l3 a0 a1) (0,[],())
def zbt_T:TFn:={ ps:=(.cons (.sl tT10) (.cons (.sl .str) .unit)),res:=(.sl tT10),fn:=fun v=>zbt v.1 v.2.1 }
def zbt_V:TEnv:={ pure:=[(103,zbr_T)],look:=[],glob:=G0T,ty:=[(96,tT10)],raw:=[],fresh:=[] }
theorem zbt_eq:runY Tryz.prog zbt_E zbt_H zbt_V zbt_Y Tryz.f106 zbt_T.ps zbt_T.res=zbt_T.fn:=by kernel_rfl
theorem zbt_Fok:SoundP Tryz.prog G0 106 zbt_F:=closeF_sound (runF_sound ⟨same_ok,(envP_cons zbr_Fok envP_nil),envS_nil,envP_nil,envX_nil⟩ Tryz.func106 rfl (by kernel_rfl))
theorem zbt_ok:TOk zbt_F zbt_T:=runY_ok (E:=zbt_E) (ET:=zbt_V) (EnvT.ofX (pure_of (pairs_cons zbr_ok pairs_nil)) looks_nil raws_nil G0_ok news_nil) zbt_eq rfl
def zau_E:Env:={ pure:=[(32,zcn_F),(106,zbt_F)],raw:=[(104,zb9_S),(105,zci_S),(107,zai_S)],glob:=G0,same:=[188],look:=[],ext:=[] }
def zau_H:Hints:=(hZ [] [])
def zau_F:PFn:=closeF (runF Tryz.prog zau_E zau_H Tryz.f51)
def zau_Y:TH:={ joins:=[(9,{ keep:=[(5,(.own 1))],mem:=[.same,.row false 94 tT7] })],loops:=[],ro:=[3] }
def zau (a0:List vV4) (a1:vV0):Option (List vV1) :=
(cond (decide (a1.1=1)) (
(zcn a0 a1.2.1 1).bind fun r1 =>
(zb9 r1).bind fun n2 =>
 some (.inl (n2,()))) (
 cond (decide (a1.1=4)) (
(zci a0 a1.2.1 a1.2.2.1).bind fun n3 =>
 some (.inl (n3,()))) (
 cond (decide (a1.1=5)) (
(zbt a0 a1.2.1).bind fun r4 =>
(zb9 r4).bind fun n5 =>
 some (.inl (n5,()))) (
 some (.inl ([],()))))):Option ((List vV1×Unit)⊕List vV1)).bind (joinS fun v6 =>
(zai v6.1).bind fun q7 =>
 some q7.2.1)
def zau_T:TFn:={ ps:=(.cons (.sl tT10) (.cons tT6 .unit)),res:=(.sl tT7),fn:=fun v=>zau v.1 v.2.1 }
def zau_V:TEnv:={ pure:=[(32,zcn_T),(106,zbt_T)],look:=[],glob:=G0T,ty:=[],raw:=[(107,zai_R)],fresh:=[(104,zb9_N),(105,zci_N)] }
theorem zau_eq:runY Tryz.prog zau_E zau_H zau_V zau_Y Tryz.f51 zau_T.ps zau_T.res=zau_T.fn:=by kernel_rfl
theorem zau_Fok:SoundP Tryz.prog G0 51 zau_F:=closeF_sound (runF_sound ⟨same_ok,(envP_cons zcn_Fok (envP_cons zbt_Fok envP_nil)),(envS_cons zb9_Sok (envS_cons zci_Sok (envS_cons zai_Sok envS_nil))),envP_nil,envX_nil⟩ Tryz.func51 rfl (by kernel_rfl))
theorem zau_ok:TOk zau_F zau_T:=runY_ok (E:=zau_E) (ET:=zau_V) (EnvT.ofX (pure_of (pairs_cons zcn_ok (pairs_cons zbt_ok pairs_nil))) looks_nil (raws_more (raws_more (raws_cons zai_ok rfl rfl raws_nil) rfl) rfl) G0_ok (news_cons zb9_ok rfl rfl rfl (news_cons zci_ok rfl rfl rfl news_nil))) zau_eq rfl
def zb0_E:Env:=(eZ [(48,zcj_F),(49,zbi_F),(50,zam_F),(51,zau_F)] [188])
def zb0_H:Hints:=(hZ [] [])
def zb0_F:PFn:=closeF (runF Tryz.prog zb0_E zb0_H Tryz.f13)
def zb0_Y:TH:=yZ
def zb0 (a0:List vV4) (a1:vV0):Option (vV0×Int×Unit) :=
(zcj (a1.1,a1.2.1,(a1.2.2.1.1,a1.2.2.1.2.1,a1.2.2.1.2.2.1,()),a1.2.2.2.1,[],())).bind fun r1 =>
 cond (!decide (r1=0)) (
 some ((0,[],(0,0,[],()),0,[],()),r1,())) (
(zbi a0 (a1.1,a1.2.1,(a1.2.2.1.1,a1.2.2.1.2.1,a1.2.2.1.2.2.1,()),a1.2.2.2.1,[],())).bind fun r2 =>
 cond r2 (
 some ((0,[],(0,0,[],()),0,[],()),10,())) (
(zam a1.2.1).bind fun r3 =>
(zau a0 (a1.1,r3,(a1.2.2.1.1,a1.2.2.1.2.1,a1.2.2.1.2.2.1,()),a1.2.2.2.1,[],())).bind fun r4 =>
 cond (decide ((r4.length:Int)=0)) (cond (decide (a1.1=4)) (some ((0,[],(0,0,[],()),0,[],()),11,())) (cond (decide (a1.1=5)) (
 some ((0,[],(0,0,[],()),0,[],()),11,())) (
 cond (decide ((r4.length:Int)>256)) (
 some ((0,[],(0,0,[],()),0,[],()),7,())) (
 some ((a1.1,r3,a1.2.2.1,a1.2.2.2.1,r4,()),0,()))))) (cond (decide ((r4.length:Int)>256)) (
 some ((0,[],(0,0,[],()),0,[],()),7,())) (
 some ((a1.1,r3,a1.2.2.1,a1.2.2.2.1,r4,()),0,())))))
def zb0_T:TFn:={ ps:=(.cons (.sl tT10) (.cons tT6 .unit)),res:=(.tup (.cons tT6 tT9)),fn:=fun v=>zb0 v.1 v.2.1 }
def zb0_V:TEnv:=(vZ [(48,zcj_T),(49,zbi_T),(50,zam_T),(51,zau_T)])
theorem zb0_eq:runY Tryz.prog zb0_E zb0_H zb0_V zb0_Y Tryz.f13 zb0_T.ps zb0_T.res=zb0_T.fn:=by kernel_rfl
theorem zb0_Fok:SoundP Tryz.prog G0 13 zb0_F:=closeF_sound (runF_sound ⟨same_ok,(envP_cons zcj_Fok (envP_cons zbi_Fok (envP_cons zam_Fok (envP_cons zau_Fok envP_nil)))),envS_nil,envP_nil,envX_nil⟩ Tryz.func13 rfl (by kernel_rfl))
theorem zb0_ok:TOk zb0_F zb0_T:=runY_ok (E:=zb0_E) (ET:=zb0_V) (EnvT.ofX (pure_of (pairs_cons zcj_ok (pairs_cons zbi_ok (pairs_cons zam_ok (pairs_cons zau_ok pairs_nil))))) looks_nil raws_nil G0_ok news_nil) zb0_eq rfl
def zbb_E:Env:=(eZ [(13,zb0_F),(14,zck_F)] [188])
def zbb_H:Hints:=(hZ [] [])
def zbb_F:PFn:=closeF (runF Tryz.prog zbb_E zbb_H Tryz.f12)
def zbb_Y:TH:=yZ
def zbb:Option Bool :=
(zck ([((0,1,()),0,1,false,([(3,([[97]]:List (List UInt8)),(0,0,[],()),1,[],())]:List vV0),())]:List vV2) []).bind fun r1 =>
(zb0 r1 (1,([[97]]:List (List UInt8)),(1,1,[],()),0,[],())).bind fun r2 =>
(zb0 r1 (1,([[97],[107]]:List (List UInt8)),(1,1,[],()),0,[],())).bind fun r3 =>
(zb0 r1 (1,([[98]]:List (List UInt8)),(1,1,[],()),0,[],())).bind fun r4 =>
 cond (decide (r2.2.1=10)) (cond (decide (r3.2.1=10)) (some (decide (r4.2.1=0))) (some false)) (some false)
def zbb_T:TFn:={ ps:=.unit,res:=.bool,fn:=fun v=>zbb  }
def zbb_V:TEnv:={ pure:=[(13,zb0_T),(14,zck_T)],look:=[],glob:=G0T,ty:=[(9,.str),(29,tT6),(51,tT8)],raw:=[],fresh:=[] }
theorem zbb_eq:runY Tryz.prog zbb_E zbb_H zbb_V zbb_Y Tryz.f12 zbb_T.ps zbb_T.res=zbb_T.fn:=by kernel_rfl
theorem zbb_Fok:SoundP Tryz.prog G0 12 zbb_F:=closeF_sound (runF_sound ⟨same_ok,(envP_cons zb0_Fok (envP_cons zck_Fok envP_nil)),envS_nil,envP_nil,envX_nil⟩ Tryz.func12 rfl (by kernel_rfl))
theorem zbb_ok:TOk zbb_F zbb_T:=runY_ok (E:=zbb_E) (ET:=zbb_V) (EnvT.ofX (pure_of (pairs_cons zb0_ok (pairs_cons zck_ok pairs_nil))) looks_nil raws_nil G0_ok news_nil) zbb_eq rfl
def zby_E:Env:=(eZ [] [188])
def zby_H:Hints:=(hZ [(2,[0,3,5])] [])
def zby_F:PFn:=closeF (runF Tryz.prog zby_E zby_H Tryz.f20)
def zby_Y:TH:={ loops:=[(2,{ keep:=[(3,(.bx 0 0)),(5,(.int .i64))],mem:=[.same] })],ro:=[3] }
def zby_l2 (a0:List vV2) (a1:(Int×Int×Unit)) (y2:(Int×Unit)):Option ((Int×Unit)⊕Int) :=
 cond (decide (y2.1<(a0.length:Int))) (
(atI a0 y2.1).bind fun x1 =>
 cond (eqV (.agg (.cons (.int .i64) tT9)) x1.1 a1) (
 some (.inr y2.1)) (
 some (.inl ((IntKind.wrap .i64 (y2.1+1)),())))) (
 some (.inr (-1)))
def zby (a0:List vV2) (a1:(Int×Int×Unit)):Option Int :=
 loopT (zby_l2 a0 a1) (0,())
def zby_T:TFn:={ ps:=(.cons (.sl tT8) tT13),res:=(.int .i64),fn:=fun v=>zby v.1 v.2.1 }
def zby_V:TEnv:=(vZ [])
theorem zby_eq:runY Tryz.prog zby_E zby_H zby_V zby_Y Tryz.f20 zby_T.ps zby_T.res=zby_T.fn:=by kernel_rfl
theorem zby_Fok:SoundP Tryz.prog G0 20 zby_F:=closeF_sound (runF_sound ⟨same_ok,envP_nil,envS_nil,envP_nil,envX_nil⟩ Tryz.func20 rfl (by kernel_rfl))
theorem zby_ok:TOk zby_F zby_T:=runY_ok (E:=zby_E) (ET:=zby_V) (EnvT.ofX (pure_of pairs_nil) looks_nil raws_nil G0_ok news_nil) zby_eq rfl
def zaq_E:Env:=(eZ [(10,zb1_F),(11,zbo_F),(12,zbb_F),(13,zb0_F),(14,zck_F),(20,zby_F),(21,zcb_F),(22,zay_F),(23,zbk_F)] [188])
def zaq_H:Hints:=(hZ [] [])
def zaq_F:PFn:=closeF (runF Tryz.prog zaq_E zaq_H Tryz.f4)
def zaq_Y:TH:={ loops:=[],ro:=[5] }
def zaq (a0:List vV2) (a1:List vV1) (a2:vV0):Option Bool :=
(zb1 a0 a1).bind fun r1 =>
 cond (!r1) ((zbb).bind fun r2 =>
 some r2) ((zbo a2).bind fun r3 =>
 cond (!r3) ((zbb).bind fun r4 =>
 some r4) ((zby a0 (15,1048576,())).bind fun r5 =>
 cond (decide (r5≥0)) (
(zbb).bind fun r6 =>
 some r6) (
(zck a0 a1).bind fun r7 =>
(zb0 r7 a2).bind fun r8 =>
 cond (!decide (r8.2.1=0)) (
(zbb).bind fun r9 =>
 some r9) (
(zcb a0 ((15,1048576,()),0,1,false,([r8.1]:List vV0),())).bind fun r10 =>
(zck r10 a1).bind fun r11 =>
(zbk r11).bind fun r12 =>
(zay r12).bind fun r13 =>
(zbk r7).bind fun r14 =>
(zay r14).bind fun r15 =>
 cond (decide (r13≤r15)) ((zbb).bind fun r16 =>
 some r16) (some false)))))
def zaq_T:TFn:={ ps:=(.cons (.sl tT8) (.cons (.sl tT7) (.cons tT6 .unit))),res:=.bool,fn:=fun v=>zaq v.1 v.2.1 v.2.2.1 }
def zaq_V:TEnv:={ pure:=[(10,zb1_T),(11,zbo_T),(12,zbb_T),(13,zb0_T),(14,zck_T),(20,zby_T),(21,zcb_T),(22,zay_T),(23,zbk_T)],look:=[],glob:=G0T,ty:=[(29,tT6)],raw:=[],fresh:=[] }
theorem zaq_eq:runY Tryz.prog zaq_E zaq_H zaq_V zaq_Y Tryz.f4 zaq_T.ps zaq_T.res=zaq_T.fn:=by kernel_rfl
theorem zaq_Fok:SoundP Tryz.prog G0 4 zaq_F:=closeF_sound (runF_sound ⟨same_ok,(envP_cons zb1_Fok (envP_cons zbo_Fok (envP_cons zbb_Fok (envP_cons zb0_Fok (envP_cons zck_Fok (envP_cons zby_Fok (envP_cons zcb_Fok (envP_cons zay_Fok (envP_cons zbk_Fok envP_nil))))))))),envS_nil,envP_nil,envX_nil⟩ Tryz.func4 rfl (by kernel_rfl))
theorem zaq_ok:TOk zaq_F zaq_T:=runY_ok (E:=zaq_E) (ET:=zaq_V) (EnvT.ofX (pure_of (pairs_cons zb1_ok (pairs_cons zbo_ok (pairs_cons zbb_ok (pairs_cons zb0_ok (pairs_cons zck_ok (pairs_cons zby_ok (pairs_cons zcb_ok (pairs_cons zay_ok (pairs_cons zbk_ok pairs_nil)))))))))) looks_nil raws_nil G0_ok news_nil) zaq_eq rfl
end
end Go.Proofs.YtgfpkhlabdcbmaaGreatDoor.Y
