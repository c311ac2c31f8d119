import Derived.Test.YtnbgkhdcidbkaaaGreatDoorS
import Derived.Test.YtnbgkhdcidbkaaaGreatDoorT32
import GoSem.PinnedTables
set_option linter.unusedVariables false
set_option maxRecDepth 100000
namespace Go.Proofs.YtnbgkhdcidbkaaaGreatDoor.Y
open Go.EM Go.TY Go.Proofs
theorem zb.{u,v}{A:Type u}{B:Type v} (a:A) (f:A→Option B):(some a).bind f=f a:=rfl
theorem zg.{u}{A:Type u}{l:List A}{i:Nat} (h:i<l.length):l[i]? = some l[i]:=List.getElem?_eq_getElem h
theorem zl.{u}{A:Type u}{a:A}{l:List A}:(a::l).length=l.length+1:=rfl
theorem zf {p:Prop} [Decidable p] (h:¬p):decide p=false:=decide_eq_false h
theorem zn.{u}{c:Prop}{h:Decidable c} (hc:¬c) {A:Sort u}{t e:A}:ite c t e=e:=if_neg hc
theorem zp.{u}{c:Prop}{h:Decidable c} (hc:c) {A:Sort u}{t e:A}:ite c t e=t:=if_pos hc
theorem zm.{u}{A:Type u}{l:List A}{n:Nat} (h:n<l.length):l[n]∈l:=List.getElem_mem h
theorem zt {p:Prop} [Decidable p] (h:p):decide p=true:=decide_eq_true h
noncomputable section
def G0:List (Nat×AVal):=[(3,.rptr (Lib.pow10Tab.map (AVal.int .u64)))]
def G0T:List (Nat×TV):=[]
theorem aO:qG G0 G0T:=ads
theorem au:∀ f,memN f [274]=true→Same Tryz.prog f:=by
 intro f h
 by_cases e274:f=274
 · subst e274; exact ⟨Tryz.f274,Tryz.func274,by kernel_rfl,by kernel_rfl,by kernel_rfl,by kernel_rfl⟩
 simp_all [memN]
def eZ (l:List (Nat×PFn)) (s:List Nat):Env:={ pure:=l,raw:=[],glob:=G0,same:=s,look:=[],ext:=[] }
def vZ (l:List (Nat×TFn)):TEnv:={ pure:=l,look:=[],glob:=G0T,ty:=[],raw:=[],fresh:=[] }
def hZ (l:List (Nat×List Nat)) (o:List Nat):Hints:={ seqs:=[],loops:=l,own:=o }
def yZ:TH:={ joins:=[],loops:=[],cuts:=[],ro:=[],news:=[] }
abbrev vV0:=(Int×List (List UInt8)×(Int×Int×List UInt8×Unit)×Int×List ((Int×Int×Unit)×Int×Unit)×Unit)
abbrev vV1:=(List ((Int×Int×Unit)×Int×Int×Bool×List vV0×Unit)×List ((Int×Int×Unit)×Int×Unit)×(List Int×List (Int×Int×Unit)×Unit)×(List Int×List (Int×Int×Unit)×Unit)×List (List (Int×Int×Unit))×Unit)
abbrev vV2:=(List (List UInt8)×Int×List (Int×Int×List UInt8×Unit)×Int×Unit)
abbrev vV3:=((Int×Int×Unit)×Int×Unit)
abbrev vV4:=((Int×Int×Unit)×Int×Int×Bool×List vV0×Unit)
abbrev vV5:=(Int×Int×List UInt8×Unit)
abbrev vV6:=(List (List UInt8)×Int×Unit)
abbrev vV7:=(vV3×vV0×Int×Unit)
abbrev vV8:=(List Int×List (Int×Int×Unit)×Unit)
abbrev vV9:=(Int×vV2×vV2×Unit)
abbrev vV10:=(Int×List (vV3×Bool)×Unit)
abbrev vV11:=(List Int×Unit×Unit)
abbrev vV12:=(Bool×Unit×Unit)
abbrev tT13:Ty:=(.agg (.cons (.sl (.agg (.cons (.agg (.cons (.int .i64) (.cons (.int .i64) .unit))) (.cons (.int .i64) (.cons (.int .i64) (.cons .bool (.cons (.sl (.agg (.cons (.int .i64) (.cons (.sl .str) (.cons (.agg (.cons (.int .i64) (.cons (.int .i64) (.cons .str .unit)))) (.cons (.int .i64) (.cons (.sl (.agg (.cons (.agg (.cons (.int .i64) (.cons (.int .i64) .unit))) (.cons (.int .i64) .unit)))) .unit))))))) .unit))))))) (.cons (.sl (.agg (.cons (.agg (.cons (.int .i64) (.cons (.int .i64) .unit))) (.cons (.int .i64) .unit)))) (.cons (.agg (.cons (.arr 16 (.int .i64)) (.cons (.sl (.agg (.cons (.int .i64) (.cons (.int .i64) .unit)))) .unit))) (.cons (.agg (.cons (.arr 16 (.int .i64)) (.cons (.sl (.agg (.cons (.int .i64) (.cons (.int .i64) .unit)))) .unit))) (.cons (.arr 8 (.sl (.agg (.cons (.int .i64) (.cons (.int .i64) .unit))))) .unit))))))
abbrev tT14:Ty:=(.agg (.cons (.int .i64) (.cons (.sl .str) (.cons (.agg (.cons (.int .i64) (.cons (.int .i64) (.cons .str .unit)))) (.cons (.int .i64) (.cons (.sl (.agg (.cons (.agg (.cons (.int .i64) (.cons (.int .i64) .unit))) (.cons (.int .i64) .unit)))) .unit))))))
abbrev tT15:Ty:=(.agg (.cons (.int .i64) (.cons (.int .i64) .unit)))
abbrev tT16:Ty:=(.agg (.cons (.sl .str) (.cons (.int .i64) (.cons (.sl (.agg (.cons (.int .i64) (.cons (.int .i64) (.cons .str .unit))))) (.cons (.int .i64) .unit)))))
abbrev tT17:Ty:=(.agg (.cons tT15 (.cons (.int .i64) .unit)))
abbrev tT18:Ty:=(.agg (.cons (.int .i64) (.cons (.int .i64) (.cons .str .unit))))
abbrev tT19:Ty:=(.agg (.cons tT15 (.cons (.int .i64) (.cons (.int .i64) (.cons .bool (.cons (.sl tT14) .unit))))))
abbrev tT20:Ty:=(.cons (.int .i64) .unit)
abbrev tT21:Ty:=(.agg (.cons (.arr 16 (.int .i64)) (.cons (.sl tT15) .unit)))
abbrev tT22:Ty:=(.agg (.cons tT17 (.cons tT14 tT20)))
abbrev tT23:Ty:=(.agg (.cons (.sl .str) tT20))
abbrev tT24:Ty:=(.agg (.cons (.int .i64) (.cons tT16 (.cons tT16 .unit))))
abbrev tT25:Ty:=(.agg (.cons (.op 0) (.cons (.own 1) .unit)))
abbrev tT26:Ty:=(.agg (.cons (.arr 16 (.int .i64)) (.cons .nilsl .unit)))
abbrev tT27:Ty:=(.agg (.cons (.op 1) (.cons (.own 0) .unit)))
def aiK:Env:=(eZ [] [274])
def aqe:Hints:=(hZ [(4,[0,3])] [])
def aer:PFn:=aG (runF Tryz.prog aiK aqe Tryz.f15)
def aw1:TH:={ loops:=[(4,{ keep:=[(3,(.int .i64))],mem:=[] })],ro:=[] }
def vV (a0:List (List UInt8)) (y4:(Int×Unit)):Option ((Int×Unit)⊕Bool) :=
 cond (decide (y4.1<(a0.length:Int))) (
(atI a0 y4.1).bind fun x1 =>
 cond (decide ((x1.length:Int)>120)) (
 some (.inr false)) (
 some (.inl ((IntKind.wrap .i64 (y4.1+1)),())))) (
 some (.inr true))
def zcn (a0:List (List UInt8)):Option Bool :=
 cond (decide ((a0.length:Int)>12)) (
 some false) (
 aK (vV a0) (0,()))
def xY:TFn:={ ps:=(.cons (.sl .str) .unit),res:=.bool,fn:=fun v=>zcn v.1 }
def aqd:TEnv:=(vZ [])
theorem aqc:runY Tryz.prog aiK aqe aqd aw1 Tryz.f15 xY.ps xY.res=xY.fn:=by kernel_rfl
theorem aaB:aB Tryz.prog G0 15 aer:=ai (ak ⟨au,ac,ap,ac,an⟩ Tryz.func15 rfl (by kernel_rfl))
theorem ago:TOk aer xY:=aA (E:=aiK) (ET:=aqd) (EnvT.ofX (ax al) am ar aO aq) aqc rfl
def akB:Env:=(eZ [(15,aer)] [274])
def as8:Hints:=(hZ [] [])
def akA:PFn:=aG (runF Tryz.prog akB as8 Tryz.f108)
def axN:TH:={ loops:=[],ro:=[1] }
def zb9 (a0:vV0):Option Bool :=
(zcn a0.2.1).bind fun r1 =>
 cond r1 (cond (decide ((a0.2.2.1.2.2.1.length:Int)≤200)) (some (decide ((a0.2.2.2.2.1.length:Int)≤300))) (some false)) (some false)
def abm:TFn:={ ps:=(.cons tT14 .unit),res:=.bool,fn:=fun v=>zb9 v.1 }
def as7:TEnv:=(vZ [(15,xY)])
theorem as6:runY Tryz.prog akB as8 as7 axN Tryz.f108 abm.ps abm.res=abm.fn:=by kernel_rfl
theorem akz:aB Tryz.prog G0 108 akA:=ai (ak ⟨au,(aj aaB ac),ap,ac,an⟩ Tryz.func108 rfl (by kernel_rfl))
theorem as5:TOk akA abm:=aA (E:=akB) (ET:=as7) (EnvT.ofX (ax (ah ago al)) am ar aO aq) as6 rfl
def aiQ:Env:=(eZ [(108,akA)] [274])
def aqm:Hints:=(hZ [(4,[1,3])] [])
def aiP:PFn:=aG (runF Tryz.prog aiQ aqm Tryz.f41)
def aw3:TH:={ loops:=[(4,{ keep:=[(1,(.bx 0 0)),(3,(.int .i64))],mem:=[.same] })],ro:=[1] }
def vX (a0:vV4) (y4:(Int×Unit)):Option ((Int×Unit)⊕Bool) :=
 cond (decide (y4.1<(a0.2.2.2.2.1.length:Int))) (
(atI a0.2.2.2.2.1 y4.1).bind fun x1 =>
(zb9 x1).bind fun r2 =>
 cond (!r2) (
 some (.inr false)) (
 some (.inl ((IntKind.wrap .i64 (y4.1+1)),())))) (
 some (.inr true))
def zcl (a0:vV4):Option Bool :=
 cond (decide ((a0.2.2.2.2.1.length:Int)>20)) (
 some false) (
 aK (vX a0) (0,()))
def aaD:TFn:={ ps:=(.cons tT19 .unit),res:=.bool,fn:=fun v=>zcl v.1 }
def aql:TEnv:=(vZ [(108,abm)])
theorem aqk:runY Tryz.prog aiQ aqm aql aw3 Tryz.f41 aaD.ps aaD.res=aaD.fn:=by kernel_rfl
theorem aiO:aB Tryz.prog G0 41 aiP:=ai (ak ⟨au,(aj akz ac),ap,ac,an⟩ Tryz.func41 rfl (by kernel_rfl))
theorem aqj:TOk aiP aaD:=aA (E:=aiQ) (ET:=aql) (EnvT.ofX (ax (ah as5 al)) am ar aO aq) aqk rfl
def akR:Env:=(eZ [(41,aiP)] [274])
def atv:Hints:=(hZ [(4,[1,3]),(9,[1,4])] [])
def akQ:PFn:=aG (runF Tryz.prog akR atv Tryz.f95)
def axT:TH:={ joins:=[(8,{ keep:=[(1,(.bx 0 0))],mem:=[.box 69 tT13] })],loops:=[(4,{ keep:=[(1,(.bx 0 0)),(3,(.int .i64))],mem:=[.box 69 tT13] }),(9,{ keep:=[(1,(.bx 0 0)),(4,(.int .i64))],mem:=[.box 69 tT13] })],cuts:=[(1,[(10,{ keep:=[(1,(.bx 0 0)),(14,.bool)],mem:=[.box 69 tT13] })])],ro:=[],news:=[] }
def nO (y4:(Int×vV1×Unit)):Option ((Int×vV1×Unit)⊕((vV1×Unit)⊕Bool)) :=
 cond (decide (y4.1<(y4.2.1.1.length:Int))) (
(atI y4.2.1.1 y4.1).bind fun x2 =>
(zcl x2).bind fun r3 =>
 cond (!r3) (
 some (.inr (.inr false))) (
 some (.inl ((IntKind.wrap .i64 (y4.1+1)),y4.2.1,())))) (
 some (.inr (.inl (y4.2.1,()))))
def nN (y9:(Int×vV1×Unit)):Option ((Int×vV1×Unit)⊕Bool) :=
 cond (decide (y9.1<8)) (
(inI 8 y9.1).bind fun i5 =>
(y9.2.1.2.2.2.2.1[i5]?).bind fun x6 =>
 cond (decide ((x6.length:Int)>40)) (
 some (.inr false)) (
 some (.inl ((IntKind.wrap .i64 (y9.1+1)),y9.2.1,())))) (
 some (.inr true))
def zb3 (a0:vV1):Option Bool :=
(cond (decide ((a0.1.length:Int)>20)) (some (true,a0,())) (some ((decide ((a0.2.1.length:Int)>100)),a0,())):Option (Bool×vV1×Unit)).bind fun v1 =>
 cond v1.1 (some false) (cond (decide ((v1.2.1.2.2.1.2.1.length:Int)>100)) (some false) (cond (decide ((v1.2.1.2.2.2.1.2.1.length:Int)>100)) (
 some false) (
(aK (nO) (0,v1.2.1,()):Option ((vV1×Unit)⊕Bool)).bind (bd fun v4 =>
 aK (nN) (0,v4.1,())))))
def abs:TFn:={ ps:=(.cons tT13 .unit),res:=.bool,fn:=fun v=>zb3 v.1 }
def atu:TEnv:=(vZ [(41,aaD)])
theorem att:runY Tryz.prog akR atv atu axT Tryz.f95 abs.ps abs.res=abs.fn:=by kernel_rfl
theorem akP:aB Tryz.prog G0 95 akQ:=ai (ak ⟨au,(aj aiO ac),ap,ac,an⟩ Tryz.func95 rfl (by kernel_rfl))
theorem ats:TOk akQ abs:=aA (E:=akR) (ET:=atu) (EnvT.ofX (ax (ah aqj al)) am ar aO aq) att rfl
def aiD:Env:=(eZ [] [274])
def ap3:Hints:=(hZ [] [])
def aep:PFn:=aG (runF Tryz.prog aiD ap3 Tryz.f172)
def awY:TH:=yZ
def zcq (a0:Int) (a1:Int):Option Int :=
 cond (decide (a0<a1)) (
 some (-1)) (
 cond (decide (a0>a1)) (
 some 1) (
 some 0))
def xX:TFn:={ ps:=(.cons (.int .i64) tT20),res:=(.int .i64),fn:=fun v=>zcq v.1 v.2.1 }
def ap2:TEnv:=(vZ [])
theorem ap1:runY Tryz.prog aiD ap3 ap2 awY Tryz.f172 xX.ps xX.res=xX.fn:=by kernel_rfl
theorem aay:aB Tryz.prog G0 172 aep:=ai (ak ⟨au,ac,ap,ac,an⟩ Tryz.func172 rfl (by kernel_rfl))
theorem agn:TOk aep xX:=aA (E:=aiD) (ET:=ap2) (EnvT.ofX (ax al) am ar aO aq) ap1 rfl
def akc:Env:=(eZ [(172,aep)] [274])
def ast:Hints:=(hZ [] [])
def tN:PFn:=aG (runF Tryz.prog akc ast Tryz.f101)
def axD:TH:={ loops:=[],ro:=[2,3] }
def zbk (a0:(Int×Int×Unit)) (a1:(Int×Int×Unit)):Option Int :=
 cond (!decide (a0.1=a1.1)) (
(zcq a0.1 a1.1).bind fun r1 =>
 some r1) (
(zcq a0.2.1 a1.2.1).bind fun r2 =>
 some r2)
def po:TFn:={ ps:=(.cons tT15 (.cons tT15 .unit)),res:=(.int .i64),fn:=fun v=>zbk v.1 v.2.1 }
def ass:TEnv:=(vZ [(172,xX)])
theorem asr:runY Tryz.prog akc ast ass axD Tryz.f101 po.ps po.res=po.fn:=by kernel_rfl
theorem lm:aB Tryz.prog G0 101 tN:=ai (ak ⟨au,(aj aay ac),ap,ac,an⟩ Tryz.func101 rfl (by kernel_rfl))
theorem qO:TOk tN po:=aA (E:=akc) (ET:=ass) (EnvT.ofX (ax (ah agn al)) am ar aO aq) asr rfl
def akX:Env:=(eZ [(101,tN)] [274])
def atD:Hints:=(hZ [(2,[0,3])] [])
def akW:PFn:=aG (runF Tryz.prog akX atD Tryz.f152)
def axV:TH:={ loops:=[(2,{ keep:=[(3,(.int .i64))],mem:=[] })],ro:=[] }
def wx (a0:List vV4) (y2:(Int×Unit)):Option ((Int×Unit)⊕Bool) :=
 cond (decide (y2.1<(a0.length:Int))) (
(atI a0 (IntKind.wrap .i64 (y2.1-1))).bind fun x1 =>
(atI a0 y2.1).bind fun x2 =>
(zbk x1.1 x2.1).bind fun r3 =>
 cond (!decide (r3=(-1))) (
 some (.inr false)) (
 some (.inl ((IntKind.wrap .i64 (y2.1+1)),())))) (
 some (.inr true))
def zb1 (a0:List vV4):Option Bool :=
 aK (wx a0) (1,())
def abu:TFn:={ ps:=(.cons (.sl tT19) .unit),res:=.bool,fn:=fun v=>zb1 v.1 }
def atC:TEnv:=(vZ [(101,po)])
theorem atB:runY Tryz.prog akX atD atC axV Tryz.f152 abu.ps abu.res=abu.fn:=by kernel_rfl
theorem akV:aB Tryz.prog G0 152 akW:=ai (ak ⟨au,(aj lm ac),ap,ac,an⟩ Tryz.func152 rfl (by kernel_rfl))
theorem atA:TOk akW abu:=aA (E:=akX) (ET:=atC) (EnvT.ofX (ax (ah qO al)) am ar aO aq) atB rfl
def aiU:Env:=(eZ [] [274])
def aqt:Hints:=(hZ [] [])
def pk:PFn:=aG (runF Tryz.prog aiU aqt Tryz.f109)
def aw5:TH:={ loops:=[],ro:=[1] }
def zcj (a0:(Int×Int×Unit)):Option Bool :=
 cond (decide (a0.1≥0)) (cond (decide (a0.1≤15)) (cond (decide (a0.2.1≥1)) (some (decide (a0.2.1≤1048576))) (some false)) (some false)) (some false)
def lk:TFn:={ ps:=(.cons tT15 .unit),res:=.bool,fn:=fun v=>zcj v.1 }
def aqs:TEnv:=(vZ [])
theorem aqr:runY Tryz.prog aiU aqt aqs aw5 Tryz.f109 lk.ps lk.res=lk.fn:=by kernel_rfl
theorem iw:aB Tryz.prog G0 109 pk:=ai (ak ⟨au,ac,ap,ac,an⟩ Tryz.func109 rfl (by kernel_rfl))
theorem lj:TOk pk lk:=aA (E:=aiU) (ET:=aqs) (EnvT.ofX (ax al) am ar aO aq) aqr rfl
def ahx:Env:=(eZ [(109,pk)] [274])
def aos:Hints:=(hZ [] [])
def ahw:PFn:=aG (runF Tryz.prog ahx aos Tryz.f224)
def awy:TH:={ loops:=[],ro:=[1] }
def zdn (a0:vV3):Option Bool :=
(zcj a0.1).bind fun r1 =>
 cond r1 (cond (decide (a0.2.1≥1)) (some (decide (a0.2.1≤64))) (some false)) (some false)
def aaa:TFn:={ ps:=(.cons tT17 .unit),res:=.bool,fn:=fun v=>zdn v.1 }
def aor:TEnv:=(vZ [(109,lk)])
theorem aoq:runY Tryz.prog ahx aos aor awy Tryz.f224 aaa.ps aaa.res=aaa.fn:=by kernel_rfl
theorem ahv:aB Tryz.prog G0 224 ahw:=ai (ak ⟨au,(aj iw ac),ap,ac,an⟩ Tryz.func224 rfl (by kernel_rfl))
theorem aoo:TOk ahw aaa:=aA (E:=ahx) (ET:=aor) (EnvT.ofX (ax (ah lj al)) am ar aO aq) aoq rfl
def ajR:Env:=(eZ [(101,tN),(224,ahw)] [274])
def arS:Hints:=(hZ [(2,[0,3])] [])
def ajQ:PFn:=aG (runF Tryz.prog ajR arS Tryz.f153)
def axt:TH:={ loops:=[(2,{ keep:=[(3,(.int .i64))],mem:=[] })],ro:=[] }
def wg (a0:List vV3) (y2:(Int×Unit)):Option ((Int×Unit)⊕Bool) :=
 cond (decide (y2.1<(a0.length:Int))) (
(atI a0 y2.1).bind fun x1 =>
(zdn x1).bind fun r2 =>
 cond (!r2) (some (.inr false)) (cond (decide (y2.1>0)) ((atI a0 (IntKind.wrap .i64 (y2.1-1))).bind fun x3 =>
(atI a0 y2.1).bind fun x4 =>
(zbk x3.1 x4.1).bind fun r5 =>
 cond (!decide (r5=(-1))) (
 some (.inr false)) (
 some (.inl ((IntKind.wrap .i64 (y2.1+1)),())))) (some (.inl ((IntKind.wrap .i64 (y2.1+1)),()))))) (
 some (.inr true))
def zbw (a0:List vV3):Option Bool :=
 aK (wg a0) (0,())
def aa0:TFn:={ ps:=(.cons (.sl tT17) .unit),res:=.bool,fn:=fun v=>zbw v.1 }
def arR:TEnv:=(vZ [(101,po),(224,aaa)])
theorem arQ:runY Tryz.prog ajR arS arR axt Tryz.f153 aa0.ps aa0.res=aa0.fn:=by kernel_rfl
theorem ajP:aB Tryz.prog G0 153 ajQ:=ai (ak ⟨au,(aj lm (aj ahv ac)),ap,ac,an⟩ Tryz.func153 rfl (by kernel_rfl))
theorem arP:TOk ajQ aa0:=aA (E:=ajR) (ET:=arR) (EnvT.ofX (ax (ah qO (ah aoo al))) am ar aO aq) arQ rfl
def aiY:Env:=(eZ [] [274])
def aqA:Hints:=(hZ [(2,[1,3])] [])
def aiX:PFn:=aG (runF Tryz.prog aiY aqA Tryz.f235)
def aw7:TH:={ loops:=[(2,{ keep:=[(1,(.bx 0 0)),(3,(.int .i64))],mem:=[.box 63 (.arr 16 (.int .i64))] })],ro:=[] }
def vY (y2:(Int×List Int×Unit)):Option ((Int×List Int×Unit)⊕Bool) :=
 cond (decide (y2.1<16)) (
(inI 16 y2.1).bind fun i1 =>
(y2.2.1[i1]?).bind fun x2 =>
 cond (decide (x2<0)) (some (.inr false)) ((inI 16 y2.1).bind fun i3 =>
(y2.2.1[i3]?).bind fun x4 =>
 cond (decide (x4>1048576)) (
 some (.inr false)) (
 some (.inl ((IntKind.wrap .i64 (y2.1+1)),y2.2.1,()))))) (
 some (.inr true))
def zch (a0:List Int):Option Bool :=
 aK (vY) (0,a0,())
def aaG:TFn:={ ps:=(.cons (.arr 16 (.int .i64)) .unit),res:=.bool,fn:=fun v=>zch v.1 }
def aqz:TEnv:=(vZ [])
theorem aqy:runY Tryz.prog aiY aqA aqz aw7 Tryz.f235 aaG.ps aaG.res=aaG.fn:=by kernel_rfl
theorem aiW:aB Tryz.prog G0 235 aiX:=ai (ak ⟨au,ac,ap,ac,an⟩ Tryz.func235 rfl (by kernel_rfl))
theorem aqx:TOk aiX aaG:=aA (E:=aiY) (ET:=aqz) (EnvT.ofX (ax al) am ar aO aq) aqy rfl
def aiN:Env:=(eZ [(101,tN),(109,pk),(235,aiX)] [274])
def aqi:Hints:=(hZ [(4,[1,3])] [])
def aiM:PFn:=aG (runF Tryz.prog aiN aqi Tryz.f166)
def aw2:TH:={ loops:=[(4,{ keep:=[(1,(.bx 0 0)),(3,(.int .i64))],mem:=[.box 66 tT21] })],ro:=[] }
def vW (y4:(Int×vV8×Unit)):Option ((Int×vV8×Unit)⊕Bool) :=
 cond (decide (y4.1<(y4.2.1.2.1.length:Int))) (
(atI y4.2.1.2.1 y4.1).bind fun x2 =>
(zcj x2).bind fun r3 =>
 cond (!r3) (some (.inr false)) ((inI 16 x2.1).bind fun i4 =>
(y4.2.1.1[i4]?).bind fun x5 =>
 cond (decide ((IntKind.wrap .i64 (x2.2.1-1))≤x5)) (
 some (.inr false)) (
 cond (decide (y4.1>0)) ((atI y4.2.1.2.1 (IntKind.wrap .i64 (y4.1-1))).bind fun x6 =>
(zbk x6 x2).bind fun r7 =>
 cond (!decide (r7=(-1))) (
 some (.inr false)) (
 some (.inl ((IntKind.wrap .i64 (y4.1+1)),y4.2.1,())))) (some (.inl ((IntKind.wrap .i64 (y4.1+1)),y4.2.1,())))))) (
 some (.inr true))
def zcm (a0:vV8):Option Bool :=
(zch a0.1).bind fun r1 =>
 cond (!r1) (some false) (cond (decide ((a0.2.1.length:Int)>4096)) (
 some false) (
 aK (vW) (0,a0,())))
def aaC:TFn:={ ps:=(.cons tT21 .unit),res:=.bool,fn:=fun v=>zcm v.1 }
def aqh:TEnv:=(vZ [(101,po),(109,lk),(235,aaG)])
theorem aqg:runY Tryz.prog aiN aqi aqh aw2 Tryz.f166 aaC.ps aaC.res=aaC.fn:=by kernel_rfl
theorem aiL:aB Tryz.prog G0 166 aiM:=ai (ak ⟨au,(aj lm (aj iw (aj aiW ac))),ap,ac,an⟩ Tryz.func166 rfl (by kernel_rfl))
theorem aqf:TOk aiM aaC:=aA (E:=aiN) (ET:=aqh) (EnvT.ofX (ax (ah qO (ah lj (ah aqx al)))) am ar aO aq) aqg rfl
def aiC:Env:=(eZ [] [274])
def ap0:Hints:=(hZ [(17,[0,4,5,6,7])] [])
def aiB:PFn:=aG (runF Tryz.prog aiC ap0 Tryz.f216)
def awX:TH:={ joins:=[(14,{ keep:=[(4,(.int .i64)),(5,(.int .i64)),(6,(.int .i64))],mem:=[] }),(9,{ keep:=[(18,.bool)],mem:=[] }),(22,{ keep:=[(4,(.int .i64))],mem:=[] }),(24,{ keep:=[],mem:=[] })],loops:=[(17,{ keep:=[(4,(.int .i64)),(7,(.int .i64))],mem:=[] })],ro:=[] }
def gq (a0:List UInt8) (v3:(Int×Int×Int×Unit)) (y17:(Int×Int×Unit)):Option ((Int×Int×Unit)⊕((Int×Unit)⊕(Int×Int×Unit))) :=
 cond (decide (y17.2.1<v3.2.1)) (
(atI a0 y17.2.1).bind fun b4 =>
 cond (decide ((b4.toNat:Int)<128)) (some (.inr (.inr (0,0,())))) ((atI a0 y17.2.1).bind fun b5 =>
 cond (decide ((b5.toNat:Int)>191)) (
 some (.inr (.inr (0,0,())))) (
(atI a0 y17.2.1).bind fun b6 =>
 some (.inl ((IntKind.wrap .i64 ((IntKind.wrap .i64 ((IntKind.wrap .i64 (64*y17.1))+(IntKind.wrap .i64 (b6.toNat:Int))))-128)),(IntKind.wrap .i64 (y17.2.1+1)),()))))) (
 some (.inr (.inl (y17.1,()))))
def zcr (a0:List UInt8):Option (Int×Int×Unit) :=
 cond (decide ((a0.length:Int)=0)) (
 some (0,0,())) (
(atI a0 0).bind fun b1 =>
(cond (decide ((IntKind.wrap .i64 (b1.toNat:Int))<128)) (
 some (.inr ((IntKind.wrap .i64 (b1.toNat:Int)),1,()))) (
(cond (decide ((IntKind.wrap .i64 (b1.toNat:Int))≥194)) (some (.inl ((decide ((IntKind.wrap .i64 (b1.toNat:Int))<224)),()))) (some (.inl (false,()))):Option ((Bool×Unit)⊕((Int×Int×Int×Unit)⊕(Int×Int×Unit)))).bind (bd fun v2 =>
 cond v2.1 (
 some (.inl ((IntKind.wrap .i64 ((IntKind.wrap .i64 (b1.toNat:Int))-192)),2,128,()))) (
 cond (decide ((IntKind.wrap .i64 (b1.toNat:Int))≥224)) (cond (decide ((IntKind.wrap .i64 (b1.toNat:Int))<240)) (
 some (.inl ((IntKind.wrap .i64 ((IntKind.wrap .i64 (b1.toNat:Int))-224)),3,2048,()))) (
 cond (decide ((IntKind.wrap .i64 (b1.toNat:Int))≥240)) (cond (decide ((IntKind.wrap .i64 (b1.toNat:Int))<245)) (
 some (.inl ((IntKind.wrap .i64 ((IntKind.wrap .i64 (b1.toNat:Int))-240)),4,65536,()))) (
 some (.inr (0,0,())))) (some (.inr (0,0,()))))) (cond (decide ((IntKind.wrap .i64 (b1.toNat:Int))≥240)) (cond (decide ((IntKind.wrap .i64 (b1.toNat:Int))<245)) (
 some (.inl ((IntKind.wrap .i64 ((IntKind.wrap .i64 (b1.toNat:Int))-240)),4,65536,()))) (
 some (.inr (0,0,())))) (some (.inr (0,0,()))))))):Option ((Int×Int×Int×Unit)⊕(Int×Int×Unit))).bind (bd fun v3 =>
 cond (decide ((a0.length:Int)<v3.2.1)) (
 some (0,0,())) (
(aK (gq a0 v3) (v3.1,1,()):Option ((Int×Unit)⊕(Int×Int×Unit))).bind (bd fun v7 =>
(cond (decide (v7.1<v3.2.2.1)) (some (.inr (0,0,()))) (cond (decide (v7.1>1114111)) (some (.inr (0,0,()))) (cond (decide (v7.1≥55296)) (cond (decide (v7.1≤57343)) (
 some (.inr (0,0,()))) (
 some (.inl ()))) (some (.inl ())))):Option (Unit⊕(Int×Int×Unit))).bind (bd fun v8 =>
 some (v7.1,v3.2.1,()))))))
def aax:TFn:={ ps:=(.cons .str .unit),res:=(.tup (.cons (.int .i64) tT20)),fn:=fun v=>zcr v.1 }
def apZ:TEnv:=(vZ [])
theorem apY:runY Tryz.prog aiC ap0 apZ awX Tryz.f216 aax.ps aax.res=aax.fn:=by kernel_rfl
theorem aiA:aB Tryz.prog G0 216 aiB:=ai (ak ⟨au,ac,ap,ac,an⟩ Tryz.func216 rfl (by kernel_rfl))
theorem apX:TOk aiB aax:=aA (E:=aiC) (ET:=apZ) (EnvT.ofX (ax al) am ar aO aq) apY rfl
def ajI:Env:=(eZ [(216,aiB)] [274])
def arG:Hints:=(hZ [(3,[0,4,5])] [])
def aew:PFn:=aG (runF Tryz.prog ajI arG Tryz.f144)
def axq:TH:={ loops:=[(3,{ keep:=[(4,(.own 0)),(5,(.int .i64))],mem:=[.row true 3 (.int .i64)] })],ro:=[] }
def nM (a0:List UInt8) (y3:(Int×List Int×Unit)):Option ((Int×List Int×Unit)⊕(List Int×Bool×Unit)) :=
 cond (decide (y3.1<(a0.length:Int))) (
(subI a0 y3.1 (a0.length:Int)).bind fun s1 =>
(zcr s1).bind fun r2 =>
 cond (decide (r2.2.1=0)) (
 some (.inr ([],false,()))) (
(bT (y3.2.1.length+([r2.1]:List Int).length)).bind fun u3 =>
 some (.inl ((IntKind.wrap .i64 (y3.1+r2.2.1)),(y3.2.1++([r2.1]:List Int)),())))) (
 some (.inr (y3.2.1,true,())))
def zbz (a0:List UInt8):Option (List Int×Bool×Unit) :=
 aK (nM a0) (0,[],())
def yb:TFn:={ ps:=(.cons .str .unit),res:=(.tup (.cons (.sl (.int .i64)) (.cons .bool .unit))),fn:=fun v=>zbz v.1 }
def arF:TEnv:={ pure:=[(216,aax)],look:=[],glob:=G0T,ty:=[(3,(.int .i64))],raw:=[],fresh:=[] }
theorem arE:runY Tryz.prog ajI arG arF axq Tryz.f144 yb.ps yb.res=yb.fn:=by kernel_rfl
theorem aaX:aB Tryz.prog G0 144 aew:=ai (ak ⟨au,(aj aiA ac),ap,ac,an⟩ Tryz.func144 rfl (by kernel_rfl))
theorem agr:TOk aew yb:=aA (E:=ajI) (ET:=arF) (EnvT.ofX (ax (ah apX al)) am ar aO aq) arE rfl
def ahr:Env:=(eZ [] [274])
def aoj:Hints:=(hZ [] [])
def ahq:PFn:=aG (runF Tryz.prog ahr aoj Tryz.f306)
def aww:TH:=yZ
def zdp (a0:Int):Option Bool :=
 cond (decide (a0≥32)) (cond (decide (a0<127)) (some (!decide (a0=65533))) (cond (decide (a0>159)) (some (!decide (a0=65533))) (some false))) (some false)
def z7:TFn:={ ps:=tT20,res:=.bool,fn:=fun v=>zdp v.1 }
def aoi:TEnv:=(vZ [])
theorem aoh:runY Tryz.prog ahr aoj aoi aww Tryz.f306 z7.ps z7.res=z7.fn:=by kernel_rfl
theorem ahp:aB Tryz.prog G0 306 ahq:=ai (ak ⟨au,ac,ap,ac,an⟩ Tryz.func306 rfl (by kernel_rfl))
theorem aog:TOk ahq z7:=aA (E:=ahr) (ET:=aoi) (EnvT.ofX (ax al) am ar aO aq) aoh rfl
def ajf:Env:=(eZ [(144,aew),(306,ahq)] [274])
def aqX:Hints:=(hZ [(3,[3,4,5])] [])
def aje:PFn:=aG (runF Tryz.prog ajf aqX Tryz.f253)
def axf:TH:={ joins:=[(7,{ keep:=[],mem:=[] })],loops:=[(3,{ keep:=[(5,(.int .i64))],mem:=[] })],ro:=[] }
def qM (r1:(List Int×Bool×Unit)) (y3:(Int×Unit)):Option ((Int×Unit)⊕(Unit⊕Bool)) :=
 cond (decide (y3.1<(r1.1.length:Int))) (
(atI r1.1 y3.1).bind fun x2 =>
(zdp x2).bind fun r3 =>
 cond (!r3) (
 some (.inr (.inr false))) (
 some (.inl ((IntKind.wrap .i64 (y3.1+1)),())))) (
 some (.inr (.inl ())))
def zca (a0:List UInt8):Option Bool :=
(zbz a0).bind fun r1 =>
(aK (qM r1) (0,()):Option (Unit⊕Bool)).bind (bd fun v4 =>
 cond r1.2.1 (cond (decide ((r1.1.length:Int)≥1)) (some (decide ((r1.1.length:Int)≤24))) (some false)) (some false))
def aaL:TFn:={ ps:=(.cons .str .unit),res:=.bool,fn:=fun v=>zca v.1 }
def aqW:TEnv:=(vZ [(144,yb),(306,z7)])
theorem aqV:runY Tryz.prog ajf aqX aqW axf Tryz.f253 aaL.ps aaL.res=aaL.fn:=by kernel_rfl
theorem ajd:aB Tryz.prog G0 253 aje:=ai (ak ⟨au,(aj aaX (aj ahp ac)),ap,ac,an⟩ Tryz.func253 rfl (by kernel_rfl))
theorem aqU:TOk aje aaL:=aA (E:=ajf) (ET:=aqW) (EnvT.ofX (ax (ah agr (ah aog al))) am ar aO aq) aqV rfl
def aiJ:Env:=(eZ [(253,aje)] [274])
def aqb:Hints:=(hZ [(6,[0,3])] [])
def aiI:PFn:=aG (runF Tryz.prog aiJ aqb Tryz.f183)
def aw0:TH:={ loops:=[(6,{ keep:=[(3,(.int .i64))],mem:=[] })],ro:=[] }
def vU (a0:List (List UInt8)) (y6:(Int×Unit)):Option ((Int×Unit)⊕Int) :=
 cond (decide (y6.1<(a0.length:Int))) (
(atI a0 y6.1).bind fun x1 =>
(zca x1).bind fun r2 =>
 cond (!r2) (
 some (.inr 8)) (
 some (.inl ((IntKind.wrap .i64 (y6.1+1)),())))) (
 some (.inr 0))
def zco (a0:List (List UInt8)):Option Int :=
 cond (decide ((a0.length:Int)=0)) (
 some 8) (
 cond (decide ((a0.length:Int)>8)) (
 some 9) (
 aK (vU a0) (0,())))
def aaA:TFn:={ ps:=(.cons (.sl .str) .unit),res:=(.int .i64),fn:=fun v=>zco v.1 }
def aqa:TEnv:=(vZ [(253,aaL)])
theorem ap9:runY Tryz.prog aiJ aqb aqa aw0 Tryz.f183 aaA.ps aaA.res=aaA.fn:=by kernel_rfl
theorem aiH:aB Tryz.prog G0 183 aiI:=ai (ak ⟨au,(aj ajd ac),ap,ac,an⟩ Tryz.func183 rfl (by kernel_rfl))
theorem ap8:TOk aiI aaA:=aA (E:=aiJ) (ET:=aqa) (EnvT.ofX (ax (ah aqU al)) am ar aO aq) ap9 rfl
def akE:Env:=(eZ [(144,aew)] [274])
def atc:Hints:=(hZ [] [])
def akD:PFn:=aG (runF Tryz.prog akE atc Tryz.f184)
def axO:TH:={ loops:=[],ro:=[1] }
def zb8 (a0:vV5):Option Bool :=
 cond (decide (a0.1=1)) (
 cond (decide (a0.2.2.1=[])) (cond (decide (a0.2.1≥(-2147483647))) (some (decide (a0.2.1≤2147483647))) (some false)) (some false)) (
 cond (decide (a0.1=2)) (
(zbz a0.2.2.1).bind fun r1 =>
 cond (decide (a0.2.1=0)) (cond r1.2.1 (some (decide ((a0.2.2.1.length:Int)≤64))) (some false)) (some false)) (
 cond (decide (a0.1=3)) (cond (decide (a0.2.2.1=[])) (cond (decide (a0.2.1≥0)) (some (decide (a0.2.1≤1))) (some false)) (some false)) (some false)))
def abn:TFn:={ ps:=(.cons tT18 .unit),res:=.bool,fn:=fun v=>zb8 v.1 }
def atb:TEnv:=(vZ [(144,yb)])
theorem ata:runY Tryz.prog akE atc atb axO Tryz.f184 abn.ps abn.res=abn.fn:=by kernel_rfl
theorem akC:aB Tryz.prog G0 184 akD:=ai (ak ⟨au,(aj aaX ac),ap,ac,an⟩ Tryz.func184 rfl (by kernel_rfl))
theorem as9:TOk akD abn:=aA (E:=akE) (ET:=atb) (EnvT.ofX (ax (ah agr al)) am ar aO aq) ata rfl
def ajE:Env:=(eZ [(101,tN),(172,aep)] [274])
def arz:Hints:=(hZ [] [])
def ajD:PFn:=aG (runF Tryz.prog ajE arz Tryz.f254)
def axo:TH:={ loops:=[],ro:=[2,3] }
def zc1 (a0:vV3) (a1:vV3):Option Int :=
(zbk a0.1 a1.1).bind fun r1 =>
 cond (!decide (r1=0)) (
(zbk a0.1 a1.1).bind fun r2 =>
 some r2) (
(zcq a0.2.1 a1.2.1).bind fun r3 =>
 some r3)
def aaV:TFn:={ ps:=(.cons tT17 (.cons tT17 .unit)),res:=(.int .i64),fn:=fun v=>zc1 v.1 v.2.1 }
def ary:TEnv:=(vZ [(101,po),(172,xX)])
theorem arx:runY Tryz.prog ajE arz ary axo Tryz.f254 aaV.ps aaV.res=aaV.fn:=by kernel_rfl
theorem ajC:aB Tryz.prog G0 254 ajD:=ai (ak ⟨au,(aj lm (aj aay ac)),ap,ac,an⟩ Tryz.func254 rfl (by kernel_rfl))
theorem arw:TOk ajD aaV:=aA (E:=ajE) (ET:=ary) (EnvT.ofX (ax (ah qO (ah agn al))) am ar aO aq) arx rfl
def ajv:Env:=(eZ [(109,pk),(254,ajD)] [274])
def arm:Hints:=(hZ [(2,[0,3])] [])
def aju:PFn:=aG (runF Tryz.prog ajv arm Tryz.f185)
def axl:TH:={ loops:=[(2,{ keep:=[(3,(.int .i64))],mem:=[] })],ro:=[] }
def we (a0:List vV3) (y2:(Int×Unit)):Option ((Int×Unit)⊕Bool) :=
 cond (decide (y2.1<(a0.length:Int))) (
(atI a0 y2.1).bind fun x1 =>
(zcj x1.1).bind fun r2 =>
 cond (!r2) (some (.inr false)) ((atI a0 y2.1).bind fun x3 =>
 cond (decide (x3.2.1<0)) (some (.inr false)) ((atI a0 y2.1).bind fun x4 =>
 cond (decide (x4.2.1>15)) (
 some (.inr false)) (
 cond (decide (y2.1>0)) ((atI a0 (IntKind.wrap .i64 (y2.1-1))).bind fun x5 =>
(atI a0 y2.1).bind fun x6 =>
(zc1 x5 x6).bind fun r7 =>
 cond (!decide (r7=(-1))) (
 some (.inr false)) (
 some (.inl ((IntKind.wrap .i64 (y2.1+1)),())))) (some (.inl ((IntKind.wrap .i64 (y2.1+1)),()))))))) (
 some (.inr true))
def zc4 (a0:List vV3):Option Bool :=
 aK (we a0) (0,())
def aaS:TFn:={ ps:=(.cons (.sl tT17) .unit),res:=.bool,fn:=fun v=>zc4 v.1 }
def arl:TEnv:=(vZ [(109,lk),(254,aaV)])
theorem ark:runY Tryz.prog ajv arm arl axl Tryz.f185 aaS.ps aaS.res=aaS.fn:=by kernel_rfl
theorem ajt:aB Tryz.prog G0 185 aju:=ai (ak ⟨au,(aj iw (aj ajC ac)),ap,ac,an⟩ Tryz.func185 rfl (by kernel_rfl))
theorem arj:TOk aju aaS:=aA (E:=ajv) (ET:=arl) (EnvT.ofX (ax (ah lj (ah arw al))) am ar aO aq) ark rfl
def ajL:Env:=(eZ [(183,aiI),(184,akD),(185,aju)] [274])
def arK:Hints:=(hZ [] [])
def ajK:PFn:=aG (runF Tryz.prog ajL arK Tryz.f110)
def axr:TH:={ joins:=[(9,{ keep:=[(1,(.bx 0 0))],mem:=[.same,.gone] }),(11,{ keep:=[(1,(.bx 0 0))],mem:=[.same,.gone] }),(13,{ keep:=[(1,(.bx 0 0))],mem:=[.same,.gone] }),(15,{ keep:=[(1,(.bx 0 0))],mem:=[.same,.gone] })],loops:=[],cuts:=[(11,[(8,{ keep:=[(1,(.bx 0 0)),(55,.bool)],mem:=[.same,.gone] })])],ro:=[1],news:=[] }
def zby (a0:vV0):Option Int :=
 cond (decide (a0.1<1)) (some 18) (cond (decide (a0.1>5)) (
 some 18) (
(zco a0.2.1).bind fun r1 =>
 cond (!decide (r1=0)) (
 some r1) (
(cond (decide (a0.1=3)) (cond (!(eqV tT18 a0.2.2.1 (0,0,[],()))) (
 some (.inr 2)) (
 some (.inl ()))) (cond (decide (a0.1=5)) (cond (!(eqV tT18 a0.2.2.1 (0,0,[],()))) (
 some (.inr 2)) (
 some (.inl ()))) (some (.inl ()))):Option (Unit⊕Int)).bind (bd fun v2 =>
(cond (!decide (a0.1=3)) (cond (!decide (a0.1=5)) ((zb8 a0.2.2.1).bind fun r3 =>
 cond (!r3) (
 some (.inr 2)) (
 some (.inl ()))) (some (.inl ()))) (some (.inl ())):Option (Unit⊕Int)).bind (bd fun v4 =>
((cond (!decide (a0.1=3)) (some ((!decide (a0.2.2.2.1=0)),())) (some (false,())):Option (Bool×Unit)).bind fun v5 =>
 cond v5.1 (some (.inr 2)) (cond (decide (a0.1=3)) (cond (decide (a0.2.2.2.1=0)) (some (.inr 2)) (cond (decide (a0.2.2.2.1>2147483647)) (some (.inr 2)) (cond (decide (a0.2.2.2.1<(-2147483647))) (
 some (.inr 2)) (
 some (.inl ()))))) (some (.inl ()))):Option (Unit⊕Int)).bind (bd fun v6 =>
(cond (decide (a0.1=2)) (cond (decide ((a0.2.2.2.2.1.length:Int)>0)) (
 some (.inr 2)) (
 some (.inl ()))) (cond (decide (a0.1=3)) (cond (decide ((a0.2.2.2.2.1.length:Int)>0)) (
 some (.inr 2)) (
 some (.inl ()))) (some (.inl ()))):Option (Unit⊕Int)).bind (bd fun v7 =>
 cond (decide ((a0.2.2.2.2.1.length:Int)>256)) (
 some 7) (
(zc4 a0.2.2.2.2.1).bind fun r8 =>
 cond (!r8) (
 some 2) (
 some 0)))))))))
def aaY:TFn:={ ps:=(.cons tT14 .unit),res:=(.int .i64),fn:=fun v=>zby v.1 }
def arJ:TEnv:=(vZ [(183,aaA),(184,abn),(185,aaS)])
theorem arI:runY Tryz.prog ajL arK arJ axr Tryz.f110 aaY.ps aaY.res=aaY.fn:=by kernel_rfl
theorem ajJ:aB Tryz.prog G0 110 ajK:=ai (ak ⟨au,(aj aiH (aj akC (aj ajt ac))),ap,ac,an⟩ Tryz.func110 rfl (by kernel_rfl))
theorem arH:TOk ajK aaY:=aA (E:=ajL) (ET:=arJ) (EnvT.ofX (ax (ah ap8 (ah as9 (ah arj al)))) am ar aO aq) arI rfl
def aiy:Env:=(eZ [] [274])
def apU:Hints:=(hZ [] [])
def aix:PFn:=aG (runF Tryz.prog aiy apU Tryz.f111)
def awV:TH:={ loops:=[],cuts:=[(2,[(9,{ keep:=[(1,(.bx 0 0)),(3,(.bx 1 0)),(13,.bool)],mem:=[.same,.box 132 tT18] })])],ro:=[1],news:=[] }
def zct (a0:vV0):Option Bool :=
(cond (decide (a0.1=0)) (some ((decide ((a0.2.1.length:Int)=0)),(0,0,[],()),())) (some (false,(0,0,[],()),())):Option (Bool×vV5×Unit)).bind fun v1 =>
 cond v1.1 (cond (eqV tT18 a0.2.2.1 v1.2.1) (cond (decide (a0.2.2.2.1=0)) (some (decide ((a0.2.2.2.2.1.length:Int)=0))) (some false)) (some false)) (some false)
def aaw:TFn:={ ps:=(.cons tT14 .unit),res:=.bool,fn:=fun v=>zct v.1 }
def apT:TEnv:=(vZ [])
theorem apS:runY Tryz.prog aiy apU apT awV Tryz.f111 aaw.ps aaw.res=aaw.fn:=by kernel_rfl
theorem aiw:aB Tryz.prog G0 111 aix:=ai (ak ⟨au,ac,ap,ac,an⟩ Tryz.func111 rfl (by kernel_rfl))
theorem apR:TOk aix aaw:=aA (E:=aiy) (ET:=apT) (EnvT.ofX (ax al) am ar aO aq) apS rfl
def akL:Env:=(eZ [(109,pk),(110,ajK),(111,aix)] [274])
def atn:Hints:=(hZ [(8,[1,3])] [])
def akK:PFn:=aG (runF Tryz.prog akL atn Tryz.f42)
def axR:TH:={ loops:=[(8,{ keep:=[(1,(.bx 0 0)),(3,(.int .i64))],mem:=[.same] })],cuts:=[(1,[(9,{ keep:=[(1,(.bx 0 0)),(13,.bool)],mem:=[.same] })])],ro:=[1],news:=[] }
def qQ (a0:vV4) (y8:(Int×Unit)):Option ((Int×Unit)⊕Int) :=
 cond (decide (y8.1<(a0.2.2.2.2.1.length:Int))) (
(atI a0.2.2.2.2.1 y8.1).bind fun x3 =>
(zby x3).bind fun r4 =>
 cond (!decide (r4=0)) (cond a0.2.2.2.1 ((atI a0.2.2.2.2.1 y8.1).bind fun x5 =>
(zct x5).bind fun r6 =>
 cond (!r6) (
 some (.inr r4)) (
 some (.inl ((IntKind.wrap .i64 (y8.1+1)),())))) (some (.inr r4))) (some (.inl ((IntKind.wrap .i64 (y8.1+1)),())))) (
 some (.inr 0))
def zb5 (a0:vV4):Option Int :=
((zcj a0.1).bind fun r1 =>
 cond (!r1) (some (true,())) (some ((decide (a0.2.1<0)),())):Option (Bool×Unit)).bind fun v2 =>
 cond v2.1 (some 2) (cond (decide (a0.2.1>7)) (some 2) (cond (decide (a0.2.2.1<1)) (some 2) (cond (decide (a0.2.2.1>1099511627776)) (
 some 2) (
 cond (decide ((a0.2.2.2.2.1.length:Int)=0)) (
 some 11) (
 cond (decide ((a0.2.2.2.2.1.length:Int)>16)) (
 some 7) (
 aK (qQ a0) (0,())))))))
def abq:TFn:={ ps:=(.cons tT19 .unit),res:=(.int .i64),fn:=fun v=>zb5 v.1 }
def atm:TEnv:=(vZ [(109,lk),(110,aaY),(111,aaw)])
theorem atl:runY Tryz.prog akL atn atm axR Tryz.f42 abq.ps abq.res=abq.fn:=by kernel_rfl
theorem akJ:aB Tryz.prog G0 42 akK:=ai (ak ⟨au,(aj iw (aj ajJ (aj aiw ac))),ap,ac,an⟩ Tryz.func42 rfl (by kernel_rfl))
theorem atk:TOk akK abq:=aA (E:=akL) (ET:=atm) (EnvT.ofX (ax (ah lj (ah arH (ah apR al)))) am ar aO aq) atl rfl
def ahu:Env:=(eZ [(109,pk)] [274])
def aon:Hints:=(hZ [] [])
def aht:PFn:=aG (runF Tryz.prog ahu aon Tryz.f320)
def awx:TH:={ loops:=[],ro:=[3] }
def zdo (a0:List Int) (a1:(Int×Int×Unit)):Option Bool :=
(zcj a1).bind fun r1 =>
 cond r1 ((inI 16 a1.1).bind fun i2 =>
(a0[i2]?).bind fun x3 =>
 some (decide (x3≥a1.2.1))) (some false)
def z8:TFn:={ ps:=(.cons (.arr 16 (.int .i64)) (.cons tT15 .unit)),res:=.bool,fn:=fun v=>zdo v.1 v.2.1 }
def aom:TEnv:=(vZ [(109,lk)])
theorem aol:runY Tryz.prog ahu aon aom awx Tryz.f320 z8.ps z8.res=z8.fn:=by kernel_rfl
theorem ahs:aB Tryz.prog G0 320 aht:=ai (ak ⟨au,(aj iw ac),ap,ac,an⟩ Tryz.func320 rfl (by kernel_rfl))
theorem aok:TOk aht z8:=aA (E:=ahu) (ET:=aom) (EnvT.ofX (ax (ah lj al)) am ar aO aq) aol rfl
def ahK:Env:=(eZ [(320,aht)] [274])
def aoL:Hints:=(hZ [(4,[2,3,5])] [])
def ahJ:PFn:=aG (runF Tryz.prog ahK aoL Tryz.f270)
def awD:TH:={ loops:=[(4,{ keep:=[(2,(.bx 0 0)),(3,(.bx 1 0)),(5,(.int .i64))],mem:=[.same,.same] })],ro:=[2,3] }
def vL (a0:vV8) (a1:(Int×Int×Unit)) (y4:(Int×Unit)):Option ((Int×Unit)⊕Bool) :=
 cond (decide (y4.1<(a0.2.1.length:Int))) (
(atI a0.2.1 y4.1).bind fun x2 =>
 cond (eqV tT15 x2 a1) (
 some (.inr true)) (
 some (.inl ((IntKind.wrap .i64 (y4.1+1)),())))) (
 some (.inr false))
def zdi (a0:vV8) (a1:(Int×Int×Unit)):Option Bool :=
(zdo a0.1 a1).bind fun r1 =>
 cond r1 (
 some true) (
 aK (vL a0 a1) (0,()))
def aaf:TFn:={ ps:=(.cons tT21 (.cons tT15 .unit)),res:=.bool,fn:=fun v=>zdi v.1 v.2.1 }
def aoK:TEnv:=(vZ [(320,z8)])
theorem aoJ:runY Tryz.prog ahK aoL aoK awD Tryz.f270 aaf.ps aaf.res=aaf.fn:=by kernel_rfl
theorem ahI:aB Tryz.prog G0 270 ahJ:=ai (ak ⟨au,(aj ahs ac),ap,ac,an⟩ Tryz.func270 rfl (by kernel_rfl))
theorem aoI:TOk ahJ aaf:=aA (E:=ahK) (ET:=aoK) (EnvT.ofX (ax (ah aok al)) am ar aO aq) aoJ rfl
def ajZ:Env:=(eZ [] [274])
def ar3:Hints:=(hZ [(3,[1,2,3,4])] [])
def ajY:PFn:=aG (runF Tryz.prog ajZ ar3 Tryz.f294)
def axw:TH:={ loops:=[(3,{ keep:=[(1,(.bx 0 0)),(2,(.bx 1 0)),(3,(.bx 2 0)),(4,(.int .i64))],mem:=[.same,.box 66 tT26,.box 66 (.agg (.cons (.arr 16 (.int .i64)) (.cons (.own 4) .unit))),.gone,.row true 72 tT15] })],ro:=[1] }
def wh (a0:vV8) (y3:(Int×vV11×vV11×List (Int×Int×Unit)×Unit)):Option ((Int×vV11×vV11×List (Int×Int×Unit)×Unit)⊕vV8) :=
 cond (decide (y3.1<(a0.2.1.length:Int))) (
(atI a0.2.1 y3.1).bind fun x1 =>
(inI 16 x1.1).bind fun i2 =>
(y3.2.2.1.1[i2]?).bind fun x3 =>
 cond (decide (x1.2.1=(IntKind.wrap .i64 (x3+1)))) (
(inI 16 x1.1).bind fun i4 =>
(y3.2.2.1.1[i4]?).bind fun x5 =>
 some (.inl ((IntKind.wrap .i64 (y3.1+1)),y3.2.1,((y3.2.2.1.1.set i4 x1.2.1),y3.2.2.1.2.1,()),y3.2.2.2.1,()))) (
(inI 16 x1.1).bind fun i6 =>
(y3.2.2.1.1[i6]?).bind fun x7 =>
 cond (decide (x1.2.1>x7)) (
(bT (y3.2.2.2.1.length+([x1]:List (Int×Int×Unit)).length)).bind fun u8 =>
 some (.inl ((IntKind.wrap .i64 (y3.1+1)),y3.2.1,(y3.2.2.1.1,(),()),(y3.2.2.2.1++([x1]:List (Int×Int×Unit))),()))) (
 some (.inl ((IntKind.wrap .i64 (y3.1+1)),y3.2.1,y3.2.2.1,y3.2.2.2.1,()))))) (
 some (.inr (y3.2.2.1.1,y3.2.2.2.1,())))
def zbs (a0:vV8):Option vV8 :=
 aK (wh a0) (0,([0,0,0,0,0,0,0,0,0,0,0,0,0,0,0,0],(),()),(a0.1,(),()),[],())
def aa5:TFn:={ ps:=(.cons tT21 .unit),res:=tT21,fn:=fun v=>zbs v.1 }
def ar2:TEnv:={ pure:=[],look:=[],glob:=G0T,ty:=[(72,tT15)],raw:=[],fresh:=[] }
theorem ar1:runY Tryz.prog ajZ ar3 ar2 axw Tryz.f294 aa5.ps aa5.res=aa5.fn:=by kernel_rfl
theorem ajX:aB Tryz.prog G0 294 ajY:=ai (ak ⟨au,ac,ap,ac,an⟩ Tryz.func294 rfl (by kernel_rfl))
theorem ar0:TOk ajY aa5:=aA (E:=ajZ) (ET:=ar2) (EnvT.ofX (ax al) am ar aO aq) ar1 rfl
def ahU:Env:=(eZ [(101,tN),(109,pk),(270,ahJ),(294,ajY)] [274])
def ao0:Hints:=(hZ [(6,[2,3,4,5,6,7])] [56])
def ahT:PFn:=aG (runF Tryz.prog ahU ao0 Tryz.f236)
def awH:TH:={ joins:=[(12,{ keep:=[(2,(.bx 0 0)),(3,(.bx 1 0)),(4,(.bx 2 0)),(5,(.own 3)),(6,.bool)],mem:=[.same,.same,.box 66 tT26,.row true 72 tT15] }),(11,{ keep:=[(2,(.bx 0 0)),(3,(.bx 1 0)),(4,(.bx 2 0)),(5,(.own 3)),(6,.bool)],mem:=[.same,.same,.box 66 tT26,.row true 72 tT15] }),(14,{ keep:=[(2,(.bx 0 0)),(4,(.bx 2 0)),(5,(.own 3))],mem:=[.same,.same,.box 66 tT26,.row true 72 tT15] })],loops:=[(6,{ keep:=[(2,(.bx 0 0)),(3,(.bx 1 0)),(4,(.bx 2 0)),(5,(.own 3)),(6,.bool),(7,(.int .i64))],mem:=[.same,.same,.box 66 tT26,.row true 72 tT15] })],ro:=[2,3] }
def vN (a0:vV8) (a1:(Int×Int×Unit)) (y6:(Bool×Int×vV11×List (Int×Int×Unit)×Unit)):Option ((Bool×Int×vV11×List (Int×Int×Unit)×Unit)⊕((Bool×vV11×List (Int×Int×Unit)×Unit)⊕vV8)) :=
 cond (decide (y6.2.1<(a0.2.1.length:Int))) (
(cond (!y6.1) ((atI a0.2.1 y6.2.1).bind fun x3 =>
(zbk a1 x3).bind fun r4 =>
 cond (decide (r4<0)) (
(bT (y6.2.2.2.1.length+([a1]:List (Int×Int×Unit)).length)).bind fun u5 =>
 some (.inl (true,y6.2.2.1,(y6.2.2.2.1++([a1]:List (Int×Int×Unit))),()))) (
 some (.inl (y6.1,y6.2.2.1,y6.2.2.2.1,())))) (some (.inl (y6.1,y6.2.2.1,y6.2.2.2.1,()))):Option ((Bool×vV11×List (Int×Int×Unit)×Unit)⊕((Bool×Int×vV11×List (Int×Int×Unit)×Unit)⊕((Bool×vV11×List (Int×Int×Unit)×Unit)⊕vV8)))).bind (bd fun v6 =>
(atI a0.2.1 y6.2.1).bind fun x7 =>
(bT (v6.2.2.1.length+([x7]:List (Int×Int×Unit)).length)).bind fun u8 =>
 some (.inl (v6.1,(IntKind.wrap .i64 (y6.2.1+1)),v6.2.1,(v6.2.2.1++([x7]:List (Int×Int×Unit))),())))) (
 some (.inr (.inl (y6.1,y6.2.2.1,y6.2.2.2.1,()))))
def zde (a0:vV8) (a1:(Int×Int×Unit)):Option vV8 :=
(zcj a1).bind fun r1 =>
 cond (!r1) (some a0) ((zdi a0 a1).bind fun r2 =>
 cond r2 (
 some a0) (
(aK (vN a0 a1) (false,0,([0,0,0,0,0,0,0,0,0,0,0,0,0,0,0,0],(),()),[],()):Option ((Bool×vV11×List (Int×Int×Unit)×Unit)⊕vV8)).bind (bd fun v9 =>
(cond (!v9.1) (
(bT (v9.2.2.1.length+([a1]:List (Int×Int×Unit)).length)).bind fun u10 =>
 some (.inl (v9.2.1,(v9.2.2.1++([a1]:List (Int×Int×Unit))),()))) (
 some (.inl (v9.2.1,v9.2.2.1,()))):Option ((vV11×List (Int×Int×Unit)×Unit)⊕vV8)).bind (bd fun v11 =>
(zbs (a0.1,v11.2.1,())).bind fun r12 =>
 some r12))))
def aaj:TFn:={ ps:=(.cons tT21 (.cons tT15 .unit)),res:=tT21,fn:=fun v=>zde v.1 v.2.1 }
def aoZ:TEnv:={ pure:=[(101,po),(109,lk),(270,aaf),(294,aa5)],look:=[],glob:=G0T,ty:=[(72,tT15)],raw:=[],fresh:=[] }
theorem aoY:runY Tryz.prog ahU ao0 aoZ awH Tryz.f236 aaj.ps aaj.res=aaj.fn:=by kernel_rfl
theorem ahS:aB Tryz.prog G0 236 ahT:=ai (ak ⟨au,(aj lm (aj iw (aj ahI (aj ajX ac)))),ap,ac,an⟩ Tryz.func236 rfl (by kernel_rfl))
theorem aoX:TOk ahT aaj:=aA (E:=ahU) (ET:=aoZ) (EnvT.ofX (ax (ah qO (ah lj (ah aoI (ah ar0 al))))) am ar aO aq) aoY rfl
def ai3:Env:=(eZ [(236,ahT)] [274])
def aqI:Hints:=(hZ [(3,[0,2,3,4])] [])
def ai2:PFn:=aG (runF Tryz.prog ai3 aqI Tryz.f168)
def aw9:TH:={ loops:=[(3,{ keep:=[(2,(.bx 0 0)),(3,(.bx 1 0)),(4,(.int .i64))],mem:=[.box 66 tT26,.box 66 tT21] })],ro:=[] }
def wa (a0:List vV4) (y3:(Int×vV11×vV8×Unit)):Option ((Int×vV11×vV8×Unit)⊕vV8) :=
 cond (decide (y3.1<(a0.length:Int))) (
(atI a0 y3.1).bind fun x1 =>
(zde y3.2.2.1 x1.1).bind fun r2 =>
 some (.inl ((IntKind.wrap .i64 (y3.1+1)),y3.2.1,r2,()))) (
 some (.inr y3.2.2.1))
def zcf (a0:List vV4):Option vV8 :=
 aK (wa a0) (0,([0,0,0,0,0,0,0,0,0,0,0,0,0,0,0,0],(),()),([0,0,0,0,0,0,0,0,0,0,0,0,0,0,0,0],[],()),())
def aaH:TFn:={ ps:=(.cons (.sl tT19) .unit),res:=tT21,fn:=fun v=>zcf v.1 }
def aqH:TEnv:=(vZ [(236,aaj)])
theorem aqG:runY Tryz.prog ai3 aqI aqH aw9 Tryz.f168 aaH.ps aaH.res=aaH.fn:=by kernel_rfl
theorem ai1:aB Tryz.prog G0 168 ai2:=ai (ak ⟨au,(aj ahS ac),ap,ac,an⟩ Tryz.func168 rfl (by kernel_rfl))
theorem aqF:TOk ai2 aaH:=aA (E:=ai3) (ET:=aqH) (EnvT.ofX (ax (ah aoX al)) am ar aO aq) aqG rfl
def aiv:Env:=(eZ [] [274])
def apQ:Hints:=(hZ [(4,[0,1,5])] [])
def aiu:PFn:=aG (runF Tryz.prog aiv apQ Tryz.f65)
def awU:TH:={ loops:=[(4,{ keep:=[(5,(.int .i64))],mem:=[] })],ro:=[] }
def vT (a0:List (Int×Int×Unit)) (a1:List (Int×Int×Unit)) (y4:(Int×Unit)):Option ((Int×Unit)⊕Bool) :=
 cond (decide (y4.1<(a0.length:Int))) (
(atI a0 y4.1).bind fun x1 =>
(atI a1 y4.1).bind fun x2 =>
 cond (!(eqV tT15 x1 x2)) (
 some (.inr false)) (
 some (.inl ((IntKind.wrap .i64 (y4.1+1)),())))) (
 some (.inr true))
def zcu (a0:List (Int×Int×Unit)) (a1:List (Int×Int×Unit)):Option Bool :=
 cond (!decide ((a0.length:Int)=(a1.length:Int))) (
 some false) (
 aK (vT a0 a1) (0,()))
def aav:TFn:={ ps:=(.cons (.sl tT15) (.cons (.sl tT15) .unit)),res:=.bool,fn:=fun v=>zcu v.1 v.2.1 }
def apP:TEnv:=(vZ [])
theorem apO:runY Tryz.prog aiv apQ apP awU Tryz.f65 aav.ps aav.res=aav.fn:=by kernel_rfl
theorem ait:aB Tryz.prog G0 65 aiu:=ai (ak ⟨au,ac,ap,ac,an⟩ Tryz.func65 rfl (by kernel_rfl))
theorem apN:TOk aiu aav:=aA (E:=aiv) (ET:=apP) (EnvT.ofX (ax al) am ar aO aq) apO rfl
def ajH:Env:=(eZ [(65,aiu)] [274])
def arD:Hints:=(hZ [] [])
def ajG:PFn:=aG (runF Tryz.prog ajH arD Tryz.f167)
def axp:TH:={ loops:=[],ro:=[2,3] }
def zc0 (a0:vV8) (a1:vV8):Option Bool :=
 cond (eqV (.arr 16 (.int .i64)) a0.1 a1.1) ((zcu a0.2.1 a1.2.1).bind fun r1 =>
 some r1) (some false)
def aaW:TFn:={ ps:=(.cons tT21 (.cons tT21 .unit)),res:=.bool,fn:=fun v=>zc0 v.1 v.2.1 }
def arC:TEnv:=(vZ [(65,aav)])
theorem arB:runY Tryz.prog ajH arD arC axp Tryz.f167 aaW.ps aaW.res=aaW.fn:=by kernel_rfl
theorem ajF:aB Tryz.prog G0 167 ajG:=ai (ak ⟨au,(aj ait ac),ap,ac,an⟩ Tryz.func167 rfl (by kernel_rfl))
theorem arA:TOk ajG aaW:=aA (E:=ajH) (ET:=arC) (EnvT.ofX (ax (ah apN al)) am ar aO aq) arB rfl
def akU:Env:=(eZ [(42,akK),(109,pk),(152,akW),(153,ajQ),(166,aiM),(167,ajG),(168,ai2)] [274])
def atz:Hints:=(hZ [(4,[1,3]),(9,[1,4]),(14,[1,4,5])] [])
def akT:PFn:=aG (runF Tryz.prog akU atz Tryz.f96)
def axU:TH:={ joins:=[(8,{ keep:=[(1,(.bx 0 0))],mem:=[.box 69 tT13] }),(18,{ keep:=[(1,(.bx 0 0))],mem:=[.box 69 tT13] })],loops:=[(4,{ keep:=[(1,(.bx 0 0)),(3,(.int .i64))],mem:=[.box 69 tT13] }),(9,{ keep:=[(1,(.bx 0 0)),(4,(.int .i64))],mem:=[.box 69 tT13] }),(14,{ keep:=[(1,(.bx 0 0)),(5,(.int .i64))],mem:=[.box 69 tT13] })],ro:=[] }
def ww (y4:(Int×vV1×Unit)):Option ((Int×vV1×Unit)⊕((vV1×Unit)⊕Bool)) :=
 cond (decide (y4.1<(y4.2.1.1.length:Int))) (
(atI y4.2.1.1 y4.1).bind fun x4 =>
(zb5 x4).bind fun r5 =>
 cond (!decide (r5=0)) (
 some (.inr (.inr false))) (
 some (.inl ((IntKind.wrap .i64 (y4.1+1)),y4.2.1,())))) (
 some (.inr (.inl (y4.2.1,()))))
def pr (y9:(Int×vV1×Unit)) (y14:(Int×vV1×Unit)):Option ((Int×vV1×Unit)⊕((Int×vV1×Unit)⊕((vV1×Unit)⊕Bool))) :=
(inI 8 y9.1).bind fun i9 =>
(y14.2.1.2.2.2.2.1[i9]?).bind fun x10 =>
 cond (decide (y14.1<(x10.length:Int))) (
(inI 8 y9.1).bind fun i11 =>
(y14.2.1.2.2.2.2.1[i11]?).bind fun x12 =>
(atI x12 y14.1).bind fun x13 =>
(zcj x13).bind fun r14 =>
 cond (!r14) (
 some (.inr (.inr (.inr false)))) (
 some (.inl ((IntKind.wrap .i64 (y14.1+1)),y14.2.1,())))) (
 some (.inr (.inl ((IntKind.wrap .i64 (y9.1+1)),y14.2.1,()))))
def nP (y9:(Int×vV1×Unit)):Option ((Int×vV1×Unit)⊕((vV1×Unit)⊕Bool)) :=
 cond (decide (y9.1<8)) (
(inI 8 y9.1).bind fun i7 =>
(y9.2.1.2.2.2.2.1[i7]?).bind fun x8 =>
 cond (decide ((x8.length:Int)>1000)) (
 some (.inr (.inr false))) (
 aK (pr y9) (0,y9.2.1,()))) (
 some (.inr (.inl (y9.2.1,()))))
def zb2 (a0:vV1):Option Bool :=
 cond (decide ((a0.1.length:Int)>1000)) (some false) ((zb1 a0.1).bind fun r1 =>
 cond (!r1) (some false) ((zbw a0.2.1).bind fun r2 =>
 cond (!r2) (some false) ((zcm a0.2.2.2.1).bind fun r3 =>
 cond (!r3) (
 some false) (
(aK (ww) (0,a0,()):Option ((vV1×Unit)⊕Bool)).bind (bd fun v6 =>
(aK (nP) (0,v6.1,()):Option ((vV1×Unit)⊕Bool)).bind (bd fun v15 =>
(zcm v15.1.2.2.1).bind fun r16 =>
 cond r16 ((zcf v15.1.1).bind fun r17 =>
(zc0 v15.1.2.2.1 r17).bind fun r18 =>
 some r18) (some false)))))))
def abt:TFn:={ ps:=(.cons tT13 .unit),res:=.bool,fn:=fun v=>zb2 v.1 }
def aty:TEnv:=(vZ [(42,abq),(109,lk),(152,abu),(153,aa0),(166,aaC),(167,aaW),(168,aaH)])
theorem atx:runY Tryz.prog akU atz aty axU Tryz.f96 abt.ps abt.res=abt.fn:=by kernel_rfl
theorem akS:aB Tryz.prog G0 96 akT:=ai (ak ⟨au,(aj akJ (aj iw (aj akV (aj ajP (aj aiL (aj ajF (aj ai1 ac))))))),ap,ac,an⟩ Tryz.func96 rfl (by kernel_rfl))
theorem atw:TOk akT abt:=aA (E:=akU) (ET:=aty) (EnvT.ofX (ax (ah atk (ah lj (ah atA (ah arP (ah aqf (ah arA (ah aqF al)))))))) am ar aO aq) atx rfl
def aii:Env:=(eZ [(95,akQ),(96,akT)] [274])
def apx:Hints:=(hZ [] [])
def aih:PFn:=aG (runF Tryz.prog aii apx Tryz.f33)
def awP:TH:={ loops:=[],ro:=[1] }
def zcz (a0:vV1):Option Bool :=
(zb3 a0).bind fun r1 =>
 cond r1 ((zb2 a0).bind fun r2 =>
 some r2) (some false)
def aar:TFn:={ ps:=(.cons tT13 .unit),res:=.bool,fn:=fun v=>zcz v.1 }
def apw:TEnv:=(vZ [(95,abs),(96,abt)])
theorem apv:runY Tryz.prog aii apx apw awP Tryz.f33 aar.ps aar.res=aar.fn:=by kernel_rfl
theorem aig:aB Tryz.prog G0 33 aih:=ai (ak ⟨au,(aj akP (aj akS ac)),ap,ac,an⟩ Tryz.func33 rfl (by kernel_rfl))
theorem apu:TOk aih aar:=aA (E:=aii) (ET:=apw) (EnvT.ofX (ax (ah ats (ah atw al))) am ar aO aq) apv rfl
def aji:Env:=(eZ [] [274])
def aq1:Hints:=(hZ [] [])
def ajh:PFn:=aG (runF Tryz.prog aji aq1 Tryz.f119)
def axg:TH:=yZ
def zc9 (a0:Int) (a1:Int) (a2:List vV3):Option vV4 :=
 some ((0,a0,()),0,a0,false,([(1,([[97]]:List (List UInt8)),(1,a1,[],()),0,a2,())]:List vV0),())
def aaM:TFn:={ ps:=(.cons (.int .i64) (.cons (.int .i64) (.cons (.sl tT17) .unit))),res:=tT19,fn:=fun v=>zc9 v.1 v.2.1 v.2.2.1 }
def aq0:TEnv:={ pure:=[],look:=[],glob:=G0T,ty:=[(9,.str),(135,tT14)],raw:=[],fresh:=[] }
theorem aqZ:runY Tryz.prog aji aq1 aq0 axg Tryz.f119 aaM.ps aaM.res=aaM.fn:=by kernel_rfl
theorem ajg:aB Tryz.prog G0 119 ajh:=ai (ak ⟨au,ac,ap,ac,an⟩ Tryz.func119 rfl (by kernel_rfl))
theorem aqY:TOk ajh aaM:=aA (E:=aji) (ET:=aq0) (EnvT.ofX (ax al) am ar aO aq) aqZ rfl
def aj6:Env:=(eZ [] [274])
def asf:Hints:=(hZ [] [])
def aeC:PFn:=aG (runF Tryz.prog aj6 asf Tryz.f226)
def axz:TH:=yZ
def zbo (a0:Int):Option Bool :=
 some (!decide (a0=a0))
def aba:TFn:={ ps:=tT20,res:=.bool,fn:=fun v=>zbo v.1 }
def ase:TEnv:=(vZ [])
theorem asd:runY Tryz.prog aj6 asf ase axz Tryz.f226 aba.ps aba.res=aba.fn:=by kernel_rfl
theorem aj5:aB Tryz.prog G0 226 aeC:=ai (ak ⟨au,ac,ap,ac,an⟩ Tryz.func226 rfl (by kernel_rfl))
theorem asc:TOk aeC aba:=aA (E:=aj6) (ET:=ase) (EnvT.ofX (ax al) am ar aO aq) asd rfl
def ako:Env:=(eZ [(226,aeC)] [274])
def asL:Hints:=(hZ [] [])
def tO:PFn:=aG (runF Tryz.prog ako asL Tryz.f156)
def axI:TH:=yZ
def zbf (a0:Int) (a1:Int):Option Int :=
(zbo a0).bind fun r1 =>
(zbo a1).bind fun r2 =>
 cond r1 (
 cond r2 (
 some 0) (
 some (-1))) (
 cond r2 (
 some 1) (
 cond (decide (a0<a1)) (
 some (-1)) (
 cond (decide (a0>a1)) (
 some 1) (
 some 0))))
def qP:TFn:={ ps:=(.cons (.int .i64) tT20),res:=(.int .i64),fn:=fun v=>zbf v.1 v.2.1 }
def asK:TEnv:=(vZ [(226,aba)])
theorem asJ:runY Tryz.prog ako asL asK axI Tryz.f156 qP.ps qP.res=qP.fn:=by kernel_rfl
theorem pp:aB Tryz.prog G0 156 tO:=ai (ak ⟨au,(aj aj5 ac),ap,ac,an⟩ Tryz.func156 rfl (by kernel_rfl))
theorem wm:TOk tO qP:=aA (E:=ako) (ET:=asK) (EnvT.ofX (ax (ah asc al)) am ar aO aq) asJ rfl
def aip:Env:=(eZ [] [274])
def apI:Hints:=(hZ [(3,[3,6,7,8])] [])
def tK:PFn:=aG (runF Tryz.prog aip apI Tryz.f154)
def awS:TH:={ loops:=[(3,{ keep:=[(8,(.int .i64))],mem:=[] })],ro:=[] }
def gd (a0:List Int) (y3:(Int×Unit)):Option ((Int×Unit)⊕Int) :=
 cond (decide (y3.1<(a0.length:Int))) (
(atI a0 y3.1).bind fun x1 =>
 cond (!decide (x1=0)) (
 some (.inr x1)) (
 some (.inl ((IntKind.wrap .i64 (y3.1+1)),())))) (
 some (.inr 0))
def zcw (a0:List Int):Option Int :=
 aK (gd a0) (0,())
def qL:TFn:={ ps:=(.cons (.sl (.int .i64)) .unit),res:=(.int .i64),fn:=fun v=>zcw v.1 }
def apH:TEnv:=(vZ [])
theorem apG:runY Tryz.prog aip apI apH awS Tryz.f154 qL.ps qL.res=qL.fn:=by kernel_rfl
theorem pj:aB Tryz.prog G0 154 tK:=ai (ak ⟨au,ac,ap,ac,an⟩ Tryz.func154 rfl (by kernel_rfl))
theorem vQ:TOk tK qL:=aA (E:=aip) (ET:=apH) (EnvT.ofX (ax al) am ar aO aq) apG rfl
def akY:Env:=(eZ [(154,tK),(156,tO)] [274])
def atG:Hints:=(hZ [] [])
def yh:PFn:=aG (runF Tryz.prog akY atG Tryz.f171)
def axW:TH:={ loops:=[],ro:=[2,3] }
def zb0 (a0:(Int×Int×Unit)) (a1:(Int×Int×Unit)):Option Int :=
(zbf a0.1 a1.1).bind fun r1 =>
(zbf a0.2.1 a1.2.1).bind fun r2 =>
(zcw ([r1,r2]:List Int)).bind fun r3 =>
 some r3
def qR:TFn:={ ps:=(.cons tT15 (.cons tT15 .unit)),res:=(.int .i64),fn:=fun v=>zb0 v.1 v.2.1 }
def atF:TEnv:={ pure:=[(154,qL),(156,qP)],look:=[],glob:=G0T,ty:=[(3,(.int .i64))],raw:=[],fresh:=[] }
theorem atE:runY Tryz.prog akY atG atF axW Tryz.f171 qR.ps qR.res=qR.fn:=by kernel_rfl
theorem pw:aB Tryz.prog G0 171 yh:=ai (ak ⟨au,(aj pj (aj pp ac)),ap,ac,an⟩ Tryz.func171 rfl (by kernel_rfl))
theorem wy:TOk yh qR:=aA (E:=akY) (ET:=atF) (EnvT.ofX (ax (ah vQ (ah wm al))) am ar aO aq) atE rfl
def ajy:Env:=(eZ [(171,yh)] [274])
def arq:Hints:=(hZ [] [])
def ajx:PFn:=aG (runF Tryz.prog ajy arq Tryz.f193)
def axm:TH:={ loops:=[],ro:=[2,3] }
def zc3 (a0:vV4) (a1:(Int×Int×Unit)):Option Int :=
(zb0 a0.1 a1).bind fun r1 =>
 some r1
def aaT:TFn:={ ps:=(.cons tT19 (.cons tT15 .unit)),res:=(.int .i64),fn:=fun v=>zc3 v.1 v.2.1 }
def arp:TEnv:=(vZ [(171,qR)])
theorem aro:runY Tryz.prog ajy arq arp axm Tryz.f193 aaT.ps aaT.res=aaT.fn:=by kernel_rfl
theorem ajw:aB Tryz.prog G0 193 ajx:=ai (ak ⟨au,(aj pw ac),ap,ac,an⟩ Tryz.func193 rfl (by kernel_rfl))
theorem arn:TOk ajx aaT:=aA (E:=ajy) (ET:=arp) (EnvT.ofX (ax (ah wy al)) am ar aO aq) aro rfl
def alZ:Env:=(eZ [(193,ajx)] [274])
def auO:Hints:=(hZ [(3,[0,2,4,8,9,10])] [])
def alY:PFn:=aG (runF Tryz.prog alZ auO Tryz.f192)
def ax9:TH:={ joins:=[(8,{ keep:=[(4,(.bx 0 0)),(9,(.int .i64))],mem:=[.same] })],loops:=[(3,{ keep:=[(4,(.bx 0 0)),(9,(.int .i64)),(10,(.int .i64))],mem:=[.same] })],ro:=[4] }
def qT (a0:List vV4) (a1:(Int×Int×Unit)) (y3:(Int×Int×Unit)):Option ((Int×Int×Unit)⊕((Int×Unit)⊕(Int×Bool×Unit))) :=
 cond (decide (y3.1<y3.2.1)) (
(shrT .u64 (IntKind.wrap .u64 (IntKind.wrap .i64 (y3.1+y3.2.1))) 1).bind fun t1 =>
(atI a0 (IntKind.wrap .i64 t1)).bind fun x2 =>
(zc3 x2 a1).bind fun r3 =>
 cond (decide (r3<0)) (
 some (.inl ((IntKind.wrap .i64 ((IntKind.wrap .i64 t1)+1)),y3.2.1,()))) (
 some (.inl (y3.1,(IntKind.wrap .i64 t1),())))) (
 some (.inr (.inl (y3.1,()))))
def zae (a0:List vV4) (a1:(Int×Int×Unit)) (a2:Unit):Option (Int×Bool×Unit) :=
(aK (qT a0 a1) (0,(a0.length:Int),()):Option ((Int×Unit)⊕(Int×Bool×Unit))).bind (bd fun v4 =>
 cond (decide (v4.1<(a0.length:Int))) ((atI a0 v4.1).bind fun x5 =>
(zc3 x5 a1).bind fun r6 =>
 some (v4.1,(decide (r6=0)),())) (some (v4.1,false,())))
def abF:TFn:={ ps:=(.cons (.sl tT19) (.cons tT15 (.cons (.fn 193) .unit))),res:=(.tup (.cons (.int .i64) (.cons .bool .unit))),fn:=fun v=>zae v.1 v.2.1 v.2.2.1 }
def auN:TEnv:=(vZ [(193,aaT)])
theorem auM:runY Tryz.prog alZ auO auN ax9 Tryz.f192 abF.ps abF.res=abF.fn:=by kernel_rfl
theorem alX:aB Tryz.prog G0 192 alY:=ai (ak ⟨au,(aj ajw ac),ap,ac,an⟩ Tryz.func192 rfl (by kernel_rfl))
theorem auL:TOk alY abF:=aA (E:=alZ) (ET:=auN) (EnvT.ofX (ax (ah arn al)) am ar aO aq) auM rfl
def aha:Env:=(eZ [(192,alY)] [274])
def anT:Hints:=(hZ [] [])
def zS:PFn:=aG (runF Tryz.prog aha anT Tryz.f114)
def awp:TH:={ loops:=[],ro:=[3] }
def zdw (a0:List vV4) (a1:(Int×Int×Unit)):Option Int :=
(zae a0 a1 ()).bind fun r1 =>
 cond (!r1.2.1) (
 some (-1)) (
 some r1.1)
def tE:TFn:={ ps:=(.cons (.sl tT19) (.cons tT15 .unit)),res:=(.int .i64),fn:=fun v=>zdw v.1 v.2.1 }
def anS:TEnv:=(vZ [(192,abF)])
theorem anR:runY Tryz.prog aha anT anS awp Tryz.f114 tE.ps tE.res=tE.fn:=by kernel_rfl
theorem tF:aB Tryz.prog G0 114 zS:=ai (ak ⟨au,(aj alX ac),ap,ac,an⟩ Tryz.func114 rfl (by kernel_rfl))
theorem zR:TOk zS tE:=aA (E:=aha) (ET:=anS) (EnvT.ofX (ax (ah auL al)) am ar aO aq) anR rfl
def ah0:Env:=(eZ [(171,yh)] [274])
def ao8:Hints:=(hZ [] [])
def ahZ:PFn:=aG (runF Tryz.prog ah0 ao8 Tryz.f237)
def awJ:TH:={ loops:=[],ro:=[2,3] }
def zdc (a0:vV4) (a1:(Int×Int×Unit)):Option Int :=
(zb0 a0.1 a1).bind fun r1 =>
 some r1
def aal:TFn:={ ps:=(.cons tT19 (.cons tT15 .unit)),res:=(.int .i64),fn:=fun v=>zdc v.1 v.2.1 }
def ao7:TEnv:=(vZ [(171,qR)])
theorem ao6:runY Tryz.prog ah0 ao8 ao7 awJ Tryz.f237 aal.ps aal.res=aal.fn:=by kernel_rfl
theorem ahY:aB Tryz.prog G0 237 ahZ:=ai (ak ⟨au,(aj pw ac),ap,ac,an⟩ Tryz.func237 rfl (by kernel_rfl))
theorem ao5:TOk ahZ aal:=aA (E:=ah0) (ET:=ao7) (EnvT.ofX (ax (ah wy al)) am ar aO aq) ao6 rfl
def ak9:Go.Shelf.Ren:=⟨fun | 41=>181 | n=>n,fun | 22=>22 | 23=>78 | 4=>4 | n=>n,fun | n=>n⟩
theorem aeS:Go.Proofs.SlLaysE0.n41 Tryz.prog ak9:={
 mixed:=by kernel_rfl
 f41:=⟨Tryz.f181.name,by decide,Tryz.func181.trans (congrArg some (by kernel_rfl))⟩
 t4:=Tryz.underlying4
 a4:=Tryz.isAgg4
 z4:=Tryz.sizeOf4
 v4:=Tryz.zeroValue4
 t22:=Tryz.underlying22
 a22:=Tryz.isAgg22
 z22:=Tryz.sizeOf22
 v22:=Tryz.zeroValue22 }
def alb:SFn:=mS 6 78
theorem ala:bO Tryz.prog G0 181 alb:=tc aeS rfl rfl (gA (P:=Tryz.prog) (te:=78) (M:=6) (by kernel_rfl) (by kernel_rfl) (by kernel_rfl) (by kernel_rfl) (by kernel_rfl) (by kernel_rfl) (by kernel_rfl) (by kernel_rfl)) ⟨Tryz.f181,Tryz.func181,rfl,by kernel_rfl⟩
def zau (a0:List vV4):Option (List vV4):=fJ a0
def atX:TNew:=oZ 78 tT19
theorem atW:TNewOk alb atX:=ti rfl rfl rfl
def alf:Go.Shelf.Ren:=⟨fun | 22=>238 | 29=>295 | 30=>296 | n=>n,fun | 24=>22 | 9=>78 | 0=>0 | 3=>3 | 4=>4 | n=>n,fun | n=>n⟩
theorem aeU:InsL Tryz.prog alf:={
 mixed:=by kernel_rfl
 f22:=⟨Tryz.f238.name,by decide,Tryz.func238.trans (congrArg some (by kernel_rfl))⟩
 f29:=⟨Tryz.f295.name,by decide,by kernel_rfl,by kernel_rfl,Tryz.func295.trans (congrArg some (by kernel_rfl))⟩
 t0:=Tryz.underlying0
 a0:=Tryz.isAgg0
 z0:=Tryz.sizeOf0
 v0:=Tryz.zeroValue0
 t3:=Tryz.underlying3
 a3:=Tryz.isAgg3
 z3:=Tryz.sizeOf3
 v3:=Tryz.zeroValue3
 t4:=Tryz.underlying4
 a4:=Tryz.isAgg4
 z4:=Tryz.sizeOf4
 v4:=Tryz.zeroValue4
 t24:=Tryz.underlying22
 a24:=Tryz.isAgg22
 z24:=Tryz.sizeOf22
 v24:=Tryz.zeroValue22 }
def alh:SFn:=d9 6 78
theorem alg:bO Tryz.prog G0 238 alh:=j5 aeU rfl rfl rfl (gA (P:=Tryz.prog) (te:=78) (M:=6) (by kernel_rfl) (by kernel_rfl) (by kernel_rfl) (by kernel_rfl) (by kernel_rfl) (by kernel_rfl) (by kernel_rfl) (by kernel_rfl)) true Tryz.isAgg78 ⟨Tryz.f238,Tryz.func238,rfl,by kernel_rfl⟩
def zas (a1:Int) (a2:List vV4) (w0:List vV4):Option (Unit×List vV4×Unit):=(insT w0 a1 a2).map fun l=>((),(l,()))
def at1:TRaw:=insR false 78 tT19
theorem atZ:TRawOk alh at1:=uS rfl rfl rfl rfl (by decide)
def alW:Env:=(eZ [(237,ahZ)] [274])
def auK:Hints:=(hZ [(3,[0,2,4,8,9,10])] [])
def alV:PFn:=aG (runF Tryz.prog alW auK Tryz.f192)
def ax8:TH:={ joins:=[(8,{ keep:=[(4,(.bx 0 0)),(9,(.int .i64))],mem:=[.same] })],loops:=[(3,{ keep:=[(4,(.bx 0 0)),(9,(.int .i64)),(10,(.int .i64))],mem:=[.same] })],ro:=[4] }
def qS (a0:List vV4) (a1:(Int×Int×Unit)) (y3:(Int×Int×Unit)):Option ((Int×Int×Unit)⊕((Int×Unit)⊕(Int×Bool×Unit))) :=
 cond (decide (y3.1<y3.2.1)) (
(shrT .u64 (IntKind.wrap .u64 (IntKind.wrap .i64 (y3.1+y3.2.1))) 1).bind fun t1 =>
(atI a0 (IntKind.wrap .i64 t1)).bind fun x2 =>
(zdc x2 a1).bind fun r3 =>
 cond (decide (r3<0)) (
 some (.inl ((IntKind.wrap .i64 ((IntKind.wrap .i64 t1)+1)),y3.2.1,()))) (
 some (.inl (y3.1,(IntKind.wrap .i64 t1),())))) (
 some (.inr (.inl (y3.1,()))))
def zaf (a0:List vV4) (a1:(Int×Int×Unit)) (a2:Unit):Option (Int×Bool×Unit) :=
(aK (qS a0 a1) (0,(a0.length:Int),()):Option ((Int×Unit)⊕(Int×Bool×Unit))).bind (bd fun v4 =>
 cond (decide (v4.1<(a0.length:Int))) ((atI a0 v4.1).bind fun x5 =>
(zdc x5 a1).bind fun r6 =>
 some (v4.1,(decide (r6=0)),())) (some (v4.1,false,())))
def abE:TFn:={ ps:=(.cons (.sl tT19) (.cons tT15 (.cons (.fn 237) .unit))),res:=(.tup (.cons (.int .i64) (.cons .bool .unit))),fn:=fun v=>zaf v.1 v.2.1 v.2.2.1 }
def auJ:TEnv:=(vZ [(237,aal)])
theorem auI:runY Tryz.prog alW auK auJ ax8 Tryz.f192 abE.ps abE.res=abE.fn:=by kernel_rfl
theorem alU:aB Tryz.prog G0 192 alV:=ai (ak ⟨au,(aj ahY ac),ap,ac,an⟩ Tryz.func192 rfl (by kernel_rfl))
theorem auH:TOk alV abE:=aA (E:=alW) (ET:=auJ) (EnvT.ofX (ax (ah ao5 al)) am ar aO aq) auI rfl
def aic:Env:={ pure:=[(192,alV)],raw:=[(181,alb),(238,alh)],glob:=G0,same:=[274],look:=[],ext:=[] }
def apo:Hints:={ seqs:=[],loops:=[],own:=[19],frz:=[(4,[3])] }
def aib:PFn:=aG (runF Tryz.prog aic apo Tryz.f169)
def awN:TH:=yZ
def zd1 (a0:List vV4) (a1:vV4):Option (List vV4) :=
(zaf a0 a1.1 ()).bind fun r1 =>
 cond r1.2.1 (
 some a0) (
(zau a0).bind fun n2 =>
(zas r1.1 ([a1]:List vV4) n2).bind fun q3 =>
 some q3.2.1)
def aap:TFn:={ ps:=(.cons (.sl tT19) (.cons tT19 .unit)),res:=(.sl tT19),fn:=fun v=>zd1 v.1 v.2.1 }
def apn:TEnv:={ pure:=[(192,abE)],look:=[],glob:=G0T,ty:=[(78,tT19)],raw:=[(238,at1)],fresh:=[(181,atX)] }
theorem apm:runY Tryz.prog aic apo apn awN Tryz.f169 aap.ps aap.res=aap.fn:=by kernel_rfl
theorem aia:aB Tryz.prog G0 169 aib:=ai (ak ⟨au,(aj alU ac),(bf ala (bf alg ap)),ac,an⟩ Tryz.func169 rfl (by kernel_rfl))
theorem apl:TOk aib aap:=aA (E:=aic) (ET:=apn) (EnvT.ofX (ax (ah auH al)) am (lY (bt atZ rfl rfl ar) rfl) aO (mj atW rfl rfl rfl aq)) apm rfl
def ahl:Env:=(eZ [] [274])
def aob:Hints:=(hZ [] [])
def zZ:PFn:=aG (runF Tryz.prog ahl aob Tryz.f173)
def awu:TH:={ loops:=[],ro:=[1] }
def zdr (a0:(Int×Int×Unit)):Option Bool :=
 cond (decide (a0.1≥0)) (cond (decide (a0.1<16)) (cond (decide (a0.2.1≥1)) (some (decide (a0.2.1≤1048576))) (some false)) (some false)) (some false)
def tI:TFn:={ ps:=(.cons tT15 .unit),res:=.bool,fn:=fun v=>zdr v.1 }
def aoa:TEnv:=(vZ [])
theorem an9:runY Tryz.prog ahl aob aoa awu Tryz.f173 tI.ps tI.res=tI.fn:=by kernel_rfl
theorem tJ:aB Tryz.prog G0 173 zZ:=ai (ak ⟨au,ac,ap,ac,an⟩ Tryz.func173 rfl (by kernel_rfl))
theorem zY:TOk zZ tI:=aA (E:=ahl) (ET:=aoa) (EnvT.ofX (ax al) am ar aO aq) an9 rfl
def ah9:Env:=(eZ [(173,zZ)] [274])
def apk:Hints:=(hZ [] [])
def ah8:PFn:=aG (runF Tryz.prog ah9 apk Tryz.f194)
def awM:TH:={ loops:=[],ro:=[3] }
def zd2 (a0:List Int) (a1:(Int×Int×Unit)):Option Bool :=
(zdr a1).bind fun r1 =>
 cond r1 ((inI 16 a1.1).bind fun i2 =>
(a0[i2]?).bind fun x3 =>
 some (decide (a1.2.1≤x3))) (some false)
def aao:TFn:={ ps:=(.cons (.arr 16 (.int .i64)) (.cons tT15 .unit)),res:=.bool,fn:=fun v=>zd2 v.1 v.2.1 }
def apj:TEnv:=(vZ [(173,tI)])
theorem api:runY Tryz.prog ah9 apk apj awM Tryz.f194 aao.ps aao.res=aao.fn:=by kernel_rfl
theorem ah7:aB Tryz.prog G0 194 ah8:=ai (ak ⟨au,(aj tJ ac),ap,ac,an⟩ Tryz.func194 rfl (by kernel_rfl))
theorem aph:TOk ah8 aao:=aA (E:=ah9) (ET:=apj) (EnvT.ofX (ax (ah zY al)) am ar aO aq) api rfl
def al0:Env:=(eZ [(171,yh)] [274])
def auR:Hints:=(hZ [(3,[0,2,4,8,9,10])] [])
def aeZ:PFn:=aG (runF Tryz.prog al0 auR Tryz.f195)
def aya:TH:={ joins:=[(8,{ keep:=[(4,(.bx 0 0)),(9,(.int .i64))],mem:=[.same] })],loops:=[(3,{ keep:=[(4,(.bx 0 0)),(9,(.int .i64)),(10,(.int .i64))],mem:=[.same] })],ro:=[4] }
def wD (a0:List (Int×Int×Unit)) (a1:(Int×Int×Unit)) (y3:(Int×Int×Unit)):Option ((Int×Int×Unit)⊕((Int×Unit)⊕(Int×Bool×Unit))) :=
 cond (decide (y3.1<y3.2.1)) (
(shrT .u64 (IntKind.wrap .u64 (IntKind.wrap .i64 (y3.1+y3.2.1))) 1).bind fun t1 =>
(atI a0 (IntKind.wrap .i64 t1)).bind fun x2 =>
(zb0 x2 a1).bind fun r3 =>
 cond (decide (r3<0)) (
 some (.inl ((IntKind.wrap .i64 ((IntKind.wrap .i64 t1)+1)),y3.2.1,()))) (
 some (.inl (y3.1,(IntKind.wrap .i64 t1),())))) (
 some (.inr (.inl (y3.1,()))))
def zad (a0:List (Int×Int×Unit)) (a1:(Int×Int×Unit)) (a2:Unit):Option (Int×Bool×Unit) :=
(aK (wD a0 a1) (0,(a0.length:Int),()):Option ((Int×Unit)⊕(Int×Bool×Unit))).bind (bd fun v4 =>
 cond (decide (v4.1<(a0.length:Int))) ((atI a0 v4.1).bind fun x5 =>
(zb0 x5 a1).bind fun r6 =>
 some (v4.1,(decide (r6=0)),())) (some (v4.1,false,())))
def yj:TFn:={ ps:=(.cons (.sl tT15) (.cons tT15 (.cons (.fn 171) .unit))),res:=(.tup (.cons (.int .i64) (.cons .bool .unit))),fn:=fun v=>zad v.1 v.2.1 v.2.2.1 }
def auQ:TEnv:=(vZ [(171,qR)])
theorem auP:runY Tryz.prog al0 auR auQ aya Tryz.f195 yj.ps yj.res=yj.fn:=by kernel_rfl
theorem abG:aB Tryz.prog G0 195 aeZ:=ai (ak ⟨au,(aj pw ac),ap,ac,an⟩ Tryz.func195 rfl (by kernel_rfl))
theorem agC:TOk aeZ yj:=aA (E:=al0) (ET:=auQ) (EnvT.ofX (ax (ah wy al)) am ar aO aq) auP rfl
def ahe:Env:=(eZ [(194,ah8),(195,aeZ)] [274])
def an0:Hints:=(hZ [] [])
def zV:PFn:=aG (runF Tryz.prog ahe an0 Tryz.f115)
def awr:TH:={ loops:=[],ro:=[2,3] }
def zdu (a0:vV8) (a1:(Int×Int×Unit)):Option Bool :=
(zd2 a0.1 a1).bind fun r1 =>
 cond r1 (
 some true) (
(zad a0.2.1 a1 ()).bind fun r2 =>
 some r2.2.1)
def tG:TFn:={ ps:=(.cons tT21 (.cons tT15 .unit)),res:=.bool,fn:=fun v=>zdu v.1 v.2.1 }
def anZ:TEnv:=(vZ [(194,aao),(195,yj)])
theorem anY:runY Tryz.prog ahe an0 anZ awr Tryz.f115 tG.ps tG.res=tG.fn:=by kernel_rfl
theorem tH:aB Tryz.prog G0 115 zV:=ai (ak ⟨au,(aj ah7 (aj abG ac)),ap,ac,an⟩ Tryz.func115 rfl (by kernel_rfl))
theorem zU:TOk zV tG:=aA (E:=ahe) (ET:=anZ) (EnvT.ofX (ax (ah aph (ah agC al))) am ar aO aq) anY rfl
def ak6:Go.Shelf.Ren:=⟨fun | 41=>180 | n=>n,fun | 22=>64 | 23=>72 | 4=>4 | n=>n,fun | n=>n⟩
theorem aeR:Go.Proofs.SlLaysE0.n41 Tryz.prog ak6:={
 mixed:=by kernel_rfl
 f41:=⟨Tryz.f180.name,by decide,Tryz.func180.trans (congrArg some (by kernel_rfl))⟩
 t4:=Tryz.underlying4
 a4:=Tryz.isAgg4
 z4:=Tryz.sizeOf4
 v4:=Tryz.zeroValue4
 t22:=Tryz.underlying64
 a22:=Tryz.isAgg64
 z22:=Tryz.sizeOf64
 v22:=Tryz.zeroValue64 }
def ak8:SFn:=mS 2 72
theorem ak7:bO Tryz.prog G0 180 ak8:=tc aeR rfl rfl (gA (P:=Tryz.prog) (te:=72) (M:=2) (by kernel_rfl) (by kernel_rfl) (by kernel_rfl) (by kernel_rfl) (by kernel_rfl) (by kernel_rfl) (by kernel_rfl) (by kernel_rfl)) ⟨Tryz.f180,Tryz.func180,rfl,by kernel_rfl⟩
def zav (a0:List (Int×Int×Unit)):Option (List (Int×Int×Unit)):=fJ a0
def atV:TNew:=oZ 72 tT15
theorem atU:TNewOk ak8 atV:=ti rfl rfl rfl
def alc:Go.Shelf.Ren:=⟨fun | 22=>239 | 29=>297 | 30=>298 | n=>n,fun | 24=>64 | 9=>72 | 0=>0 | 3=>3 | 4=>4 | n=>n,fun | n=>n⟩
theorem aeT:InsL Tryz.prog alc:={
 mixed:=by kernel_rfl
 f22:=⟨Tryz.f239.name,by decide,Tryz.func239.trans (congrArg some (by kernel_rfl))⟩
 f29:=⟨Tryz.f297.name,by decide,by kernel_rfl,by kernel_rfl,Tryz.func297.trans (congrArg some (by kernel_rfl))⟩
 t0:=Tryz.underlying0
 a0:=Tryz.isAgg0
 z0:=Tryz.sizeOf0
 v0:=Tryz.zeroValue0
 t3:=Tryz.underlying3
 a3:=Tryz.isAgg3
 z3:=Tryz.sizeOf3
 v3:=Tryz.zeroValue3
 t4:=Tryz.underlying4
 a4:=Tryz.isAgg4
 z4:=Tryz.sizeOf4
 v4:=Tryz.zeroValue4
 t24:=Tryz.underlying64
 a24:=Tryz.isAgg64
 z24:=Tryz.sizeOf64
 v24:=Tryz.zeroValue64 }
def ale:SFn:=d9 2 72
theorem ald:bO Tryz.prog G0 239 ale:=j5 aeT rfl rfl rfl (gA (P:=Tryz.prog) (te:=72) (M:=2) (by kernel_rfl) (by kernel_rfl) (by kernel_rfl) (by kernel_rfl) (by kernel_rfl) (by kernel_rfl) (by kernel_rfl) (by kernel_rfl)) true Tryz.isAgg72 ⟨Tryz.f239,Tryz.func239,rfl,by kernel_rfl⟩
def zat (a1:Int) (a2:List (Int×Int×Unit)) (w0:List (Int×Int×Unit)):Option (Unit×List (Int×Int×Unit)×Unit):=(insT w0 a1 a2).map fun l=>((),(l,()))
def ax0:TRaw:=insR false 72 tT15
theorem atY:TRawOk ale ax0:=uS rfl rfl rfl rfl (by decide)
def ahE:Env:=(eZ [] [274])
def aoD:Hints:=(hZ [(3,[4,5,10,11,12])] [])
def ahD:PFn:=aG (runF Tryz.prog ahE aoD Tryz.f188)
def awB:TH:={ loops:=[(3,{ keep:=[(4,(.bx 1 0)),(5,(.bx 2 0)),(12,(.int .i64))],mem:=[.same,.box 66 tT26,.box 66 (.agg (.cons (.arr 16 (.int .i64)) (.cons (.own 4) .unit))),.gone,.row true 72 tT15] })],ro:=[2] }
def vJ (a1:List (Int×Int×Unit)) (y3:(Int×vV11×vV11×List (Int×Int×Unit)×Unit)):Option ((Int×vV11×vV11×List (Int×Int×Unit)×Unit)⊕vV8) :=
 cond (decide (y3.1<(a1.length:Int))) (
(atI a1 y3.1).bind fun x1 =>
(inI 16 x1.1).bind fun i2 =>
(y3.2.2.1.1[i2]?).bind fun x3 =>
 cond (decide (x1.2.1≤x3)) (
 some (.inl ((IntKind.wrap .i64 (y3.1+1)),y3.2.1,y3.2.2.1,y3.2.2.2.1,()))) (
(inI 16 x1.1).bind fun i4 =>
(y3.2.2.1.1[i4]?).bind fun x5 =>
 cond (decide (x1.2.1=(IntKind.wrap .i64 (x5+1)))) (
(inI 16 x1.1).bind fun i6 =>
(y3.2.2.1.1[i6]?).bind fun x7 =>
 some (.inl ((IntKind.wrap .i64 (y3.1+1)),y3.2.1,((y3.2.2.1.1.set i6 x1.2.1),y3.2.2.1.2.1,()),y3.2.2.2.1,()))) (
 cond (decide ((y3.2.2.2.1.length:Int)=0)) ((bT (y3.2.2.2.1.length+([x1]:List (Int×Int×Unit)).length)).bind fun u8 =>
 some (.inl ((IntKind.wrap .i64 (y3.1+1)),y3.2.1,(y3.2.2.1.1,(),()),(y3.2.2.2.1++([x1]:List (Int×Int×Unit))),()))) ((inI y3.2.2.2.1.length (IntKind.wrap .i64 ((y3.2.2.2.1.length:Int)-1))).bind fun i9 =>
(y3.2.2.2.1[i9]?).bind fun x10 =>
 cond (!(eqV tT15 x10 x1)) (
(bT (y3.2.2.2.1.length+([x1]:List (Int×Int×Unit)).length)).bind fun u11 =>
 some (.inl ((IntKind.wrap .i64 (y3.1+1)),y3.2.1,(y3.2.2.1.1,(),()),(y3.2.2.2.1++([x1]:List (Int×Int×Unit))),()))) (
 some (.inl ((IntKind.wrap .i64 (y3.1+1)),y3.2.1,y3.2.2.1,y3.2.2.2.1,()))))))) (
 some (.inr (y3.2.2.1.1,y3.2.2.2.1,())))
def zdk (a0:List Int) (a1:List (Int×Int×Unit)):Option vV8 :=
 aK (vJ a1) (0,([0,0,0,0,0,0,0,0,0,0,0,0,0,0,0,0],(),()),(a0,(),()),[],())
def aad:TFn:={ ps:=(.cons (.arr 16 (.int .i64)) (.cons (.sl tT15) .unit)),res:=tT21,fn:=fun v=>zdk v.1 v.2.1 }
def aoC:TEnv:={ pure:=[],look:=[],glob:=G0T,ty:=[(72,tT15)],raw:=[],fresh:=[] }
theorem aoB:runY Tryz.prog ahE aoD aoC awB Tryz.f188 aad.ps aad.res=aad.fn:=by kernel_rfl
theorem ahC:aB Tryz.prog G0 188 ahD:=ai (ak ⟨au,ac,ap,ac,an⟩ Tryz.func188 rfl (by kernel_rfl))
theorem aoA:TOk ahD aad:=aA (E:=ahE) (ET:=aoC) (EnvT.ofX (ax al) am ar aO aq) aoB rfl
def alq:SFn:=jj ale
theorem alp:bO Tryz.prog G0 239 alq:=iH ald
def zap (a1:Int) (a2:List (Int×Int×Unit)) (w0:List (Int×Int×Unit)):Option (List (Int×Int×Unit)×Unit):=(zat a1 a2 w0).map fun q=>(q.2.1,())
def at9:TRaw:={ ps:=(.cons (.own 0) (.cons (.int .i64) (.cons (.sl tT15) .unit))),ins:=[.row false 72 tT15],res:=(.sl tT15),outs:=[.gone],fn:=fun v w=>zap v.2.1 v.2.2.1 w.1 }
theorem at8:TRawOk alq at9:=afV atY
def ahd:Env:={ pure:=[(115,zV),(173,zZ),(188,ahD),(195,aeZ)],raw:=[(180,ak8),(239,alq)],glob:=G0,same:=[274],look:=[],ext:=[] }
def anX:Hints:={ seqs:=[],loops:=[],own:=[24,26,29],frz:=[(4,[2,3])] }
def ahc:PFn:=aG (runF Tryz.prog ahd anX Tryz.f170)
def awq:TH:=yZ
def zdv (a0:vV8) (a1:(Int×Int×Unit)):Option vV8 :=
(zdr a1).bind fun r1 =>
 cond (!r1) (some a0) ((zdu a0 a1).bind fun r2 =>
 cond r2 (
 some a0) (
(zad a0.2.1 a1 ()).bind fun r3 =>
(zav a0.2.1).bind fun n4 =>
(zap r3.1 ([a1]:List (Int×Int×Unit)) n4).bind fun q5 =>
(zdk a0.1 q5.1).bind fun r6 =>
 some r6))
def zT:TFn:={ ps:=(.cons tT21 (.cons tT15 .unit)),res:=tT21,fn:=fun v=>zdv v.1 v.2.1 }
def anW:TEnv:={ pure:=[(115,tG),(173,tI),(188,aad),(195,yj)],look:=[],glob:=G0T,ty:=[(72,tT15)],raw:=[(239,at9)],fresh:=[(180,atV)] }
theorem anV:runY Tryz.prog ahd anX anW awq Tryz.f170 zT.ps zT.res=zT.fn:=by kernel_rfl
theorem ahb:aB Tryz.prog G0 170 ahc:=ai (ak ⟨au,(aj tH (aj tJ (aj ahC (aj abG ac)))),(bf ak7 (bf alp ap)),ac,an⟩ Tryz.func170 rfl (by kernel_rfl))
theorem anU:TOk ahc zT:=aA (E:=ahd) (ET:=anW) (EnvT.ofX (ax (ah zU (ah zY (ah aoA (ah agC al))))) am (lY (bt at8 rfl rfl ar) rfl) aO (mj atU rfl rfl rfl aq)) anV rfl
def aho:Env:=(eZ [(114,zS),(169,aib),(170,ahc)] [274])
def aof:Hints:=(hZ [] [])
def ahn:PFn:=aG (runF Tryz.prog aho aof Tryz.f97)
def awv:TH:={ loops:=[],ro:=[3] }
def zdq (a0:vV1) (a1:vV4):Option vV1 :=
(zdw a0.1 a1.1).bind fun r1 =>
 cond (decide (r1≥0)) (
 some a0) (
(zd1 a0.1 a1).bind fun r2 =>
(zdv a0.2.2.1 a1.1).bind fun r3 =>
 some (r2,a0.2.1,r3,a0.2.2.2.1,a0.2.2.2.2.1,()))
def z6:TFn:={ ps:=(.cons tT13 (.cons tT19 .unit)),res:=tT13,fn:=fun v=>zdq v.1 v.2.1 }
def aoe:TEnv:=(vZ [(114,tE),(169,aap),(170,zT)])
theorem aod:runY Tryz.prog aho aof aoe awv Tryz.f97 z6.ps z6.res=z6.fn:=by kernel_rfl
theorem ahm:aB Tryz.prog G0 97 ahn:=ai (ak ⟨au,(aj tF (aj aia (aj ahb ac))),ap,ac,an⟩ Tryz.func97 rfl (by kernel_rfl))
theorem aoc:TOk ahn z6:=aA (E:=aho) (ET:=aoe) (EnvT.ofX (ax (ah zR (ah apl (ah anU al)))) am ar aO aq) aod rfl
def akb:Env:=(eZ [(171,yh)] [274])
def asq:Hints:=(hZ [] [])
def aeE:PFn:=aG (runF Tryz.prog akb asq Tryz.f242)
def axC:TH:={ loops:=[],ro:=[2,3] }
def zbl (a0:vV3) (a1:vV3):Option Int :=
(zb0 a0.1 a1.1).bind fun r1 =>
 some r1
def ye:TFn:={ ps:=(.cons tT17 (.cons tT17 .unit)),res:=(.int .i64),fn:=fun v=>zbl v.1 v.2.1 }
def aso:TEnv:=(vZ [(171,qR)])
theorem asn:runY Tryz.prog akb asq aso axC Tryz.f242 ye.ps ye.res=ye.fn:=by kernel_rfl
theorem abd:aB Tryz.prog G0 242 aeE:=ai (ak ⟨au,(aj pw ac),ap,ac,an⟩ Tryz.func242 rfl (by kernel_rfl))
theorem agx:TOk aeE ye:=aA (E:=akb) (ET:=aso) (EnvT.ofX (ax (ah wy al)) am ar aO aq) asn rfl
def al3:Env:=(eZ [(242,aeE)] [274])
def auV:Hints:=(hZ [(3,[0,2,4,8,9,10])] [])
def al2:PFn:=aG (runF Tryz.prog al3 auV Tryz.f284)
def ayb:TH:={ joins:=[(8,{ keep:=[(4,(.bx 0 0)),(9,(.int .i64))],mem:=[.same] })],loops:=[(3,{ keep:=[(4,(.bx 0 0)),(9,(.int .i64)),(10,(.int .i64))],mem:=[.same] })],ro:=[4] }
def nS (a0:List vV3) (a1:vV3) (y3:(Int×Int×Unit)):Option ((Int×Int×Unit)⊕((Int×Unit)⊕(Int×Bool×Unit))) :=
 cond (decide (y3.1<y3.2.1)) (
(shrT .u64 (IntKind.wrap .u64 (IntKind.wrap .i64 (y3.1+y3.2.1))) 1).bind fun t1 =>
(atI a0 (IntKind.wrap .i64 t1)).bind fun x2 =>
(zbl x2 a1).bind fun r3 =>
 cond (decide (r3<0)) (
 some (.inl ((IntKind.wrap .i64 ((IntKind.wrap .i64 t1)+1)),y3.2.1,()))) (
 some (.inl (y3.1,(IntKind.wrap .i64 t1),())))) (
 some (.inr (.inl (y3.1,()))))
def zac (a0:List vV3) (a1:vV3) (a2:Unit):Option (Int×Bool×Unit) :=
(aK (nS a0 a1) (0,(a0.length:Int),()):Option ((Int×Unit)⊕(Int×Bool×Unit))).bind (bd fun v4 =>
 cond (decide (v4.1<(a0.length:Int))) ((atI a0 v4.1).bind fun x5 =>
(zbl x5 a1).bind fun r6 =>
 some (v4.1,(decide (r6=0)),())) (some (v4.1,false,())))
def abH:TFn:={ ps:=(.cons (.sl tT17) (.cons tT17 (.cons (.fn 242) .unit))),res:=(.tup (.cons (.int .i64) (.cons .bool .unit))),fn:=fun v=>zac v.1 v.2.1 v.2.2.1 }
def auU:TEnv:=(vZ [(242,ye)])
theorem auT:runY Tryz.prog al3 auV auU ayb Tryz.f284 abH.ps abH.res=abH.fn:=by kernel_rfl
theorem al1:aB Tryz.prog G0 284 al2:=ai (ak ⟨au,(aj abd ac),ap,ac,an⟩ Tryz.func284 rfl (by kernel_rfl))
theorem auS:TOk al2 abH:=aA (E:=al3) (ET:=auU) (EnvT.ofX (ax (ah agx al)) am ar aO aq) auT rfl
def ahk:Env:=(eZ [(284,al2)] [274])
def an8:Hints:=(hZ [] [])
def ahj:PFn:=aG (runF Tryz.prog ahk an8 Tryz.f217)
def awt:TH:={ loops:=[],ro:=[3] }
def zds (a0:List vV3) (a1:(Int×Int×Unit)):Option (Int×Bool×Unit) :=
(zac a0 (a1,0,()) ()).bind fun r1 =>
 some (r1.1,r1.2.1,())
def zX:TFn:={ ps:=(.cons (.sl tT17) (.cons tT15 .unit)),res:=(.tup (.cons (.int .i64) (.cons .bool .unit))),fn:=fun v=>zds v.1 v.2.1 }
def an7:TEnv:=(vZ [(284,abH)])
theorem an6:runY Tryz.prog ahk an8 an7 awt Tryz.f217 zX.ps zX.res=zX.fn:=by kernel_rfl
theorem ahi:aB Tryz.prog G0 217 ahj:=ai (ak ⟨au,(aj al1 ac),ap,ac,an⟩ Tryz.func217 rfl (by kernel_rfl))
theorem an5:TOk ahj zX:=aA (E:=ahk) (ET:=an7) (EnvT.ofX (ax (ah auS al)) am ar aO aq) an6 rfl
def ahB:Env:=(eZ [(217,ahj)] [274])
def aoz:Hints:=(hZ [] [])
def ael:PFn:=aG (runF Tryz.prog ahB aoz Tryz.f145)
def awA:TH:={ loops:=[],ro:=[3] }
def zdl (a0:List vV3) (a1:(Int×Int×Unit)):Option Int :=
(zds a0 a1).bind fun r1 =>
 cond r1.2.1 (
(atI a0 r1.1).bind fun x2 =>
 some x2.2.1) (
 some 0)
def xV:TFn:={ ps:=(.cons (.sl tT17) (.cons tT15 .unit)),res:=(.int .i64),fn:=fun v=>zdl v.1 v.2.1 }
def aoy:TEnv:=(vZ [(217,zX)])
theorem aox:runY Tryz.prog ahB aoz aoy awA Tryz.f145 xV.ps xV.res=xV.fn:=by kernel_rfl
theorem aac:aB Tryz.prog G0 145 ael:=ai (ak ⟨au,(aj ahi ac),ap,ac,an⟩ Tryz.func145 rfl (by kernel_rfl))
theorem agl:TOk ael xV:=aA (E:=ahB) (ET:=aoy) (EnvT.ofX (ax (ah an5 al)) am ar aO aq) aox rfl
def ajs:Env:=(eZ [(145,ael)] [274])
def ari:Hints:=(hZ [] [])
def aaR:PFn:=aG (runF Tryz.prog ajs ari Tryz.f75)
def axk:TH:={ loops:=[],ro:=[3] }
def zc5 (a0:List vV3) (a1:(Int×Int×Unit)):Option Bool :=
(zdl a0 a1).bind fun r1 =>
(remT r1 2).bind fun t2 =>
 some (decide (t2=0))
def tL:TFn:={ ps:=(.cons (.sl tT17) (.cons tT15 .unit)),res:=.bool,fn:=fun v=>zc5 v.1 v.2.1 }
def arh:TEnv:=(vZ [(145,xV)])
theorem arf:runY Tryz.prog ajs ari arh axk Tryz.f75 tL.ps tL.res=tL.fn:=by kernel_rfl
theorem tM:aB Tryz.prog G0 75 aaR:=ai (ak ⟨au,(aj aac ac),ap,ac,an⟩ Tryz.func75 rfl (by kernel_rfl))
theorem aaQ:TOk aaR tL:=aA (E:=ajs) (ET:=arh) (EnvT.ofX (ax (ah agl al)) am ar aO aq) arf rfl
def aja:Env:=(eZ [(145,ael),(173,zZ)] [274])
def aqT:Hints:=(hZ [] [])
def aev:PFn:=aG (runF Tryz.prog aja aqT Tryz.f102)
def axc:TH:={ loops:=[],ro:=[3] }
def zcc (a0:List vV3) (a1:(Int×Int×Unit)):Option (vV3×Int×Unit) :=
(zdl a0 a1).bind fun r1 =>
(zdr a1).bind fun r2 =>
 cond (!r2) (
 some (((0,0,()),0,()),2,())) (
 cond (decide (r1≥64)) (
 some (((0,0,()),0,()),14,())) (
 some ((a1,(IntKind.wrap .i64 (r1+1)),()),0,())))
def ya:TFn:={ ps:=(.cons (.sl tT17) (.cons tT15 .unit)),res:=(.tup (.cons tT17 tT20)),fn:=fun v=>zcc v.1 v.2.1 }
def aqS:TEnv:=(vZ [(145,xV),(173,tI)])
theorem aqR:runY Tryz.prog aja aqT aqS axc Tryz.f102 ya.ps ya.res=ya.fn:=by kernel_rfl
theorem aaK:aB Tryz.prog G0 102 aev:=ai (ak ⟨au,(aj aac (aj tJ ac)),ap,ac,an⟩ Tryz.func102 rfl (by kernel_rfl))
theorem agq:TOk aev ya:=aA (E:=aja) (ET:=aqS) (EnvT.ofX (ax (ah agl (ah zY al))) am ar aO aq) aqR rfl
def ah6:Env:=(eZ [(102,aev),(115,zV)] [274])
def apg:Hints:=(hZ [] [])
def ah5:PFn:=aG (runF Tryz.prog ah6 apg Tryz.f100)
def awL:TH:={ loops:=[],ro:=[2,3] }
def zda (a0:vV1) (a1:(Int×Int×Unit)):Option Int :=
(zdu a0.2.2.2.1 a1).bind fun r1 =>
 cond r1 (
 some 13) (
(zcc a0.2.1 a1).bind fun r2 =>
 some r2.2.1)
def aan:TFn:={ ps:=(.cons tT13 (.cons tT15 .unit)),res:=(.int .i64),fn:=fun v=>zda v.1 v.2.1 }
def apf:TEnv:=(vZ [(102,ya),(115,tG)])
theorem ape:runY Tryz.prog ah6 apg apf awL Tryz.f100 aan.ps aan.res=aan.fn:=by kernel_rfl
theorem ah4:aB Tryz.prog G0 100 ah5:=ai (ak ⟨au,(aj aaK (aj tH ac)),ap,ac,an⟩ Tryz.func100 rfl (by kernel_rfl))
theorem apd:TOk ah5 aan:=aA (E:=ah6) (ET:=apf) (EnvT.ofX (ax (ah agq (ah zU al))) am ar aO aq) ape rfl
def ajO:Env:=(eZ [(75,aaR),(100,ah5),(114,zS),(115,zV)] [274])
def arO:Hints:=(hZ [] [])
def ajN:PFn:=aG (runF Tryz.prog ajO arO Tryz.f46)
def axs:TH:={ loops:=[],ro:=[3,4] }
def zbx (a0:vV1) (a1:(Int×Int×Unit)) (a2:Bool):Option Int :=
(zdw a0.1 a1).bind fun r1 =>
 cond (decide (r1<0)) (
 some 12) (
(zdu a0.2.2.2.1 a1).bind fun r2 =>
 cond r2 (
 some 13) (
(zc5 a0.2.1 a1).bind fun r3 =>
 cond (r3==a2) (
 some 11) (
(zda a0 a1).bind fun r4 =>
 some r4)))
def aaZ:TFn:={ ps:=(.cons tT13 (.cons tT15 (.cons .bool .unit))),res:=(.int .i64),fn:=fun v=>zbx v.1 v.2.1 v.2.2.1 }
def arN:TEnv:=(vZ [(75,tL),(100,aan),(114,tE),(115,tG)])
theorem arM:runY Tryz.prog ajO arO arN axs Tryz.f46 aaZ.ps aaZ.res=aaZ.fn:=by kernel_rfl
theorem ajM:aB Tryz.prog G0 46 ajN:=ai (ak ⟨au,(aj tM (aj ah4 (aj tF (aj tH ac)))),ap,ac,an⟩ Tryz.func46 rfl (by kernel_rfl))
theorem arL:TOk ajN aaZ:=aA (E:=ajO) (ET:=arN) (EnvT.ofX (ax (ah aaQ (ah apd (ah zR (ah zU al))))) am ar aO aq) arM rfl
def ajl:Env:=(eZ [(242,aeE)] [274])
def aq5:Hints:=(hZ [(2,[0,1,5])] [34,38,42,57,68])
def ajk:PFn:=aG (runF Tryz.prog ajl aq5 Tryz.f179)
def axh:TH:={ joins:=[(3,{ keep:=[(5,(.own 0))],mem:=[.row true 82 tT17] }),(10,{ keep:=[(5,(.own 0)),(6,(.int .i64))],mem:=[.row true 82 tT17] })],loops:=[(2,{ keep:=[(0,(.sl tT17)),(1,(.sl tT17)),(5,(.own 0))],mem:=[.row true 82 tT17] })],ro:=[] }
def ge (y2:(List vV3×List vV3×List vV3×Unit)):Option ((List vV3×List vV3×List vV3×Unit)⊕List vV3) :=
(cond (decide ((y2.1.length:Int)>0)) (some (.inl (y2.2.2.1,()))) (cond (decide ((y2.2.1.length:Int)>0)) (
 some (.inl (y2.2.2.1,()))) (
 some (.inr (.inr y2.2.2.1)))):Option ((List vV3×Unit)⊕((List vV3×List vV3×List vV3×Unit)⊕List vV3))).bind (bd fun v1 =>
(cond (decide ((y2.1.length:Int)=0)) (
 some (.inl (1,v1.1,()))) (
 cond (decide ((y2.2.1.length:Int)>0)) (
(atI y2.1 0).bind fun x2 =>
(atI y2.2.1 0).bind fun x3 =>
(zbl x2 x3).bind fun r4 =>
 some (.inl (r4,v1.1,()))) (
 some (.inl ((-1),v1.1,())))):Option ((Int×List vV3×Unit)⊕((List vV3×List vV3×List vV3×Unit)⊕List vV3))).bind (bd fun v5 =>
 cond (decide (v5.1<0)) (
(atI y2.1 0).bind fun x6 =>
(bT (v5.2.1.length+([x6]:List vV3).length)).bind fun u7 =>
(subI y2.1 1 (y2.1.length:Int)).bind fun s8 =>
 some (.inl (s8,y2.2.1,(v5.2.1++([x6]:List vV3)),()))) (
 cond (decide (v5.1>0)) (
(atI y2.2.1 0).bind fun x9 =>
(bT (v5.2.1.length+([x9]:List vV3).length)).bind fun u10 =>
(subI y2.2.1 1 (y2.2.1.length:Int)).bind fun s11 =>
 some (.inl (y2.1,s11,(v5.2.1++([x9]:List vV3)),()))) (
(atI y2.1 0).bind fun x12 =>
(atI y2.1 0).bind fun x13 =>
(atI y2.2.1 0).bind fun x14 =>
(bT (v5.2.1.length+([(x12.1,(max x13.2.1 x14.2.1),())]:List vV3).length)).bind fun u15 =>
(subI y2.1 1 (y2.1.length:Int)).bind fun s16 =>
(subI y2.2.1 1 (y2.2.1.length:Int)).bind fun s17 =>
 some (.inl (s16,s17,(v5.2.1++([(x12.1,(max x13.2.1 x14.2.1),())]:List vV3)),()))))))
def zc8 (a0:List vV3) (a1:List vV3):Option (List vV3) :=
 aK (ge) (a0,a1,[],())
def aaN:TFn:={ ps:=(.cons (.sl tT17) (.cons (.sl tT17) .unit)),res:=(.sl tT17),fn:=fun v=>zc8 v.1 v.2.1 }
def aq4:TEnv:={ pure:=[(242,ye)],look:=[],glob:=G0T,ty:=[(82,tT17)],raw:=[],fresh:=[] }
theorem aq3:runY Tryz.prog ajl aq5 aq4 axh Tryz.f179 aaN.ps aaN.res=aaN.fn:=by kernel_rfl
theorem ajj:aB Tryz.prog G0 179 ajk:=ai (ak ⟨au,(aj abd ac),ap,ac,an⟩ Tryz.func179 rfl (by kernel_rfl))
theorem aq2:TOk ajk aaN:=aA (E:=ajl) (ET:=aq4) (EnvT.ofX (ax (ah agx al)) am ar aO aq) aq3 rfl
def ai9:Env:=(eZ [(179,ajk)] [274])
def aqQ:Hints:=(hZ [] [])
def ai8:PFn:=aG (runF Tryz.prog ai9 aqQ Tryz.f104)
def axb:TH:=yZ
def zcd (a0:vV1) (a1:List vV3):Option vV1 :=
(zc8 a0.2.1 a1).bind fun r1 =>
 some (a0.1,r1,a0.2.2.1,a0.2.2.2.1,a0.2.2.2.2.1,())
def aaJ:TFn:={ ps:=(.cons tT13 (.cons (.sl tT17) .unit)),res:=tT13,fn:=fun v=>zcd v.1 v.2.1 }
def aqP:TEnv:=(vZ [(179,aaN)])
theorem aqO:runY Tryz.prog ai9 aqQ aqP axb Tryz.f104 aaJ.ps aaJ.res=aaJ.fn:=by kernel_rfl
theorem ai7:aB Tryz.prog G0 104 ai8:=ai (ak ⟨au,(aj ajj ac),ap,ac,an⟩ Tryz.func104 rfl (by kernel_rfl))
theorem aqN:TOk ai8 aaJ:=aA (E:=ai9) (ET:=aqP) (EnvT.ofX (ax (ah aq2 al)) am ar aO aq) aqO rfl
def aj9:Env:=(eZ [(102,aev),(104,ai8)] [274])
def asj:Hints:=(hZ [] [])
def aj8:PFn:=aG (runF Tryz.prog aj9 asj Tryz.f130)
def axA:TH:={ loops:=[],ro:=[2,3] }
def zbn (a0:vV1) (a1:(Int×Int×Unit)):Option (vV1×Int×Unit) :=
(zcc a0.2.1 a1).bind fun r1 =>
 cond (!decide (r1.2.1=0)) (
 some (([],[],([0,0,0,0,0,0,0,0,0,0,0,0,0,0,0,0],[],()),([0,0,0,0,0,0,0,0,0,0,0,0,0,0,0,0],[],()),[[],[],[],[],[],[],[],[]],()),r1.2.1,())) (
(zcd a0 ([r1.1]:List vV3)).bind fun r2 =>
 some (r2,0,()))
def abb:TFn:={ ps:=(.cons tT13 (.cons tT15 .unit)),res:=(.tup (.cons tT13 tT20)),fn:=fun v=>zbn v.1 v.2.1 }
def asi:TEnv:={ pure:=[(102,ya),(104,aaJ)],look:=[],glob:=G0T,ty:=[(82,tT17)],raw:=[],fresh:=[] }
theorem ash:runY Tryz.prog aj9 asj asi axA Tryz.f130 abb.ps abb.res=abb.fn:=by kernel_rfl
theorem aj7:aB Tryz.prog G0 130 aj8:=ai (ak ⟨au,(aj aaK (aj ai7 ac)),ap,ac,an⟩ Tryz.func130 rfl (by kernel_rfl))
theorem asg:TOk aj8 abb:=aA (E:=aj9) (ET:=asi) (EnvT.ofX (ax (ah agq (ah aqN al))) am ar aO aq) ash rfl
def aj2:Env:=(eZ [(75,aaR)] [274])
def ar7:Hints:=(hZ [(3,[1,5,13,14,15]),(7,[1,5,13,14,15,25,26,27]),(10,[1,5,13,14,15,25,26,27,32,33,34])] [])
def aj1:SFn:=runF Tryz.prog aj2 ar7 Tryz.f74
def axx:TH:={ loops:=[(3,{ keep:=[(5,(.mp 0)),(15,(.int .i64))],mem:=[.map tT17 .bool] }),(7,{ keep:=[(5,(.mp 0)),(27,(.int .i64))],mem:=[.map tT17 .bool,.gone] }),(10,{ keep:=[(5,(.mp 0)),(34,(.int .i64))],mem:=[.map tT17 .bool,.gone,.gone] })],ro:=[] }
def pm (y7:vV10) (x3:vV0) (y10:vV10):Option (vV10⊕(vV10⊕(vV10⊕(List (vV3×Bool))))) :=
 cond (decide (y10.1<(x3.2.2.2.2.1.length:Int))) (
(atI x3.2.2.2.2.1 y10.1).bind fun x4 =>
 some (.inl ((IntKind.wrap .i64 (y10.1+1)),(putK tT17 x4 true y10.2.1),()))) (
 some (.inr (.inl ((IntKind.wrap .i64 (y7.1+1)),y10.2.1,()))))
def wi (y3:vV10) (x1:vV4) (y7:vV10):Option (vV10⊕(vV10⊕(List (vV3×Bool)))) :=
 cond (decide (y7.1<(x1.2.2.2.2.1.length:Int))) (
(atI x1.2.2.2.2.1 y7.1).bind fun x3 =>
 aK (pm y7 x3) (0,y7.2.1,())) (
 some (.inr (.inl ((IntKind.wrap .i64 (y3.1+1)),y7.2.1,()))))
def wj (a0:List vV4) (a1:List vV3) (y3:vV10):Option (vV10⊕(List (vV3×Bool))) :=
 cond (decide (y3.1<(a0.length:Int))) (
(atI a0 y3.1).bind fun x1 =>
(zc5 a1 x1.1).bind fun r2 =>
 cond (!r2) (
 some (.inl ((IntKind.wrap .i64 (y3.1+1)),y3.2.1,()))) (
 aK (wi y3 x1) (0,y3.2.1,()))) (
 some (.inr y3.2.1))
def zbr (a0:List vV4) (a1:List vV3):Option (List (vV3×Bool)) :=
 aK (wj a0 a1) (0,[],())
def aez:TNew:={ ps:=(.cons (.sl tT19) (.cons (.sl tT17) .unit)),e:=143,t:=(.sl (.cons tT17 .bool)),fn:=fun v=>zbr v.1 v.2.1,mp:=true }
def ar6:TEnv:={ pure:=[(75,tL)],look:=[],glob:=G0T,ty:=[(4,.bool),(146,tT17)],raw:=[],fresh:=[] }
theorem ar5:avU Tryz.prog aj2 ar7 ar6 axx Tryz.f74 aez.ps tT17 .bool=aez.fn:=by kernel_rfl
theorem aj0:bO Tryz.prog G0 74 aj1:=ak ⟨au,(aj tM ac),ap,ac,an⟩ Tryz.func74 rfl (by kernel_rfl)
theorem ar4:TNewOk aj1 aez:=afC (E:=aj2) (ET:=ar6) (EnvT.ofX (ax (ah aaQ al)) am ar aO aq) ar5
def ahh:Env:={ pure:=[(75,aaR)],raw:=[(74,aj1)],glob:=G0,same:=[274],look:=[],ext:=[] }
def an4:Hints:=(hZ [(4,[1,5,6,15,16,17]),(8,[1,5,6,8,15,16,17,27,28,29])] [])
def ahg:PFn:=aG (runF Tryz.prog ahh an4 Tryz.f19)
def aws:TH:={ loops:=[(4,{ keep:=[(5,(.mp 0)),(6,(.own 4)),(17,(.int .i64))],mem:=[.map tT17 .bool,.gone,.gone,.gone,.row true 148 tT22] }),(8,{ keep:=[(5,(.mp 0)),(6,(.own 4)),(8,(.bx 5 0)),(29,(.int .i64))],mem:=[.map tT17 .bool,.gone,.gone,.gone,.row true 148 tT22,.box 78 tT19] })],ro:=[] }
def vG (y4:(Int×List (vV3×Bool)×List vV7×Unit)) (x2:vV4) (y8:(Int×List (vV3×Bool)×List vV7×vV4×Unit)):Option ((Int×List (vV3×Bool)×List vV7×vV4×Unit)⊕((Int×List (vV3×Bool)×List vV7×Unit)⊕List vV7)) :=
 cond (decide (y8.1<(x2.2.2.2.2.1.length:Int))) (
(atI x2.2.2.2.2.1 y8.1).bind fun x4 =>
 cond (decide (x4.1=1)) (cond (!((getK tT17 false (y8.2.2.2.1.1,y8.1,()) y8.2.1).1)) (
(bT (y8.2.2.1.length+([((y8.2.2.2.1.1,y8.1,()),x4,y8.2.2.2.1.2.2.1,())]:List vV7).length)).bind fun u5 =>
 some (.inl ((IntKind.wrap .i64 (y8.1+1)),y8.2.1,(y8.2.2.1++([((y8.2.2.2.1.1,y8.1,()),x4,y8.2.2.2.1.2.2.1,())]:List vV7)),y8.2.2.2.1,()))) (
 some (.inl ((IntKind.wrap .i64 (y8.1+1)),y8.2.1,y8.2.2.1,y8.2.2.2.1,())))) (cond (decide (x4.1=2)) (cond (!((getK tT17 false (y8.2.2.2.1.1,y8.1,()) y8.2.1).1)) (
(bT (y8.2.2.1.length+([((y8.2.2.2.1.1,y8.1,()),x4,y8.2.2.2.1.2.2.1,())]:List vV7).length)).bind fun u6 =>
 some (.inl ((IntKind.wrap .i64 (y8.1+1)),y8.2.1,(y8.2.2.1++([((y8.2.2.2.1.1,y8.1,()),x4,y8.2.2.2.1.2.2.1,())]:List vV7)),y8.2.2.2.1,()))) (
 some (.inl ((IntKind.wrap .i64 (y8.1+1)),y8.2.1,y8.2.2.1,y8.2.2.2.1,())))) (cond (decide (x4.1=3)) (cond (!((getK tT17 false (y8.2.2.2.1.1,y8.1,()) y8.2.1).1)) (
(bT (y8.2.2.1.length+([((y8.2.2.2.1.1,y8.1,()),x4,y8.2.2.2.1.2.2.1,())]:List vV7).length)).bind fun u7 =>
 some (.inl ((IntKind.wrap .i64 (y8.1+1)),y8.2.1,(y8.2.2.1++([((y8.2.2.2.1.1,y8.1,()),x4,y8.2.2.2.1.2.2.1,())]:List vV7)),y8.2.2.2.1,()))) (
 some (.inl ((IntKind.wrap .i64 (y8.1+1)),y8.2.1,y8.2.2.1,y8.2.2.2.1,())))) (some (.inl ((IntKind.wrap .i64 (y8.1+1)),y8.2.1,y8.2.2.1,y8.2.2.2.1,())))))) (
 some (.inr (.inl ((IntKind.wrap .i64 (y4.1+1)),y8.2.1,y8.2.2.1,()))))
def vH (a0:List vV4) (a1:List vV3) (y4:(Int×List (vV3×Bool)×List vV7×Unit)):Option ((Int×List (vV3×Bool)×List vV7×Unit)⊕List vV7) :=
 cond (decide (y4.1<(a0.length:Int))) (
(atI a0 y4.1).bind fun x2 =>
(zc5 a1 x2.1).bind fun r3 =>
 cond (!r3) (
 some (.inl ((IntKind.wrap .i64 (y4.1+1)),y4.2.1,y4.2.2.1,()))) (
 aK (vG y4 x2) (0,y4.2.1,y4.2.2.1,x2,()))) (
 some (.inr y4.2.2.1))
def zdt (a0:List vV4) (a1:List vV3):Option (List vV7) :=
(zbr a0 a1).bind fun n1 =>
 aK (vH a0 a1) (0,n1,[],())
def zW:TFn:={ ps:=(.cons (.sl tT19) (.cons (.sl tT17) .unit)),res:=(.sl tT22),fn:=fun v=>zdt v.1 v.2.1 }
def an3:TEnv:={ pure:=[(75,tL)],look:=[],glob:=G0T,ty:=[(148,tT22)],raw:=[],fresh:=[(74,aez)] }
theorem an2:runY Tryz.prog ahh an4 an3 aws Tryz.f19 zW.ps zW.res=zW.fn:=by kernel_rfl
theorem ahf:aB Tryz.prog G0 19 ahg:=ai (ak ⟨au,(aj tM ac),(bf aj0 ap),ac,an⟩ Tryz.func19 rfl (by kernel_rfl))
theorem an1:TOk ahg zW:=aA (E:=ahh) (ET:=an3) (EnvT.ofX (ax (ah aaQ al)) am (lY ar rfl) aO (mj ar4 rfl rfl rfl aq)) an2 rfl
def aiV:Env:=(eZ [(19,ahg)] [274])
def aqw:Hints:=(hZ [] [])
def aes:PFn:=aG (runF Tryz.prog aiV aqw Tryz.f50)
def aw6:TH:={ loops:=[],ro:=[1] }
def zci (a0:vV1):Option (List vV7) :=
(zdt a0.1 a0.2.1).bind fun r1 =>
 some r1
def xZ:TFn:={ ps:=(.cons tT13 .unit),res:=(.sl tT22),fn:=fun v=>zci v.1 }
def aqv:TEnv:=(vZ [(19,zW)])
theorem aqu:runY Tryz.prog aiV aqw aqv aw6 Tryz.f50 xZ.ps xZ.res=xZ.fn:=by kernel_rfl
theorem aaF:aB Tryz.prog G0 50 aes:=ai (ak ⟨au,(aj ahf ac),ap,ac,an⟩ Tryz.func50 rfl (by kernel_rfl))
theorem agp:TOk aes xZ:=aA (E:=aiV) (ET:=aqv) (EnvT.ofX (ax (ah an1 al)) am ar aO aq) aqu rfl
def ak3:Go.Shelf.Ren:=⟨fun | 41=>72 | n=>n,fun | 22=>24 | 23=>9 | 4=>4 | n=>n,fun | n=>n⟩
theorem aeN:Go.Proofs.SlLaysE0.n41 Tryz.prog ak3:={
 mixed:=by kernel_rfl
 f41:=⟨Tryz.f72.name,by decide,Tryz.func72.trans (congrArg some (by kernel_rfl))⟩
 t4:=Tryz.underlying4
 a4:=Tryz.isAgg4
 z4:=Tryz.sizeOf4
 v4:=Tryz.zeroValue4
 t22:=Tryz.underlying24
 a22:=Tryz.isAgg24
 z22:=Tryz.sizeOf24
 v22:=Tryz.zeroValue24 }
def abx:PFn:=(mT 1)
theorem tT:aB Tryz.prog G0 72 abx:=clone_lays aeN 1 ⟨Tryz.f72,Tryz.func72,rfl,by kernel_rfl⟩ (by kernel_rfl) (by kernel_rfl) (by kernel_rfl) (by kernel_rfl) (by kernel_rfl) (by decide) (fun w=>Tryz.sizeOf9 w)
def zax (a0:List (List UInt8)):Option (List (List UInt8)):=fJ a0
def aeO:TFn:=gZ .str
theorem abw:TOk abx aeO:=tg rfl rfl rfl
def ag5:Env:=(eZ [] [274])
def anJ:Hints:=(hZ [] [])
def aek:PFn:=aG (runF Tryz.prog ag5 anJ Tryz.f124)
def awm:TH:={ joins:=[(6,{ keep:=[(6,.bool)],mem:=[] })],loops:=[],ro:=[] }
def zdz (a0:Int):Option Int :=
 cond (decide (a0=1)) (
 some 1) (
(cond (decide (a0=2)) (
 some (.inl ((decide (a0=2)),()))) (
 some (.inl ((decide (a0=4)),()))):Option ((Bool×Unit)⊕Int)).bind (bd fun v1 =>
 cond v1.1 (
 some 2) (
 cond (decide (a0=3)) (
 some 3) (
 some 0))))
def xU:TFn:={ ps:=tT20,res:=(.int .i64),fn:=fun v=>zdz v.1 }
def anI:TEnv:=(vZ [])
theorem anH:runY Tryz.prog ag5 anJ anI awm Tryz.f124 xU.ps xU.res=xU.fn:=by kernel_rfl
theorem zN:aB Tryz.prog G0 124 aek:=ai (ak ⟨au,ac,ap,ac,an⟩ Tryz.func124 rfl (by kernel_rfl))
theorem agk:TOk aek xU:=aA (E:=ag5) (ET:=anI) (EnvT.ofX (ax al) am ar aO aq) anH rfl
def akv:Env:=(eZ [] [274])
def asY:Hints:=(hZ [] [])
def aeK:PFn:=aG (runF Tryz.prog akv asY Tryz.f330)
def axL:TH:=yZ
def zbb (a0:List UInt8):Option Bool :=
 some (!decide (a0=a0))
def abk:TFn:={ ps:=(.cons .str .unit),res:=.bool,fn:=fun v=>zbb v.1 }
def asX:TEnv:=(vZ [])
theorem asW:runY Tryz.prog akv asY asX axL Tryz.f330 abk.ps abk.res=abk.fn:=by kernel_rfl
theorem aku:aB Tryz.prog G0 330 aeK:=ai (ak ⟨au,ac,ap,ac,an⟩ Tryz.func330 rfl (by kernel_rfl))
theorem asV:TOk aeK abk:=aA (E:=akv) (ET:=asX) (EnvT.ofX (ax al) am ar aO aq) asW rfl
def amc:Env:=(eZ [(330,aeK)] [274])
def avb:Hints:=(hZ [] [])
def ae1:PFn:=aG (runF Tryz.prog amc avb Tryz.f287)
def ayf:TH:=yZ
def za8 (a0:List UInt8) (a1:List UInt8):Option Int :=
(zbb a0).bind fun r1 =>
(zbb a1).bind fun r2 =>
 cond r1 (
 cond r2 (
 some 0) (
 some (-1))) (
 cond r2 (
 some 1) (
 cond (Op.bytesLess a0 a1) (
 some (-1)) (
 cond (!(Op.bytesLess a0 a1||decide (a0=a1))) (
 some 1) (
 some 0))))
def abK:TFn:={ ps:=(.cons .str (.cons .str .unit)),res:=(.int .i64),fn:=fun v=>za8 v.1 v.2.1 }
def ava:TEnv:=(vZ [(330,abk)])
theorem au9:runY Tryz.prog amc avb ava ayf Tryz.f287 abK.ps abK.res=abK.fn:=by kernel_rfl
theorem amb:aB Tryz.prog G0 287 ae1:=ai (ak ⟨au,(aj aku ac),ap,ac,an⟩ Tryz.func287 rfl (by kernel_rfl))
theorem au8:TOk ae1 abK:=aA (E:=amc) (ET:=ava) (EnvT.ofX (ax (ah asV al)) am ar aO aq) au9 rfl
def ak5:Env:=(eZ [(287,ae1)] [274])
def atT:Hints:=(hZ [(2,[0,1,9,10,11])] [])
def aeQ:PFn:=aG (runF Tryz.prog ak5 atT Tryz.f225)
def axZ:TH:={ joins:=[(11,{ keep:=[],mem:=[] })],loops:=[(2,{ keep:=[(11,(.int .i64))],mem:=[] })],ro:=[] }
def iP (a0:List (List UInt8)) (a1:List (List UInt8)) (y2:(Int×Unit)):Option ((Int×Unit)⊕(Unit⊕Int)) :=
 cond (decide (y2.1<(a0.length:Int))) (
(atI a0 y2.1).bind fun x1 =>
 cond (decide (y2.1≥(a1.length:Int))) (
 some (.inr (.inr 1))) (
(atI a1 y2.1).bind fun x2 =>
(za8 x1 x2).bind fun r3 =>
 cond (!decide (r3=0)) (
 some (.inr (.inr r3))) (
 some (.inl ((IntKind.wrap .i64 (y2.1+1)),()))))) (
 some (.inr (.inl ())))
def zaw (a0:List (List UInt8)) (a1:List (List UInt8)):Option Int :=
(aK (iP a0 a1) (0,()):Option (Unit⊕Int)).bind (bd fun v4 =>
 cond (decide ((a0.length:Int)<(a1.length:Int))) (
 some (-1)) (
 some 0))
def aby:TFn:={ ps:=(.cons (.sl .str) (.cons (.sl .str) .unit)),res:=(.int .i64),fn:=fun v=>zaw v.1 v.2.1 }
def atS:TEnv:=(vZ [(287,abK)])
theorem atR:runY Tryz.prog ak5 atT atS axZ Tryz.f225 aby.ps aby.res=aby.fn:=by kernel_rfl
theorem ak4:aB Tryz.prog G0 225 aeQ:=ai (ak ⟨au,(aj amb ac),ap,ac,an⟩ Tryz.func225 rfl (by kernel_rfl))
theorem atQ:TOk aeQ aby:=aA (E:=ak5) (ET:=atS) (EnvT.ofX (ax (ah au8 al)) am ar aO aq) atR rfl
def ajS:Env:=(eZ [(225,aeQ)] [274])
def arV:Hints:=(hZ [] [])
def aa2:PFn:=aG (runF Tryz.prog ajS arV Tryz.f155)
def axu:TH:=yZ
def zbv (a0:List (List UInt8)) (a1:List (List UInt8)):Option Int :=
(zaw a0 a1).bind fun r1 =>
 some r1
def yc:TFn:={ ps:=(.cons (.sl .str) (.cons (.sl .str) .unit)),res:=(.int .i64),fn:=fun v=>zbv v.1 v.2.1 }
def arU:TEnv:=(vZ [(225,aby)])
theorem arT:runY Tryz.prog ajS arV arU axu Tryz.f155 yc.ps yc.res=yc.fn:=by kernel_rfl
theorem aa1:aB Tryz.prog G0 155 aa2:=ai (ak ⟨au,(aj ak4 ac),ap,ac,an⟩ Tryz.func155 rfl (by kernel_rfl))
theorem ags:TOk aa2 yc:=aA (E:=ajS) (ET:=arU) (EnvT.ofX (ax (ah atQ al)) am ar aO aq) arT rfl
def aj4:Env:=(eZ [(154,tK),(155,aa2),(156,tO)] [274])
def asa:Hints:=(hZ [] [])
def aa7:PFn:=aG (runF Tryz.prog aj4 asa Tryz.f126)
def axy:TH:={ loops:=[],ro:=[2,3] }
def zbq (a0:vV6) (a1:vV6):Option Int :=
(zbv a0.1 a1.1).bind fun r1 =>
(zbf a0.2.1 a1.2.1).bind fun r2 =>
(zcw ([r1,r2]:List Int)).bind fun r3 =>
 some r3
def aa6:TFn:={ ps:=(.cons tT23 (.cons tT23 .unit)),res:=(.int .i64),fn:=fun v=>zbq v.1 v.2.1 }
def ar9:TEnv:={ pure:=[(154,qL),(155,yc),(156,qP)],look:=[],glob:=G0T,ty:=[(3,(.int .i64))],raw:=[],fresh:=[] }
theorem ar8:runY Tryz.prog aj4 asa ar9 axy Tryz.f126 aa6.ps aa6.res=aa6.fn:=by kernel_rfl
theorem aj3:aB Tryz.prog G0 126 aa7:=ai (ak ⟨au,(aj pj (aj aa1 (aj pp ac))),ap,ac,an⟩ Tryz.func126 rfl (by kernel_rfl))
theorem agu:TOk aa7 aa6:=aA (E:=aj4) (ET:=ar9) (EnvT.ofX (ax (ah vQ (ah ags (ah wm al)))) am ar aO aq) ar8 rfl
theorem aeB : @aB ⟨True⟩ Tryz.prog G0 226 aeC:=by
 letI:Drawn:=⟨True⟩
 exact ai (ak ⟨au,ac,ap,ac,an⟩ Tryz.func226 rfl (by kernel_rfl))
theorem wn : @aB ⟨True⟩ Tryz.prog G0 156 tO:=by
 letI:Drawn:=⟨True⟩
 exact ai (ak ⟨au,(aj aeB ac),ap,ac,an⟩ Tryz.func156 rfl (by kernel_rfl))
theorem vR : @aB ⟨True⟩ Tryz.prog G0 154 tK:=by
 letI:Drawn:=⟨True⟩
 exact ai (ak ⟨au,ac,ap,ac,an⟩ Tryz.func154 rfl (by kernel_rfl))
theorem aeJ : @aB ⟨True⟩ Tryz.prog G0 330 aeK:=by
 letI:Drawn:=⟨True⟩
 exact ai (ak ⟨au,ac,ap,ac,an⟩ Tryz.func330 rfl (by kernel_rfl))
theorem ae0 : @aB ⟨True⟩ Tryz.prog G0 287 ae1:=by
 letI:Drawn:=⟨True⟩
 exact ai (ak ⟨au,(aj aeJ ac),ap,ac,an⟩ Tryz.func287 rfl (by kernel_rfl))
theorem aeP : @aB ⟨True⟩ Tryz.prog G0 225 aeQ:=by
 letI:Drawn:=⟨True⟩
 exact ai (ak ⟨au,(aj ae0 ac),ap,ac,an⟩ Tryz.func225 rfl (by kernel_rfl))
theorem aex : @aB ⟨True⟩ Tryz.prog G0 155 aa2:=by
 letI:Drawn:=⟨True⟩
 exact ai (ak ⟨au,(aj aeP ac),ap,ac,an⟩ Tryz.func155 rfl (by kernel_rfl))
theorem aeA : @aB ⟨True⟩ Tryz.prog G0 126 aa7:=by
 letI:Drawn:=⟨True⟩
 exact ai (ak ⟨au,(aj vR (aj aex (aj wn ac))),ap,ac,an⟩ Tryz.func126 rfl (by kernel_rfl))
def aly:Go.Shelf.Ren:=⟨fun | 6=>125 | 14=>200 | 15=>201 | 20=>260 | 21=>261 | 22=>262 | 23=>263 | 24=>264 | 25=>265 | 26=>266 | 27=>267 | 28=>268 | 29=>269 | 46=>315 | 47=>316 | 48=>317 | 49=>318 | 50=>319 | 57=>351 | n=>n,fun | 0=>0 | 3=>3 | 4=>4 | 5=>5 | 9=>9 | 22=>104 | 24=>109 | 25=>199 | 39=>230 | 45=>314 | 46=>315 | 50=>161 | 53=>321 | 55=>323 | 66=>354 | 70=>358 | 76=>378 | 77=>283 | n=>n,fun | n=>n⟩
theorem aeX:Go.Proofs.SlLaysF0.n6 Tryz.prog aly:={
 mixed:=by kernel_rfl
 f6:=⟨Tryz.f125.name,by decide,Tryz.func125.trans (congrArg some (by kernel_rfl))⟩
 f14:=⟨Tryz.f200.name,by decide,Tryz.func200.trans (congrArg some (by kernel_rfl))⟩
 f15:=Tryz.func201.trans (congrArg some (by kernel_rfl))
 f20:=⟨Tryz.f260.name,by decide,Tryz.func260.trans (congrArg some (by kernel_rfl))⟩
 f21:=⟨Tryz.f261.name,by decide,Tryz.func261.trans (congrArg some (by kernel_rfl))⟩
 f22:=⟨Tryz.f262.name,by decide,Tryz.func262.trans (congrArg some (by kernel_rfl))⟩
 f23:=⟨Tryz.f263.name,by decide,Tryz.func263.trans (congrArg some (by kernel_rfl))⟩
 f24:=⟨Tryz.f264.name,by decide,Tryz.func264.trans (congrArg some (by kernel_rfl))⟩
 f25:=⟨Tryz.f265.name,by decide,Tryz.func265.trans (congrArg some (by kernel_rfl))⟩
 f26:=⟨Tryz.f266.name,by decide,Tryz.func266.trans (congrArg some (by kernel_rfl))⟩
 f27:=⟨Tryz.f267.name,by decide,Tryz.func267.trans (congrArg some (by kernel_rfl))⟩
 f28:=Tryz.func268.trans (congrArg some (by kernel_rfl))
 f29:=Tryz.func269.trans (congrArg some (by kernel_rfl))
 f46:=⟨Tryz.f315.name,by decide,Tryz.func315.trans (congrArg some (by kernel_rfl))⟩
 f47:=Tryz.func316.trans (congrArg some (by kernel_rfl))
 f48:=Tryz.func317.trans (congrArg some (by kernel_rfl))
 f49:=⟨Tryz.f318.name,by decide,Tryz.func318.trans (congrArg some (by kernel_rfl))⟩
 f50:=⟨Tryz.f319.name,by decide,Tryz.func319.trans (congrArg some (by kernel_rfl))⟩
 f57:=⟨Tryz.f351.name,by decide,Tryz.func351.trans (congrArg some (by kernel_rfl))⟩
 t0:=Tryz.underlying0
 a0:=Tryz.isAgg0
 z0:=Tryz.sizeOf0
 v0:=Tryz.zeroValue0
 t3:=Tryz.underlying3
 a3:=Tryz.isAgg3
 z3:=Tryz.sizeOf3
 v3:=Tryz.zeroValue3
 t4:=Tryz.underlying4
 a4:=Tryz.isAgg4
 z4:=Tryz.sizeOf4
 v4:=Tryz.zeroValue4
 t5:=Tryz.underlying5
 a5:=Tryz.isAgg5
 z5:=Tryz.sizeOf5
 v5:=Tryz.zeroValue5
 t9:=Tryz.underlying9
 a9:=Tryz.isAgg9
 z9:=Tryz.sizeOf9
 v9:=Tryz.zeroValue9
 t22:=Tryz.underlying104
 a22:=Tryz.isAgg104
 z22:=Tryz.sizeOf104
 v22:=Tryz.zeroValue104
 t25:=Tryz.underlying199
 a25:=Tryz.isAgg199
 z25:=Tryz.sizeOf199
 v25:=Tryz.zeroValue199
 t39:=Tryz.underlying230
 a39:=Tryz.isAgg230
 z39:=Tryz.sizeOf230
 v39:=Tryz.zeroValue230
 t45:=Tryz.underlying314
 a45:=Tryz.isAgg314
 z45:=Tryz.sizeOf314
 v45:=Tryz.zeroValue314
 t46:=Tryz.underlying315
 a46:=Tryz.isAgg315
 z46:=Tryz.sizeOf315
 v46:=Tryz.zeroValue315
 t50:=Tryz.underlying161
 a50:=Tryz.isAgg161
 z50:=Tryz.sizeOf161
 v50:=Tryz.zeroValue161
 t53:=Tryz.underlying321
 a53:=Tryz.isAgg321
 z53:=Tryz.sizeOf321
 v53:=Tryz.zeroValue321
 t55:=Tryz.underlying323
 a55:=Tryz.isAgg323
 z55:=Tryz.sizeOf323
 v55:=Tryz.zeroValue323
 t66:=Tryz.underlying354
 a66:=Tryz.isAgg354
 z66:=Tryz.sizeOf354
 v66:=Tryz.zeroValue354
 t70:=Tryz.underlying358
 a70:=Tryz.isAgg358
 z70:=Tryz.sizeOf358
 v70:=Tryz.zeroValue358
 t76:=Tryz.underlying378
 a76:=Tryz.isAgg378
 z76:=Tryz.sizeOf378
 v76:=Tryz.zeroValue378
 t77:=Tryz.underlying283
 a77:=Tryz.isAgg283
 z77:=Tryz.sizeOf283
 v77:=Tryz.zeroValue283 }
def alA:SFn:=pH aa7 126 2 109
theorem alz:bO Tryz.prog G0 125 alA:=lK (M:=2) (g:=126) aeX (by decide) (fun w=>Tryz.isAgg109 w) (fun w=>Tryz.sizeOf109 w) aeA ⟨Tryz.f125,Tryz.func125,rfl,by kernel_rfl⟩
def zam (w0:List vV6):Option (Unit×List vV6×Unit):=(nl (fun x y=>zbq x y) w0).map fun l=>((),(l,()))
def aui:TRaw:=ab8 false 126 109 tT23 (fun x y=>zbq x y)
theorem auh:TRawOk alA aui:=wN rfl rfl rfl rfl agu
def akf:Env:=(eZ [(126,aa7)] [274])
def asx:Hints:=(hZ [] [])
def ake:PFn:=aG (runF Tryz.prog akf asx Tryz.f128)
def axE:TH:={ loops:=[],ro:=[2,3] }
def zbj (a0:vV6) (a1:vV6):Option Bool :=
(zbq a0 a1).bind fun r1 =>
 some (decide (r1=0))
def abe:TFn:={ ps:=(.cons tT23 (.cons tT23 .unit)),res:=.bool,fn:=fun v=>zbj v.1 v.2.1 }
def asw:TEnv:=(vZ [(126,aa6)])
theorem asv:runY Tryz.prog akf asx asw axE Tryz.f128 abe.ps abe.res=abe.fn:=by kernel_rfl
theorem akd:aB Tryz.prog G0 128 ake:=ai (ak ⟨au,(aj aj3 ac),ap,ac,an⟩ Tryz.func128 rfl (by kernel_rfl))
theorem asu:TOk ake abe:=aA (E:=akf) (ET:=asw) (EnvT.ofX (ax (ah agu al)) am ar aO aq) asv rfl
def alN:Env:=(eZ [(128,ake)] [274])
def auy:Hints:=(hZ [(4,[0,1,5]),(9,[0,1,5,6,7])] [])
def alM:SFn:=jj (runF Tryz.prog alN auy Tryz.f127)
def ax5:TH:={ joins:=[(14,{ keep:=[(0,(.own 0)),(5,(.int .i64))],mem:=[.row false 109 tT23] })],loops:=[(4,{ keep:=[(0,(.own 0)),(5,(.int .i64))],mem:=[.row false 109 tT23] }),(9,{ keep:=[(0,(.own 0)),(5,(.int .i64)),(6,(.vw 0)),(7,(.int .i64))],mem:=[.row false 109 tT23] })],ro:=[] }
def nR (y9:(Int×(Nat×Nat)×Int×List vV6×Unit)):Option ((Int×(Nat×Nat)×Int×List vV6×Unit)⊕((Int×List vV6×Unit)⊕((Int×List vV6×Unit)⊕(List vV6)))) :=
 cond (decide (y9.2.2.1<(y9.2.1.2:Int))) (
 cond y9.2.2.2.1.isEmpty (none) ((inI y9.2.1.2 y9.2.2.1).bind fun i7 =>
(y9.2.2.2.1[(y9.2.1.1+i7)]?).bind fun x8 =>
 cond y9.2.2.2.1.isEmpty (none) ((inI y9.2.1.2 (IntKind.wrap .i64 (y9.2.2.1-1))).bind fun i9 =>
(y9.2.2.2.1[(y9.2.1.1+i9)]?).bind fun x10 =>
(zbj x8 x10).bind fun r11 =>
 cond (!r11) (
 cond y9.2.2.2.1.isEmpty (none) ((inI y9.2.1.2 y9.2.2.1).bind fun i12 =>
(y9.2.2.2.1[(y9.2.1.1+i12)]?).bind fun x13 =>
(inI y9.2.2.2.1.length y9.1).bind fun i14 =>
(y9.2.2.2.1[i14]?).bind fun x15 =>
 some (.inl ((IntKind.wrap .i64 (y9.1+1)),y9.2.1,(IntKind.wrap .i64 (y9.2.2.1+1)),(y9.2.2.2.1.set i14 x13),())))) (
 some (.inl (y9.1,y9.2.1,(IntKind.wrap .i64 (y9.2.2.1+1)),y9.2.2.2.1,())))))) (
 some (.inr (.inl (y9.1,y9.2.2.2.1,()))))
def lq (y4:(Int×List vV6×Unit)):Option ((Int×List vV6×Unit)⊕(List vV6)) :=
 cond (decide (y4.1<(y4.2.1.length:Int))) (
(inI y4.2.1.length y4.1).bind fun i1 =>
(y4.2.1[i1]?).bind fun x2 =>
(inI y4.2.1.length (IntKind.wrap .i64 (y4.1-1))).bind fun i3 =>
(y4.2.1[i3]?).bind fun x4 =>
(zbj x2 x4).bind fun r5 =>
 cond r5 (
 cond y4.2.1.isEmpty (none) ((lD (y4.2.1.length) y4.1 (y4.2.1.length:Int)).bind fun p6 =>
(aK (nR) (y4.1,p6,1,y4.2.1,()):Option ((Int×List vV6×Unit)⊕((Int×List vV6×Unit)⊕(List vV6)))).bind (bd fun v16 =>
 cond v16.2.1.isEmpty (none) ((lD (v16.2.1.length) v16.1 (v16.2.1.length:Int)).bind fun p17 =>
 cond v16.2.1.isEmpty (none) ((if p17.1+p17.2≤v16.2.1.length then some () else none).bind fun u18 =>
 cond (v16.2.1.take p17.1++List.replicate p17.2 ([],0,())++v16.2.1.drop (p17.1+p17.2)).isEmpty (none) ((lD ((v16.2.1.take p17.1++List.replicate p17.2 ([],0,())++v16.2.1.drop (p17.1+p17.2)).length) 0 v16.1).bind fun p19 =>
(cond (v16.2.1.take p17.1++List.replicate p17.2 ([],0,())++v16.2.1.drop (p17.1+p17.2)).isEmpty none (if p19.1+p19.2≤(v16.2.1.take p17.1++List.replicate p17.2 ([],0,())++v16.2.1.drop (p17.1+p17.2)).length then some (((v16.2.1.take p17.1++List.replicate p17.2 ([],0,())++v16.2.1.drop (p17.1+p17.2)).drop p19.1).take p19.2) else none)).map .inr)))))) (
 some (.inl ((IntKind.wrap .i64 (y4.1+1)),y4.2.1,())))) (
 some (.inr y4.2.1))
def alK (w0:List vV6):Option (List vV6) :=
 cond (decide ((w0.length:Int)<2)) (
 some w0) (
 aK (lq) (1,w0,()))
def zai (w0:List vV6):Option (List vV6×Unit):=(alK w0).map fun l=>(l,())
def aux:TRaw:={ ps:=(.cons (.own 0) (.cons (.fn 128) .unit)),ins:=[.row false 109 tT23],res:=(.sl tT23),outs:=[.gone],fn:=fun v w=>zai w.1 }
def auw:TEnv:=(vZ [(128,abe)])
theorem auv:afW Tryz.prog alN auy auw ax5 Tryz.f127 (.cons (.own 0) (.cons (.fn 128) .unit)) false 109 tT23=fun _ w=>alK w:=by kernel_rfl
theorem alL:bO Tryz.prog G0 127 alM:=iH (ak ⟨au,(aj akd ac),ap,ac,an⟩ Tryz.func127 rfl (by kernel_rfl))
theorem auu:TRawOk alM aux:=xp (E:=alN) (ET:=auw) (EnvT.ofX (ax (ah asu al)) am ar aO aq) auv
def akI:Env:={ pure:=[(72,abx),(124,aek)],raw:=[(125,alA),(127,alM)],glob:=G0,same:=[274],look:=[],ext:=[] }
def atj:Hints:=(hZ [(3,[3,6,7,8])] [])
def aeL:PFn:=aG (runF Tryz.prog akI atj Tryz.f55)
def axQ:TH:={ joins:=[(7,{ keep:=[(3,(.own 1))],mem:=[.gone,.row true 109 tT23] })],loops:=[(3,{ keep:=[(3,(.own 1)),(8,(.int .i64))],mem:=[.gone,.row true 109 tT23] })],ro:=[] }
def wr (a0:List vV7) (y3:(Int×List vV6×Unit)):Option ((Int×List vV6×Unit)⊕((List vV6×Unit)⊕List vV6)) :=
 cond (decide (y3.1<(a0.length:Int))) (
(atI a0 y3.1).bind fun x1 =>
(zax x1.2.1.2.1).bind fun r2 =>
(zdz x1.2.1.1).bind fun r3 =>
(bT (y3.2.1.length+([(r2,r3,())]:List vV6).length)).bind fun u4 =>
 some (.inl ((IntKind.wrap .i64 (y3.1+1)),(y3.2.1++([(r2,r3,())]:List vV6)),()))) (
 some (.inr (.inl (y3.2.1,()))))
def zb6 (a0:List vV7):Option (List vV6) :=
(aK (wr a0) (0,[],()):Option ((List vV6×Unit)⊕List vV6)).bind (bd fun v5 =>
(zam v5.1).bind fun q6 =>
(zai q6.2.1).bind fun q7 =>
 some q7.1)
def yg:TFn:={ ps:=(.cons (.sl tT22) .unit),res:=(.sl tT23),fn:=fun v=>zb6 v.1 }
def ati:TEnv:={ pure:=[(72,aeO),(124,xU)],look:=[],glob:=G0T,ty:=[(109,tT23)],raw:=[(125,aui),(127,aux)],fresh:=[] }
theorem ath:runY Tryz.prog akI atj ati axQ Tryz.f55 yg.ps yg.res=yg.fn:=by kernel_rfl
theorem abp:aB Tryz.prog G0 55 aeL:=ai (ak ⟨au,(aj tT (aj zN ac)),(bf alz (bf alL ap)),ac,an⟩ Tryz.func55 rfl (by kernel_rfl))
theorem agA:TOk aeL yg:=aA (E:=akI) (ET:=ati) (EnvT.ofX (ax (ah abw (ah agk al))) am (bt auh rfl rfl (bt auu rfl rfl ar)) aO aq) ath rfl
def ak2:Env:=(eZ [] [274])
def atP:Hints:=(hZ [(4,[0,1,12,13])] [])
def aeM:PFn:=aG (runF Tryz.prog ak2 atP Tryz.f196)
def axY:TH:={ loops:=[(4,{ keep:=[(13,(.int .i64))],mem:=[] })],ro:=[] }
def wz (a0:List (List UInt8)) (a1:List (List UInt8)) (y4:(Int×Unit)):Option ((Int×Unit)⊕Bool) :=
 cond (decide (y4.1<(a0.length:Int))) (
(atI a0 y4.1).bind fun x1 =>
(atI a1 y4.1).bind fun x2 =>
 cond (!decide (x1=x2)) (
 some (.inr false)) (
 some (.inl ((IntKind.wrap .i64 (y4.1+1)),())))) (
 some (.inr true))
def zay (a0:List (List UInt8)) (a1:List (List UInt8)):Option Bool :=
 cond (!decide ((a0.length:Int)=(a1.length:Int))) (
 some false) (
 aK (wz a0 a1) (0,()))
def yi:TFn:={ ps:=(.cons (.sl .str) (.cons (.sl .str) .unit)),res:=.bool,fn:=fun v=>zay v.1 v.2.1 }
def atO:TEnv:=(vZ [])
theorem atN:runY Tryz.prog ak2 atP atO axY Tryz.f196 yi.ps yi.res=yi.fn:=by kernel_rfl
theorem abv:aB Tryz.prog G0 196 aeM:=ai (ak ⟨au,ac,ap,ac,an⟩ Tryz.func196 rfl (by kernel_rfl))
theorem agB:TOk aeM yi:=aA (E:=ak2) (ET:=atO) (EnvT.ofX (ax al) am ar aO aq) atN rfl
def ahL:Env:=(eZ [(196,aeM)] [274])
def aoO:Hints:=(hZ [] [])
def aem:PFn:=aG (runF Tryz.prog ahL aoO Tryz.f160)
def awE:TH:=yZ
def zdh (a0:List (List UInt8)) (a1:List (List UInt8)):Option Bool :=
(zay a0 a1).bind fun r1 =>
 some r1
def xW:TFn:={ ps:=(.cons (.sl .str) (.cons (.sl .str) .unit)),res:=.bool,fn:=fun v=>zdh v.1 v.2.1 }
def aoN:TEnv:=(vZ [(196,yi)])
theorem aoM:runY Tryz.prog ahL aoO aoN awE Tryz.f160 xW.ps xW.res=xW.fn:=by kernel_rfl
theorem aag:aB Tryz.prog G0 160 aem:=ai (ak ⟨au,(aj abv ac),ap,ac,an⟩ Tryz.func160 rfl (by kernel_rfl))
theorem agm:TOk aem xW:=aA (E:=ahL) (ET:=aoN) (EnvT.ofX (ax (ah agB al)) am ar aO aq) aoM rfl
def ag6:Env:=(eZ [(124,aek),(160,aem)] [274])
def anM:Hints:=(hZ [(3,[1,2,7,10,11,12])] [])
def zP:PFn:=aG (runF Tryz.prog ag6 anM Tryz.f229)
def awn:TH:={ loops:=[(3,{ keep:=[(7,(.own 1)),(12,(.int .i64))],mem:=[.gone,.row true 148 tT22] })],ro:=[] }
def vF (a0:List vV7) (a1:List (List UInt8)) (a2:Int) (y3:(Int×List vV7×Unit)):Option ((Int×List vV7×Unit)⊕List vV7) :=
 cond (decide (y3.1<(a0.length:Int))) (
(atI a0 y3.1).bind fun x1 =>
(zdz x1.2.1.1).bind fun r2 =>
 cond (decide (r2=a2)) ((zdh x1.2.1.2.1 a1).bind fun r3 =>
 cond r3 (
(bT (y3.2.1.length+([x1]:List vV7).length)).bind fun u4 =>
 some (.inl ((IntKind.wrap .i64 (y3.1+1)),(y3.2.1++([x1]:List vV7)),()))) (
 some (.inl ((IntKind.wrap .i64 (y3.1+1)),y3.2.1,())))) (some (.inl ((IntKind.wrap .i64 (y3.1+1)),y3.2.1,())))) (
 some (.inr y3.2.1))
def zdy (a0:List vV7) (a1:List (List UInt8)) (a2:Int):Option (List vV7) :=
 aK (vF a0 a1 a2) (0,[],())
def tC:TFn:={ ps:=(.cons (.sl tT22) (.cons (.sl .str) tT20)),res:=(.sl tT22),fn:=fun v=>zdy v.1 v.2.1 v.2.2.1 }
def anL:TEnv:={ pure:=[(124,xU),(160,xW)],look:=[],glob:=G0T,ty:=[(148,tT22)],raw:=[],fresh:=[] }
theorem anK:runY Tryz.prog ag6 anM anL awn Tryz.f229 tC.ps tC.res=tC.fn:=by kernel_rfl
theorem tD:aB Tryz.prog G0 229 zP:=ai (ak ⟨au,(aj zN (aj aag ac)),ap,ac,an⟩ Tryz.func229 rfl (by kernel_rfl))
theorem zO:TOk zP tC:=aA (E:=ag6) (ET:=anL) (EnvT.ofX (ax (ah agk (ah agm al))) am ar aO aq) anK rfl
def aeH:PFn:=cmpF
theorem aks:aB Tryz.prog G0 291 aeH:=sZ ⟨Tryz.f291,Tryz.func291,rfl,by kernel_rfl⟩ Tryz.strings_Compare
def zbd (a0:List UInt8) (a1:List UInt8):Option Int:=cmpT a0 a1
def asR:TFn:=adR
theorem asQ:TOk aeH asR:=anp
def akh:Env:=(eZ [(154,tK),(156,tO),(291,aeH)] [274])
def asA:Hints:=(hZ [] [])
def abg:PFn:=aG (runF Tryz.prog akh asA Tryz.f231)
def axF:TH:={ loops:=[],ro:=[2,3] }
def zbi (a0:vV5) (a1:vV5):Option Int :=
(zbf a0.1 a1.1).bind fun r1 =>
(zbf a0.2.1 a1.2.1).bind fun r2 =>
(zbd a0.2.2.1 a1.2.2.1).bind fun r3 =>
(zcw ([r1,r2,r3]:List Int)).bind fun r4 =>
 some r4
def abf:TFn:={ ps:=(.cons tT18 (.cons tT18 .unit)),res:=(.int .i64),fn:=fun v=>zbi v.1 v.2.1 }
def asz:TEnv:={ pure:=[(154,qL),(156,qP),(291,asR)],look:=[],glob:=G0T,ty:=[(3,(.int .i64))],raw:=[],fresh:=[] }
theorem asy:runY Tryz.prog akh asA asz axF Tryz.f231 abf.ps abf.res=abf.fn:=by kernel_rfl
theorem akg:aB Tryz.prog G0 231 abg:=ai (ak ⟨au,(aj pj (aj pp (aj aks ac))),ap,ac,an⟩ Tryz.func231 rfl (by kernel_rfl))
theorem agy:TOk abg abf:=aA (E:=akh) (ET:=asz) (EnvT.ofX (ax (ah vQ (ah wm (ah asQ al)))) am ar aO aq) asy rfl
theorem aeG : @aB ⟨True⟩ Tryz.prog G0 291 aeH:=by
 letI:Drawn:=⟨True⟩
 exact sZ ⟨Tryz.f291,Tryz.func291,rfl,by kernel_rfl⟩ Tryz.strings_Compare
theorem aeF : @aB ⟨True⟩ Tryz.prog G0 231 abg:=by
 letI:Drawn:=⟨True⟩
 exact ai (ak ⟨au,(aj vR (aj wn (aj aeG ac))),ap,ac,an⟩ Tryz.func231 rfl (by kernel_rfl))
def alE:Go.Shelf.Ren:=⟨fun | 6=>230 | 14=>290 | 15=>201 | 20=>332 | 21=>333 | 22=>334 | 23=>335 | 24=>336 | 25=>337 | 26=>338 | 27=>339 | 28=>268 | 29=>269 | 46=>359 | 47=>316 | 48=>317 | 49=>360 | 50=>361 | 57=>374 | n=>n,fun | 0=>0 | 3=>3 | 4=>4 | 5=>5 | 9=>9 | 22=>123 | 24=>132 | 25=>296 | 39=>230 | 45=>314 | 46=>315 | 50=>161 | 53=>321 | 55=>323 | 66=>354 | 70=>358 | 76=>378 | 77=>283 | n=>n,fun | n=>n⟩
theorem aeY:Go.Proofs.SlLaysF0.n6 Tryz.prog alE:={
 mixed:=by kernel_rfl
 f6:=⟨Tryz.f230.name,by decide,Tryz.func230.trans (congrArg some (by kernel_rfl))⟩
 f14:=⟨Tryz.f290.name,by decide,Tryz.func290.trans (congrArg some (by kernel_rfl))⟩
 f15:=Tryz.func201.trans (congrArg some (by kernel_rfl))
 f20:=⟨Tryz.f332.name,by decide,Tryz.func332.trans (congrArg some (by kernel_rfl))⟩
 f21:=⟨Tryz.f333.name,by decide,Tryz.func333.trans (congrArg some (by kernel_rfl))⟩
 f22:=⟨Tryz.f334.name,by decide,Tryz.func334.trans (congrArg some (by kernel_rfl))⟩
 f23:=⟨Tryz.f335.name,by decide,Tryz.func335.trans (congrArg some (by kernel_rfl))⟩
 f24:=⟨Tryz.f336.name,by decide,Tryz.func336.trans (congrArg some (by kernel_rfl))⟩
 f25:=⟨Tryz.f337.name,by decide,Tryz.func337.trans (congrArg some (by kernel_rfl))⟩
 f26:=⟨Tryz.f338.name,by decide,Tryz.func338.trans (congrArg some (by kernel_rfl))⟩
 f27:=⟨Tryz.f339.name,by decide,Tryz.func339.trans (congrArg some (by kernel_rfl))⟩
 f28:=Tryz.func268.trans (congrArg some (by kernel_rfl))
 f29:=Tryz.func269.trans (congrArg some (by kernel_rfl))
 f46:=⟨Tryz.f359.name,by decide,Tryz.func359.trans (congrArg some (by kernel_rfl))⟩
 f47:=Tryz.func316.trans (congrArg some (by kernel_rfl))
 f48:=Tryz.func317.trans (congrArg some (by kernel_rfl))
 f49:=⟨Tryz.f360.name,by decide,Tryz.func360.trans (congrArg some (by kernel_rfl))⟩
 f50:=⟨Tryz.f361.name,by decide,Tryz.func361.trans (congrArg some (by kernel_rfl))⟩
 f57:=⟨Tryz.f374.name,by decide,Tryz.func374.trans (congrArg some (by kernel_rfl))⟩
 t0:=Tryz.underlying0
 a0:=Tryz.isAgg0
 z0:=Tryz.sizeOf0
 v0:=Tryz.zeroValue0
 t3:=Tryz.underlying3
 a3:=Tryz.isAgg3
 z3:=Tryz.sizeOf3
 v3:=Tryz.zeroValue3
 t4:=Tryz.underlying4
 a4:=Tryz.isAgg4
 z4:=Tryz.sizeOf4
 v4:=Tryz.zeroValue4
 t5:=Tryz.underlying5
 a5:=Tryz.isAgg5
 z5:=Tryz.sizeOf5
 v5:=Tryz.zeroValue5
 t9:=Tryz.underlying9
 a9:=Tryz.isAgg9
 z9:=Tryz.sizeOf9
 v9:=Tryz.zeroValue9
 t22:=Tryz.underlying123
 a22:=Tryz.isAgg123
 z22:=Tryz.sizeOf123
 v22:=Tryz.zeroValue123
 t25:=Tryz.underlying296
 a25:=Tryz.isAgg296
 z25:=Tryz.sizeOf296
 v25:=Tryz.zeroValue296
 t39:=Tryz.underlying230
 a39:=Tryz.isAgg230
 z39:=Tryz.sizeOf230
 v39:=Tryz.zeroValue230
 t45:=Tryz.underlying314
 a45:=Tryz.isAgg314
 z45:=Tryz.sizeOf314
 v45:=Tryz.zeroValue314
 t46:=Tryz.underlying315
 a46:=Tryz.isAgg315
 z46:=Tryz.sizeOf315
 v46:=Tryz.zeroValue315
 t50:=Tryz.underlying161
 a50:=Tryz.isAgg161
 z50:=Tryz.sizeOf161
 v50:=Tryz.zeroValue161
 t53:=Tryz.underlying321
 a53:=Tryz.isAgg321
 z53:=Tryz.sizeOf321
 v53:=Tryz.zeroValue321
 t55:=Tryz.underlying323
 a55:=Tryz.isAgg323
 z55:=Tryz.sizeOf323
 v55:=Tryz.zeroValue323
 t66:=Tryz.underlying354
 a66:=Tryz.isAgg354
 z66:=Tryz.sizeOf354
 v66:=Tryz.zeroValue354
 t70:=Tryz.underlying358
 a70:=Tryz.isAgg358
 z70:=Tryz.sizeOf358
 v70:=Tryz.zeroValue358
 t76:=Tryz.underlying378
 a76:=Tryz.isAgg378
 z76:=Tryz.sizeOf378
 v76:=Tryz.zeroValue378
 t77:=Tryz.underlying283
 a77:=Tryz.isAgg283
 z77:=Tryz.sizeOf283
 v77:=Tryz.zeroValue283 }
def alG:SFn:=pH abg 231 3 132
theorem alF:bO Tryz.prog G0 230 alG:=lK (M:=3) (g:=231) aeY (by decide) (fun w=>Tryz.isAgg132 w) (fun w=>Tryz.sizeOf132 w) aeF ⟨Tryz.f230,Tryz.func230,rfl,by kernel_rfl⟩
def zak (w0:List vV5):Option (Unit×List vV5×Unit):=(nl (fun x y=>zbi x y) w0).map fun l=>((),(l,()))
def aup:TRaw:=ab8 false 231 132 tT18 (fun x y=>zbi x y)
theorem auo:TRawOk alG aup:=wN rfl rfl rfl rfl agy
def alx:Env:=(eZ [] [274])
def aug:Hints:=(hZ [(4,[0,3]),(9,[0,3,4,5])] [])
def alw:SFn:=jj (runF Tryz.prog alx aug Tryz.f232)
def ax2:TH:={ joins:=[(14,{ keep:=[(0,(.own 0)),(3,(.int .i64))],mem:=[.row false 132 tT18] })],loops:=[(4,{ keep:=[(0,(.own 0)),(3,(.int .i64))],mem:=[.row false 132 tT18] }),(9,{ keep:=[(0,(.own 0)),(3,(.int .i64)),(4,(.vw 0)),(5,(.int .i64))],mem:=[.row false 132 tT18] })],ro:=[] }
def nQ (y9:(Int×(Nat×Nat)×Int×List vV5×Unit)):Option ((Int×(Nat×Nat)×Int×List vV5×Unit)⊕((Int×List vV5×Unit)⊕((Int×List vV5×Unit)⊕(List vV5)))) :=
 cond (decide (y9.2.2.1<(y9.2.1.2:Int))) (
 cond y9.2.2.2.1.isEmpty (none) ((inI y9.2.1.2 y9.2.2.1).bind fun i6 =>
(y9.2.2.2.1[(y9.2.1.1+i6)]?).bind fun x7 =>
 cond y9.2.2.2.1.isEmpty (none) ((inI y9.2.1.2 (IntKind.wrap .i64 (y9.2.2.1-1))).bind fun i8 =>
(y9.2.2.2.1[(y9.2.1.1+i8)]?).bind fun x9 =>
 cond (!(eqV tT18 x7 x9)) (
 cond y9.2.2.2.1.isEmpty (none) ((inI y9.2.1.2 y9.2.2.1).bind fun i10 =>
(y9.2.2.2.1[(y9.2.1.1+i10)]?).bind fun x11 =>
(inI y9.2.2.2.1.length y9.1).bind fun i12 =>
(y9.2.2.2.1[i12]?).bind fun x13 =>
 some (.inl ((IntKind.wrap .i64 (y9.1+1)),y9.2.1,(IntKind.wrap .i64 (y9.2.2.1+1)),(y9.2.2.2.1.set i12 x11),())))) (
 some (.inl (y9.1,y9.2.1,(IntKind.wrap .i64 (y9.2.2.1+1)),y9.2.2.2.1,())))))) (
 some (.inr (.inl (y9.1,y9.2.2.2.1,()))))
def lp (y4:(Int×List vV5×Unit)):Option ((Int×List vV5×Unit)⊕(List vV5)) :=
 cond (decide (y4.1<(y4.2.1.length:Int))) (
(inI y4.2.1.length y4.1).bind fun i1 =>
(y4.2.1[i1]?).bind fun x2 =>
(inI y4.2.1.length (IntKind.wrap .i64 (y4.1-1))).bind fun i3 =>
(y4.2.1[i3]?).bind fun x4 =>
 cond (eqV tT18 x2 x4) (
 cond y4.2.1.isEmpty (none) ((lD (y4.2.1.length) y4.1 (y4.2.1.length:Int)).bind fun p5 =>
(aK (nQ) (y4.1,p5,1,y4.2.1,()):Option ((Int×List vV5×Unit)⊕((Int×List vV5×Unit)⊕(List vV5)))).bind (bd fun v14 =>
 cond v14.2.1.isEmpty (none) ((lD (v14.2.1.length) v14.1 (v14.2.1.length:Int)).bind fun p15 =>
 cond v14.2.1.isEmpty (none) ((if p15.1+p15.2≤v14.2.1.length then some () else none).bind fun u16 =>
 cond (v14.2.1.take p15.1++List.replicate p15.2 (0,0,[],())++v14.2.1.drop (p15.1+p15.2)).isEmpty (none) ((lD ((v14.2.1.take p15.1++List.replicate p15.2 (0,0,[],())++v14.2.1.drop (p15.1+p15.2)).length) 0 v14.1).bind fun p17 =>
(cond (v14.2.1.take p15.1++List.replicate p15.2 (0,0,[],())++v14.2.1.drop (p15.1+p15.2)).isEmpty none (if p17.1+p17.2≤(v14.2.1.take p15.1++List.replicate p15.2 (0,0,[],())++v14.2.1.drop (p15.1+p15.2)).length then some (((v14.2.1.take p15.1++List.replicate p15.2 (0,0,[],())++v14.2.1.drop (p15.1+p15.2)).drop p17.1).take p17.2) else none)).map .inr)))))) (
 some (.inl ((IntKind.wrap .i64 (y4.1+1)),y4.2.1,())))) (
 some (.inr y4.2.1))
def alu (w0:List vV5):Option (List vV5) :=
 cond (decide ((w0.length:Int)<2)) (
 some w0) (
 aK (lp) (1,w0,()))
def zan (w0:List vV5):Option (List vV5×Unit):=(alu w0).map fun l=>(l,())
def auf:TRaw:={ ps:=(.cons (.own 0) .unit),ins:=[.row false 132 tT18],res:=(.sl tT18),outs:=[.gone],fn:=fun v w=>zan w.1 }
def aue:TEnv:=(vZ [])
theorem aud:afW Tryz.prog alx aug aue ax2 Tryz.f232 (.cons (.own 0) .unit) false 132 tT18=fun _ w=>alu w:=by kernel_rfl
theorem alv:bO Tryz.prog G0 232 alw:=iH (ak ⟨au,ac,ap,ac,an⟩ Tryz.func232 rfl (by kernel_rfl))
theorem auc:TRawOk alw auf:=xp (E:=alx) (ET:=aue) (EnvT.ofX (ax al) am ar aO aq) aud
def ajr:Env:={ pure:=[(229,zP)],raw:=[(230,alG),(232,alw)],glob:=G0,same:=[274],look:=[],ext:=[] }
def ard:Hints:=(hZ [(3,[5,10,11,12])] [])
def ajq:PFn:=aG (runF Tryz.prog ajr ard Tryz.f163)
def axj:TH:={ joins:=[(7,{ keep:=[(5,(.own 1))],mem:=[.gone,.row true 132 tT18] })],loops:=[(3,{ keep:=[(5,(.own 1)),(12,(.int .i64))],mem:=[.gone,.row true 132 tT18] })],ro:=[] }
def wd (r1:List vV7) (y3:(Int×List vV5×Unit)):Option ((Int×List vV5×Unit)⊕((List vV5×Unit)⊕List vV5)) :=
 cond (decide (y3.1<(r1.length:Int))) (
(atI r1 y3.1).bind fun x2 =>
(bT (y3.2.1.length+([x2.2.1.2.2.1]:List vV5).length)).bind fun u3 =>
 some (.inl ((IntKind.wrap .i64 (y3.1+1)),(y3.2.1++([x2.2.1.2.2.1]:List vV5)),()))) (
 some (.inr (.inl (y3.2.1,()))))
def zc6 (a0:List vV7) (a1:List (List UInt8)):Option (List vV5) :=
((zdy a0 a1 1).bind fun r1 =>
 aK (wd r1) (0,[],()):Option ((List vV5×Unit)⊕List vV5)).bind (bd fun v4 =>
(zak v4.1).bind fun q5 =>
(zan q5.2.1).bind fun q6 =>
 some q6.1)
def aaP:TFn:={ ps:=(.cons (.sl tT22) (.cons (.sl .str) .unit)),res:=(.sl tT18),fn:=fun v=>zc6 v.1 v.2.1 }
def arc:TEnv:={ pure:=[(229,tC)],look:=[],glob:=G0T,ty:=[(132,tT18)],raw:=[(230,aup),(232,auf)],fresh:=[] }
theorem arb:runY Tryz.prog ajr ard arc axj Tryz.f163 aaP.ps aaP.res=aaP.fn:=by kernel_rfl
theorem ajp:aB Tryz.prog G0 163 ajq:=ai (ak ⟨au,(aj tD ac),(bf alF (bf alv ap)),ac,an⟩ Tryz.func163 rfl (by kernel_rfl))
theorem ara:TOk ajq aaP:=aA (E:=ajr) (ET:=arc) (EnvT.ofX (ax (ah zO al)) am (bt auo rfl rfl (bt auc rfl rfl ar)) aO aq) arb rfl
def alr:Go.Shelf.Ren:=⟨fun | 22=>234 | 29=>292 | 30=>293 | n=>n,fun | 24=>123 | 9=>132 | 0=>0 | 3=>3 | 4=>4 | n=>n,fun | n=>n⟩
theorem aeW:InsL Tryz.prog alr:={
 mixed:=by kernel_rfl
 f22:=⟨Tryz.f234.name,by decide,Tryz.func234.trans (congrArg some (by kernel_rfl))⟩
 f29:=⟨Tryz.f292.name,by decide,by kernel_rfl,by kernel_rfl,Tryz.func292.trans (congrArg some (by kernel_rfl))⟩
 t0:=Tryz.underlying0
 a0:=Tryz.isAgg0
 z0:=Tryz.sizeOf0
 v0:=Tryz.zeroValue0
 t3:=Tryz.underlying3
 a3:=Tryz.isAgg3
 z3:=Tryz.sizeOf3
 v3:=Tryz.zeroValue3
 t4:=Tryz.underlying4
 a4:=Tryz.isAgg4
 z4:=Tryz.sizeOf4
 v4:=Tryz.zeroValue4
 t24:=Tryz.underlying123
 a24:=Tryz.isAgg123
 z24:=Tryz.sizeOf123
 v24:=Tryz.zeroValue123 }
def alt:SFn:=d9 3 132
theorem als:bO Tryz.prog G0 234 alt:=j5 aeW rfl rfl rfl (gA (P:=Tryz.prog) (te:=132) (M:=3) (by kernel_rfl) (by kernel_rfl) (by kernel_rfl) (by kernel_rfl) (by kernel_rfl) (by kernel_rfl) (by kernel_rfl) (by kernel_rfl)) true Tryz.isAgg132 ⟨Tryz.f234,Tryz.func234,rfl,by kernel_rfl⟩
def zao (a1:Int) (a2:List vV5) (w0:List vV5):Option (Unit×List vV5×Unit):=(insT w0 a1 a2).map fun l=>((),(l,()))
def aub:TRaw:=insR false 132 tT18
theorem aua:TRawOk alt aub:=uS rfl rfl rfl rfl (by decide)
def al6:Env:=(eZ [(231,abg)] [274])
def auZ:Hints:=(hZ [(3,[0,2,4,8,9,10])] [])
def al5:PFn:=aG (runF Tryz.prog al6 auZ Tryz.f233)
def ayc:TH:={ joins:=[(8,{ keep:=[(4,(.bx 0 0)),(9,(.int .i64))],mem:=[.same] })],loops:=[(3,{ keep:=[(4,(.bx 0 0)),(9,(.int .i64)),(10,(.int .i64))],mem:=[.same] })],ro:=[4] }
def nT (a0:List vV5) (a1:vV5) (y3:(Int×Int×Unit)):Option ((Int×Int×Unit)⊕((Int×Unit)⊕(Int×Bool×Unit))) :=
 cond (decide (y3.1<y3.2.1)) (
(shrT .u64 (IntKind.wrap .u64 (IntKind.wrap .i64 (y3.1+y3.2.1))) 1).bind fun t1 =>
(atI a0 (IntKind.wrap .i64 t1)).bind fun x2 =>
(zbi x2 a1).bind fun r3 =>
 cond (decide (r3<0)) (
 some (.inl ((IntKind.wrap .i64 ((IntKind.wrap .i64 t1)+1)),y3.2.1,()))) (
 some (.inl (y3.1,(IntKind.wrap .i64 t1),())))) (
 some (.inr (.inl (y3.1,()))))
def zab (a0:List vV5) (a1:vV5) (a2:Unit):Option (Int×Bool×Unit) :=
(aK (nT a0 a1) (0,(a0.length:Int),()):Option ((Int×Unit)⊕(Int×Bool×Unit))).bind (bd fun v4 =>
 cond (decide (v4.1<(a0.length:Int))) ((atI a0 v4.1).bind fun x5 =>
(zbi x5 a1).bind fun r6 =>
 some (v4.1,(decide (r6=0)),())) (some (v4.1,false,())))
def abI:TFn:={ ps:=(.cons (.sl tT18) (.cons tT18 (.cons (.fn 231) .unit))),res:=(.tup (.cons (.int .i64) (.cons .bool .unit))),fn:=fun v=>zab v.1 v.2.1 v.2.2.1 }
def auY:TEnv:=(vZ [(231,abf)])
theorem auX:runY Tryz.prog al6 auZ auY ayc Tryz.f233 abI.ps abI.res=abI.fn:=by kernel_rfl
theorem al4:aB Tryz.prog G0 233 al5:=ai (ak ⟨au,(aj akg ac),ap,ac,an⟩ Tryz.func233 rfl (by kernel_rfl))
theorem auW:TOk al5 abI:=aA (E:=al6) (ET:=auY) (EnvT.ofX (ax (ah agy al)) am ar aO aq) auX rfl
def ais:Env:={ pure:=[(229,zP)],raw:=[(234,alt)],glob:=G0,same:=[274],look:=[(233,al5)],ext:=[] }
def apM:Hints:=(hZ [(3,[5,12,13,14])] [])
def air:PFn:=aG (runF Tryz.prog ais apM Tryz.f164)
def awT:TH:={ loops:=[(3,{ keep:=[(5,(.own 1)),(14,(.int .i64))],mem:=[.gone,.row false 132 tT18] })],ro:=[] }
def vS (r1:List vV7) (y3:(Int×List vV5×Unit)):Option ((Int×List vV5×Unit)⊕List vV5) :=
 cond (decide (y3.1<(r1.length:Int))) (
(atI r1 y3.1).bind fun x2 =>
(zab y3.2.1 x2.2.1.2.2.1 ()).bind fun r3 =>
 cond (!r3.2.1) (
(zao r3.1 ([x2.2.1.2.2.1]:List vV5) y3.2.1).bind fun q4 =>
 some (.inl ((IntKind.wrap .i64 (y3.1+1)),q4.2.1,()))) (
 some (.inl ((IntKind.wrap .i64 (y3.1+1)),y3.2.1,())))) (
 some (.inr y3.2.1))
def zcv (a0:List vV7) (a1:List (List UInt8)):Option (List vV5) :=
(zdy a0 a1 2).bind fun r1 =>
 aK (vS r1) (0,[],())
def aau:TFn:={ ps:=(.cons (.sl tT22) (.cons (.sl .str) .unit)),res:=(.sl tT18),fn:=fun v=>zcv v.1 v.2.1 }
def apL:TEnv:={ pure:=[(229,tC)],look:=[(233,abI)],glob:=G0T,ty:=[(132,tT18)],raw:=[(234,aub)],fresh:=[] }
theorem apK:runY Tryz.prog ais apM apL awT Tryz.f164 aau.ps aau.res=aau.fn:=by kernel_rfl
theorem aiq:aB Tryz.prog G0 164 air:=ai (ak ⟨au,(aj tD ac),(bf als ap),(aj al4 ac),an⟩ Tryz.func164 rfl (by kernel_rfl))
theorem apJ:TOk air aau:=aA (E:=ais) (ET:=apL) (EnvT.ofX (ax (ah zO al)) (jZ auW rfl am) (bt aua rfl rfl ar) aO aq) apK rfl
def ah3:Env:=(eZ [(229,zP)] [274])
def apc:Hints:=(hZ [(3,[5,10,11,12])] [])
def ah2:PFn:=aG (runF Tryz.prog ah3 apc Tryz.f165)
def awK:TH:={ loops:=[(3,{ keep:=[(5,(.int .i64)),(12,(.int .i64))],mem:=[] })],ro:=[] }
def vO (r1:List vV7) (y3:(Int×Int×Unit)):Option ((Int×Int×Unit)⊕Int) :=
 cond (decide (y3.2.1<(r1.length:Int))) (
(atI r1 y3.2.1).bind fun x2 =>
 some (.inl ((IntKind.wrap .i64 (y3.1+x2.2.1.2.2.2.1)),(IntKind.wrap .i64 (y3.2.1+1)),()))) (
 some (.inr y3.1))
def zdb (a0:List vV7) (a1:List (List UInt8)):Option Int :=
(zdy a0 a1 3).bind fun r1 =>
 aK (vO r1) (0,0,())
def aam:TFn:={ ps:=(.cons (.sl tT22) (.cons (.sl .str) .unit)),res:=(.int .i64),fn:=fun v=>zdb v.1 v.2.1 }
def apb:TEnv:=(vZ [(229,tC)])
theorem apa:runY Tryz.prog ah3 apc apb awK Tryz.f165 aam.ps aam.res=aam.fn:=by kernel_rfl
theorem ah1:aB Tryz.prog G0 165 ah2:=ai (ak ⟨au,(aj tD ac),ap,ac,an⟩ Tryz.func165 rfl (by kernel_rfl))
theorem ao9:TOk ah2 aam:=aA (E:=ah3) (ET:=apb) (EnvT.ofX (ax (ah zO al)) am ar aO aq) apa rfl
def ag9:Env:=(eZ [(72,abx),(163,ajq),(164,air),(165,ah2)] [274])
def anQ:Hints:=(hZ [] [])
def ag8:PFn:=aG (runF Tryz.prog ag9 anQ Tryz.f94)
def awo:TH:=yZ
def zdx (a0:List vV7) (a1:List (List UInt8)) (a2:Int):Option vV2 :=
(zax a1).bind fun r1 =>
 cond (decide (a2=1)) (
(zc6 a0 a1).bind fun r2 =>
 some (r1,a2,r2,0,())) (
 cond (decide (a2=2)) (
(zcv a0 a1).bind fun r3 =>
 some (r1,a2,r3,0,())) (
 cond (decide (a2=3)) (
(zdb a0 a1).bind fun r4 =>
 some (r1,a2,[],r4,())) (
 some (r1,a2,[],0,()))))
def zQ:TFn:={ ps:=(.cons (.sl tT22) (.cons (.sl .str) tT20)),res:=tT16,fn:=fun v=>zdx v.1 v.2.1 v.2.2.1 }
def anP:TEnv:=(vZ [(72,aeO),(163,aaP),(164,aau),(165,aam)])
theorem anO:runY Tryz.prog ag9 anQ anP awo Tryz.f94 zQ.ps zQ.res=zQ.fn:=by kernel_rfl
theorem ag7:aB Tryz.prog G0 94 ag8:=ai (ak ⟨au,(aj tT (aj ajp (aj aiq (aj ah1 ac)))),ap,ac,an⟩ Tryz.func94 rfl (by kernel_rfl))
theorem anN:TOk ag8 zQ:=aA (E:=ag9) (ET:=anP) (EnvT.ofX (ax (ah abw (ah ara (ah apJ (ah ao9 al))))) am ar aO aq) anO rfl
def aif:Env:=(eZ [(55,aeL),(94,ag8)] [274])
def apt:Hints:=(hZ [(3,[0,3,7,8,9])] [])
def aie:PFn:=aG (runF Tryz.prog aif apt Tryz.f68)
def awO:TH:={ loops:=[(3,{ keep:=[(3,(.own 1)),(9,(.int .i64))],mem:=[.gone,.row true 125 tT16] })],ro:=[] }
def vP (a0:List vV7) (r1:List vV6) (y3:(Int×List vV2×Unit)):Option ((Int×List vV2×Unit)⊕List vV2) :=
 cond (decide (y3.1<(r1.length:Int))) (
(atI r1 y3.1).bind fun x2 =>
(zdx a0 x2.1 x2.2.1).bind fun r3 =>
(bT (y3.2.1.length+([r3]:List vV2).length)).bind fun u4 =>
 some (.inl ((IntKind.wrap .i64 (y3.1+1)),(y3.2.1++([r3]:List vV2)),()))) (
 some (.inr y3.2.1))
def zd0 (a0:List vV7):Option (List vV2) :=
(zb6 a0).bind fun r1 =>
 aK (vP a0 r1) (0,[],())
def aaq:TFn:={ ps:=(.cons (.sl tT22) .unit),res:=(.sl tT16),fn:=fun v=>zd0 v.1 }
def aps:TEnv:={ pure:=[(55,yg),(94,zQ)],look:=[],glob:=G0T,ty:=[(125,tT16)],raw:=[],fresh:=[] }
theorem apr:runY Tryz.prog aif apt aps awO Tryz.f68 aaq.ps aaq.res=aaq.fn:=by kernel_rfl
theorem aid:aB Tryz.prog G0 68 aie:=ai (ak ⟨au,(aj abp (aj ag7 ac)),ap,ac,an⟩ Tryz.func68 rfl (by kernel_rfl))
theorem apq:TOk aie aaq:=aA (E:=aif) (ET:=aps) (EnvT.ofX (ax (ah agA (ah anN al))) am ar aO aq) apr rfl
def akn:Env:=(eZ [(154,tK),(155,aa2),(156,tO)] [274])
def asI:Hints:=(hZ [] [])
def akm:PFn:=aG (runF Tryz.prog akn asI Tryz.f86)
def axH:TH:={ loops:=[],ro:=[2,3] }
def zbg (a0:vV2) (a1:vV2):Option Int :=
(zbv a0.1 a1.1).bind fun r1 =>
(zbf a0.2.1 a1.2.1).bind fun r2 =>
(zcw ([r1,r2]:List Int)).bind fun r3 =>
 some r3
def abi:TFn:={ ps:=(.cons tT16 (.cons tT16 .unit)),res:=(.int .i64),fn:=fun v=>zbg v.1 v.2.1 }
def asH:TEnv:={ pure:=[(154,qL),(155,yc),(156,qP)],look:=[],glob:=G0T,ty:=[(3,(.int .i64))],raw:=[],fresh:=[] }
theorem asG:runY Tryz.prog akn asI asH axH Tryz.f86 abi.ps abi.res=abi.fn:=by kernel_rfl
theorem akl:aB Tryz.prog G0 86 akm:=ai (ak ⟨au,(aj pj (aj aa1 (aj pp ac))),ap,ac,an⟩ Tryz.func86 rfl (by kernel_rfl))
theorem asF:TOk akm abi:=aA (E:=akn) (ET:=asH) (EnvT.ofX (ax (ah vQ (ah ags (ah wm al)))) am ar aO aq) asG rfl
def alm:Go.Shelf.Ren:=⟨fun | 41=>159 | n=>n,fun | 22=>123 | 23=>132 | 4=>4 | n=>n,fun | n=>n⟩
theorem aeV:Go.Proofs.SlLaysE0.n41 Tryz.prog alm:={
 mixed:=by kernel_rfl
 f41:=⟨Tryz.f159.name,by decide,Tryz.func159.trans (congrArg some (by kernel_rfl))⟩
 t4:=Tryz.underlying4
 a4:=Tryz.isAgg4
 z4:=Tryz.sizeOf4
 v4:=Tryz.zeroValue4
 t22:=Tryz.underlying123
 a22:=Tryz.isAgg123
 z22:=Tryz.sizeOf123
 v22:=Tryz.zeroValue123 }
def alo:PFn:=(mT 3)
theorem aln:aB Tryz.prog G0 159 alo:=clone_lays aeV 3 ⟨Tryz.f159,Tryz.func159,rfl,by kernel_rfl⟩ (by kernel_rfl) (by kernel_rfl) (by kernel_rfl) (by kernel_rfl) (by kernel_rfl) (by decide) (fun w=>Tryz.sizeOf132 w)
def zaq (a0:List vV5):Option (List vV5):=fJ a0
def at7:TFn:=gZ tT18
theorem at6:TOk alo at7:=tg rfl rfl rfl
def ajV:Env:=(eZ [(72,abx),(159,alo)] [274])
def arZ:Hints:=(hZ [] [])
def ajU:PFn:=aG (runF Tryz.prog ajV arZ Tryz.f89)
def axv:TH:=yZ
def zbu (a0:vV2):Option vV2 :=
(zax a0.1).bind fun r1 =>
(zaq a0.2.2.1).bind fun r2 =>
 some (r1,a0.2.1,r2,a0.2.2.2.1,())
def aa3:TFn:={ ps:=(.cons tT16 .unit),res:=tT16,fn:=fun v=>zbu v.1 }
def arY:TEnv:=(vZ [(72,aeO),(159,at7)])
theorem arX:runY Tryz.prog ajV arZ arY axv Tryz.f89 aa3.ps aa3.res=aa3.fn:=by kernel_rfl
theorem ajT:aB Tryz.prog G0 89 ajU:=ai (ak ⟨au,(aj tT (aj aln ac)),ap,ac,an⟩ Tryz.func89 rfl (by kernel_rfl))
theorem arW:TOk ajU aa3:=aA (E:=ajV) (ET:=arY) (EnvT.ofX (ax (ah abw (ah at6 al))) am ar aO aq) arX rfl
def alk:Env:=(eZ [] [274])
def at5:Hints:=(hZ [(4,[0,1,12,13])] [])
def alj:PFn:=aG (runF Tryz.prog alk at5 Tryz.f161)
def ax1:TH:={ loops:=[(4,{ keep:=[(13,(.int .i64))],mem:=[] })],ro:=[] }
def wA (a0:List vV5) (a1:List vV5) (y4:(Int×Unit)):Option ((Int×Unit)⊕Bool) :=
 cond (decide (y4.1<(a0.length:Int))) (
(atI a0 y4.1).bind fun x1 =>
(atI a1 y4.1).bind fun x2 =>
 cond (!(eqV tT18 x1 x2)) (
 some (.inr false)) (
 some (.inl ((IntKind.wrap .i64 (y4.1+1)),())))) (
 some (.inr true))
def zar (a0:List vV5) (a1:List vV5):Option Bool :=
 cond (!decide ((a0.length:Int)=(a1.length:Int))) (
 some false) (
 aK (wA a0 a1) (0,()))
def abz:TFn:={ ps:=(.cons (.sl tT18) (.cons (.sl tT18) .unit)),res:=.bool,fn:=fun v=>zar v.1 v.2.1 }
def at4:TEnv:=(vZ [])
theorem at3:runY Tryz.prog alk at5 at4 ax1 Tryz.f161 abz.ps abz.res=abz.fn:=by kernel_rfl
theorem ali:aB Tryz.prog G0 161 alj:=ai (ak ⟨au,ac,ap,ac,an⟩ Tryz.func161 rfl (by kernel_rfl))
theorem at2:TOk alj abz:=aA (E:=alk) (ET:=at4) (EnvT.ofX (ax al) am ar aO aq) at3 rfl
def ahO:Env:=(eZ [(160,aem),(161,alj)] [274])
def aoS:Hints:=(hZ [] [])
def ahN:PFn:=aG (runF Tryz.prog ahO aoS Tryz.f92)
def awF:TH:={ loops:=[],cuts:=[(1,[(12,{ keep:=[(2,(.bx 0 0)),(3,(.bx 1 0)),(16,.bool)],mem:=[.same,.same] })])],ro:=[2,3],news:=[] }
def zdg (a0:vV2) (a1:vV2):Option Bool :=
(cond (decide (a0.2.1=a1.2.1)) (some ((decide (a0.2.2.2.1=a1.2.2.2.1)),())) (some (false,())):Option (Bool×Unit)).bind fun v1 =>
 cond v1.1 ((zdh a0.1 a1.1).bind fun r2 =>
 cond r2 ((zar a0.2.2.1 a1.2.2.1).bind fun r3 =>
 some r3) (some false)) (some false)
def aah:TFn:={ ps:=(.cons tT16 (.cons tT16 .unit)),res:=.bool,fn:=fun v=>zdg v.1 v.2.1 }
def aoR:TEnv:=(vZ [(160,xW),(161,abz)])
theorem aoQ:runY Tryz.prog ahO aoS aoR awF Tryz.f92 aah.ps aah.res=aah.fn:=by kernel_rfl
theorem ahM:aB Tryz.prog G0 92 ahN:=ai (ak ⟨au,(aj aag (aj ali ac)),ap,ac,an⟩ Tryz.func92 rfl (by kernel_rfl))
theorem aoP:TOk ahN aah:=aA (E:=ahO) (ET:=aoR) (EnvT.ofX (ax (ah agm (ah at2 al))) am ar aO aq) aoQ rfl
def al9:Env:=(eZ [(92,ahN)] [274])
def au3:Hints:=(hZ [(4,[1,2,15,16,17])] [])
def al8:PFn:=aG (runF Tryz.prog al9 au3 Tryz.f91)
def ayd:TH:={ loops:=[(4,{ keep:=[(17,(.int .i64))],mem:=[] })],ro:=[] }
def wE (a0:List vV2) (a1:List vV2) (y4:(Int×Unit)):Option ((Int×Unit)⊕Bool) :=
 cond (decide (y4.1<(a0.length:Int))) (
(atI a0 y4.1).bind fun x1 =>
(atI a1 y4.1).bind fun x2 =>
(zdg x1 x2).bind fun r3 =>
 cond (!r3) (
 some (.inr false)) (
 some (.inl ((IntKind.wrap .i64 (y4.1+1)),())))) (
 some (.inr true))
def zaa (a0:List vV2) (a1:List vV2) (a2:Unit):Option Bool :=
 cond (!decide ((a0.length:Int)=(a1.length:Int))) (
 some false) (
 aK (wE a0 a1) (0,()))
def abJ:TFn:={ ps:=(.cons (.sl tT16) (.cons (.sl tT16) (.cons (.fn 92) .unit))),res:=.bool,fn:=fun v=>zaa v.1 v.2.1 v.2.2.1 }
def au2:TEnv:=(vZ [(92,aah)])
theorem au1:runY Tryz.prog al9 au3 au2 ayd Tryz.f91 abJ.ps abJ.res=abJ.fn:=by kernel_rfl
theorem al7:aB Tryz.prog G0 91 al8:=ai (ak ⟨au,(aj ahM ac),ap,ac,an⟩ Tryz.func91 rfl (by kernel_rfl))
theorem au0:TOk al8 abJ:=aA (E:=al9) (ET:=au2) (EnvT.ofX (ax (ah aoP al)) am ar aO aq) au1 rfl
def ahX:Env:=(eZ [(91,al8)] [274])
def ao4:Hints:=(hZ [] [])
def ahW:PFn:=aG (runF Tryz.prog ahX ao4 Tryz.f31)
def awI:TH:=yZ
def zdd (a0:List vV2) (a1:List vV2):Option Bool :=
(zaa a0 a1 ()).bind fun r1 =>
 some r1
def aak:TFn:={ ps:=(.cons (.sl tT16) (.cons (.sl tT16) .unit)),res:=.bool,fn:=fun v=>zdd v.1 v.2.1 }
def ao3:TEnv:=(vZ [(91,abJ)])
theorem ao2:runY Tryz.prog ahX ao4 ao3 awI Tryz.f31 aak.ps aak.res=aak.fn:=by kernel_rfl
theorem ahV:aB Tryz.prog G0 31 ahW:=ai (ak ⟨au,(aj al7 ac),ap,ac,an⟩ Tryz.func31 rfl (by kernel_rfl))
theorem ao1:TOk ahW aak:=aA (E:=ahX) (ET:=ao3) (EnvT.ofX (ax (ah au0 al)) am ar aO aq) ao2 rfl
def ai6:Env:=(eZ [(31,ahW)] [274])
def aqM:Hints:=(hZ [] [])
def ai5:PFn:=aG (runF Tryz.prog ai6 aqM Tryz.f87)
def axa:TH:={ loops:=[],ro:=[2,3] }
def zce (a0:vV2) (a1:vV2):Option Bool :=
(zdd ([a0]:List vV2) ([a1]:List vV2)).bind fun r1 =>
 some r1
def aaI:TFn:={ ps:=(.cons tT16 (.cons tT16 .unit)),res:=.bool,fn:=fun v=>zce v.1 v.2.1 }
def aqL:TEnv:={ pure:=[(31,aak)],look:=[],glob:=G0T,ty:=[(125,tT16)],raw:=[],fresh:=[] }
theorem aqK:runY Tryz.prog ai6 aqM aqL axa Tryz.f87 aaI.ps aaI.res=aaI.fn:=by kernel_rfl
theorem ai4:aB Tryz.prog G0 87 ai5:=ai (ak ⟨au,(aj ahV ac),ap,ac,an⟩ Tryz.func87 rfl (by kernel_rfl))
theorem aqJ:TOk ai5 aaI:=aA (E:=ai6) (ET:=aqL) (EnvT.ofX (ax (ah ao1 al)) am ar aO aq) aqK rfl
def aiG:Env:=(eZ [(86,akm),(87,ai5),(89,ajU)] [274])
def ap7:Hints:=(hZ [(2,[0,1,5])] [41,45,60,73])
def aiF:PFn:=aG (runF Tryz.prog aiG ap7 Tryz.f76)
def awZ:TH:={ joins:=[(3,{ keep:=[(5,(.own 0))],mem:=[.row true 127 tT24] }),(11,{ keep:=[(5,(.own 0)),(6,(.int .i64))],mem:=[.row true 127 tT24] }),(10,{ keep:=[(5,(.own 0))],mem:=[.row true 127 tT24] })],loops:=[(2,{ keep:=[(0,(.sl tT16)),(1,(.sl tT16)),(5,(.own 0))],mem:=[.row true 127 tT24] })],ro:=[] }
def iO (y2:(List vV2×List vV2×List vV9×Unit)):Option ((List vV2×List vV2×List vV9×Unit)⊕List vV9) :=
(cond (decide ((y2.1.length:Int)>0)) (some (.inl (y2.2.2.1,()))) (cond (decide ((y2.2.1.length:Int)>0)) (
 some (.inl (y2.2.2.1,()))) (
 some (.inr (.inr y2.2.2.1)))):Option ((List vV9×Unit)⊕((List vV2×List vV2×List vV9×Unit)⊕List vV9))).bind (bd fun v1 =>
(cond (decide ((y2.2.1.length:Int)=0)) (
 some (.inl ((-1),v1.1,()))) (
 cond (decide ((y2.1.length:Int)>0)) (
(atI y2.1 0).bind fun x2 =>
(atI y2.2.1 0).bind fun x3 =>
(zbg x2 x3).bind fun r4 =>
 some (.inl (r4,v1.1,()))) (
 some (.inl (1,v1.1,())))):Option ((Int×List vV9×Unit)⊕((List vV2×List vV2×List vV9×Unit)⊕List vV9))).bind (bd fun v5 =>
 cond (decide (v5.1<0)) (
(atI y2.1 0).bind fun x6 =>
(zbu x6).bind fun r7 =>
(bT (v5.2.1.length+([(2,r7,([],0,[],0,()),())]:List vV9).length)).bind fun u8 =>
(subI y2.1 1 (y2.1.length:Int)).bind fun s9 =>
 some (.inl (s9,y2.2.1,(v5.2.1++([(2,r7,([],0,[],0,()),())]:List vV9)),()))) (
 cond (decide (v5.1>0)) (
(atI y2.2.1 0).bind fun x10 =>
(zbu x10).bind fun r11 =>
(bT (v5.2.1.length+([(1,([],0,[],0,()),r11,())]:List vV9).length)).bind fun u12 =>
(subI y2.2.1 1 (y2.2.1.length:Int)).bind fun s13 =>
 some (.inl (y2.1,s13,(v5.2.1++([(1,([],0,[],0,()),r11,())]:List vV9)),()))) (
((atI y2.1 0).bind fun x14 =>
(atI y2.2.1 0).bind fun x15 =>
(zce x14 x15).bind fun r16 =>
 cond (!r16) (
(atI y2.1 0).bind fun x17 =>
(zbu x17).bind fun r18 =>
(atI y2.2.1 0).bind fun x19 =>
(zbu x19).bind fun r20 =>
(bT (v5.2.1.length+([(3,r18,r20,())]:List vV9).length)).bind fun u21 =>
 some (.inl ((v5.2.1++([(3,r18,r20,())]:List vV9)),()))) (
 some (.inl (v5.2.1,()))):Option ((List vV9×Unit)⊕((List vV2×List vV2×List vV9×Unit)⊕List vV9))).bind (bd fun v22 =>
(subI y2.1 1 (y2.1.length:Int)).bind fun s23 =>
(subI y2.2.1 1 (y2.2.1.length:Int)).bind fun s24 =>
 some (.inl (s23,s24,v22.1,())))))))
def zcp (a0:List vV2) (a1:List vV2):Option (List vV9) :=
 aK (iO) (a0,a1,[],())
def aaz:TFn:={ ps:=(.cons (.sl tT16) (.cons (.sl tT16) .unit)),res:=(.sl tT24),fn:=fun v=>zcp v.1 v.2.1 }
def ap6:TEnv:={ pure:=[(86,abi),(87,aaI),(89,aa3)],look:=[],glob:=G0T,ty:=[(127,tT24)],raw:=[],fresh:=[] }
theorem ap5:runY Tryz.prog aiG ap7 ap6 awZ Tryz.f76 aaz.ps aaz.res=aaz.fn:=by kernel_rfl
theorem aiE:aB Tryz.prog G0 76 aiF:=ai (ak ⟨au,(aj akl (aj ai4 (aj ajT ac))),ap,ac,an⟩ Tryz.func76 rfl (by kernel_rfl))
theorem ap4:TOk aiF aaz:=aA (E:=aiG) (ET:=ap6) (EnvT.ofX (ax (ah asF (ah aqJ (ah arW al)))) am ar aO aq) ap5 rfl
def ail:Env:=(eZ [(46,ajN),(50,aes),(68,aie),(76,aiF),(130,aj8)] [274])
def apB:Hints:=(hZ [] [])
def aik:PFn:=aG (runF Tryz.prog ail apB Tryz.f59)
def awQ:TH:={ loops:=[],ro:=[3,4] }
def zcy (a0:vV1) (a1:(Int×Int×Unit)) (a2:Bool):Option (List vV9×Int×Unit) :=
(zbx a0 a1 a2).bind fun r1 =>
 cond (!decide (r1=0)) (
 some ([],r1,())) (
(zbn a0 a1).bind fun r2 =>
 cond (!decide (r2.2.1=0)) (
 some ([],r2.2.1,())) (
(zci a0).bind fun r3 =>
(zd0 r3).bind fun r4 =>
(zci r2.1).bind fun r5 =>
(zd0 r5).bind fun r6 =>
(zcp r4 r6).bind fun r7 =>
 some (r7,0,())))
def aas:TFn:={ ps:=(.cons tT13 (.cons tT15 (.cons .bool .unit))),res:=(.tup (.cons (.sl tT24) tT20)),fn:=fun v=>zcy v.1 v.2.1 v.2.2.1 }
def apA:TEnv:=(vZ [(46,aaZ),(50,xZ),(68,aaq),(76,aaz),(130,abb)])
theorem apz:runY Tryz.prog ail apB apA awQ Tryz.f59 aas.ps aas.res=aas.fn:=by kernel_rfl
theorem aij:aB Tryz.prog G0 59 aik:=ai (ak ⟨au,(aj ajM (aj aaF (aj aid (aj aiE (aj aj7 ac))))),ap,ac,an⟩ Tryz.func59 rfl (by kernel_rfl))
theorem apy:TOk aik aas:=aA (E:=ail) (ET:=apA) (EnvT.ofX (ax (ah arL (ah agp (ah apq (ah ap4 (ah asg al)))))) am ar aO aq) apz rfl
def axe:Env:=(eZ [] [274])
def axd:Hints:=(hZ [] [])
def ajc:PFn:=aG (runF Tryz.prog axe axd Tryz.f275)
theorem ajb:aB Tryz.prog G0 275 ajc:=ai (ak ⟨au,ac,ap,ac,an⟩ Tryz.func275 rfl (by kernel_rfl))
def amp:Env:=(eZ [] [274])
def avx:Hints:=(hZ [] [6,9,11,19])
def abQ:SFn:=runF Tryz.prog amp avx Tryz.f209
def ayl:TH:=yZ
def za2 (w0:vV12) (w1:List Int):Option (Unit×vV12×List Int×Unit) :=
 cond (!w0.1) (
 some ((),(true,w0.2.1,()),w1,())) (
 cond (!w0.1) (
 none) (
 some ((),w0,w1,())))
def py:TRaw:={ ps:=(.cons (.bx 0 0) .unit),ins:=[.box 216 tT25,.row true 5 (.int .u8)],res:=(.tup .unit),outs:=[.box 216 tT25,.row true 5 (.int .u8)],fn:=fun v w=>za2 w.1 w.2.1 }
def avw:TEnv:=(vZ [])
theorem avv:rawY Tryz.prog amp avx avw ayl [(0,0)] Tryz.f209 py.ps py.ins py.res py.outs=py.fn:=by kernel_rfl
theorem tX:bO Tryz.prog G0 209 abQ:=ak ⟨au,ac,ap,ac,an⟩ Tryz.func209 rfl (by kernel_rfl)
theorem abP:TRawOk abQ py:=iB (E:=amp) (ET:=avw) (EnvT.ofX (ax al) am ar aO aq) avv
def amq:Env:={ pure:=[],raw:=[(209,abQ)],glob:=G0,same:=[274],look:=[],ext:=[] }
def avA:Hints:=(hZ [] [])
def ae4:SFn:=runF Tryz.prog amq avA Tryz.f323
def aym:TH:=yZ
def za1 (a1:Int) (w0:vV12) (w1:List Int):Option (Bool×vV12×List Int×Unit) :=
(za2 w0 w1).bind fun q1 =>
(bT (q1.2.2.1.length+([a1]:List Int).length)).bind fun u2 =>
 some (false,(q1.2.1.1,(),()),(q1.2.2.1++([a1]:List Int)),())
def qV:TRaw:={ ps:=(.cons (.bx 0 0) (.cons (.int .u8) .unit)),ins:=[.box 216 tT25,.row true 5 (.int .u8)],res:=.err,outs:=[.box 216 tT25,.row true 5 (.int .u8)],fn:=fun v w=>za1 v.2.1 w.1 w.2.1 }
def avz:TEnv:={ pure:=[],look:=[],glob:=G0T,ty:=[(5,(.int .u8))],raw:=[(209,py)],fresh:=[] }
theorem avy:rawY Tryz.prog amq avA avz aym [(0,0)] Tryz.f323 qV.ps qV.ins qV.res qV.outs=qV.fn:=by kernel_rfl
theorem abR:bO Tryz.prog G0 323 ae4:=ak ⟨au,ac,(bf tX ap),ac,an⟩ Tryz.func323 rfl (by kernel_rfl)
theorem agD:TRawOk ae4 qV:=iB (E:=amq) (ET:=avz) (EnvT.ofX (ax al) am (bt abP rfl rfl ar) aO aq) avy
def amo:Env:=(eZ [] [274])
def avu:Hints:=(hZ [] [])
def amn:SFn:=runF Tryz.prog amo avu Tryz.f369
def ayk:TH:={ joins:=[(7,{ keep:=[(0,(.own 0)),(25,.bool)],mem:=[.row true 5 (.int .u8)] })],loops:=[],cuts:=[(6,[(6,{ keep:=[(0,(.own 0)),(33,.bool)],mem:=[.row true 5 (.int .u8)] })])],ro:=[],news:=[] }
def za3 (a1:Int) (w0:List Int):Option (Unit×List Int×Unit) :=
 cond (decide ((IntKind.wrap .u32 a1)≤2047)) (
(shrT .i32 a1 6).bind fun t1 =>
(bT (w0.length+([(IntKind.wrap .u8 ((BitVec.ofInt (IntKind.bits .u8) 192 ||| BitVec.ofInt (IntKind.bits .u8) (IntKind.wrap .u8 t1)).toNat)),(IntKind.wrap .u8 ((BitVec.ofInt (IntKind.bits .u8) 128 ||| BitVec.ofInt (IntKind.bits .u8) (IntKind.wrap .u8 ((BitVec.ofInt (IntKind.bits .u8) (IntKind.wrap .u8 a1) &&& BitVec.ofInt (IntKind.bits .u8) 63).toNat))).toNat))]:List Int).length)).bind fun u2 =>
 some ((),(w0++([(IntKind.wrap .u8 ((BitVec.ofInt (IntKind.bits .u8) 192 ||| BitVec.ofInt (IntKind.bits .u8) (IntKind.wrap .u8 t1)).toNat)),(IntKind.wrap .u8 ((BitVec.ofInt (IntKind.bits .u8) 128 ||| BitVec.ofInt (IntKind.bits .u8) (IntKind.wrap .u8 ((BitVec.ofInt (IntKind.bits .u8) (IntKind.wrap .u8 a1) &&& BitVec.ofInt (IntKind.bits .u8) 63).toNat))).toNat))]:List Int)),())) (
(cond (decide ((IntKind.wrap .u32 a1)<55296)) (
 some (.inl ((decide ((IntKind.wrap .u32 a1)<55296)),w0,()))) (
(cond (decide (57343<(IntKind.wrap .u32 a1))) (some ((decide ((IntKind.wrap .u32 a1)≤65535)),w0,())) (some (false,w0,())):Option (Bool×List Int×Unit)).bind fun v3 =>
 some (.inl (v3.1,v3.2.1,()))):Option ((Bool×List Int×Unit)⊕(Unit×List Int×Unit))).bind (bd fun v4 =>
 cond v4.1 (
(shrT .i32 a1 12).bind fun t5 =>
(shrT .i32 a1 6).bind fun t6 =>
(bT (v4.2.1.length+([(IntKind.wrap .u8 ((BitVec.ofInt (IntKind.bits .u8) 224 ||| BitVec.ofInt (IntKind.bits .u8) (IntKind.wrap .u8 t5)).toNat)),(IntKind.wrap .u8 ((BitVec.ofInt (IntKind.bits .u8) 128 ||| BitVec.ofInt (IntKind.bits .u8) (IntKind.wrap .u8 ((BitVec.ofInt (IntKind.bits .u8) (IntKind.wrap .u8 t6) &&& BitVec.ofInt (IntKind.bits .u8) 63).toNat))).toNat)),(IntKind.wrap .u8 ((BitVec.ofInt (IntKind.bits .u8) 128 ||| BitVec.ofInt (IntKind.bits .u8) (IntKind.wrap .u8 ((BitVec.ofInt (IntKind.bits .u8) (IntKind.wrap .u8 a1) &&& BitVec.ofInt (IntKind.bits .u8) 63).toNat))).toNat))]:List Int).length)).bind fun u7 =>
 some ((),(v4.2.1++([(IntKind.wrap .u8 ((BitVec.ofInt (IntKind.bits .u8) 224 ||| BitVec.ofInt (IntKind.bits .u8) (IntKind.wrap .u8 t5)).toNat)),(IntKind.wrap .u8 ((BitVec.ofInt (IntKind.bits .u8) 128 ||| BitVec.ofInt (IntKind.bits .u8) (IntKind.wrap .u8 ((BitVec.ofInt (IntKind.bits .u8) (IntKind.wrap .u8 t6) &&& BitVec.ofInt (IntKind.bits .u8) 63).toNat))).toNat)),(IntKind.wrap .u8 ((BitVec.ofInt (IntKind.bits .u8) 128 ||| BitVec.ofInt (IntKind.bits .u8) (IntKind.wrap .u8 ((BitVec.ofInt (IntKind.bits .u8) (IntKind.wrap .u8 a1) &&& BitVec.ofInt (IntKind.bits .u8) 63).toNat))).toNat))]:List Int)),())) (
 cond (decide ((IntKind.wrap .u32 a1)>65535)) (cond (decide ((IntKind.wrap .u32 a1)≤1114111)) (
(shrT .i32 a1 18).bind fun t8 =>
(shrT .i32 a1 12).bind fun t9 =>
(shrT .i32 a1 6).bind fun t10 =>
(bT (v4.2.1.length+([(IntKind.wrap .u8 ((BitVec.ofInt (IntKind.bits .u8) 240 ||| BitVec.ofInt (IntKind.bits .u8) (IntKind.wrap .u8 t8)).toNat)),(IntKind.wrap .u8 ((BitVec.ofInt (IntKind.bits .u8) 128 ||| BitVec.ofInt (IntKind.bits .u8) (IntKind.wrap .u8 ((BitVec.ofInt (IntKind.bits .u8) (IntKind.wrap .u8 t9) &&& BitVec.ofInt (IntKind.bits .u8) 63).toNat))).toNat)),(IntKind.wrap .u8 ((BitVec.ofInt (IntKind.bits .u8) 128 ||| BitVec.ofInt (IntKind.bits .u8) (IntKind.wrap .u8 ((BitVec.ofInt (IntKind.bits .u8) (IntKind.wrap .u8 t10) &&& BitVec.ofInt (IntKind.bits .u8) 63).toNat))).toNat)),(IntKind.wrap .u8 ((BitVec.ofInt (IntKind.bits .u8) 128 ||| BitVec.ofInt (IntKind.bits .u8) (IntKind.wrap .u8 ((BitVec.ofInt (IntKind.bits .u8) (IntKind.wrap .u8 a1) &&& BitVec.ofInt (IntKind.bits .u8) 63).toNat))).toNat))]:List Int).length)).bind fun u11 =>
 some ((),(v4.2.1++([(IntKind.wrap .u8 ((BitVec.ofInt (IntKind.bits .u8) 240 ||| BitVec.ofInt (IntKind.bits .u8) (IntKind.wrap .u8 t8)).toNat)),(IntKind.wrap .u8 ((BitVec.ofInt (IntKind.bits .u8) 128 ||| BitVec.ofInt (IntKind.bits .u8) (IntKind.wrap .u8 ((BitVec.ofInt (IntKind.bits .u8) (IntKind.wrap .u8 t9) &&& BitVec.ofInt (IntKind.bits .u8) 63).toNat))).toNat)),(IntKind.wrap .u8 ((BitVec.ofInt (IntKind.bits .u8) 128 ||| BitVec.ofInt (IntKind.bits .u8) (IntKind.wrap .u8 ((BitVec.ofInt (IntKind.bits .u8) (IntKind.wrap .u8 t10) &&& BitVec.ofInt (IntKind.bits .u8) 63).toNat))).toNat)),(IntKind.wrap .u8 ((BitVec.ofInt (IntKind.bits .u8) 128 ||| BitVec.ofInt (IntKind.bits .u8) (IntKind.wrap .u8 ((BitVec.ofInt (IntKind.bits .u8) (IntKind.wrap .u8 a1) &&& BitVec.ofInt (IntKind.bits .u8) 63).toNat))).toNat))]:List Int)),())) (
(bT (v4.2.1.length+([239,191,189]:List Int).length)).bind fun u12 =>
 some ((),(v4.2.1++([239,191,189]:List Int)),()))) ((bT (v4.2.1.length+([239,191,189]:List Int).length)).bind fun u13 =>
 some ((),(v4.2.1++([239,191,189]:List Int)),())))))
def tW:TRaw:={ ps:=(.cons (.own 0) (.cons (.int .i32) .unit)),ins:=[.row true 5 (.int .u8)],res:=(.own 0),outs:=[.row true 5 (.int .u8)],fn:=fun v w=>za3 v.2.1 w.1 }
def avt:TEnv:={ pure:=[],look:=[],glob:=G0T,ty:=[(5,(.int .u8))],raw:=[],fresh:=[] }
theorem avs:rawY Tryz.prog amo avu avt ayk [] Tryz.f369 tW.ps tW.ins tW.res tW.outs=tW.fn:=by kernel_rfl
theorem amm:bO Tryz.prog G0 369 amn:=ak ⟨au,ac,ap,ac,an⟩ Tryz.func369 rfl (by kernel_rfl)
theorem avr:TRawOk amn tW:=iB (E:=amo) (ET:=avt) (EnvT.ofX (ax al) am ar aO aq) avs
def akr:Env:={ pure:=[],raw:=[(369,amn)],glob:=G0,same:=[274],look:=[],ext:=[] }
def asP:Hints:=(hZ [] [])
def akq:SFn:=runF Tryz.prog akr asP Tryz.f353
def axJ:TH:=yZ
def zbe (a1:Int) (w0:List Int):Option (Unit×List Int×Unit) :=
 cond (decide ((IntKind.wrap .u32 a1)≤127)) (
(bT (w0.length+([(IntKind.wrap .u8 a1)]:List Int).length)).bind fun u1 =>
 some ((),(w0++([(IntKind.wrap .u8 a1)]:List Int)),())) (
(za3 a1 w0).bind fun q2 =>
 some (q2.1,q2.2.1,()))
def tP:TRaw:={ ps:=(.cons (.own 0) (.cons (.int .i32) .unit)),ins:=[.row true 5 (.int .u8)],res:=(.own 0),outs:=[.row true 5 (.int .u8)],fn:=fun v w=>zbe v.2.1 w.1 }
def asO:TEnv:={ pure:=[],look:=[],glob:=G0T,ty:=[(5,(.int .u8))],raw:=[(369,tW)],fresh:=[] }
theorem asN:rawY Tryz.prog akr asP asO axJ [] Tryz.f353 tP.ps tP.ins tP.res tP.outs=tP.fn:=by kernel_rfl
theorem akp:bO Tryz.prog G0 353 akq:=ak ⟨au,ac,(bf amm ap),ac,an⟩ Tryz.func353 rfl (by kernel_rfl)
theorem asM:TRawOk akq tP:=iB (E:=akr) (ET:=asO) (EnvT.ofX (ax al) am (bt avr rfl rfl ar) aO aq) asN
def amt:Env:={ pure:=[],raw:=[(209,abQ),(353,akq)],glob:=G0,same:=[274],look:=[],ext:=[] }
def avE:Hints:=(hZ [] [])
def ams:SFn:=runF Tryz.prog amt avE Tryz.f324
def ayn:TH:=yZ
def za0 (a1:Int) (w0:vV12) (w1:List Int):Option ((Int×Bool×Unit)×vV12×List Int×Unit) :=
(za2 w0 w1).bind fun q1 =>
(zbe a1 q1.2.2.1).bind fun q2 =>
 some (((IntKind.wrap .i64 ((q2.2.1.length:Int)-(q1.2.2.1.length:Int))),false,()),(q1.2.1.1,q2.1,()),q2.2.1,())
def tY:TRaw:={ ps:=(.cons (.bx 0 0) (.cons (.int .i32) .unit)),ins:=[.box 216 tT25,.row true 5 (.int .u8)],res:=(.tup (.cons (.int .i64) (.cons .err .unit))),outs:=[.box 216 tT25,.row true 5 (.int .u8)],fn:=fun v w=>za0 v.2.1 w.1 w.2.1 }
def avD:TEnv:={ pure:=[],look:=[],glob:=G0T,ty:=[],raw:=[(209,py),(353,tP)],fresh:=[] }
theorem avC:rawY Tryz.prog amt avE avD ayn [(0,0)] Tryz.f324 tY.ps tY.ins tY.res tY.outs=tY.fn:=by kernel_rfl
theorem amr:bO Tryz.prog G0 324 ams:=ak ⟨au,ac,(bf tX (bf akp ap)),ac,an⟩ Tryz.func324 rfl (by kernel_rfl)
theorem avB:TRawOk ams tY:=iB (E:=amt) (ET:=avD) (EnvT.ofX (ax al) am (bt abP rfl rfl (bt asM rfl rfl ar)) aO aq) avC
def aml:Env:=(eZ [] [274])
def avq:Hints:=(hZ [] [])
def abO:SFn:=runF Tryz.prog aml avq Tryz.f140
def ayj:TH:=yZ
def za4 (w0:vV12) (w1:List Int):Option (List UInt8×vV12×Unit) :=
 cond w1.isEmpty ((ag4 (w1.length:Int)).bind fun u1 =>
 some ([],w0,())) ((qX 0 w1.length (w1.length:Int)).bind fun u2 =>
 some ((w1.map fun n=>UInt8.ofNat n.toNat),w0,()))
def px:TRaw:={ ps:=(.cons (.bx 0 0) .unit),ins:=[.box 216 tT25,.row true 5 (.int .u8)],res:=.str,outs:=[.box 216 tT25,.gone],fn:=fun v w=>za4 w.1 w.2.1 }
def avp:TEnv:=(vZ [])
theorem avo:rawY Tryz.prog aml avq avp ayj [(0,0)] Tryz.f140 px.ps px.ins px.res px.outs=px.fn:=by kernel_rfl
theorem tV:bO Tryz.prog G0 140 abO:=ak ⟨au,ac,ap,ac,an⟩ Tryz.func140 rfl (by kernel_rfl)
theorem abN:TRawOk abO px:=iB (E:=aml) (ET:=avp) (EnvT.ofX (ax al) am ar aO aq) avo
def ai0:Env:={ pure:=[],raw:=[(140,abO),(323,ae4),(324,ams)],glob:=G0,same:=[274],look:=[],ext:=[] }
def aqE:Hints:=(hZ [(4,[3,8])] [])
def aeu:PFn:=aG (runF Tryz.prog ai0 aqE Tryz.f276)
def aw8:TH:={ loops:=[(4,{ keep:=[(3,(.bx 1 0)),(8,(.it 2))],mem:=[.row true 5 (.int .u8),.box 216 tT27,.iter] })],cuts:=[],ro:=[],news:=[(3,(tT27,[(5,(.int .u8))]))] }
def nK (a0:List UInt8) (y4:(List Int×vV12×Nat×Unit)):Option ((List Int×vV12×Nat×Unit)⊕List UInt8) :=
 cond (decide (y4.2.2.1<a0.length)) (cond (decide (((Utf8.decode ⟨a0.toArray⟩ y4.2.2.1).1:Int)=34)) ((za1 92 (y4.2.1.1,(),()) y4.1).bind fun q2 =>
(za0 ((Utf8.decode ⟨a0.toArray⟩ y4.2.2.1).1:Int) (q2.2.1.1,(),()) q2.2.2.1).bind fun q3 =>
 some (.inl (q3.2.2.1,q3.2.1,(y4.2.2.1+(Utf8.decode ⟨a0.toArray⟩ y4.2.2.1).2),()))) (cond (decide (((Utf8.decode ⟨a0.toArray⟩ y4.2.2.1).1:Int)=92)) (
(za1 92 (y4.2.1.1,(),()) y4.1).bind fun q4 =>
(za0 ((Utf8.decode ⟨a0.toArray⟩ y4.2.2.1).1:Int) (q4.2.1.1,(),()) q4.2.2.1).bind fun q5 =>
 some (.inl (q5.2.2.1,q5.2.1,(y4.2.2.1+(Utf8.decode ⟨a0.toArray⟩ y4.2.2.1).2),()))) (
(za0 ((Utf8.decode ⟨a0.toArray⟩ y4.2.2.1).1:Int) (y4.2.1.1,(),()) y4.1).bind fun q6 =>
 some (.inl (q6.2.2.1,q6.2.1,(y4.2.2.1+(Utf8.decode ⟨a0.toArray⟩ y4.2.2.1).2),()))))) (((za1 34 (y4.2.1.1,(),()) y4.1).bind fun q7 =>
(za4 (q7.2.1.1,(),()) q7.2.2.1).bind fun q8 =>
 some q8.1).map .inr)
def zcg (a0:List UInt8):Option (List UInt8) :=
(za1 34 (false,(),()) []).bind fun q1 =>
 aK (nK a0) (q1.2.2.1,q1.2.1,0,())
def aet:TFn:={ ps:=(.cons .str .unit),res:=.str,fn:=fun v=>zcg v.1 }
def aqD:TEnv:={ pure:=[],look:=[],glob:=G0T,ty:=[],raw:=[(140,px),(323,qV),(324,tY)],fresh:=[] }
theorem aqC:runY Tryz.prog ai0 aqE aqD aw8 Tryz.f276 aet.ps aet.res=aet.fn:=by kernel_rfl
theorem aiZ:aB Tryz.prog G0 276 aeu:=ai (ak ⟨au,ac,(bf tV (bf abR (bf amr ap))),ac,an⟩ Tryz.func276 rfl (by kernel_rfl))
theorem aqB:TOk aeu aet:=aA (E:=ai0) (ET:=aqD) (EnvT.ofX (ax al) am (bt abN rfl rfl (bt agD rfl rfl (bt avB rfl rfl ar))) aO aq) aqC rfl
def amk:Env:=(eZ [] [274])
def avn:Hints:=(hZ [] [])
def amj:PFn:=aG (runF Tryz.prog amk avn Tryz.f325)
def ayi:TH:=yZ
def za5 (a0:Bool):Option (List UInt8) :=
 cond a0 (
 some [116,114,117,101]) (
 some [102,97,108,115,101])
def abM:TFn:={ ps:=(.cons .bool .unit),res:=.str,fn:=fun v=>za5 v.1 }
def avm:TEnv:=(vZ [])
theorem avl:runY Tryz.prog amk avn avm ayi Tryz.f325 abM.ps abM.res=abM.fn:=by kernel_rfl
theorem ami:aB Tryz.prog G0 325 amj:=ai (ak ⟨au,ac,ap,ac,an⟩ Tryz.func325 rfl (by kernel_rfl))
theorem avk:TOk amj abM:=aA (E:=amk) (ET:=avm) (EnvT.ofX (ax al) am ar aO aq) avl rfl
def ame:Env:=(eZ [(325,amj)] [274])
def avf:Hints:=(hZ [] [])
def ae3:PFn:=aG (runF Tryz.prog ame avf Tryz.f277)
def ayg:TH:=yZ
def za7 (a0:Bool):Option (List UInt8) :=
(za5 a0).bind fun r1 =>
 some r1
def ae2:TFn:={ ps:=(.cons .bool .unit),res:=.str,fn:=fun v=>za7 v.1 }
def ave:TEnv:=(vZ [(325,abM)])
theorem avd:runY Tryz.prog ame avf ave ayg Tryz.f277 ae2.ps ae2.res=ae2.fn:=by kernel_rfl
theorem amd:aB Tryz.prog G0 277 ae3:=ai (ak ⟨au,(aj ami ac),ap,ac,an⟩ Tryz.func277 rfl (by kernel_rfl))
theorem avc:TOk ae3 ae2:=aA (E:=ame) (ET:=ave) (EnvT.ofX (ax (ah avk al)) am ar aO aq) avd rfl
def aa9:PFn:=afS
theorem aa8:aB Tryz.prog G0 213 aa9:=zh (g:=3) ⟨Tryz.f213,Tryz.func213,rfl,by kernel_rfl⟩ (by kernel_rfl) (by kernel_rfl) Tryz.strconv_Itoa
def zbp (a0:Int):Option (List UInt8):=itoa a0
def asb:TFn:=xd
theorem agv:TOk aa9 asb:=amY
def awW:Env:=(eZ [(275,ajc),(276,aeu),(277,ae3),(213,aa9)] [274])
def apW:Hints:=(hZ [] [])
def aeo:PFn:=aG (runF Tryz.prog awW apW Tryz.f210)
theorem aiz:aB Tryz.prog G0 210 aeo:=ai (ak ⟨au,(aj ajb (aj aiZ (aj amd (aj aa8 ac)))),ap,ac,an⟩ Tryz.func210 rfl (by kernel_rfl))
def co (Fq Fb Fs:PFn):PFn:=aG (runF Tryz.prog (eZ [(275,ajc),(276,Fq),(277,Fb),(213,Fs)] [274]) apW Tryz.f210)
theorem lE:aeo=co aeu ae3 aa9:=rfl
theorem re (Fq Fb Fs:PFn) (n:Int) (s:List UInt8):co Fq Fb Fs [.agg [.int .i64 2,.int .i64 n,.str s]]=((Fq [.str s]).bind fun t=>some (t,[AReg.row 132 3 [.agg [.int .i64 2,.int .i64 n,.str s]]])).bind fun p=>bY p.2 p.1:=by kernel_rfl
theorem rd (Fq Fb Fs:PFn) (n:Int) (s:List UInt8):co Fq Fb Fs [.agg [.int .i64 3,.int .i64 n,.str s]]=((Fb [.bool (n==1)]).bind fun t=>some (t,[AReg.row 132 3 [.agg [.int .i64 3,.int .i64 n,.str s]]])).bind fun p=>bY p.2 p.1:=by kernel_rfl
theorem rg (Fq Fb Fs:PFn) (n:Int) (s:List UInt8):co Fq Fb Fs [.agg [.int .i64 (Int.ofNat 0),.int .i64 n,.str s]]=((Fs [.int .i64 n]).bind fun t=>some (t,[AReg.row 132 3 [.agg [.int .i64 (Int.ofNat 0),.int .i64 n,.str s]]])).bind fun p=>bY p.2 p.1:=by kernel_rfl
theorem rf (Fq Fb Fs:PFn) (n:Int) (s:List UInt8):co Fq Fb Fs [.agg [.int .i64 (Int.ofNat 1),.int .i64 n,.str s]]=((Fs [.int .i64 n]).bind fun t=>some (t,[AReg.row 132 3 [.agg [.int .i64 (Int.ofNat 1),.int .i64 n,.str s]]])).bind fun p=>bY p.2 p.1:=by kernel_rfl
theorem rc (Fq Fb Fs:PFn) (k:Nat) (n:Int) (s:List UInt8):co Fq Fb Fs [.agg [.int .i64 (Int.ofNat (k+4)),.int .i64 n,.str s]]=((Fs [.int .i64 n]).bind fun t=>some (t,[AReg.row 132 3 [.agg [.int .i64 (Int.ofNat (k+4)),.int .i64 n,.str s]]])).bind fun p=>bY p.2 p.1:=by kernel_rfl
theorem q9 (Fq Fb Fs:PFn) (k:Nat) (n:Int) (s:List UInt8):co Fq Fb Fs [.agg [.int .i64 (Int.negSucc k),.int .i64 n,.str s]]=((Fs [.int .i64 n]).bind fun t=>some (t,[AReg.row 132 3 [.agg [.int .i64 (Int.negSucc k),.int .i64 n,.str s]]])).bind fun p=>bY p.2 p.1:=by kernel_rfl
theorem qZ (Fq Fb Fs:PFn) (k n:Int) (s:List UInt8) (h2:k≠2) (h3:k≠3):co Fq Fb Fs [.agg [.int .i64 k,.int .i64 n,.str s]]=((Fs [.int .i64 n]).bind fun t=>some (t,[AReg.row 132 3 [.agg [.int .i64 k,.int .i64 n,.str s]]])).bind fun p=>bY p.2 p.1:=by
 match k,h2,h3 with
 | .ofNat 0,_,_=>exact rg Fq Fb Fs n s
 | .ofNat 1,_,_=>exact rf Fq Fb Fs n s
 | .ofNat 2,h,_=>exact absurd rfl h
 | .ofNat 3,_,h=>exact absurd rfl h
 | .ofNat (k+4),_,_=>exact rc Fq Fb Fs k n s
 | .negSucc k,_,_=>exact q9 Fq Fb Fs k n s
def zcs (a0:Int×Int×List UInt8×Unit):Option (List UInt8):=if a0.1=2 then zcg a0.2.2.1 else if a0.1=3 then za7 (a0.2.1==1) else zbp a0.2.1
def aen:TFn:={ ps:=.cons tT18 .unit,res:=.str,fn:=fun v=>zcs v.1 }
theorem apV:TOk aeo aen:=⟨rfl,rfl,rfl,fun v r xs hr hps=>by
 obtain ⟨⟨k,n,s,⟨⟩⟩,⟨⟩⟩:=v
 simp only[R,aen] at hps
 obtain ⟨l1,l2,rfl,⟨cs,rfl,a1,a2,rfl,rfl,a3,a4,rfl,rfl,a5,a6,rfl,rfl,rfl⟩,rfl⟩:=hps
 rw[lE]
 simp only[aen,zcs] at hr
 have done:∀ {o:Option AVal}{t:List UInt8}{st:az},o=some (.str t)→((o.bind fun t=>some (t,st)).bind fun p=>bY p.2 p.1)=some (.str t):=fun h=>by rw[h]; rfl
 simp only[List.cons_append,List.nil_append,List.append_nil]
 split at hr
 · rename_i h; subst h
   obtain ⟨a,h1,h2⟩:=aqB.run (s,()) r [.str s] hr ⟨[.str s],[],rfl,rfl,rfl⟩
   have h2:=agj h2; subst h2
   exact ⟨_,(re _ _ _ n s).trans (done h1),rfl⟩
 · split at hr
   · rename_i h; subst h
     obtain ⟨a,h1,h2⟩:=avc.run ((n==1),()) r [.bool (n==1)] hr ⟨[.bool (n==1)],[],rfl,rfl,rfl⟩
     have h2:=agj h2; subst h2
     exact ⟨_,(rd _ _ _ n s).trans (done h1),rfl⟩
   · rename_i h g
     obtain ⟨a,h1,h2⟩:=agv.run (n,()) r [.int .i64 n] hr ⟨[.int .i64 n],[],rfl,rfl,rfl⟩
     have h2:=agj h2; subst h2
     exact ⟨_,(qZ _ _ _ k n s h g).trans (done h1),rfl⟩⟩
def aey:PFn:=adh
theorem aa4:aB Tryz.prog G0 211 aey:=ze ⟨Tryz.f211,Tryz.func211,rfl,by kernel_rfl⟩ Tryz.strings_Join_none Tryz.strings_Join
def zbt (a0:List (List UInt8)) (a1:List UInt8):Option (List UInt8):=afQ a0 a1
def ajW:TFn:=qf
theorem agt:TOk aey ajW:=afP
def ajB:Env:={ pure:=[],raw:=[(140,abO),(323,ae4)],glob:=G0,same:=[274],look:=[],ext:=[] }
def arv:Hints:=(hZ [(3,[0,3,6,7])] [])
def ajA:PFn:=aG (runF Tryz.prog ajB arv Tryz.f279)
def axn:TH:={ joins:=[(7,{ keep:=[(3,(.bx 1 0))],mem:=[.row true 5 (.int .u8),.box 216 tT27] })],loops:=[(3,{ keep:=[(3,(.bx 1 0)),(7,(.int .i64))],mem:=[.row true 5 (.int .u8),.box 216 tT27] })],cuts:=[],ro:=[],news:=[(3,(tT27,[(5,(.int .u8))]))] }
def nL (a0:List UInt8) (y3:(Int×List Int×vV12×Unit)):Option ((Int×List Int×vV12×Unit)⊕List UInt8) :=
 cond (decide (y3.1<(a0.length:Int))) (
((atI a0 y3.1).bind fun b1 =>
 cond (decide ((b1.toNat:Int)=47)) ((za1 92 (y3.2.2.1.1,(),()) y3.2.1).bind fun q2 =>
 some (.inl (q2.2.2.1,q2.2.1,()))) ((atI a0 y3.1).bind fun b3 =>
 cond (decide ((b3.toNat:Int)=92)) (
(za1 92 (y3.2.2.1.1,(),()) y3.2.1).bind fun q4 =>
 some (.inl (q4.2.2.1,q4.2.1,()))) (
 some (.inl (y3.2.1,y3.2.2.1,())))):Option ((List Int×vV12×Unit)⊕((Int×List Int×vV12×Unit)⊕List UInt8))).bind (bd fun v5 =>
(atI a0 y3.1).bind fun b6 =>
(za1 (b6.toNat:Int) (v5.2.1.1,(),()) v5.1).bind fun q7 =>
 some (.inl ((IntKind.wrap .i64 (y3.1+1)),q7.2.2.1,q7.2.1,())))) (
((za4 (y3.2.2.1.1,(),()) y3.2.1).bind fun q8 =>
 some q8.1).map .inr)
def zc2 (a0:List UInt8):Option (List UInt8) :=
 aK (nL a0) (0,[],(false,(),()),())
def aaU:TFn:={ ps:=(.cons .str .unit),res:=.str,fn:=fun v=>zc2 v.1 }
def aru:TEnv:={ pure:=[],look:=[],glob:=G0T,ty:=[],raw:=[(140,px),(323,qV)],fresh:=[] }
theorem art:runY Tryz.prog ajB arv aru axn Tryz.f279 aaU.ps aaU.res=aaU.fn:=by kernel_rfl
theorem ajz:aB Tryz.prog G0 279 ajA:=ai (ak ⟨au,ac,(bf tV (bf abR ap)),ac,an⟩ Tryz.func279 rfl (by kernel_rfl))
theorem ars:TOk ajA aaU:=aA (E:=ajB) (ET:=aru) (EnvT.ofX (ax al) am (bt abN rfl rfl (bt agD rfl rfl ar)) aO aq) art rfl
def ahR:Env:={ pure:=[(279,ajA)],raw:=[],glob:=G0,same:=[274],look:=[(211,aey)],ext:=[] }
def aoW:Hints:=(hZ [(3,[3,6,7,8])] [])
def ahQ:PFn:=aG (runF Tryz.prog ahR aoW Tryz.f212)
def awG:TH:={ loops:=[(3,{ keep:=[(3,(.own 0)),(8,(.int .i64))],mem:=[.row true 9 .str] })],ro:=[] }
def vM (a0:List (List UInt8)) (y3:(Int×List (List UInt8)×Unit)):Option ((Int×List (List UInt8)×Unit)⊕List UInt8) :=
 cond (decide (y3.1<(a0.length:Int))) (
(atI a0 y3.1).bind fun x1 =>
(zc2 x1).bind fun r2 =>
(bT (y3.2.1.length+([r2]:List (List UInt8)).length)).bind fun u3 =>
 some (.inl ((IntKind.wrap .i64 (y3.1+1)),(y3.2.1++([r2]:List (List UInt8))),()))) (
((zbt y3.2.1 [47]).bind fun r4 =>
 some r4).map .inr)
def zdf (a0:List (List UInt8)):Option (List UInt8) :=
 aK (vM a0) (0,[],())
def aai:TFn:={ ps:=(.cons (.sl .str) .unit),res:=.str,fn:=fun v=>zdf v.1 }
def aoV:TEnv:={ pure:=[(279,aaU)],look:=[(211,ajW)],glob:=G0T,ty:=[(9,.str)],raw:=[],fresh:=[] }
theorem aoU:runY Tryz.prog ahR aoW aoV awG Tryz.f212 aai.ps aai.res=aai.fn:=by kernel_rfl
theorem ahP:aB Tryz.prog G0 212 ahQ:=ai (ak ⟨au,(aj ajz ac),ap,(aj aa4 ac),an⟩ Tryz.func212 rfl (by kernel_rfl))
theorem aoT:TOk ahQ aai:=aA (E:=ahR) (ET:=aoV) (EnvT.ofX (ax (ah ars al)) (jZ agt rfl am) ar aO aq) aoU rfl
def ahH:Env:={ pure:=[(210,aeo),(212,ahQ),(213,aa9)],raw:=[],glob:=G0,same:=[274],look:=[(211,aey)],ext:=[] }
def aoH:Hints:=(hZ [(3,[1,3,8,9,10])] [])
def ahG:PFn:=aG (runF Tryz.prog ahH aoH Tryz.f139)
def awC:TH:={ joins:=[(7,{ keep:=[(1,(.bx 0 0)),(3,(.own 2))],mem:=[.same,.gone,.row true 9 .str] })],loops:=[(3,{ keep:=[(1,(.bx 0 0)),(3,(.own 2)),(10,(.int .i64))],mem:=[.same,.gone,.row true 9 .str] })],ro:=[1] }
def vK (a0:vV2) (y3:(Int×List (List UInt8)×Unit)):Option ((Int×List (List UInt8)×Unit)⊕((List (List UInt8)×Unit)⊕List UInt8)) :=
 cond (decide (y3.1<(a0.2.2.1.length:Int))) (
(atI a0.2.2.1 y3.1).bind fun x1 =>
(zcs x1).bind fun r2 =>
(bT (y3.2.1.length+([r2]:List (List UInt8)).length)).bind fun u3 =>
 some (.inl ((IntKind.wrap .i64 (y3.1+1)),(y3.2.1++([r2]:List (List UInt8))),()))) (
 some (.inr (.inl (y3.2.1,()))))
def zdj (a0:vV2):Option (List UInt8) :=
(aK (vK a0) (0,[],()):Option ((List (List UInt8)×Unit)⊕List UInt8)).bind (bd fun v4 =>
(zbt v4.1 [32]).bind fun r5 =>
 cond (decide (a0.2.1=1)) (
(zdf a0.1).bind fun r6 =>
(catT r6 [32,61,32]).bind fun s7 =>
(catT s7 r5).bind fun s8 =>
 some s8) (
 cond (decide (a0.2.1=2)) (
(zdf a0.1).bind fun r9 =>
(catT r9 [32,58,32]).bind fun s10 =>
(catT s10 r5).bind fun s11 =>
 some s11) (
(zdf a0.1).bind fun r12 =>
(catT r12 [32,35,32]).bind fun s13 =>
(zbp a0.2.2.2.1).bind fun r14 =>
(catT s13 r14).bind fun s15 =>
 some s15)))
def aae:TFn:={ ps:=(.cons tT16 .unit),res:=.str,fn:=fun v=>zdj v.1 }
def aoG:TEnv:={ pure:=[(210,aen),(212,aai),(213,asb)],look:=[(211,ajW)],glob:=G0T,ty:=[(9,.str)],raw:=[],fresh:=[] }
theorem aoF:runY Tryz.prog ahH aoH aoG awC Tryz.f139 aae.ps aae.res=aae.fn:=by kernel_rfl
theorem ahF:aB Tryz.prog G0 139 ahG:=ai (ak ⟨au,(aj aiz (aj ahP (aj aa8 ac))),ap,(aj aa4 ac),an⟩ Tryz.func139 rfl (by kernel_rfl))
theorem aoE:TOk ahG aae:=aA (E:=ahH) (ET:=aoG) (EnvT.ofX (ax (ah apV (ah aoT (ah agv al)))) (jZ agt rfl am) ar aO aq) aoF rfl
def ak1:Env:={ pure:=[],raw:=[(209,abQ)],glob:=G0,same:=[274],look:=[],ext:=[] }
def atL:Hints:=(hZ [] [])
def ak0:SFn:=runF Tryz.prog ak1 atL Tryz.f138
def axX:TH:=yZ
def zaz (a1:List UInt8) (w0:vV12) (w1:List Int):Option ((Int×Bool×Unit)×vV12×List Int×Unit) :=
(za2 w0 w1).bind fun q1 =>
(bT (q1.2.2.1.length+(a1.map fun b=>(b.toNat:Int)).length)).bind fun u2 =>
 some (((a1.length:Int),false,()),(q1.2.1.1,(),()),(q1.2.2.1++(a1.map fun b=>(b.toNat:Int))),())
def tQ:TRaw:={ ps:=(.cons (.bx 0 0) (.cons .str .unit)),ins:=[.box 216 tT25,.row true 5 (.int .u8)],res:=(.tup (.cons (.int .i64) (.cons .err .unit))),outs:=[.box 216 tT25,.row true 5 (.int .u8)],fn:=fun v w=>zaz v.2.1 w.1 w.2.1 }
def atK:TEnv:={ pure:=[],look:=[],glob:=G0T,ty:=[(5,(.int .u8))],raw:=[(209,py)],fresh:=[] }
theorem atJ:rawY Tryz.prog ak1 atL atK axX [(0,0)] Tryz.f138 tQ.ps tQ.ins tQ.res tQ.outs=tQ.fn:=by kernel_rfl
theorem akZ:bO Tryz.prog G0 138 ak0:=ak ⟨au,ac,(bf tX ap),ac,an⟩ Tryz.func138 rfl (by kernel_rfl)
theorem atH:TRawOk ak0 tQ:=iB (E:=ak1) (ET:=atK) (EnvT.ofX (ax al) am (bt abP rfl rfl ar) aO aq) atJ
def akH:Env:={ pure:=[(139,ahG)],raw:=[(138,ak0),(140,abO)],glob:=G0,same:=[274],look:=[],ext:=[] }
def atg:Hints:=(hZ [(3,[3,6,7,8])] [])
def akG:PFn:=aG (runF Tryz.prog akH atg Tryz.f69)
def axP:TH:={ joins:=[(7,{ keep:=[(3,(.bx 1 0)),(5,(.bx 2 0))],mem:=[.row true 5 (.int .u8),.box 216 tT27,.box 127 tT24] })],loops:=[(3,{ keep:=[(3,(.bx 1 0)),(8,(.int .i64))],mem:=[.row true 5 (.int .u8),.box 216 tT27] })],cuts:=[],ro:=[],news:=[(3,(tT27,[(5,(.int .u8))]))] }
def wq (a0:List vV9) (y3:(Int×List Int×vV12×Unit)):Option ((Int×List Int×vV12×Unit)⊕List UInt8) :=
 cond (decide (y3.1<(a0.length:Int))) (
(atI a0 y3.1).bind fun x1 =>
(cond (!decide (x1.1=1)) (
(zdj x1.2.1).bind fun r2 =>
(catT [45,32] r2).bind fun s3 =>
(catT s3 [10]).bind fun s4 =>
(zaz s4 (y3.2.2.1.1,(),()) y3.2.1).bind fun q5 =>
 some (.inl (q5.2.2.1,q5.2.1,x1,()))) (
 some (.inl (y3.2.1,y3.2.2.1,x1,()))):Option ((List Int×vV12×vV9×Unit)⊕((Int×List Int×vV12×Unit)⊕List UInt8))).bind (bd fun v6 =>
 cond (!decide (v6.2.2.1.1=2)) (
(zdj v6.2.2.1.2.2.1).bind fun r7 =>
(catT [43,32] r7).bind fun s8 =>
(catT s8 [10]).bind fun s9 =>
(zaz s9 (v6.2.1.1,(),()) v6.1).bind fun q10 =>
 some (.inl ((IntKind.wrap .i64 (y3.1+1)),q10.2.2.1,q10.2.1,()))) (
 some (.inl ((IntKind.wrap .i64 (y3.1+1)),v6.1,v6.2.1,()))))) (
((za4 (y3.2.2.1.1,(),()) y3.2.1).bind fun q11 =>
 some q11.1).map .inr)
def zb7 (a0:List vV9):Option (List UInt8) :=
 aK (wq a0) (0,[],(false,(),()),())
def abo:TFn:={ ps:=(.cons (.sl tT24) .unit),res:=.str,fn:=fun v=>zb7 v.1 }
def atf:TEnv:={ pure:=[(139,aae)],look:=[],glob:=G0T,ty:=[],raw:=[(138,tQ),(140,px)],fresh:=[] }
theorem ate:runY Tryz.prog akH atg atf axP Tryz.f69 abo.ps abo.res=abo.fn:=by kernel_rfl
theorem akF:aB Tryz.prog G0 69 akG:=ai (ak ⟨au,(aj ahF ac),(bf akZ (bf tV ap)),ac,an⟩ Tryz.func69 rfl (by kernel_rfl))
theorem atd:TOk akG abo:=aA (E:=akH) (ET:=atf) (EnvT.ofX (ax (ah aoE al)) am (bt atH rfl rfl (bt abN rfl rfl ar)) aO aq) ate rfl
def aka:Env:=(eZ [(114,zS)] [274])
def asm:Hints:=(hZ [(6,[2,3,6,26,27,28]),(9,[2,3,6,26,27,28,33,34,35]),(16,[3,6,11,45,46,47])] [])
def aeD:PFn:=aG (runF Tryz.prog aka asm Tryz.f53)
def axB:TH:={ joins:=[(14,{ keep:=[(2,(.bx 0 0)),(3,(.bx 1 0)),(6,(.mp 2))],mem:=[.same,.same,.map tT15 .bool] })],loops:=[(6,{ keep:=[(2,(.bx 0 0)),(3,(.bx 1 0)),(6,(.mp 2)),(28,(.int .i64))],mem:=[.same,.same,.map tT15 .bool] }),(9,{ keep:=[(2,(.bx 0 0)),(3,(.bx 1 0)),(6,(.mp 2)),(35,(.int .i64))],mem:=[.same,.same,.map tT15 .bool,.gone] }),(16,{ keep:=[(3,(.bx 1 0)),(6,(.mp 2)),(11,(.own 4)),(47,(.int .i64))],mem:=[.same,.same,.map tT15 .bool,.gone,.row true 72 tT15] })],ro:=[2,3] }
def wk (y6:(Int×List ((Int×Int×Unit)×Bool)×Unit)) (x3:vV0) (y9:(Int×List ((Int×Int×Unit)×Bool)×Unit)):Option ((Int×List ((Int×Int×Unit)×Bool)×Unit)⊕((Int×List ((Int×Int×Unit)×Bool)×Unit)⊕((List ((Int×Int×Unit)×Bool)×Unit)⊕List (Int×Int×Unit)))) :=
 cond (decide (y9.1<(x3.2.2.2.2.1.length:Int))) (
(atI x3.2.2.2.2.1 y9.1).bind fun x4 =>
 some (.inl ((IntKind.wrap .i64 (y9.1+1)),(putK tT15 x4.1 true y9.2.1),()))) (
 some (.inr (.inl ((IntKind.wrap .i64 (y6.1+1)),y9.2.1,()))))
def qN (x2:vV4) (y6:(Int×List ((Int×Int×Unit)×Bool)×Unit)):Option ((Int×List ((Int×Int×Unit)×Bool)×Unit)⊕((List ((Int×Int×Unit)×Bool)×Unit)⊕List (Int×Int×Unit))) :=
 cond (decide (y6.1<(x2.2.2.2.2.1.length:Int))) (
(atI x2.2.2.2.2.1 y6.1).bind fun x3 =>
 aK (wk y6 x3) (0,y6.2.1,())) (
 some (.inr (.inl (y6.2.1,()))))
def pn (a0:vV1) (a1:(Int×Int×Unit)) (y16:(Int×List ((Int×Int×Unit)×Bool)×List (Int×Int×Unit)×Unit)):Option ((Int×List ((Int×Int×Unit)×Bool)×List (Int×Int×Unit)×Unit)⊕List (Int×Int×Unit)) :=
 cond (decide (y16.1<(a0.1.length:Int))) (
(atI a0.1 y16.1).bind fun x6 =>
 cond ((getK tT15 false x6.1 y16.2.1).1) (cond (!(eqV tT15 x6.1 a1)) (
(bT (y16.2.2.1.length+([x6.1]:List (Int×Int×Unit)).length)).bind fun u7 =>
 some (.inl ((IntKind.wrap .i64 (y16.1+1)),y16.2.1,(y16.2.2.1++([x6.1]:List (Int×Int×Unit))),()))) (
 some (.inl ((IntKind.wrap .i64 (y16.1+1)),y16.2.1,y16.2.2.1,())))) (some (.inl ((IntKind.wrap .i64 (y16.1+1)),y16.2.1,y16.2.2.1,())))) (
 some (.inr y16.2.2.1))
def zbm (a0:vV1) (a1:(Int×Int×Unit)):Option (List (Int×Int×Unit)) :=
(zdw a0.1 a1).bind fun r1 =>
 cond (decide (r1<0)) (
 some []) (
((atI a0.1 r1).bind fun x2 =>
 aK (qN x2) (0,[],()):Option ((List ((Int×Int×Unit)×Bool)×Unit)⊕List (Int×Int×Unit))).bind (bd fun v5 =>
 aK (pn a0 a1) (0,v5.1,[],())))
def yd:TFn:={ ps:=(.cons tT13 (.cons tT15 .unit)),res:=(.sl tT15),fn:=fun v=>zbm v.1 v.2.1 }
def asl:TEnv:={ pure:=[(114,tE)],look:=[],glob:=G0T,ty:=[(4,.bool),(72,tT15)],raw:=[],fresh:=[] }
theorem ask:runY Tryz.prog aka asm asl axB Tryz.f53 yd.ps yd.res=yd.fn:=by kernel_rfl
theorem abc:aB Tryz.prog G0 53 aeD:=ai (ak ⟨au,(aj tF ac),ap,ac,an⟩ Tryz.func53 rfl (by kernel_rfl))
theorem agw:TOk aeD yd:=aA (E:=aka) (ET:=asl) (EnvT.ofX (ax (ah zR al)) am ar aO aq) ask rfl
def amh:Env:=(eZ [] [274])
def avj:Hints:=(hZ [] [])
def amg:PFn:=aG (runF Tryz.prog amh avj Tryz.f123)
def ayh:TH:={ loops:=[],ro:=[2] }
def za6 (a0:vV3) (a1:(Int×Int×Unit)):Option Bool :=
 some (eqV tT15 a0.1 a1)
def abL:TFn:={ ps:=(.cons tT17 (.cons (.rp tT15 0) .unit)),res:=.bool,fn:=fun v=>za6 v.1 v.2.1 }
def avi:TEnv:=(vZ [])
theorem avh:runY Tryz.prog amh avj avi ayh Tryz.f123 abL.ps abL.res=abL.fn:=by kernel_rfl
theorem amf:aB Tryz.prog G0 123 amg:=ai (ak ⟨au,ac,ap,ac,an⟩ Tryz.func123 rfl (by kernel_rfl))
theorem avg:TOk amg abL:=aA (E:=amh) (ET:=avi) (EnvT.ofX (ax al) am ar aO aq) avh rfl
def alQ:Env:=(eZ [(123,amg)] [274])
def auC:Hints:=(hZ [(2,[0,1,7,8])] [])
def alP:PFn:=aG (runF Tryz.prog alQ auC Tryz.f199)
def ax6:TH:={ loops:=[(2,{ keep:=[(8,(.int .i64))],mem:=[] })],ro:=[] }
def wC (a0:List vV3) (a1:((Int×Int×Unit)×Unit)) (y2:(Int×Unit)):Option ((Int×Unit)⊕Int) :=
 cond (decide (y2.1<(a0.length:Int))) (
(atI a0 y2.1).bind fun x1 =>
(za6 x1 a1.1).bind fun r2 =>
 cond r2 (
 some (.inr y2.1)) (
 some (.inl ((IntKind.wrap .i64 (y2.1+1)),())))) (
 some (.inr (-1)))
def zah (a0:List vV3) (a1:((Int×Int×Unit)×Unit)):Option Int :=
 aK (wC a0 a1) (0,())
def abC:TFn:={ ps:=(.cons (.sl tT17) (.cons (.cl 123 (.cons (.rp tT15 0) .unit)) .unit)),res:=(.int .i64),fn:=fun v=>zah v.1 v.2.1 }
def auB:TEnv:=(vZ [(123,abL)])
theorem auA:runY Tryz.prog alQ auC auB ax6 Tryz.f199 abC.ps abC.res=abC.fn:=by kernel_rfl
theorem alO:aB Tryz.prog G0 199 alP:=ai (ak ⟨au,(aj amf ac),ap,ac,an⟩ Tryz.func199 rfl (by kernel_rfl))
theorem auz:TOk alP abC:=aA (E:=alQ) (ET:=auB) (EnvT.ofX (ax (ah avg al)) am ar aO aq) auA rfl
def alT:Env:=(eZ [(199,alP)] [274])
def auG:Hints:=(hZ [] [])
def alS:PFn:=aG (runF Tryz.prog alT auG Tryz.f122)
def ax7:TH:=yZ
def zag (a0:List vV3) (a1:((Int×Int×Unit)×Unit)):Option Bool :=
(zah a0 a1).bind fun r1 =>
 some (decide (r1≥0))
def abD:TFn:={ ps:=(.cons (.sl tT17) (.cons (.cl 123 (.cons (.rp tT15 0) .unit)) .unit)),res:=.bool,fn:=fun v=>zag v.1 v.2.1 }
def auF:TEnv:=(vZ [(199,abC)])
theorem auE:runY Tryz.prog alT auG auF ax7 Tryz.f122 abD.ps abD.res=abD.fn:=by kernel_rfl
theorem alR:aB Tryz.prog G0 122 alS:=ai (ak ⟨au,(aj alO ac),ap,ac,an⟩ Tryz.func122 rfl (by kernel_rfl))
theorem auD:TOk alS abD:=aA (E:=alT) (ET:=auF) (EnvT.ofX (ax (ah auz al)) am ar aO aq) auE rfl
def aky:Env:=(eZ [(122,alS)] [274])
def as4:Hints:=(hZ [] [])
def akx:PFn:=aG (runF Tryz.prog aky as4 Tryz.f121)
def axM:TH:={ loops:=[],ro:=[2] }
def zba (a0:vV0) (a1:(Int×Int×Unit)):Option Bool :=
(zag a0.2.2.2.2.1 (a1,())).bind fun r1 =>
 some r1
def abl:TFn:={ ps:=(.cons tT14 (.cons (.rp tT15 0) .unit)),res:=.bool,fn:=fun v=>zba v.1 v.2.1 }
def as3:TEnv:=(vZ [(122,abD)])
theorem as0:runY Tryz.prog aky as4 as3 axM Tryz.f121 abl.ps abl.res=abl.fn:=by kernel_rfl
theorem akw:aB Tryz.prog G0 121 akx:=ai (ak ⟨au,(aj alR ac),ap,ac,an⟩ Tryz.func121 rfl (by kernel_rfl))
theorem asZ:TOk akx abl:=aA (E:=aky) (ET:=as3) (EnvT.ofX (ax (ah auD al)) am ar aO aq) as0 rfl
def alD:Env:=(eZ [(121,akx)] [274])
def aum:Hints:=(hZ [(2,[0,1,7,8])] [])
def alC:PFn:=aG (runF Tryz.prog alD aum Tryz.f198)
def ax3:TH:={ loops:=[(2,{ keep:=[(8,(.int .i64))],mem:=[] })],ro:=[] }
def wB (a0:List vV0) (a1:((Int×Int×Unit)×Unit)) (y2:(Int×Unit)):Option ((Int×Unit)⊕Int) :=
 cond (decide (y2.1<(a0.length:Int))) (
(atI a0 y2.1).bind fun x1 =>
(zba x1 a1.1).bind fun r2 =>
 cond r2 (
 some (.inr y2.1)) (
 some (.inl ((IntKind.wrap .i64 (y2.1+1)),())))) (
 some (.inr (-1)))
def zal (a0:List vV0) (a1:((Int×Int×Unit)×Unit)):Option Int :=
 aK (wB a0 a1) (0,())
def abA:TFn:={ ps:=(.cons (.sl tT14) (.cons (.cl 121 (.cons (.rp tT15 0) .unit)) .unit)),res:=(.int .i64),fn:=fun v=>zal v.1 v.2.1 }
def aul:TEnv:=(vZ [(121,abl)])
theorem auk:runY Tryz.prog alD aum aul ax3 Tryz.f198 abA.ps abA.res=abA.fn:=by kernel_rfl
theorem alB:aB Tryz.prog G0 198 alC:=ai (ak ⟨au,(aj akw ac),ap,ac,an⟩ Tryz.func198 rfl (by kernel_rfl))
theorem auj:TOk alC abA:=aA (E:=alD) (ET:=aul) (EnvT.ofX (ax (ah asZ al)) am ar aO aq) auk rfl
def alJ:Env:=(eZ [(198,alC)] [274])
def aut:Hints:=(hZ [] [])
def alI:PFn:=aG (runF Tryz.prog alJ aut Tryz.f120)
def ax4:TH:=yZ
def zaj (a0:List vV0) (a1:((Int×Int×Unit)×Unit)):Option Bool :=
(zal a0 a1).bind fun r1 =>
 some (decide (r1≥0))
def abB:TFn:={ ps:=(.cons (.sl tT14) (.cons (.cl 121 (.cons (.rp tT15 0) .unit)) .unit)),res:=.bool,fn:=fun v=>zaj v.1 v.2.1 }
def aus:TEnv:=(vZ [(198,abA)])
theorem aur:runY Tryz.prog alJ aut aus ax4 Tryz.f120 abB.ps abB.res=abB.fn:=by kernel_rfl
theorem alH:aB Tryz.prog G0 120 alI:=ai (ak ⟨au,(aj alB ac),ap,ac,an⟩ Tryz.func120 rfl (by kernel_rfl))
theorem auq:TOk alI abB:=aA (E:=alJ) (ET:=aus) (EnvT.ofX (ax (ah auj al)) am ar aO aq) aur rfl
def akt:Env:=(eZ [(120,alI)] [274])
def asU:Hints:={ seqs:=[],loops:=[(3,[3,5,9,10,11])],own:=[],frz:=[(1,[3])] }
def aeI:PFn:=aG (runF Tryz.prog akt asU Tryz.f54)
def axK:TH:={ loops:=[(3,{ keep:=[(5,(.own 3)),(11,(.int .i64))],mem:=[.same,.gone,.gone,.row true 72 tT15] })],ro:=[2] }
def wo (a0:vV1) (a1:(Int×Int×Unit)) (y3:(Int×List (Int×Int×Unit)×Unit)):Option ((Int×List (Int×Int×Unit)×Unit)⊕List (Int×Int×Unit)) :=
 cond (decide (y3.1<(a0.1.length:Int))) (
(atI a0.1 y3.1).bind fun x1 =>
 cond (!(eqV tT15 x1.1 a1)) ((zaj x1.2.2.2.2.1 (a1,())).bind fun r2 =>
 cond r2 (
(bT (y3.2.1.length+([x1.1]:List (Int×Int×Unit)).length)).bind fun u3 =>
 some (.inl ((IntKind.wrap .i64 (y3.1+1)),(y3.2.1++([x1.1]:List (Int×Int×Unit))),()))) (
 some (.inl ((IntKind.wrap .i64 (y3.1+1)),y3.2.1,())))) (some (.inl ((IntKind.wrap .i64 (y3.1+1)),y3.2.1,())))) (
 some (.inr y3.2.1))
def zbc (a0:vV1) (a1:(Int×Int×Unit)):Option (List (Int×Int×Unit)) :=
 aK (wo a0 a1) (0,[],())
def yf:TFn:={ ps:=(.cons tT13 (.cons tT15 .unit)),res:=(.sl tT15),fn:=fun v=>zbc v.1 v.2.1 }
def asT:TEnv:={ pure:=[(120,abB)],look:=[],glob:=G0T,ty:=[(72,tT15)],raw:=[],fresh:=[] }
theorem asS:runY Tryz.prog akt asU asT axK Tryz.f54 yf.ps yf.res=yf.fn:=by kernel_rfl
theorem abj:aB Tryz.prog G0 54 aeI:=ai (ak ⟨au,(aj alH ac),ap,ac,an⟩ Tryz.func54 rfl (by kernel_rfl))
theorem agz:TOk aeI yf:=aA (E:=akt) (ET:=asT) (EnvT.ofX (ax (ah auq al)) am ar aO aq) asS rfl
def aiT:Env:=(eZ [(53,aeD),(54,aeI),(59,aik),(69,akG),(97,ahn),(119,ajh)] [274])
def aqq:Hints:=(hZ [] [])
def aiS:PFn:=aG (runF Tryz.prog aiT aqq Tryz.f51)
def aw4:TH:={ loops:=[],cuts:=[(3,[(7,{ keep:=[(1,(.bx 0 0)),(24,.bool)],mem:=[.box 69 tT13] })])],ro:=[],news:=[] }
def zck:Option Bool :=
(zc9 1 1 []).bind fun r1 =>
(zdq ([],[],([0,0,0,0,0,0,0,0,0,0,0,0,0,0,0,0],[],()),([0,0,0,0,0,0,0,0,0,0,0,0,0,0,0,0],[],()),[[],[],[],[],[],[],[],[]],()) r1).bind fun r2 =>
(zc9 2 2 ([((0,1,()),0,())]:List vV3)).bind fun r3 =>
(zdq r2 r3).bind fun r4 =>
(zcy r4 (0,2,()) false).bind fun r5 =>
(cond (decide (r5.2.1=0)) ((zb7 r5.1).bind fun r6 =>
 some ((decide (r6=[45,32,97,32,61,32,50,10,43,32,97,32,61,32,49,10])),r4,())) (some (false,r4,())):Option (Bool×vV1×Unit)).bind fun v7 =>
 cond v7.1 ((zbm v7.2.1 (0,2,())).bind fun r8 =>
 cond (decide ((r8.length:Int)=1)) ((zbc v7.2.1 (0,1,())).bind fun r9 =>
 some (decide ((r9.length:Int)=1))) (some false)) (some false)
def aaE:TFn:={ ps:=.unit,res:=.bool,fn:=fun v=>zck  }
def aqp:TEnv:={ pure:=[(53,yd),(54,yf),(59,aas),(69,abo),(97,z6),(119,aaM)],look:=[],glob:=G0T,ty:=[(146,tT17)],raw:=[],fresh:=[] }
theorem aqo:runY Tryz.prog aiT aqq aqp aw4 Tryz.f51 aaE.ps aaE.res=aaE.fn:=by kernel_rfl
theorem aiR:aB Tryz.prog G0 51 aiS:=ai (ak ⟨au,(aj abc (aj abj (aj aij (aj akF (aj ahm (aj ajg ac)))))),ap,ac,an⟩ Tryz.func51 rfl (by kernel_rfl))
theorem aqn:TOk aiS aaE:=aA (E:=aiT) (ET:=aqp) (EnvT.ofX (ax (ah agw (ah agz (ah apy (ah atd (ah aoc (ah aqY al))))))) am ar aO aq) aqo rfl
def ahA:Env:=(eZ [] [274])
def aow:Hints:=(hZ [(2,[0,3,5])] [])
def ahz:PFn:=aG (runF Tryz.prog ahA aow Tryz.f52)
def awz:TH:={ loops:=[(2,{ keep:=[(3,(.bx 0 0)),(5,(.int .i64))],mem:=[.same] })],ro:=[3] }
def vI (a0:List (Int×Int×Unit)) (a1:(Int×Int×Unit)) (y2:(Int×Unit)):Option ((Int×Unit)⊕Bool) :=
 cond (decide (y2.1<(a0.length:Int))) (
(atI a0 y2.1).bind fun x1 =>
 cond (eqV tT15 x1 a1) (
 some (.inr true)) (
 some (.inl ((IntKind.wrap .i64 (y2.1+1)),())))) (
 some (.inr false))
def zdm (a0:List (Int×Int×Unit)) (a1:(Int×Int×Unit)):Option Bool :=
 aK (vI a0 a1) (0,())
def aab:TFn:={ ps:=(.cons (.sl tT15) (.cons tT15 .unit)),res:=.bool,fn:=fun v=>zdm v.1 v.2.1 }
def aov:TEnv:=(vZ [])
theorem aou:runY Tryz.prog ahA aow aov awz Tryz.f52 aab.ps aab.res=aab.fn:=by kernel_rfl
theorem ahy:aB Tryz.prog G0 52 ahz:=ai (ak ⟨au,ac,ap,ac,an⟩ Tryz.func52 rfl (by kernel_rfl))
theorem aot:TOk ahz aab:=aA (E:=ahA) (ET:=aov) (EnvT.ofX (ax al) am ar aO aq) aou rfl
def aio:Env:=(eZ [(196,aeM)] [274])
def apF:Hints:=(hZ [] [])
def ain:PFn:=aG (runF Tryz.prog aio apF Tryz.f129)
def awR:TH:=yZ
def zcx (a0:List (List UInt8)) (a1:List (List UInt8)):Option Bool :=
 cond (decide ((a0.length:Int)≥(a1.length:Int))) ((subI a0 0 (a1.length:Int)).bind fun s1 =>
(zay s1 a1).bind fun r2 =>
 some r2) (some false)
def aat:TFn:={ ps:=(.cons (.sl .str) (.cons (.sl .str) .unit)),res:=.bool,fn:=fun v=>zcx v.1 v.2.1 }
def apE:TEnv:=(vZ [(196,yi)])
theorem apD:runY Tryz.prog aio apF apE awR Tryz.f129 aat.ps aat.res=aat.fn:=by kernel_rfl
theorem aim:aB Tryz.prog G0 129 ain:=ai (ak ⟨au,(aj abv ac),ap,ac,an⟩ Tryz.func129 rfl (by kernel_rfl))
theorem apC:TOk ain aat:=aA (E:=aio) (ET:=apE) (EnvT.ofX (ax (ah agB al)) am ar aO aq) apD rfl
def akk:Env:=(eZ [(129,ain)] [274])
def asE:Hints:=(hZ [(3,[1,2,7,10,11,12])] [])
def akj:PFn:=aG (runF Tryz.prog akk asE Tryz.f56)
def axG:TH:={ loops:=[(3,{ keep:=[(7,(.own 1)),(12,(.int .i64))],mem:=[.gone,.row true 109 tT23] })],ro:=[] }
def wl (a0:List vV6) (a1:List (List UInt8)) (a2:Int) (y3:(Int×List vV6×Unit)):Option ((Int×List vV6×Unit)⊕List vV6) :=
 cond (decide (y3.1<(a0.length:Int))) (
(atI a0 y3.1).bind fun x1 =>
(zcx x1.1 a1).bind fun r2 =>
 cond r2 (cond (decide (a2=0)) ((bT (y3.2.1.length+([x1]:List vV6).length)).bind fun u3 =>
 some (.inl ((IntKind.wrap .i64 (y3.1+1)),(y3.2.1++([x1]:List vV6)),()))) (cond (decide (x1.2.1=a2)) (
(bT (y3.2.1.length+([x1]:List vV6).length)).bind fun u4 =>
 some (.inl ((IntKind.wrap .i64 (y3.1+1)),(y3.2.1++([x1]:List vV6)),()))) (
 some (.inl ((IntKind.wrap .i64 (y3.1+1)),y3.2.1,()))))) (some (.inl ((IntKind.wrap .i64 (y3.1+1)),y3.2.1,())))) (
 some (.inr y3.2.1))
def zbh (a0:List vV6) (a1:List (List UInt8)) (a2:Int):Option (List vV6) :=
 aK (wl a0 a1 a2) (0,[],())
def abh:TFn:={ ps:=(.cons (.sl tT23) (.cons (.sl .str) tT20)),res:=(.sl tT23),fn:=fun v=>zbh v.1 v.2.1 v.2.2.1 }
def asD:TEnv:={ pure:=[(129,aat)],look:=[],glob:=G0T,ty:=[(109,tT23)],raw:=[],fresh:=[] }
theorem asC:runY Tryz.prog akk asE asD axG Tryz.f56 abh.ps abh.res=abh.fn:=by kernel_rfl
theorem aki:aB Tryz.prog G0 56 akj:=ai (ak ⟨au,(aj aim ac),ap,ac,an⟩ Tryz.func56 rfl (by kernel_rfl))
theorem asB:TOk akj abh:=aA (E:=akk) (ET:=asD) (EnvT.ofX (ax (ah apC al)) am ar aO aq) asC rfl
def akO:Env:=(eZ [] [274])
def atr:Hints:=(hZ [(4,[0,1,5])] [])
def akN:PFn:=aG (runF Tryz.prog akO atr Tryz.f57)
def axS:TH:={ loops:=[(4,{ keep:=[(5,(.int .i64))],mem:=[] })],ro:=[] }
def wu (a0:List (List UInt8)) (a1:List (List UInt8)) (y4:(Int×Unit)):Option ((Int×Unit)⊕Bool) :=
 cond (decide (y4.1<(a1.length:Int))) (
(atI a0 y4.1).bind fun x1 =>
(atI a1 y4.1).bind fun x2 =>
 cond (!decide (x1=x2)) (
 some (.inr false)) (
 some (.inl ((IntKind.wrap .i64 (y4.1+1)),())))) (
 some (.inr true))
def zb4 (a0:List (List UInt8)) (a1:List (List UInt8)):Option Bool :=
 cond (decide ((a1.length:Int)>(a0.length:Int))) (
 some false) (
 aK (wu a0 a1) (0,()))
def abr:TFn:={ ps:=(.cons (.sl .str) (.cons (.sl .str) .unit)),res:=.bool,fn:=fun v=>zb4 v.1 v.2.1 }
def atq:TEnv:=(vZ [])
theorem atp:runY Tryz.prog akO atr atq axS Tryz.f57 abr.ps abr.res=abr.fn:=by kernel_rfl
theorem akM:aB Tryz.prog G0 57 akN:=ai (ak ⟨au,ac,ap,ac,an⟩ Tryz.func57 rfl (by kernel_rfl))
theorem ato:TOk akN abr:=aA (E:=akO) (ET:=atq) (EnvT.ofX (ax al) am ar aO aq) atp rfl
def ajo:Env:=(eZ [] [274])
def aq9:Hints:=(hZ [(4,[0,1,5])] [])
def ajn:PFn:=aG (runF Tryz.prog ajo aq9 Tryz.f58)
def axi:TH:={ loops:=[(4,{ keep:=[(5,(.int .i64))],mem:=[] })],ro:=[] }
def wb (a0:List (List UInt8)) (a1:List (List UInt8)) (y4:(Int×Unit)):Option ((Int×Unit)⊕Bool) :=
 cond (decide (y4.1<(a0.length:Int))) (
(atI a0 y4.1).bind fun x1 =>
(atI a1 y4.1).bind fun x2 =>
 cond (!decide (x1=x2)) (
 some (.inr false)) (
 some (.inl ((IntKind.wrap .i64 (y4.1+1)),())))) (
 some (.inr true))
def zc7 (a0:List (List UInt8)) (a1:List (List UInt8)):Option Bool :=
 cond (!decide ((a0.length:Int)=(a1.length:Int))) (
 some false) (
 aK (wb a0 a1) (0,()))
def aaO:TFn:={ ps:=(.cons (.sl .str) (.cons (.sl .str) .unit)),res:=.bool,fn:=fun v=>zc7 v.1 v.2.1 }
def aq8:TEnv:=(vZ [])
theorem aq7:runY Tryz.prog ajo aq9 aq8 axi Tryz.f58 aaO.ps aaO.res=aaO.fn:=by kernel_rfl
theorem ajm:aB Tryz.prog G0 58 ajn:=ai (ak ⟨au,ac,ap,ac,an⟩ Tryz.func58 rfl (by kernel_rfl))
theorem aq6:TOk ajn aaO:=aA (E:=ajo) (ET:=aq8) (EnvT.ofX (ax al) am ar aO aq) aq7 rfl
def ama:Env:=(eZ [(15,aer),(33,aih),(50,aes),(51,aiS),(52,ahz),(53,aeD),(54,aeI),(55,aeL),(56,akj),(57,akN),(58,ajn)] [274])
def au6:Hints:=(hZ [(5,[3,4,5,6,7,11,12]),(15,[3,4,15,16,17,18])] [])
def au7:PFn:=aG (runF Tryz.prog ama au6 Tryz.f10)
def aye:TH:={ joins:=[(8,{ keep:=[(5,(.bx 0 0)),(6,(.bx 1 0)),(7,(.bx 2 0)),(11,.bool)],mem:=[.same,.same,.same] }),(11,{ keep:=[(5,(.bx 0 0))],mem:=[.same,.same,.same] }),(21,{ keep:=[(17,(.int .i64))],mem:=[.same,.same,.same] })],loops:=[(5,{ keep:=[(5,(.bx 0 0)),(6,(.bx 1 0)),(7,(.bx 2 0)),(11,.bool),(12,(.int .i64))],mem:=[.same,.same,.same] }),(15,{ keep:=[(17,(.int .i64)),(18,(.int .i64))],mem:=[.same,.same,.same] })],cuts:=[(18,[(17,{ keep:=[(111,.bool)],mem:=[.same,.same,.same] })])],ro:=[5,6,7],news:=[] }
def qU (a0:vV1) (a2:(Int×Int×Unit)) (y5:(Bool×Int×Unit)):Option ((Bool×Int×Unit)⊕((Bool×Unit)⊕Bool)) :=
 cond (decide (y5.2.1<(a0.1.length:Int))) (
 cond y5.1 (some (.inl (true,(IntKind.wrap .i64 (y5.2.1+1)),()))) ((atI a0.1 y5.2.1).bind fun x5 =>
 some (.inl ((eqV tT15 x5.1 a2),(IntKind.wrap .i64 (y5.2.1+1)),())))) (
 some (.inr (.inl (y5.1,()))))
def jI (a3:List (List UInt8)) (a4:Int) (r13:List vV6) (r14:List vV6) (y15:(Int×Int×Unit)):Option ((Int×Int×Unit)⊕((Int×Unit)⊕Bool)) :=
 cond (decide (y15.2.1<(r13.length:Int))) (
(atI r13 y15.2.1).bind fun x15 =>
(zb4 x15.1 a3).bind fun r16 =>
 cond r16 (cond (decide (a4=0)) ((cond (decide (y15.1≥(r14.length:Int))) (some (true,())) ((atI r14 y15.1).bind fun x17 =>
(atI r13 y15.2.1).bind fun x18 =>
 some ((!decide (x17.2.1=x18.2.1)),())):Option (Bool×Unit)).bind fun v19 =>
 cond v19.1 (some (.inr (.inr false))) ((atI r14 y15.1).bind fun x20 =>
(atI r13 y15.2.1).bind fun x21 =>
(zc7 x20.1 x21.1).bind fun r22 =>
 cond (!r22) (
 some (.inr (.inr false))) (
 some (.inl ((IntKind.wrap .i64 (y15.1+1)),(IntKind.wrap .i64 (y15.2.1+1)),()))))) ((atI r13 y15.2.1).bind fun x23 =>
 cond (decide (x23.2.1=a4)) (
(cond (decide (y15.1≥(r14.length:Int))) (some (true,())) ((atI r14 y15.1).bind fun x24 =>
(atI r13 y15.2.1).bind fun x25 =>
 some ((!decide (x24.2.1=x25.2.1)),())):Option (Bool×Unit)).bind fun v26 =>
 cond v26.1 (some (.inr (.inr false))) ((atI r14 y15.1).bind fun x27 =>
(atI r13 y15.2.1).bind fun x28 =>
(zc7 x27.1 x28.1).bind fun r29 =>
 cond (!r29) (
 some (.inr (.inr false))) (
 some (.inl ((IntKind.wrap .i64 (y15.1+1)),(IntKind.wrap .i64 (y15.2.1+1)),()))))) (
 some (.inl (y15.1,(IntKind.wrap .i64 (y15.2.1+1)),()))))) (some (.inl (y15.1,(IntKind.wrap .i64 (y15.2.1+1)),())))) (
 some (.inr (.inl (y15.1,()))))
def za9 (a0:vV1) (a1:(Int×Int×Unit)) (a2:(Int×Int×Unit)) (a3:List (List UInt8)) (a4:Int):Option Bool :=
(zcz a0).bind fun r1 =>
 cond (!r1) ((zck).bind fun r2 =>
 some r2) ((zcn a3).bind fun r3 =>
 cond (!r3) (
(zck).bind fun r4 =>
 some r4) (
(aK (qU a0 a2) (false,0,()):Option ((Bool×Unit)⊕Bool)).bind (bd fun v6 =>
(zbm a0 a1).bind fun r7 =>
(zdm r7 a2).bind fun r8 =>
(zbc a0 a2).bind fun r9 =>
(zdm r9 a1).bind fun r10 =>
(cond r10 (cond (!(r8==v6.1)) (
 some (.inr false)) (
 some (.inl ()))) (cond (!(r8==false)) (
 some (.inr false)) (
 some (.inl ()))):Option (Unit⊕Bool)).bind (bd fun v11 =>
(zci a0).bind fun r12 =>
(zb6 r12).bind fun r13 =>
(zbh r13 a3 a4).bind fun r14 =>
(aK (jI a3 a4 r13 r14) (0,0,()):Option ((Int×Unit)⊕Bool)).bind (bd fun v30 =>
 cond (decide (v30.1=(r14.length:Int))) ((zck).bind fun r31 =>
 some r31) (some false))))))
def tU:TFn:={ ps:=(.cons tT13 (.cons tT15 (.cons tT15 (.cons (.sl .str) tT20)))),res:=.bool,fn:=fun v=>za9 v.1 v.2.1 v.2.2.1 v.2.2.2.1 v.2.2.2.2.1 }
def au5:TEnv:=(vZ [(15,xY),(33,aar),(50,xZ),(51,aaE),(52,aab),(53,yd),(54,yf),(55,yg),(56,abh),(57,abr),(58,aaO)])
theorem au4:runY Tryz.prog ama au6 au5 aye Tryz.f10 tU.ps tU.res=tU.fn:=by kernel_rfl
theorem za9_Fok:aB Tryz.prog G0 10 au7:=ai (ak ⟨au,(aj aaB (aj aig (aj aaF (aj aiR (aj ahy (aj abc (aj abj (aj abp (aj aki (aj akM (aj ajm ac))))))))))),ap,ac,an⟩ Tryz.func10 rfl (by kernel_rfl))
theorem za9_ok:TOk au7 tU:=aA (E:=ama) (ET:=au5) (EnvT.ofX (ax (ah ago (ah apu (ah agp (ah aqn (ah aot (ah agw (ah agz (ah agA (ah asB (ah ato (ah aq6 al)))))))))))) am ar aO aq) au4 rfl
def fe (a0:List vV7) (y3:(Int×List vV3×Unit)):Option ((Int×List vV3×Unit)⊕List vV3) :=
 cond (decide (y3.1<(a0.length:Int))) (
(atI a0 y3.1).bind fun x1 =>
(bT (y3.2.1.length+([x1.1]:List vV3).length)).bind fun u2 =>
 some (.inl ((IntKind.wrap .i64 (y3.1+1)),(y3.2.1++([x1.1]:List vV3)),()))) (
 some (.inr y3.2.1))
def my (a0:List vV7):Option (List vV3) :=
 aK (fe a0) (0,[],())
def cF (r1:List vV3) (y3:vV10):Option (vV10⊕((List (vV3×Bool)×Unit)⊕List vV7)) :=
 cond (decide (y3.1<(r1.length:Int))) (
(atI r1 y3.1).bind fun x2 =>
 some (.inl ((IntKind.wrap .i64 (y3.1+1)),(putK tT17 x2 true y3.2.1),()))) (
 some (.inr (.inl (y3.2.1,()))))
def cE (a0:List vV7) (y9:(Int×List (vV3×Bool)×List vV7×Unit)):Option ((Int×List (vV3×Bool)×List vV7×Unit)⊕List vV7) :=
 cond (decide (y9.1<(a0.length:Int))) (
(atI a0 y9.1).bind fun x4 =>
 cond (!((getK tT17 false x4.1 y9.2.1).1)) (
(bT (y9.2.2.1.length+([x4]:List vV7).length)).bind fun u5 =>
 some (.inl ((IntKind.wrap .i64 (y9.1+1)),y9.2.1,(y9.2.2.1++([x4]:List vV7)),()))) (
 some (.inl ((IntKind.wrap .i64 (y9.1+1)),y9.2.1,y9.2.2.1,())))) (
 some (.inr y9.2.2.1))
def dl (a0:List vV7) (a1:List vV7):Option (List vV7) :=
((my a1).bind fun r1 =>
 aK (cF r1) (0,[],()):Option ((List (vV3×Bool)×Unit)⊕List vV7)).bind (bd fun v3 =>
 aK (cE a0) (0,v3.1,[],()))
def bp (a0:Unit) (a1:Int):Option (List vV7):=av3 a1
def aI (a0:List (List vV7)) (y3:(Int×Int×Unit)):Option ((Int×Int×Unit)⊕((Int×Unit)⊕List vV7)) :=
 cond (decide (y3.2.1<(a0.length:Int))) (
(atI a0 y3.2.1).bind fun x1 =>
 cond (decide ((IntKind.wrap .i64 (y3.1+(x1.length:Int)))<0)) (
 none) (
 some (.inl ((IntKind.wrap .i64 (y3.1+(x1.length:Int))),(IntKind.wrap .i64 (y3.2.1+1)),())))) (
 some (.inr (.inl (y3.1,()))))
def aH (a0:List (List vV7)) (y11:(Int×List vV7×Unit)):Option ((Int×List vV7×Unit)⊕List vV7) :=
 cond (decide (y11.1<(a0.length:Int))) (
(atI a0 y11.1).bind fun x4 =>
(bT (y11.2.1.length+x4.length)).bind fun u5 =>
 some (.inl ((IntKind.wrap .i64 (y11.1+1)),(y11.2.1++x4),()))) (
 some (.inr y11.2.1))
def bh (a0:List (List vV7)):Option (List vV7) :=
(aK (aI a0) (0,0,()):Option ((Int×Unit)⊕List vV7)).bind (bd fun v2 =>
(bp () v2.1).bind fun n3 =>
 aK (aH a0) (0,n3,()))
def eE (a0:vV1) (a1:(Int×Int×Unit)) (a2:Bool):Option (List vV6×Int×Unit) :=
(zbx a0 a1 a2).bind fun r1 =>
 cond (!decide (r1=0)) (
 some ([],r1,())) (
(zbn a0 a1).bind fun r2 =>
 cond (!decide (r2.2.1=0)) (
 some ([],r2.2.1,())) (
(zci a0).bind fun r3 =>
(zci r2.1).bind fun r4 =>
(dl r3 r4).bind fun r5 =>
(dl r4 r3).bind fun r6 =>
(bh ([r5,r6]:List (List vV7))).bind fun r7 =>
(zb6 r7).bind fun r8 =>
 some (r8,0,())))
def bj (y8:(Int×Unit)) (r4:(List vV6×Int×Unit)) (y15:(Bool×Int×vV2×Unit)):Option ((Bool×Int×vV2×Unit)⊕((Int×Unit)⊕Bool)) :=
 cond (decide (y15.2.1<(r4.1.length:Int))) (
 cond y15.1 (some (.inl (true,(IntKind.wrap .i64 (y15.2.1+1)),y15.2.2.1,()))) ((atI r4.1 y15.2.1).bind fun x9 =>
 cond (decide (x9.2.1=y15.2.2.1.2.1)) ((atI r4.1 y15.2.1).bind fun x10 =>
(zc7 x10.1 y15.2.2.1.1).bind fun r11 =>
 some (.inl (r11,(IntKind.wrap .i64 (y15.2.1+1)),y15.2.2.1,()))) (some (.inl (false,(IntKind.wrap .i64 (y15.2.1+1)),y15.2.2.1,()))))) (
(cond (!y15.1) (
 some (.inr false)) (
 some (.inl ((IntKind.wrap .i64 (y8.1+1)),())))).map .inr)
def bu (r3:(List vV9×Int×Unit)) (r4:(List vV6×Int×Unit)) (y8:(Int×Unit)):Option ((Int×Unit)⊕Bool) :=
 cond (decide (y8.1<(r3.1.length:Int))) (
(atI r3.1 y8.1).bind fun x5 =>
((atI r3.1 y8.1).bind fun x6 =>
 cond (decide (x6.1=1)) (
(atI r3.1 y8.1).bind fun x7 =>
 some (.inl (x7.2.2.1,()))) (
 some (.inl (x5.2.1,()))):Option ((vV2×Unit)⊕((Int×Unit)⊕Bool))).bind (bd fun v8 =>
 aK (bj y8 r4) (false,0,v8.1,()))) (
((zck).bind fun r12 =>
 some r12).map .inr)
def cU (a0:vV1) (a1:(Int×Int×Unit)) (a2:Bool):Option Bool :=
(zcz a0).bind fun r1 =>
 cond (!r1) (
(zck).bind fun r2 =>
 some r2) (
(zcy a0 a1 a2).bind fun r3 =>
(eE a0 a1 a2).bind fun r4 =>
 cond (!decide (r3.2.1=r4.2.1)) (
 some false) (
 aK (bu r3 r4) (0,())))
def cA:TFn:={ ps:=(.cons tT13 (.cons tT15 (.cons .bool .unit))),res:=.bool,fn:=fun v=>cU v.1 v.2.1 v.2.2.1 }
end
end Go.Proofs.YtnbgkhdcidbkaaaGreatDoor.Y
