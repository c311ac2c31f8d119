import Derived.Test.YtnbgkhdcidbkaaaGreatDoorS
import Derived.Test.YtnbgkhdcidbkaaaGreatDoorT32
import GoSem.PinnedTables
set_option linter.unusedVariables false
set_option maxRecDepth 100000
namespace Go.Proofs.YtnbgkhdcidbkaaaGreatDoor.Y
open Go.EM Go.TY Go.Proofs
theorem zb.{u,v}{A:Type u}{B:Type v} (a:A) (f:A→Option B):(some a).bind f=f a:=rfl
theorem zg.{u}{A:Type u}{l:List A}{i:Nat} (h:i<l.length):l[i]? = some l[i]:=qAE h
theorem zl.{u}{A:Type u}{a:A}{l:List A}:(a::l).length=l.length+1:=rfl
theorem zf {p:Prop} [Decidable p] (h:¬p):decide p=false:=decide_eq_false h
theorem zn.{u}{c:Prop}{h:Decidable c} (hc:¬c) {A:Sort u}{t e:A}:ite c t e=e:=if_neg hc
theorem zp.{u}{c:Prop}{h:Decidable c} (hc:c) {A:Sort u}{t e:A}:ite c t e=t:=if_pos hc
theorem zm.{u}{A:Type u}{l:List A}{n:Nat} (h:n<l.length):l[n]∈l:=qCL h
theorem zt {p:Prop} [Decidable p] (h:p):decide p=true:=decide_eq_true h
noncomputable section
def G0:List (Nat×AVal):=[(3,.rptr (Lib.pow10Tab.map (AVal.int .u64)))]
def G0T:List (Nat×TV):=[]
theorem aK:rd G0 G0T:=afS
theorem au:∀ f,memN f [274]=true→Same Tryz.prog f:=by
 intro f h;by_cases e274:f=274
 · subst e274; exact ⟨Tryz.f274,Tryz.func274,by kernel_rfl,by kernel_rfl,by kernel_rfl,by kernel_rfl⟩
 simp_all [memN]
def eZ (l:List (Nat×PFn)) (s:List Nat):Env:={ pure:=l,raw:=[],glob:=G0,same:=s,look:=[],ext:=[] }
def vZ (l:List (Nat×TFn)):TEnv:={ pure:=l,look:=[],glob:=G0T,ty:=[],raw:=[],fresh:=[] }
def hZ (l:List (Nat×List Nat)) (o:List Nat):Hints:={ seqs:=[],loops:=l,own:=o }
def yZ:TH:={ joins:=[],loops:=[],cuts:=[],ro:=[],news:=[] }
abbrev vV0:=(Int×List (List UInt8)×(Int×Int×List UInt8×Unit)×Int×List ((Int×Int×Unit)×Int×Unit)×Unit)
abbrev vV1:=(List (List UInt8)×Int×List (Int×Int×List UInt8×Unit)×Int×Unit)
abbrev vV2:=(List ((Int×Int×Unit)×Int×Int×Bool×List vV0×Unit)×List ((Int×Int×Unit)×Int×Unit)×(List Int×List (Int×Int×Unit)×Unit)×(List Int×List (Int×Int×Unit)×Unit)×List (List (Int×Int×Unit))×Unit)
abbrev vV3:=((Int×Int×Unit)×Int×Unit)
abbrev vV4:=((Int×Int×Unit)×Int×Int×Bool×List vV0×Unit)
abbrev vV5:=(List (List UInt8)×Int×Unit)
abbrev vV6:=(Int×Int×List UInt8×Unit)
abbrev vV7:=(vV3×vV0×Int×Unit)
abbrev vV8:=(Int×vV1×vV1×Unit)
abbrev vV9:=(List Int×List (Int×Int×Unit)×Unit)
abbrev vV10:=(Int×List (vV3×Bool)×Unit)
abbrev vV11:=(List Int×Unit×Unit)
abbrev vV12:=(Bool×Unit×Unit)
abbrev vV13:=(Int×List vV7×Unit)
abbrev tT14:Ty:=(.agg (.cons (.sl (.agg (.cons (.agg (.cons (.int .i64) (.cons (.int .i64) .unit))) (.cons (.int .i64) (.cons (.int .i64) (.cons .bool (.cons (.sl (.agg (.cons (.int .i64) (.cons (.sl .str) (.cons (.agg (.cons (.int .i64) (.cons (.int .i64) (.cons .str .unit)))) (.cons (.int .i64) (.cons (.sl (.agg (.cons (.agg (.cons (.int .i64) (.cons (.int .i64) .unit))) (.cons (.int .i64) .unit)))) .unit))))))) .unit))))))) (.cons (.sl (.agg (.cons (.agg (.cons (.int .i64) (.cons (.int .i64) .unit))) (.cons (.int .i64) .unit)))) (.cons (.agg (.cons (.arr 16 (.int .i64)) (.cons (.sl (.agg (.cons (.int .i64) (.cons (.int .i64) .unit)))) .unit))) (.cons (.agg (.cons (.arr 16 (.int .i64)) (.cons (.sl (.agg (.cons (.int .i64) (.cons (.int .i64) .unit)))) .unit))) (.cons (.arr 8 (.sl (.agg (.cons (.int .i64) (.cons (.int .i64) .unit))))) .unit))))))
abbrev tT15:Ty:=(.agg (.cons (.int .i64) (.cons (.sl .str) (.cons (.agg (.cons (.int .i64) (.cons (.int .i64) (.cons .str .unit)))) (.cons (.int .i64) (.cons (.sl (.agg (.cons (.agg (.cons (.int .i64) (.cons (.int .i64) .unit))) (.cons (.int .i64) .unit)))) .unit))))))
abbrev tT16:Ty:=(.agg (.cons (.sl .str) (.cons (.int .i64) (.cons (.sl (.agg (.cons (.int .i64) (.cons (.int .i64) (.cons .str .unit))))) (.cons (.int .i64) .unit)))))
abbrev tT17:Ty:=(.agg (.cons (.int .i64) (.cons (.int .i64) .unit)))
abbrev tT18:Ty:=(.agg (.cons tT17 (.cons (.int .i64) .unit)))
abbrev tT19:Ty:=(.agg (.cons (.int .i64) (.cons (.int .i64) (.cons .str .unit))))
abbrev tT20:Ty:=(.agg (.cons tT18 (.cons tT15 (.cons (.int .i64) .unit))))
abbrev tT21:Ty:=(.agg (.cons tT17 (.cons (.int .i64) (.cons (.int .i64) (.cons .bool (.cons (.sl tT15) .unit))))))
abbrev tT22:Ty:=(.agg (.cons (.sl .str) (.cons (.int .i64) .unit)))
abbrev tT23:Ty:=(.agg (.cons (.int .i64) (.cons tT16 (.cons tT16 .unit))))
abbrev tT24:Ty:=(.agg (.cons (.arr 16 (.int .i64)) (.cons (.sl tT17) .unit)))
abbrev tT25:Ty:=(.cons (.int .i64) .unit)
abbrev tT26:Ty:=(.agg (.cons (.op 0) (.cons (.own 1) .unit)))
abbrev tT27:Ty:=(.agg (.cons (.arr 16 (.int .i64)) (.cons .nilsl .unit)))
abbrev tT28:Ty:=(.cons tT14 (.cons tT17 (.cons .bool .unit)))
abbrev tT29:Ty:=(.agg (.cons (.op 1) (.cons (.own 0) .unit)))
abbrev tT30:Ty:=(.cons (.sl .str) .unit)
def an8:Env:=(eZ [] [274])
def ayA:Hints:=(hZ [(4,[0,3])] [])
def an7:PFn:=aB (runF Tryz.prog an8 ayA Tryz.f15)
def aFh:TH:={ loops:=[(4,{ keep:=[(3,(.int .i64))],mem:=[] })],ro:=[] }
def xC (a0:List (List UInt8)) (y4:(Int×Unit)):Option ((Int×Unit)⊕Bool) :=
 cond (decide (y4.1<(a0.length:Int))) (
(atI a0 y4.1).bind fun x1 =>
 cond (decide ((x1.length:Int)>120)) (
 some (.inr false)) (
 some (.inl ((IntKind.wrap .i64 (y4.1+1)),())))) (
 some (.inr true))
def zc6 (a0:List (List UInt8)):Option Bool :=
 cond (decide ((a0.length:Int)>12)) (
 some false) (
 aH (xC a0) (0,()))
def ade:TFn:={ ps:=tT30,res:=.bool,fn:=fun v=>zc6 v.1 }
def ayz:TEnv:=(vZ [])
theorem ayy:runY Tryz.prog an8 ayA ayz aFh Tryz.f15 ade.ps ade.res=ade.fn:=by kernel_rfl
theorem an6:aA Tryz.prog G0 15 an7:=ai (ak ⟨au,ac,ap,ac,an⟩ Tryz.func15 rfl (by kernel_rfl))
theorem ayx:TOk an7 ade:=az (E:=an8) (ET:=ayz) (EnvT.ofX (ax al) am ar aK aq) ayy rfl
def amA:Env:=(eZ [(15,an7)] [274])
def awb:Hints:=(hZ [] [])
def amz:PFn:=aB (runF Tryz.prog amA awb Tryz.f108)
def aEA:TH:={ loops:=[],ro:=[1] }
def zdc (a0:vV0):Option Bool :=
(zc6 a0.2.1).bind fun r1 =>
 cond r1 (cond (decide ((a0.2.2.1.2.2.1.length:Int)≤200)) (some (decide ((a0.2.2.2.2.1.length:Int)≤300))) (some false)) (some false)
def acA:TFn:={ ps:=(.cons tT15 .unit),res:=.bool,fn:=fun v=>zdc v.1 }
def awa:TEnv:=(vZ [(15,ade)])
theorem av9:runY Tryz.prog amA awb awa aEA Tryz.f108 acA.ps acA.res=acA.fn:=by kernel_rfl
theorem amy:aA Tryz.prog G0 108 amz:=ai (ak ⟨au,(aj an6 ac),ap,ac,an⟩ Tryz.func108 rfl (by kernel_rfl))
theorem av8:TOk amz acA:=az (E:=amA) (ET:=awa) (EnvT.ofX (ax (ae ayx al)) am ar aK aq) av9 rfl
def anD:Env:=(eZ [(108,amz)] [274])
def axL:Hints:=(hZ [(4,[1,3])] [])
def anC:PFn:=aB (runF Tryz.prog anD axL Tryz.f41)
def aE3:TH:={ loops:=[(4,{ keep:=[(1,(.bx 0 0)),(3,(.int .i64))],mem:=[.same] })],ro:=[1] }
def xz (a0:vV4) (y4:(Int×Unit)):Option ((Int×Unit)⊕Bool) :=
 cond (decide (y4.1<(a0.2.2.2.2.1.length:Int))) (
(atI a0.2.2.2.2.1 y4.1).bind fun x1 =>
(zdc x1).bind fun r2 =>
 cond (!r2) (
 some (.inr false)) (
 some (.inl ((IntKind.wrap .i64 (y4.1+1)),())))) (
 some (.inr true))
def zck (a0:vV4):Option Bool :=
 cond (decide ((a0.2.2.2.2.1.length:Int)>20)) (
 some false) (
 aH (xz a0) (0,()))
def ac0:TFn:={ ps:=(.cons tT21 .unit),res:=.bool,fn:=fun v=>zck v.1 }
def axK:TEnv:=(vZ [(108,acA)])
theorem axJ:runY Tryz.prog anD axL axK aE3 Tryz.f41 ac0.ps ac0.res=ac0.fn:=by kernel_rfl
theorem anB:aA Tryz.prog G0 41 anC:=ai (ak ⟨au,(aj amy ac),ap,ac,an⟩ Tryz.func41 rfl (by kernel_rfl))
theorem axI:TOk anC ac0:=az (E:=anD) (ET:=axK) (EnvT.ofX (ax (ae av8 al)) am ar aK aq) axJ rfl
def aom:Env:=(eZ [(41,anC)] [274])
def ayW:Hints:=(hZ [(4,[1,3]),(9,[1,4])] [])
def aol:PFn:=aB (runF Tryz.prog aom ayW Tryz.f95)
def aFn:TH:={ joins:=[(8,{ keep:=[(1,(.bx 0 0))],mem:=[.box 69 tT14] })],loops:=[(4,{ keep:=[(1,(.bx 0 0)),(3,(.int .i64))],mem:=[.box 69 tT14] }),(9,{ keep:=[(1,(.bx 0 0)),(4,(.int .i64))],mem:=[.box 69 tT14] })],cuts:=[(1,[(10,{ keep:=[(1,(.bx 0 0)),(14,.bool)],mem:=[.box 69 tT14] })])],ro:=[],news:=[] }
def ou (y4:(Int×vV2×Unit)):Option ((Int×vV2×Unit)⊕((vV2×Unit)⊕Bool)) :=
 cond (decide (y4.1<(y4.2.1.1.length:Int))) (
(atI y4.2.1.1 y4.1).bind fun x2 =>
(zck x2).bind fun r3 =>
 cond (!r3) (
 some (.inr (.inr false))) (
 some (.inl ((IntKind.wrap .i64 (y4.1+1)),y4.2.1,())))) (
 some (.inr (.inl (y4.2.1,()))))
def ot (y9:(Int×vV2×Unit)):Option ((Int×vV2×Unit)⊕Bool) :=
 cond (decide (y9.1<8)) (
(inI 8 y9.1).bind fun i5 =>
(y9.2.1.2.2.2.2.1[i5]?).bind fun x6 =>
 cond (decide ((x6.length:Int)>40)) (
 some (.inr false)) (
 some (.inl ((IntKind.wrap .i64 (y9.1+1)),y9.2.1,())))) (
 some (.inr true))
def zc0 (a0:vV2):Option Bool :=
(cond (decide ((a0.1.length:Int)>20)) (some (true,a0,())) (some ((decide ((a0.2.1.length:Int)>100)),a0,())):Option (Bool×vV2×Unit)).bind fun v1 =>
 cond v1.1 (some false) (cond (decide ((v1.2.1.2.2.1.2.1.length:Int)>100)) (some false) (cond (decide ((v1.2.1.2.2.2.1.2.1.length:Int)>100)) (
 some false) (
(aH (ou) (0,v1.2.1,()):Option ((vV2×Unit)⊕Bool)).bind (aT fun v4 =>
 aH (ot) (0,v4.1,())))))
def adk:TFn:={ ps:=(.cons tT14 .unit),res:=.bool,fn:=fun v=>zc0 v.1 }
def ayV:TEnv:=(vZ [(41,ac0)])
theorem ayU:runY Tryz.prog aom ayW ayV aFn Tryz.f95 adk.ps adk.res=adk.fn:=by kernel_rfl
theorem aok:aA Tryz.prog G0 95 aol:=ai (ak ⟨au,(aj anB ac),ap,ac,an⟩ Tryz.func95 rfl (by kernel_rfl))
theorem ayT:TOk aol adk:=az (E:=aom) (ET:=ayV) (EnvT.ofX (ax (ae axI al)) am ar aK aq) ayU rfl
def amU:Env:=(eZ [] [274])
def awK:Hints:=(hZ [] [])
def agU:PFn:=aB (runF Tryz.prog amU awK Tryz.f172)
def aEK:TH:=yZ
def zd2 (a0:Int) (a1:Int):Option Int :=
 cond (decide (a0<a1)) (
 some (-1)) (
 cond (decide (a0>a1)) (
 some 1) (
 some 0))
def zZ:TFn:={ ps:=(.cons (.int .i64) tT25),res:=(.int .i64),fn:=fun v=>zd2 v.1 v.2.1 }
def awJ:TEnv:=(vZ [])
theorem awI:runY Tryz.prog amU awK awJ aEK Tryz.f172 zZ.ps zZ.res=zZ.fn:=by kernel_rfl
theorem acK:aA Tryz.prog G0 172 agU:=ai (ak ⟨au,ac,ap,ac,an⟩ Tryz.func172 rfl (by kernel_rfl))
theorem ajk:TOk agU zZ:=az (E:=amU) (ET:=awJ) (EnvT.ofX (ax al) am ar aK aq) awI rfl
def aoF:Env:=(eZ [(172,agU)] [274])
def azu:Hints:=(hZ [] [])
def rC:PFn:=aB (runF Tryz.prog aoF azu Tryz.f101)
def aFx:TH:={ loops:=[],ro:=[2,3] }
def zbq (a0:(Int×Int×Unit)) (a1:(Int×Int×Unit)):Option Int :=
 cond (!decide (a0.1=a1.1)) (
(zd2 a0.1 a1.1).bind fun r1 =>
 some r1) (
(zd2 a0.2.1 a1.2.1).bind fun r2 =>
 some r2)
def nQ:TFn:={ ps:=(.cons tT17 (.cons tT17 .unit)),res:=(.int .i64),fn:=fun v=>zbq v.1 v.2.1 }
def azt:TEnv:=(vZ [(172,zZ)])
theorem azs:runY Tryz.prog aoF azu azt aFx Tryz.f101 nQ.ps nQ.res=nQ.fn:=by kernel_rfl
theorem jM:aA Tryz.prog G0 101 rC:=ai (ak ⟨au,(aj acK ac),ap,ac,an⟩ Tryz.func101 rfl (by kernel_rfl))
theorem ow:TOk rC nQ:=az (E:=aoF) (ET:=azt) (EnvT.ofX (ax (ae ajk al)) am ar aK aq) azs rfl
def aod:Env:=(eZ [(101,rC)] [274])
def ayK:Hints:=(hZ [(2,[0,3])] [])
def aoc:PFn:=aB (runF Tryz.prog aod ayK Tryz.f152)
def aFk:TH:={ loops:=[(2,{ keep:=[(3,(.int .i64))],mem:=[] })],ro:=[] }
def xE (a0:List vV4) (y2:(Int×Unit)):Option ((Int×Unit)⊕Bool) :=
 cond (decide (y2.1<(a0.length:Int))) (
(atI a0 (IntKind.wrap .i64 (y2.1-1))).bind fun x1 =>
(atI a0 y2.1).bind fun x2 =>
(zbq x1.1 x2.1).bind fun r3 =>
 cond (!decide (r3=(-1))) (
 some (.inr false)) (
 some (.inl ((IntKind.wrap .i64 (y2.1+1)),())))) (
 some (.inr true))
def zc3 (a0:List vV4):Option Bool :=
 aH (xE a0) (1,())
def adh:TFn:={ ps:=(.cons (.sl tT21) .unit),res:=.bool,fn:=fun v=>zc3 v.1 }
def ayJ:TEnv:=(vZ [(101,nQ)])
theorem ayI:runY Tryz.prog aod ayK ayJ aFk Tryz.f152 adh.ps adh.res=adh.fn:=by kernel_rfl
theorem aob:aA Tryz.prog G0 152 aoc:=ai (ak ⟨au,(aj jM ac),ap,ac,an⟩ Tryz.func152 rfl (by kernel_rfl))
theorem ayH:TOk aoc adh:=az (E:=aod) (ET:=ayJ) (EnvT.ofX (ax (ae ow al)) am ar aK aq) ayI rfl
def am0:Env:=(eZ [] [274])
def awX:Hints:=(hZ [] [])
def nP:PFn:=aB (runF Tryz.prog am0 awX Tryz.f109)
def aEO:TH:={ loops:=[],ro:=[1] }
def zcy (a0:(Int×Int×Unit)):Option Bool :=
 cond (decide (a0.1≥0)) (cond (decide (a0.1≤15)) (cond (decide (a0.2.1≥1)) (some (decide (a0.2.1≤1048576))) (some false)) (some false)) (some false)
def kY:TFn:={ ps:=(.cons tT17 .unit),res:=.bool,fn:=fun v=>zcy v.1 }
def awW:TEnv:=(vZ [])
theorem awV:runY Tryz.prog am0 awX awW aEO Tryz.f109 kY.ps kY.res=kY.fn:=by kernel_rfl
theorem gn:aA Tryz.prog G0 109 nP:=ai (ak ⟨au,ac,ap,ac,an⟩ Tryz.func109 rfl (by kernel_rfl))
theorem kx:TOk nP kY:=az (E:=am0) (ET:=awW) (EnvT.ofX (ax al) am ar aK aq) awV rfl
def amH:Env:=(eZ [(109,nP)] [274])
def awm:Hints:=(hZ [] [])
def agS:PFn:=aB (runF Tryz.prog amH awm Tryz.f224)
def aED:TH:={ loops:=[],ro:=[1] }
def zd9 (a0:vV3):Option Bool :=
(zcy a0.1).bind fun r1 =>
 cond r1 (cond (decide (a0.2.1≥1)) (some (decide (a0.2.1≤64))) (some false)) (some false)
def zX:TFn:={ ps:=(.cons tT18 .unit),res:=.bool,fn:=fun v=>zd9 v.1 }
def awl:TEnv:=(vZ [(109,kY)])
theorem awk:runY Tryz.prog amH awm awl aED Tryz.f224 zX.ps zX.res=zX.fn:=by kernel_rfl
theorem acD:aA Tryz.prog G0 224 agS:=ai (ak ⟨au,(aj gn ac),ap,ac,an⟩ Tryz.func224 rfl (by kernel_rfl))
theorem aji:TOk agS zX:=az (E:=amH) (ET:=awl) (EnvT.ofX (ax (ae kx al)) am ar aK aq) awk rfl
def an5:Env:=(eZ [(101,rC),(224,agS)] [274])
def ayw:Hints:=(hZ [(2,[0,3])] [])
def an4:PFn:=aB (runF Tryz.prog an5 ayw Tryz.f153)
def aFg:TH:={ loops:=[(2,{ keep:=[(3,(.int .i64))],mem:=[] })],ro:=[] }
def xB (a0:List vV3) (y2:(Int×Unit)):Option ((Int×Unit)⊕Bool) :=
 cond (decide (y2.1<(a0.length:Int))) (
(atI a0 y2.1).bind fun x1 =>
(zd9 x1).bind fun r2 =>
 cond (!r2) (some (.inr false)) (cond (decide (y2.1>0)) ((atI a0 (IntKind.wrap .i64 (y2.1-1))).bind fun x3 =>
(atI a0 y2.1).bind fun x4 =>
(zbq x3.1 x4.1).bind fun r5 =>
 cond (!decide (r5=(-1))) (
 some (.inr false)) (
 some (.inl ((IntKind.wrap .i64 (y2.1+1)),())))) (some (.inl ((IntKind.wrap .i64 (y2.1+1)),()))))) (
 some (.inr true))
def zc7 (a0:List vV3):Option Bool :=
 aH (xB a0) (0,())
def adc:TFn:={ ps:=(.cons (.sl tT18) .unit),res:=.bool,fn:=fun v=>zc7 v.1 }
def ayv:TEnv:=(vZ [(101,nQ),(224,zX)])
theorem ayu:runY Tryz.prog an5 ayw ayv aFg Tryz.f153 adc.ps adc.res=adc.fn:=by kernel_rfl
theorem an3:aA Tryz.prog G0 153 an4:=ai (ak ⟨au,(aj jM (aj acD ac)),ap,ac,an⟩ Tryz.func153 rfl (by kernel_rfl))
theorem ayt:TOk an4 adc:=az (E:=an5) (ET:=ayv) (EnvT.ofX (ax (ae ow (ae aji al))) am ar aK aq) ayu rfl
def anu:Env:=(eZ [] [274])
def axD:Hints:=(hZ [(2,[1,3])] [])
def ant:PFn:=aB (runF Tryz.prog anu axD Tryz.f235)
def aEZ:TH:={ loops:=[(2,{ keep:=[(1,(.bx 0 0)),(3,(.int .i64))],mem:=[.box 63 (.arr 16 (.int .i64))] })],ro:=[] }
def xx (y2:(Int×List Int×Unit)):Option ((Int×List Int×Unit)⊕Bool) :=
 cond (decide (y2.1<16)) (
(inI 16 y2.1).bind fun i1 =>
(y2.2.1[i1]?).bind fun x2 =>
 cond (decide (x2<0)) (some (.inr false)) ((inI 16 y2.1).bind fun i3 =>
(y2.2.1[i3]?).bind fun x4 =>
 cond (decide (x4>1048576)) (
 some (.inr false)) (
 some (.inl ((IntKind.wrap .i64 (y2.1+1)),y2.2.1,()))))) (
 some (.inr true))
def zcn (a0:List Int):Option Bool :=
 aH (xx) (0,a0,())
def acY:TFn:={ ps:=(.cons (.arr 16 (.int .i64)) .unit),res:=.bool,fn:=fun v=>zcn v.1 }
def axC:TEnv:=(vZ [])
theorem axB:runY Tryz.prog anu axD axC aEZ Tryz.f235 acY.ps acY.res=acY.fn:=by kernel_rfl
theorem ans:aA Tryz.prog G0 235 ant:=ai (ak ⟨au,ac,ap,ac,an⟩ Tryz.func235 rfl (by kernel_rfl))
theorem axA:TOk ant acY:=az (E:=anu) (ET:=axC) (EnvT.ofX (ax al) am ar aK aq) axB rfl
def anr:Env:=(eZ [(101,rC),(109,nP),(235,ant)] [274])
def axz:Hints:=(hZ [(4,[1,3])] [])
def anq:PFn:=aB (runF Tryz.prog anr axz Tryz.f166)
def aEY:TH:={ loops:=[(4,{ keep:=[(1,(.bx 0 0)),(3,(.int .i64))],mem:=[.box 66 tT24] })],ro:=[] }
def lP (y4:(Int×vV9×Unit)):Option ((Int×vV9×Unit)⊕Bool) :=
 cond (decide (y4.1<(y4.2.1.2.1.length:Int))) (
(atI y4.2.1.2.1 y4.1).bind fun x2 =>
(zcy x2).bind fun r3 =>
 cond (!r3) (some (.inr false)) ((inI 16 x2.1).bind fun i4 =>
(y4.2.1.1[i4]?).bind fun x5 =>
 cond (decide ((IntKind.wrap .i64 (x2.2.1-1))≤x5)) (
 some (.inr false)) (
 cond (decide (y4.1>0)) ((atI y4.2.1.2.1 (IntKind.wrap .i64 (y4.1-1))).bind fun x6 =>
(zbq x6 x2).bind fun r7 =>
 cond (!decide (r7=(-1))) (
 some (.inr false)) (
 some (.inl ((IntKind.wrap .i64 (y4.1+1)),y4.2.1,())))) (some (.inl ((IntKind.wrap .i64 (y4.1+1)),y4.2.1,())))))) (
 some (.inr true))
def zco (a0:vV9):Option Bool :=
(zcn a0.1).bind fun r1 =>
 cond (!r1) (some false) (cond (decide ((a0.2.1.length:Int)>4096)) (
 some false) (
 aH (lP) (0,a0,())))
def acX:TFn:={ ps:=(.cons tT24 .unit),res:=.bool,fn:=fun v=>zco v.1 }
def axy:TEnv:=(vZ [(101,nQ),(109,kY),(235,acY)])
theorem axx:runY Tryz.prog anr axz axy aEY Tryz.f166 acX.ps acX.res=acX.fn:=by kernel_rfl
theorem anp:aA Tryz.prog G0 166 anq:=ai (ak ⟨au,(aj jM (aj gn (aj ans ac))),ap,ac,an⟩ Tryz.func166 rfl (by kernel_rfl))
theorem axw:TOk anq acX:=az (E:=anr) (ET:=axy) (EnvT.ofX (ax (ae ow (ae kx (ae axA al)))) am ar aK aq) axx rfl
def alM:Env:=(eZ [] [274])
def auU:Hints:=(hZ [(17,[0,4,5,6,7])] [])
def alL:PFn:=aB (runF Tryz.prog alM auU Tryz.f216)
def aEe:TH:={ joins:=[(14,{ keep:=[(4,(.int .i64)),(5,(.int .i64)),(6,(.int .i64))],mem:=[] }),(9,{ keep:=[(18,.bool)],mem:=[] }),(22,{ keep:=[(4,(.int .i64))],mem:=[] }),(24,{ keep:=[],mem:=[] })],loops:=[(17,{ keep:=[(4,(.int .i64)),(7,(.int .i64))],mem:=[] })],ro:=[] }
def gm (a0:List UInt8) (v3:(Int×Int×Int×Unit)) (y17:(Int×Int×Unit)):Option ((Int×Int×Unit)⊕((Int×Unit)⊕(Int×Int×Unit))) :=
 cond (decide (y17.2.1<v3.2.1)) (
(atI a0 y17.2.1).bind fun b4 =>
 cond (decide ((b4.toNat:Int)<128)) (some (.inr (.inr (0,0,())))) ((atI a0 y17.2.1).bind fun b5 =>
 cond (decide ((b5.toNat:Int)>191)) (
 some (.inr (.inr (0,0,())))) (
(atI a0 y17.2.1).bind fun b6 =>
 some (.inl ((IntKind.wrap .i64 ((IntKind.wrap .i64 ((IntKind.wrap .i64 (64*y17.1))+(IntKind.wrap .i64 (b6.toNat:Int))))-128)),(IntKind.wrap .i64 (y17.2.1+1)),()))))) (
 some (.inr (.inl (y17.1,()))))
def zdy (a0:List UInt8):Option (Int×Int×Unit) :=
 cond (decide ((a0.length:Int)=0)) (
 some (0,0,())) (
(atI a0 0).bind fun b1 =>
(cond (decide ((IntKind.wrap .i64 (b1.toNat:Int))<128)) (
 some (.inr ((IntKind.wrap .i64 (b1.toNat:Int)),1,()))) (
(cond (decide ((IntKind.wrap .i64 (b1.toNat:Int))≥194)) (some (.inl ((decide ((IntKind.wrap .i64 (b1.toNat:Int))<224)),()))) (some (.inl (false,()))):Option ((Bool×Unit)⊕((Int×Int×Int×Unit)⊕(Int×Int×Unit)))).bind (aT fun v2 =>
 cond v2.1 (
 some (.inl ((IntKind.wrap .i64 ((IntKind.wrap .i64 (b1.toNat:Int))-192)),2,128,()))) (
 cond (decide ((IntKind.wrap .i64 (b1.toNat:Int))≥224)) (cond (decide ((IntKind.wrap .i64 (b1.toNat:Int))<240)) (
 some (.inl ((IntKind.wrap .i64 ((IntKind.wrap .i64 (b1.toNat:Int))-224)),3,2048,()))) (
 cond (decide ((IntKind.wrap .i64 (b1.toNat:Int))≥240)) (cond (decide ((IntKind.wrap .i64 (b1.toNat:Int))<245)) (
 some (.inl ((IntKind.wrap .i64 ((IntKind.wrap .i64 (b1.toNat:Int))-240)),4,65536,()))) (
 some (.inr (0,0,())))) (some (.inr (0,0,()))))) (cond (decide ((IntKind.wrap .i64 (b1.toNat:Int))≥240)) (cond (decide ((IntKind.wrap .i64 (b1.toNat:Int))<245)) (
 some (.inl ((IntKind.wrap .i64 ((IntKind.wrap .i64 (b1.toNat:Int))-240)),4,65536,()))) (
 some (.inr (0,0,())))) (some (.inr (0,0,()))))))):Option ((Int×Int×Int×Unit)⊕(Int×Int×Unit))).bind (aT fun v3 =>
 cond (decide ((a0.length:Int)<v3.2.1)) (
 some (0,0,())) (
(aH (gm a0 v3) (v3.1,1,()):Option ((Int×Unit)⊕(Int×Int×Unit))).bind (aT fun v7 =>
(cond (decide (v7.1<v3.2.2.1)) (some (.inr (0,0,()))) (cond (decide (v7.1>1114111)) (some (.inr (0,0,()))) (cond (decide (v7.1≥55296)) (cond (decide (v7.1≤57343)) (
 some (.inr (0,0,()))) (
 some (.inl ()))) (some (.inl ())))):Option (Unit⊕(Int×Int×Unit))).bind (aT fun v8 =>
 some (v7.1,v3.2.1,()))))))
def acf:TFn:={ ps:=(.cons .str .unit),res:=(.tup (.cons (.int .i64) tT25)),fn:=fun v=>zdy v.1 }
def auT:TEnv:=(vZ [])
theorem auS:runY Tryz.prog alM auU auT aEe Tryz.f216 acf.ps acf.res=acf.fn:=by kernel_rfl
theorem alK:aA Tryz.prog G0 216 alL:=ai (ak ⟨au,ac,ap,ac,an⟩ Tryz.func216 rfl (by kernel_rfl))
theorem auR:TOk alL acf:=az (E:=alM) (ET:=auT) (EnvT.ofX (ax al) am ar aK aq) auS rfl
def anZ:Env:=(eZ [(216,alL)] [274])
def ayo:Hints:=(hZ [(3,[0,4,5])] [])
def ag5:PFn:=aB (runF Tryz.prog anZ ayo Tryz.f144)
def aFe:TH:={ loops:=[(3,{ keep:=[(4,(.own 0)),(5,(.int .i64))],mem:=[.row true 3 (.int .i64)] })],ro:=[] }
def oq (a0:List UInt8) (y3:(Int×List Int×Unit)):Option ((Int×List Int×Unit)⊕(List Int×Bool×Unit)) :=
 cond (decide (y3.1<(a0.length:Int))) (
(subI a0 y3.1 (a0.length:Int)).bind fun s1 =>
(zdy s1).bind fun r2 =>
 cond (decide (r2.2.1=0)) (
 some (.inr ([],false,()))) (
(bh (y3.2.1.length+([r2.1]:List Int).length)).bind fun u3 =>
 some (.inl ((IntKind.wrap .i64 (y3.1+r2.2.1)),(y3.2.1++([r2.1]:List Int)),())))) (
 some (.inr (y3.2.1,true,())))
def zc9 (a0:List UInt8):Option (List Int×Bool×Unit) :=
 aH (oq a0) (0,[],())
def aaf:TFn:={ ps:=(.cons .str .unit),res:=(.tup (.cons (.sl (.int .i64)) (.cons .bool .unit))),fn:=fun v=>zc9 v.1 }
def ayn:TEnv:={ pure:=[(216,acf)],look:=[],glob:=G0T,ty:=[(3,(.int .i64))],raw:=[],fresh:=[] }
theorem aym:runY Tryz.prog anZ ayo ayn aFe Tryz.f144 aaf.ps aaf.res=aaf.fn:=by kernel_rfl
theorem ada:aA Tryz.prog G0 144 ag5:=ai (ak ⟨au,(aj alK ac),ap,ac,an⟩ Tryz.func144 rfl (by kernel_rfl))
theorem ajt:TOk ag5 aaf:=az (E:=anZ) (ET:=ayn) (EnvT.ofX (ax (ae auR al)) am ar aK aq) aym rfl
def akM:Env:=(eZ [] [274])
def atl:Hints:=(hZ [] [])
def akL:PFn:=aB (runF Tryz.prog akM atl Tryz.f306)
def aDP:TH:=yZ
def zen (a0:Int):Option Bool :=
 cond (decide (a0≥32)) (cond (decide (a0<127)) (some (!decide (a0=65533))) (cond (decide (a0>159)) (some (!decide (a0=65533))) (some false))) (some false)
def abJ:TFn:={ ps:=tT25,res:=.bool,fn:=fun v=>zen v.1 }
def atk:TEnv:=(vZ [])
theorem atj:runY Tryz.prog akM atl atk aDP Tryz.f306 abJ.ps abJ.res=abJ.fn:=by kernel_rfl
theorem akK:aA Tryz.prog G0 306 akL:=ai (ak ⟨au,ac,ap,ac,an⟩ Tryz.func306 rfl (by kernel_rfl))
theorem ati:TOk akL abJ:=az (E:=akM) (ET:=atk) (EnvT.ofX (ax al) am ar aK aq) atj rfl
def anJ:Env:=(eZ [(144,ag5),(306,akL)] [274])
def axW:Hints:=(hZ [(3,[3,4,5])] [])
def anI:PFn:=aB (runF Tryz.prog anJ axW Tryz.f253)
def aE6:TH:={ joins:=[(7,{ keep:=[],mem:=[] })],loops:=[(3,{ keep:=[(5,(.int .i64))],mem:=[] })],ro:=[] }
def ry (r1:(List Int×Bool×Unit)) (y3:(Int×Unit)):Option ((Int×Unit)⊕(Unit⊕Bool)) :=
 cond (decide (y3.1<(r1.1.length:Int))) (
(atI r1.1 y3.1).bind fun x2 =>
(zen x2).bind fun r3 =>
 cond (!r3) (
 some (.inr (.inr false))) (
 some (.inl ((IntKind.wrap .i64 (y3.1+1)),())))) (
 some (.inr (.inl ())))
def zch (a0:List UInt8):Option Bool :=
(zc9 a0).bind fun r1 =>
(aH (ry r1) (0,()):Option (Unit⊕Bool)).bind (aT fun v4 =>
 cond r1.2.1 (cond (decide ((r1.1.length:Int)≥1)) (some (decide ((r1.1.length:Int)≤24))) (some false)) (some false))
def ac2:TFn:={ ps:=(.cons .str .unit),res:=.bool,fn:=fun v=>zch v.1 }
def axV:TEnv:=(vZ [(144,aaf),(306,abJ)])
theorem axU:runY Tryz.prog anJ axW axV aE6 Tryz.f253 ac2.ps ac2.res=ac2.fn:=by kernel_rfl
theorem anH:aA Tryz.prog G0 253 anI:=ai (ak ⟨au,(aj ada (aj akK ac)),ap,ac,an⟩ Tryz.func253 rfl (by kernel_rfl))
theorem axT:TOk anI ac2:=az (E:=anJ) (ET:=axV) (EnvT.ofX (ax (ae ajt (ae ati al))) am ar aK aq) axU rfl
def anA:Env:=(eZ [(253,anI)] [274])
def axH:Hints:=(hZ [(6,[0,3])] [])
def anz:PFn:=aB (runF Tryz.prog anA axH Tryz.f183)
def aE2:TH:={ loops:=[(6,{ keep:=[(3,(.int .i64))],mem:=[] })],ro:=[] }
def xy (a0:List (List UInt8)) (y6:(Int×Unit)):Option ((Int×Unit)⊕Int) :=
 cond (decide (y6.1<(a0.length:Int))) (
(atI a0 y6.1).bind fun x1 =>
(zch x1).bind fun r2 =>
 cond (!r2) (
 some (.inr 8)) (
 some (.inl ((IntKind.wrap .i64 (y6.1+1)),())))) (
 some (.inr 0))
def zcl (a0:List (List UInt8)):Option Int :=
 cond (decide ((a0.length:Int)=0)) (
 some 8) (
 cond (decide ((a0.length:Int)>8)) (
 some 9) (
 aH (xy a0) (0,())))
def acZ:TFn:={ ps:=tT30,res:=(.int .i64),fn:=fun v=>zcl v.1 }
def axG:TEnv:=(vZ [(253,ac2)])
theorem axF:runY Tryz.prog anA axH axG aE2 Tryz.f183 acZ.ps acZ.res=acZ.fn:=by kernel_rfl
theorem anx:aA Tryz.prog G0 183 anz:=ai (ak ⟨au,(aj anH ac),ap,ac,an⟩ Tryz.func183 rfl (by kernel_rfl))
theorem axE:TOk anz acZ:=az (E:=anA) (ET:=axG) (EnvT.ofX (ax (ae axT al)) am ar aK aq) axF rfl
def an2:Env:=(eZ [(144,ag5)] [274])
def ays:Hints:=(hZ [] [])
def an1:PFn:=aB (runF Tryz.prog an2 ays Tryz.f184)
def aFf:TH:={ loops:=[],ro:=[1] }
def zc8 (a0:vV6):Option Bool :=
 cond (decide (a0.1=1)) (
 cond (decide (a0.2.2.1=[])) (cond (decide (a0.2.1≥(-2147483647))) (some (decide (a0.2.1≤2147483647))) (some false)) (some false)) (
 cond (decide (a0.1=2)) (
(zc9 a0.2.2.1).bind fun r1 =>
 cond (decide (a0.2.1=0)) (cond r1.2.1 (some (decide ((a0.2.2.1.length:Int)≤64))) (some false)) (some false)) (
 cond (decide (a0.1=3)) (cond (decide (a0.2.2.1=[])) (cond (decide (a0.2.1≥0)) (some (decide (a0.2.1≤1))) (some false)) (some false)) (some false)))
def adb:TFn:={ ps:=(.cons tT19 .unit),res:=.bool,fn:=fun v=>zc8 v.1 }
def ayr:TEnv:=(vZ [(144,aaf)])
theorem ayq:runY Tryz.prog an2 ays ayr aFf Tryz.f184 adb.ps adb.res=adb.fn:=by kernel_rfl
theorem an0:aA Tryz.prog G0 184 an1:=ai (ak ⟨au,(aj ada ac),ap,ac,an⟩ Tryz.func184 rfl (by kernel_rfl))
theorem ayp:TOk an1 adb:=az (E:=an2) (ET:=ayr) (EnvT.ofX (ax (ae ajt al)) am ar aK aq) ayq rfl
def alT:Env:=(eZ [(101,rC),(172,agU)] [274])
def ava:Hints:=(hZ [] [])
def alS:PFn:=aB (runF Tryz.prog alT ava Tryz.f254)
def aEj:TH:={ loops:=[],ro:=[2,3] }
def zdt (a0:vV3) (a1:vV3):Option Int :=
(zbq a0.1 a1.1).bind fun r1 =>
 cond (!decide (r1=0)) (
(zbq a0.1 a1.1).bind fun r2 =>
 some r2) (
(zd2 a0.2.1 a1.2.1).bind fun r3 =>
 some r3)
def acl:TFn:={ ps:=(.cons tT18 (.cons tT18 .unit)),res:=(.int .i64),fn:=fun v=>zdt v.1 v.2.1 }
def au9:TEnv:=(vZ [(101,nQ),(172,zZ)])
theorem au8:runY Tryz.prog alT ava au9 aEj Tryz.f254 acl.ps acl.res=acl.fn:=by kernel_rfl
theorem alR:aA Tryz.prog G0 254 alS:=ai (ak ⟨au,(aj jM (aj acK ac)),ap,ac,an⟩ Tryz.func254 rfl (by kernel_rfl))
theorem au7:TOk alS acl:=az (E:=alT) (ET:=au9) (EnvT.ofX (ax (ae ow (ae ajk al))) am ar aK aq) au8 rfl
def al5:Env:=(eZ [(109,nP),(254,alS)] [274])
def avq:Hints:=(hZ [(2,[0,3])] [])
def al4:PFn:=aB (runF Tryz.prog al5 avq Tryz.f185)
def aEn:TH:={ loops:=[(2,{ keep:=[(3,(.int .i64))],mem:=[] })],ro:=[] }
def xg (a0:List vV3) (y2:(Int×Unit)):Option ((Int×Unit)⊕Bool) :=
 cond (decide (y2.1<(a0.length:Int))) (
(atI a0 y2.1).bind fun x1 =>
(zcy x1.1).bind fun r2 =>
 cond (!r2) (some (.inr false)) ((atI a0 y2.1).bind fun x3 =>
 cond (decide (x3.2.1<0)) (some (.inr false)) ((atI a0 y2.1).bind fun x4 =>
 cond (decide (x4.2.1>15)) (
 some (.inr false)) (
 cond (decide (y2.1>0)) ((atI a0 (IntKind.wrap .i64 (y2.1-1))).bind fun x5 =>
(atI a0 y2.1).bind fun x6 =>
(zdt x5 x6).bind fun r7 =>
 cond (!decide (r7=(-1))) (
 some (.inr false)) (
 some (.inl ((IntKind.wrap .i64 (y2.1+1)),())))) (some (.inl ((IntKind.wrap .i64 (y2.1+1)),()))))))) (
 some (.inr true))
def zdp (a0:List vV3):Option Bool :=
 aH (xg a0) (0,())
def acp:TFn:={ ps:=(.cons (.sl tT18) .unit),res:=.bool,fn:=fun v=>zdp v.1 }
def avp:TEnv:=(vZ [(109,kY),(254,acl)])
theorem avo:runY Tryz.prog al5 avq avp aEn Tryz.f185 acp.ps acp.res=acp.fn:=by kernel_rfl
theorem al3:aA Tryz.prog G0 185 al4:=ai (ak ⟨au,(aj gn (aj alR ac)),ap,ac,an⟩ Tryz.func185 rfl (by kernel_rfl))
theorem avn:TOk al4 acp:=az (E:=al5) (ET:=avp) (EnvT.ofX (ax (ae kx (ae au7 al))) am ar aK aq) avo rfl
def amG:Env:=(eZ [(183,anz),(184,an1),(185,al4)] [274])
def awj:Hints:=(hZ [] [])
def amF:PFn:=aB (runF Tryz.prog amG awj Tryz.f110)
def aEC:TH:={ joins:=[(9,{ keep:=[(1,(.bx 0 0))],mem:=[.same,.gone] }),(11,{ keep:=[(1,(.bx 0 0))],mem:=[.same,.gone] }),(13,{ keep:=[(1,(.bx 0 0))],mem:=[.same,.gone] }),(15,{ keep:=[(1,(.bx 0 0))],mem:=[.same,.gone] })],loops:=[],cuts:=[(11,[(8,{ keep:=[(1,(.bx 0 0)),(55,.bool)],mem:=[.same,.gone] })])],ro:=[1],news:=[] }
def zda (a0:vV0):Option Int :=
 cond (decide (a0.1<1)) (some 18) (cond (decide (a0.1>5)) (
 some 18) (
(zcl a0.2.1).bind fun r1 =>
 cond (!decide (r1=0)) (
 some r1) (
(cond (decide (a0.1=3)) (cond (!(eqV tT19 a0.2.2.1 (0,0,[],()))) (
 some (.inr 2)) (
 some (.inl ()))) (cond (decide (a0.1=5)) (cond (!(eqV tT19 a0.2.2.1 (0,0,[],()))) (
 some (.inr 2)) (
 some (.inl ()))) (some (.inl ()))):Option (Unit⊕Int)).bind (aT fun v2 =>
(cond (!decide (a0.1=3)) (cond (!decide (a0.1=5)) ((zc8 a0.2.2.1).bind fun r3 =>
 cond (!r3) (
 some (.inr 2)) (
 some (.inl ()))) (some (.inl ()))) (some (.inl ())):Option (Unit⊕Int)).bind (aT fun v4 =>
((cond (!decide (a0.1=3)) (some ((!decide (a0.2.2.2.1=0)),())) (some (false,())):Option (Bool×Unit)).bind fun v5 =>
 cond v5.1 (some (.inr 2)) (cond (decide (a0.1=3)) (cond (decide (a0.2.2.2.1=0)) (some (.inr 2)) (cond (decide (a0.2.2.2.1>2147483647)) (some (.inr 2)) (cond (decide (a0.2.2.2.1<(-2147483647))) (
 some (.inr 2)) (
 some (.inl ()))))) (some (.inl ()))):Option (Unit⊕Int)).bind (aT fun v6 =>
(cond (decide (a0.1=2)) (cond (decide ((a0.2.2.2.2.1.length:Int)>0)) (
 some (.inr 2)) (
 some (.inl ()))) (cond (decide (a0.1=3)) (cond (decide ((a0.2.2.2.2.1.length:Int)>0)) (
 some (.inr 2)) (
 some (.inl ()))) (some (.inl ()))):Option (Unit⊕Int)).bind (aT fun v7 =>
 cond (decide ((a0.2.2.2.2.1.length:Int)>256)) (
 some 7) (
(zdp a0.2.2.2.2.1).bind fun r8 =>
 cond (!r8) (
 some 2) (
 some 0)))))))))
def acC:TFn:={ ps:=(.cons tT15 .unit),res:=(.int .i64),fn:=fun v=>zda v.1 }
def awi:TEnv:=(vZ [(183,acZ),(184,adb),(185,acp)])
theorem awh:runY Tryz.prog amG awj awi aEC Tryz.f110 acC.ps acC.res=acC.fn:=by kernel_rfl
theorem amE:aA Tryz.prog G0 110 amF:=ai (ak ⟨au,(aj anx (aj an0 (aj al3 ac))),ap,ac,an⟩ Tryz.func110 rfl (by kernel_rfl))
theorem awg:TOk amF acC:=az (E:=amG) (ET:=awi) (EnvT.ofX (ax (ae axE (ae ayp (ae avn al)))) am ar aK aq) awh rfl
def amq:Env:=(eZ [] [274])
def avW:Hints:=(hZ [] [])
def amp:PFn:=aB (runF Tryz.prog amq avW Tryz.f111)
def aEw:TH:={ loops:=[],cuts:=[(2,[(9,{ keep:=[(1,(.bx 0 0)),(3,(.bx 1 0)),(13,.bool)],mem:=[.same,.box 132 tT19] })])],ro:=[1],news:=[] }
def zdg (a0:vV0):Option Bool :=
(cond (decide (a0.1=0)) (some ((decide ((a0.2.1.length:Int)=0)),(0,0,[],()),())) (some (false,(0,0,[],()),())):Option (Bool×vV6×Unit)).bind fun v1 =>
 cond v1.1 (cond (eqV tT19 a0.2.2.1 v1.2.1) (cond (decide (a0.2.2.2.1=0)) (some (decide ((a0.2.2.2.2.1.length:Int)=0))) (some false)) (some false)) (some false)
def acx:TFn:={ ps:=(.cons tT15 .unit),res:=.bool,fn:=fun v=>zdg v.1 }
def avV:TEnv:=(vZ [])
theorem avU:runY Tryz.prog amq avW avV aEw Tryz.f111 acx.ps acx.res=acx.fn:=by kernel_rfl
theorem amo:aA Tryz.prog G0 111 amp:=ai (ak ⟨au,ac,ap,ac,an⟩ Tryz.func111 rfl (by kernel_rfl))
theorem avT:TOk amp acx:=az (E:=amq) (ET:=avV) (EnvT.ofX (ax al) am ar aK aq) avU rfl
def ano:Env:=(eZ [(109,nP),(110,amF),(111,amp)] [274])
def axv:Hints:=(hZ [(8,[1,3])] [])
def ann:PFn:=aB (runF Tryz.prog ano axv Tryz.f42)
def aEX:TH:={ loops:=[(8,{ keep:=[(1,(.bx 0 0)),(3,(.int .i64))],mem:=[.same] })],cuts:=[(1,[(9,{ keep:=[(1,(.bx 0 0)),(13,.bool)],mem:=[.same] })])],ro:=[1],news:=[] }
def rx (a0:vV4) (y8:(Int×Unit)):Option ((Int×Unit)⊕Int) :=
 cond (decide (y8.1<(a0.2.2.2.2.1.length:Int))) (
(atI a0.2.2.2.2.1 y8.1).bind fun x3 =>
(zda x3).bind fun r4 =>
 cond (!decide (r4=0)) (cond a0.2.2.2.1 ((atI a0.2.2.2.2.1 y8.1).bind fun x5 =>
(zdg x5).bind fun r6 =>
 cond (!r6) (
 some (.inr r4)) (
 some (.inl ((IntKind.wrap .i64 (y8.1+1)),())))) (some (.inr r4))) (some (.inl ((IntKind.wrap .i64 (y8.1+1)),())))) (
 some (.inr 0))
def zcp (a0:vV4):Option Int :=
((zcy a0.1).bind fun r1 =>
 cond (!r1) (some (true,())) (some ((decide (a0.2.1<0)),())):Option (Bool×Unit)).bind fun v2 =>
 cond v2.1 (some 2) (cond (decide (a0.2.1>7)) (some 2) (cond (decide (a0.2.2.1<1)) (some 2) (cond (decide (a0.2.2.1>1099511627776)) (
 some 2) (
 cond (decide ((a0.2.2.2.2.1.length:Int)=0)) (
 some 11) (
 cond (decide ((a0.2.2.2.2.1.length:Int)>16)) (
 some 7) (
 aH (rx a0) (0,())))))))
def acW:TFn:={ ps:=(.cons tT21 .unit),res:=(.int .i64),fn:=fun v=>zcp v.1 }
def axu:TEnv:=(vZ [(109,kY),(110,acC),(111,acx)])
theorem axt:runY Tryz.prog ano axv axu aEX Tryz.f42 acW.ps acW.res=acW.fn:=by kernel_rfl
theorem anm:aA Tryz.prog G0 42 ann:=ai (ak ⟨au,(aj gn (aj amE (aj amo ac))),ap,ac,an⟩ Tryz.func42 rfl (by kernel_rfl))
theorem axs:TOk ann acW:=az (E:=ano) (ET:=axu) (EnvT.ofX (ax (ae kx (ae awg (ae avT al)))) am ar aK aq) axt rfl
def alc:Env:=(eZ [(109,nP)] [274])
def atZ:Hints:=(hZ [] [])
def alb:PFn:=aB (runF Tryz.prog alc atZ Tryz.f320)
def aDZ:TH:={ loops:=[],ro:=[3] }
def zed (a0:List Int) (a1:(Int×Int×Unit)):Option Bool :=
(zcy a1).bind fun r1 =>
 cond r1 ((inI 16 a1.1).bind fun i2 =>
(a0[i2]?).bind fun x3 =>
 some (decide (x3≥a1.2.1))) (some false)
def abV:TFn:={ ps:=(.cons (.arr 16 (.int .i64)) (.cons tT17 .unit)),res:=.bool,fn:=fun v=>zed v.1 v.2.1 }
def atY:TEnv:=(vZ [(109,kY)])
theorem atX:runY Tryz.prog alc atZ atY aDZ Tryz.f320 abV.ps abV.res=abV.fn:=by kernel_rfl
theorem ala:aA Tryz.prog G0 320 alb:=ai (ak ⟨au,(aj gn ac),ap,ac,an⟩ Tryz.func320 rfl (by kernel_rfl))
theorem atW:TOk alb abV:=az (E:=alc) (ET:=atY) (EnvT.ofX (ax (ae kx al)) am ar aK aq) atX rfl
def akC:Env:=(eZ [(320,alb)] [274])
def as6:Hints:=(hZ [(4,[2,3,5])] [])
def abF:PFn:=aB (runF Tryz.prog akC as6 Tryz.f270)
def aDL:TH:={ loops:=[(4,{ keep:=[(2,(.bx 0 0)),(3,(.bx 1 0)),(5,(.int .i64))],mem:=[.same,.same] })],ro:=[2,3] }
def lL (a0:vV9) (a1:(Int×Int×Unit)) (y4:(Int×Unit)):Option ((Int×Unit)⊕Bool) :=
 cond (decide (y4.1<(a0.2.1.length:Int))) (
(atI a0.2.1 y4.1).bind fun x2 =>
 cond (eqV tT17 x2 a1) (
 some (.inr true)) (
 some (.inl ((IntKind.wrap .i64 (y4.1+1)),())))) (
 some (.inr false))
def zer (a0:vV9) (a1:(Int×Int×Unit)):Option Bool :=
(zed a0.1 a1).bind fun r1 =>
 cond r1 (
 some true) (
 aH (lL a0 a1) (0,()))
def uD:TFn:={ ps:=(.cons tT24 (.cons tT17 .unit)),res:=.bool,fn:=fun v=>zer v.1 v.2.1 }
def as5:TEnv:=(vZ [(320,abV)])
theorem as4:runY Tryz.prog akC as6 as5 aDL Tryz.f270 uD.ps uD.res=uD.fn:=by kernel_rfl
theorem uE:aA Tryz.prog G0 270 abF:=ai (ak ⟨au,(aj ala ac),ap,ac,an⟩ Tryz.func270 rfl (by kernel_rfl))
theorem abE:TOk abF uD:=az (E:=akC) (ET:=as5) (EnvT.ofX (ax (ae atW al)) am ar aK aq) as4 rfl
def anY:Env:=(eZ [] [274])
def ayl:Hints:=(hZ [(3,[1,2,3,4])] [])
def anX:PFn:=aB (runF Tryz.prog anY ayl Tryz.f294)
def aFd:TH:={ loops:=[(3,{ keep:=[(1,(.bx 0 0)),(2,(.bx 1 0)),(3,(.bx 2 0)),(4,(.int .i64))],mem:=[.same,.box 66 tT27,.box 66 (.agg (.cons (.arr 16 (.int .i64)) (.cons (.own 4) .unit))),.gone,.row true 72 tT17] })],ro:=[1] }
def xA (a0:vV9) (y3:(Int×vV11×vV11×List (Int×Int×Unit)×Unit)):Option ((Int×vV11×vV11×List (Int×Int×Unit)×Unit)⊕vV9) :=
 cond (decide (y3.1<(a0.2.1.length:Int))) (
(atI a0.2.1 y3.1).bind fun x1 =>
(inI 16 x1.1).bind fun i2 =>
(y3.2.2.1.1[i2]?).bind fun x3 =>
 cond (decide (x1.2.1=(IntKind.wrap .i64 (x3+1)))) (
(inI 16 x1.1).bind fun i4 =>
(y3.2.2.1.1[i4]?).bind fun x5 =>
 some (.inl ((IntKind.wrap .i64 (y3.1+1)),y3.2.1,((y3.2.2.1.1.set i4 x1.2.1),y3.2.2.1.2.1,()),y3.2.2.2.1,()))) (
(inI 16 x1.1).bind fun i6 =>
(y3.2.2.1.1[i6]?).bind fun x7 =>
 cond (decide (x1.2.1>x7)) (
(bh (y3.2.2.2.1.length+([x1]:List (Int×Int×Unit)).length)).bind fun u8 =>
 some (.inl ((IntKind.wrap .i64 (y3.1+1)),y3.2.1,(y3.2.2.1.1,(),()),(y3.2.2.2.1++([x1]:List (Int×Int×Unit))),()))) (
 some (.inl ((IntKind.wrap .i64 (y3.1+1)),y3.2.1,y3.2.2.1,y3.2.2.2.1,()))))) (
 some (.inr (y3.2.2.1.1,y3.2.2.2.1,())))
def zca (a0:vV9):Option vV9 :=
 aH (xA a0) (0,([0,0,0,0,0,0,0,0,0,0,0,0,0,0,0,0],(),()),(a0.1,(),()),[],())
def ac9:TFn:={ ps:=(.cons tT24 .unit),res:=tT24,fn:=fun v=>zca v.1 }
def ayk:TEnv:={ pure:=[],look:=[],glob:=G0T,ty:=[(72,tT17)],raw:=[],fresh:=[] }
theorem ayj:runY Tryz.prog anY ayl ayk aFd Tryz.f294 ac9.ps ac9.res=ac9.fn:=by kernel_rfl
theorem anW:aA Tryz.prog G0 294 anX:=ai (ak ⟨au,ac,ap,ac,an⟩ Tryz.func294 rfl (by kernel_rfl))
theorem ayi:TOk anX ac9:=az (E:=anY) (ET:=ayk) (EnvT.ofX (ax al) am ar aK aq) ayj rfl
def akW:Env:=(eZ [(101,rC),(109,nP),(270,abF),(294,anX)] [274])
def atA:Hints:=(hZ [(6,[2,3,4,5,6,7])] [56])
def akV:PFn:=aB (runF Tryz.prog akW atA Tryz.f236)
def aDT:TH:={ joins:=[(12,{ keep:=[(2,(.bx 0 0)),(3,(.bx 1 0)),(4,(.bx 2 0)),(5,(.own 3)),(6,.bool)],mem:=[.same,.same,.box 66 tT27,.row true 72 tT17] }),(11,{ keep:=[(2,(.bx 0 0)),(3,(.bx 1 0)),(4,(.bx 2 0)),(5,(.own 3)),(6,.bool)],mem:=[.same,.same,.box 66 tT27,.row true 72 tT17] }),(14,{ keep:=[(2,(.bx 0 0)),(4,(.bx 2 0)),(5,(.own 3))],mem:=[.same,.same,.box 66 tT27,.row true 72 tT17] })],loops:=[(6,{ keep:=[(2,(.bx 0 0)),(3,(.bx 1 0)),(4,(.bx 2 0)),(5,(.own 3)),(6,.bool),(7,(.int .i64))],mem:=[.same,.same,.box 66 tT27,.row true 72 tT17] })],ro:=[2,3] }
def wZ (a0:vV9) (a1:(Int×Int×Unit)) (y6:(Bool×Int×vV11×List (Int×Int×Unit)×Unit)):Option ((Bool×Int×vV11×List (Int×Int×Unit)×Unit)⊕((Bool×vV11×List (Int×Int×Unit)×Unit)⊕vV9)) :=
 cond (decide (y6.2.1<(a0.2.1.length:Int))) (
(cond (!y6.1) ((atI a0.2.1 y6.2.1).bind fun x3 =>
(zbq a1 x3).bind fun r4 =>
 cond (decide (r4<0)) (
(bh (y6.2.2.2.1.length+([a1]:List (Int×Int×Unit)).length)).bind fun u5 =>
 some (.inl (true,y6.2.2.1,(y6.2.2.2.1++([a1]:List (Int×Int×Unit))),()))) (
 some (.inl (y6.1,y6.2.2.1,y6.2.2.2.1,())))) (some (.inl (y6.1,y6.2.2.1,y6.2.2.2.1,()))):Option ((Bool×vV11×List (Int×Int×Unit)×Unit)⊕((Bool×Int×vV11×List (Int×Int×Unit)×Unit)⊕((Bool×vV11×List (Int×Int×Unit)×Unit)⊕vV9)))).bind (aT fun v6 =>
(atI a0.2.1 y6.2.1).bind fun x7 =>
(bh (v6.2.2.1.length+([x7]:List (Int×Int×Unit)).length)).bind fun u8 =>
 some (.inl (v6.1,(IntKind.wrap .i64 (y6.2.1+1)),v6.2.1,(v6.2.2.1++([x7]:List (Int×Int×Unit))),())))) (
 some (.inr (.inl (y6.1,y6.2.2.1,y6.2.2.2.1,()))))
def zej (a0:vV9) (a1:(Int×Int×Unit)):Option vV9 :=
(zcy a1).bind fun r1 =>
 cond (!r1) (some a0) ((zer a0 a1).bind fun r2 =>
 cond r2 (
 some a0) (
(aH (wZ a0 a1) (false,0,([0,0,0,0,0,0,0,0,0,0,0,0,0,0,0,0],(),()),[],()):Option ((Bool×vV11×List (Int×Int×Unit)×Unit)⊕vV9)).bind (aT fun v9 =>
(cond (!v9.1) (
(bh (v9.2.2.1.length+([a1]:List (Int×Int×Unit)).length)).bind fun u10 =>
 some (.inl (v9.2.1,(v9.2.2.1++([a1]:List (Int×Int×Unit))),()))) (
 some (.inl (v9.2.1,v9.2.2.1,()))):Option ((vV11×List (Int×Int×Unit)×Unit)⊕vV9)).bind (aT fun v11 =>
(zca (a0.1,v11.2.1,())).bind fun r12 =>
 some r12))))
def abO:TFn:={ ps:=(.cons tT24 (.cons tT17 .unit)),res:=tT24,fn:=fun v=>zej v.1 v.2.1 }
def atz:TEnv:={ pure:=[(101,nQ),(109,kY),(270,uD),(294,ac9)],look:=[],glob:=G0T,ty:=[(72,tT17)],raw:=[],fresh:=[] }
theorem aty:runY Tryz.prog akW atA atz aDT Tryz.f236 abO.ps abO.res=abO.fn:=by kernel_rfl
theorem akU:aA Tryz.prog G0 236 akV:=ai (ak ⟨au,(aj jM (aj gn (aj uE (aj anW ac)))),ap,ac,an⟩ Tryz.func236 rfl (by kernel_rfl))
theorem atx:TOk akV abO:=az (E:=akW) (ET:=atz) (EnvT.ofX (ax (ae ow (ae kx (ae abE (ae ayi al))))) am ar aK aq) aty rfl
def ani:Env:=(eZ [(236,akV)] [274])
def axn:Hints:=(hZ [(3,[0,2,3,4])] [])
def anh:PFn:=aB (runF Tryz.prog ani axn Tryz.f168)
def aEV:TH:={ loops:=[(3,{ keep:=[(2,(.bx 0 0)),(3,(.bx 1 0)),(4,(.int .i64))],mem:=[.box 66 tT27,.box 66 tT24] })],ro:=[] }
def xw (a0:List vV4) (y3:(Int×vV11×vV9×Unit)):Option ((Int×vV11×vV9×Unit)⊕vV9) :=
 cond (decide (y3.1<(a0.length:Int))) (
(atI a0 y3.1).bind fun x1 =>
(zej y3.2.2.1 x1.1).bind fun r2 =>
 some (.inl ((IntKind.wrap .i64 (y3.1+1)),y3.2.1,r2,()))) (
 some (.inr y3.2.2.1))
def zcr (a0:List vV4):Option vV9 :=
 aH (xw a0) (0,([0,0,0,0,0,0,0,0,0,0,0,0,0,0,0,0],(),()),([0,0,0,0,0,0,0,0,0,0,0,0,0,0,0,0],[],()),())
def acU:TFn:={ ps:=(.cons (.sl tT21) .unit),res:=tT24,fn:=fun v=>zcr v.1 }
def axm:TEnv:=(vZ [(236,abO)])
theorem axl:runY Tryz.prog ani axn axm aEV Tryz.f168 acU.ps acU.res=acU.fn:=by kernel_rfl
theorem ang:aA Tryz.prog G0 168 anh:=ai (ak ⟨au,(aj akU ac),ap,ac,an⟩ Tryz.func168 rfl (by kernel_rfl))
theorem axk:TOk anh acU:=az (E:=ani) (ET:=axm) (EnvT.ofX (ax (ae atx al)) am ar aK aq) axl rfl
def alO:Env:=(eZ [] [274])
def au0:Hints:=(hZ [(4,[0,1,5])] [])
def agM:PFn:=aB (runF Tryz.prog alO au0 Tryz.f65)
def aEg:TH:={ loops:=[(4,{ keep:=[(5,(.int .i64))],mem:=[] })],ro:=[] }
def lN (a0:List (Int×Int×Unit)) (a1:List (Int×Int×Unit)) (y4:(Int×Unit)):Option ((Int×Unit)⊕Bool) :=
 cond (decide (y4.1<(a0.length:Int))) (
(atI a0 y4.1).bind fun x1 =>
(atI a1 y4.1).bind fun x2 =>
 cond (!(eqV tT17 x1 x2)) (
 some (.inr false)) (
 some (.inl ((IntKind.wrap .i64 (y4.1+1)),())))) (
 some (.inr true))
def zdw (a0:List (Int×Int×Unit)) (a1:List (Int×Int×Unit)):Option Bool :=
 cond (!decide ((a0.length:Int)=(a1.length:Int))) (
 some false) (
 aH (lN a0 a1) (0,()))
def zS:TFn:={ ps:=(.cons (.sl tT17) (.cons (.sl tT17) .unit)),res:=.bool,fn:=fun v=>zdw v.1 v.2.1 }
def auZ:TEnv:=(vZ [])
theorem auY:runY Tryz.prog alO au0 auZ aEg Tryz.f65 zS.ps zS.res=zS.fn:=by kernel_rfl
theorem ach:aA Tryz.prog G0 65 agM:=ai (ak ⟨au,ac,ap,ac,an⟩ Tryz.func65 rfl (by kernel_rfl))
theorem aje:TOk agM zS:=az (E:=alO) (ET:=auZ) (EnvT.ofX (ax al) am ar aK aq) auY rfl
def al8:Env:=(eZ [(65,agM)] [274])
def avu:Hints:=(hZ [] [])
def al7:PFn:=aB (runF Tryz.prog al8 avu Tryz.f167)
def aEo:TH:={ loops:=[],ro:=[2,3] }
def zdo (a0:vV9) (a1:vV9):Option Bool :=
 cond (eqV (.arr 16 (.int .i64)) a0.1 a1.1) ((zdw a0.2.1 a1.2.1).bind fun r1 =>
 some r1) (some false)
def acq:TFn:={ ps:=(.cons tT24 (.cons tT24 .unit)),res:=.bool,fn:=fun v=>zdo v.1 v.2.1 }
def avt:TEnv:=(vZ [(65,zS)])
theorem avs:runY Tryz.prog al8 avu avt aEo Tryz.f167 acq.ps acq.res=acq.fn:=by kernel_rfl
theorem al6:aA Tryz.prog G0 167 al7:=ai (ak ⟨au,(aj ach ac),ap,ac,an⟩ Tryz.func167 rfl (by kernel_rfl))
theorem avr:TOk al7 acq:=az (E:=al8) (ET:=avt) (EnvT.ofX (ax (ae aje al)) am ar aK aq) avs rfl
def anb:Env:=(eZ [(42,ann),(109,nP),(152,aoc),(153,an4),(166,anq),(167,al7),(168,anh)] [274])
def axf:Hints:=(hZ [(4,[1,3]),(9,[1,4]),(14,[1,4,5])] [])
def ana:PFn:=aB (runF Tryz.prog anb axf Tryz.f96)
def aET:TH:={ joins:=[(8,{ keep:=[(1,(.bx 0 0))],mem:=[.box 69 tT14] }),(18,{ keep:=[(1,(.bx 0 0))],mem:=[.box 69 tT14] })],loops:=[(4,{ keep:=[(1,(.bx 0 0)),(3,(.int .i64))],mem:=[.box 69 tT14] }),(9,{ keep:=[(1,(.bx 0 0)),(4,(.int .i64))],mem:=[.box 69 tT14] }),(14,{ keep:=[(1,(.bx 0 0)),(5,(.int .i64))],mem:=[.box 69 tT14] })],ro:=[] }
def xu (y4:(Int×vV2×Unit)):Option ((Int×vV2×Unit)⊕((vV2×Unit)⊕Bool)) :=
 cond (decide (y4.1<(y4.2.1.1.length:Int))) (
(atI y4.2.1.1 y4.1).bind fun x4 =>
(zcp x4).bind fun r5 =>
 cond (!decide (r5=0)) (
 some (.inr (.inr false))) (
 some (.inl ((IntKind.wrap .i64 (y4.1+1)),y4.2.1,())))) (
 some (.inr (.inl (y4.2.1,()))))
def pN (y9:(Int×vV2×Unit)) (y14:(Int×vV2×Unit)):Option ((Int×vV2×Unit)⊕((Int×vV2×Unit)⊕((vV2×Unit)⊕Bool))) :=
(inI 8 y9.1).bind fun i9 =>
(y14.2.1.2.2.2.2.1[i9]?).bind fun x10 =>
 cond (decide (y14.1<(x10.length:Int))) (
(inI 8 y9.1).bind fun i11 =>
(y14.2.1.2.2.2.2.1[i11]?).bind fun x12 =>
(atI x12 y14.1).bind fun x13 =>
(zcy x13).bind fun r14 =>
 cond (!r14) (
 some (.inr (.inr (.inr false)))) (
 some (.inl ((IntKind.wrap .i64 (y14.1+1)),y14.2.1,())))) (
 some (.inr (.inl ((IntKind.wrap .i64 (y9.1+1)),y14.2.1,()))))
def om (y9:(Int×vV2×Unit)):Option ((Int×vV2×Unit)⊕((vV2×Unit)⊕Bool)) :=
 cond (decide (y9.1<8)) (
(inI 8 y9.1).bind fun i7 =>
(y9.2.1.2.2.2.2.1[i7]?).bind fun x8 =>
 cond (decide ((x8.length:Int)>1000)) (
 some (.inr (.inr false))) (
 aH (pN y9) (0,y9.2.1,()))) (
 some (.inr (.inl (y9.2.1,()))))
def zct (a0:vV2):Option Bool :=
 cond (decide ((a0.1.length:Int)>1000)) (some false) ((zc3 a0.1).bind fun r1 =>
 cond (!r1) (some false) ((zc7 a0.2.1).bind fun r2 =>
 cond (!r2) (some false) ((zco a0.2.2.2.1).bind fun r3 =>
 cond (!r3) (
 some false) (
(aH (xu) (0,a0,()):Option ((vV2×Unit)⊕Bool)).bind (aT fun v6 =>
(aH (om) (0,v6.1,()):Option ((vV2×Unit)⊕Bool)).bind (aT fun v15 =>
(zco v15.1.2.2.1).bind fun r16 =>
 cond r16 ((zcr v15.1.1).bind fun r17 =>
(zdo v15.1.2.2.1 r17).bind fun r18 =>
 some r18) (some false)))))))
def acS:TFn:={ ps:=(.cons tT14 .unit),res:=.bool,fn:=fun v=>zct v.1 }
def axe:TEnv:=(vZ [(42,acW),(109,kY),(152,adh),(153,adc),(166,acX),(167,acq),(168,acU)])
theorem axd:runY Tryz.prog anb axf axe aET Tryz.f96 acS.ps acS.res=acS.fn:=by kernel_rfl
theorem am9:aA Tryz.prog G0 96 ana:=ai (ak ⟨au,(aj anm (aj gn (aj aob (aj an3 (aj anp (aj al6 (aj ang ac))))))),ap,ac,an⟩ Tryz.func96 rfl (by kernel_rfl))
theorem axc:TOk ana acS:=az (E:=anb) (ET:=axe) (EnvT.ofX (ax (ae axs (ae kx (ae ayH (ae ayt (ae axw (ae avr (ae axk al)))))))) am ar aK aq) axd rfl
def amS:Env:=(eZ [(95,aol),(96,ana)] [274])
def awE:Hints:=(hZ [] [])
def amR:PFn:=aB (runF Tryz.prog amS awE Tryz.f33)
def aEI:TH:={ loops:=[],ro:=[1] }
def zd4 (a0:vV2):Option Bool :=
(zc0 a0).bind fun r1 =>
 cond r1 ((zct a0).bind fun r2 =>
 some r2) (some false)
def acI:TFn:={ ps:=(.cons tT14 .unit),res:=.bool,fn:=fun v=>zd4 v.1 }
def awD:TEnv:=(vZ [(95,adk),(96,acS)])
theorem awC:runY Tryz.prog amS awE awD aEI Tryz.f33 acI.ps acI.res=acI.fn:=by kernel_rfl
theorem amQ:aA Tryz.prog G0 33 amR:=ai (ak ⟨au,(aj aok (aj am9 ac)),ap,ac,an⟩ Tryz.func33 rfl (by kernel_rfl))
theorem awB:TOk amR acI:=az (E:=amS) (ET:=awD) (EnvT.ofX (ax (ae ayT (ae axc al))) am ar aK aq) awC rfl
def akx:Env:=(eZ [] [274])
def asW:Hints:=(hZ [] [])
def akw:PFn:=aB (runF Tryz.prog akx asW Tryz.f119)
def aDJ:TH:=yZ
def zet (a0:Int) (a1:Int) (a2:List vV3):Option vV4 :=
 some ((0,a0,()),0,a0,false,([(1,([[97]]:List (List UInt8)),(1,a1,[],()),0,a2,())]:List vV0),())
def abC:TFn:={ ps:=(.cons (.int .i64) (.cons (.int .i64) (.cons (.sl tT18) .unit))),res:=tT21,fn:=fun v=>zet v.1 v.2.1 v.2.2.1 }
def asV:TEnv:={ pure:=[],look:=[],glob:=G0T,ty:=[(9,.str),(135,tT15)],raw:=[],fresh:=[] }
theorem asU:runY Tryz.prog akx asW asV aDJ Tryz.f119 abC.ps abC.res=abC.fn:=by kernel_rfl
theorem akv:aA Tryz.prog G0 119 akw:=ai (ak ⟨au,ac,ap,ac,an⟩ Tryz.func119 rfl (by kernel_rfl))
theorem asT:TOk akw abC:=az (E:=akx) (ET:=asV) (EnvT.ofX (ax al) am ar aK aq) asU rfl
def aox:Env:=(eZ [] [274])
def aze:Hints:=(hZ [] [])
def ahb:PFn:=aB (runF Tryz.prog aox aze Tryz.f226)
def aFs:TH:=yZ
def zbv (a0:Int):Option Bool :=
 some (!decide (a0=a0))
def adp:TFn:={ ps:=tT25,res:=.bool,fn:=fun v=>zbv v.1 }
def azd:TEnv:=(vZ [])
theorem azc:runY Tryz.prog aox aze azd aFs Tryz.f226 adp.ps adp.res=adp.fn:=by kernel_rfl
theorem aow:aA Tryz.prog G0 226 ahb:=ai (ak ⟨au,ac,ap,ac,an⟩ Tryz.func226 rfl (by kernel_rfl))
theorem azb:TOk ahb adp:=az (E:=aox) (ET:=azd) (EnvT.ofX (ax al) am ar aK aq) azc rfl
def aoU:Env:=(eZ [(226,ahb)] [274])
def azT:Hints:=(hZ [] [])
def uY:PFn:=aB (runF Tryz.prog aoU azT Tryz.f156)
def aFE:TH:=yZ
def zbj (a0:Int) (a1:Int):Option Int :=
(zbv a0).bind fun r1 =>
(zbv a1).bind fun r2 =>
 cond r1 (
 cond r2 (
 some 0) (
 some (-1))) (
 cond r2 (
 some 1) (
 cond (decide (a0<a1)) (
 some (-1)) (
 cond (decide (a0>a1)) (
 some 1) (
 some 0))))
def rE:TFn:={ ps:=(.cons (.int .i64) tT25),res:=(.int .i64),fn:=fun v=>zbj v.1 v.2.1 }
def azS:TEnv:=(vZ [(226,adp)])
theorem azR:runY Tryz.prog aoU azT azS aFE Tryz.f156 rE.ps rE.res=rE.fn:=by kernel_rfl
theorem pP:aA Tryz.prog G0 156 uY:=ai (ak ⟨au,(aj aow ac),ap,ac,an⟩ Tryz.func156 rfl (by kernel_rfl))
theorem xK:TOk uY rE:=az (E:=aoU) (ET:=azS) (EnvT.ofX (ax (ae azb al)) am ar aK aq) azR rfl
def amP:Env:=(eZ [] [274])
def awA:Hints:=(hZ [(3,[3,6,7,8])] [])
def uV:PFn:=aB (runF Tryz.prog amP awA Tryz.f154)
def aEH:TH:={ loops:=[(3,{ keep:=[(8,(.int .i64))],mem:=[] })],ro:=[] }
def ga (a0:List Int) (y3:(Int×Unit)):Option ((Int×Unit)⊕Int) :=
 cond (decide (y3.1<(a0.length:Int))) (
(atI a0 y3.1).bind fun x1 =>
 cond (!decide (x1=0)) (
 some (.inr x1)) (
 some (.inl ((IntKind.wrap .i64 (y3.1+1)),())))) (
 some (.inr 0))
def zd5 (a0:List Int):Option Int :=
 aH (ga a0) (0,())
def rv:TFn:={ ps:=(.cons (.sl (.int .i64)) .unit),res:=(.int .i64),fn:=fun v=>zd5 v.1 }
def awz:TEnv:=(vZ [])
theorem awy:runY Tryz.prog amP awA awz aEH Tryz.f154 rv.ps rv.res=rv.fn:=by kernel_rfl
theorem pM:aA Tryz.prog G0 154 uV:=ai (ak ⟨au,ac,ap,ac,an⟩ Tryz.func154 rfl (by kernel_rfl))
theorem xm:TOk uV rv:=az (E:=amP) (ET:=awz) (EnvT.ofX (ax al) am ar aK aq) awy rfl
def amx:Env:=(eZ [(154,uV),(156,uY)] [274])
def av7:Hints:=(hZ [] [])
def zW:PFn:=aB (runF Tryz.prog amx av7 Tryz.f171)
def aEz:TH:={ loops:=[],ro:=[2,3] }
def zdd (a0:(Int×Int×Unit)) (a1:(Int×Int×Unit)):Option Int :=
(zbj a0.1 a1.1).bind fun r1 =>
(zbj a0.2.1 a1.2.1).bind fun r2 =>
(zd5 ([r1,r2]:List Int)).bind fun r3 =>
 some r3
def ru:TFn:={ ps:=(.cons tT17 (.cons tT17 .unit)),res:=(.int .i64),fn:=fun v=>zdd v.1 v.2.1 }
def av6:TEnv:={ pure:=[(154,rv),(156,rE)],look:=[],glob:=G0T,ty:=[(3,(.int .i64))],raw:=[],fresh:=[] }
theorem av5:runY Tryz.prog amx av7 av6 aEz Tryz.f171 ru.ps ru.res=ru.fn:=by kernel_rfl
theorem pL:aA Tryz.prog G0 171 zW:=ai (ak ⟨au,(aj pM (aj pP ac)),ap,ac,an⟩ Tryz.func171 rfl (by kernel_rfl))
theorem xj:TOk zW ru:=az (E:=amx) (ET:=av6) (EnvT.ofX (ax (ae xm (ae xK al))) am ar aK aq) av5 rfl
def al2:Env:=(eZ [(171,zW)] [274])
def avm:Hints:=(hZ [] [])
def al1:PFn:=aB (runF Tryz.prog al2 avm Tryz.f193)
def aEm:TH:={ loops:=[],ro:=[2,3] }
def zdq (a0:vV4) (a1:(Int×Int×Unit)):Option Int :=
(zdd a0.1 a1).bind fun r1 =>
 some r1
def aco:TFn:={ ps:=(.cons tT21 (.cons tT17 .unit)),res:=(.int .i64),fn:=fun v=>zdq v.1 v.2.1 }
def avl:TEnv:=(vZ [(171,ru)])
theorem avk:runY Tryz.prog al2 avm avl aEm Tryz.f193 aco.ps aco.res=aco.fn:=by kernel_rfl
theorem al0:aA Tryz.prog G0 193 al1:=ai (ak ⟨au,(aj pL ac),ap,ac,an⟩ Tryz.func193 rfl (by kernel_rfl))
theorem avj:TOk al1 aco:=az (E:=al2) (ET:=avl) (EnvT.ofX (ax (ae xj al)) am ar aK aq) avk rfl
def aqE:Env:=(eZ [(193,al1)] [274])
def aB2:Hints:=(hZ [(3,[0,2,4,8,9,10])] [])
def aqD:PFn:=aB (runF Tryz.prog aqE aB2 Tryz.f192)
def aF7:TH:={ joins:=[(8,{ keep:=[(4,(.bx 0 0)),(9,(.int .i64))],mem:=[.same] })],loops:=[(3,{ keep:=[(4,(.bx 0 0)),(9,(.int .i64)),(10,(.int .i64))],mem:=[.same] })],ro:=[4] }
def rG (a0:List vV4) (a1:(Int×Int×Unit)) (y3:(Int×Int×Unit)):Option ((Int×Int×Unit)⊕((Int×Unit)⊕(Int×Bool×Unit))) :=
 cond (decide (y3.1<y3.2.1)) (
(shrT .u64 (IntKind.wrap .u64 (IntKind.wrap .i64 (y3.1+y3.2.1))) 1).bind fun t1 =>
(atI a0 (IntKind.wrap .i64 t1)).bind fun x2 =>
(zdq x2 a1).bind fun r3 =>
 cond (decide (r3<0)) (
 some (.inl ((IntKind.wrap .i64 ((IntKind.wrap .i64 t1)+1)),y3.2.1,()))) (
 some (.inl (y3.1,(IntKind.wrap .i64 t1),())))) (
 some (.inr (.inl (y3.1,()))))
def zae (a0:List vV4) (a1:(Int×Int×Unit)) (a2:Unit):Option (Int×Bool×Unit) :=
(aH (rG a0 a1) (0,(a0.length:Int),()):Option ((Int×Unit)⊕(Int×Bool×Unit))).bind (aT fun v4 =>
 cond (decide (v4.1<(a0.length:Int))) ((atI a0 v4.1).bind fun x5 =>
(zdq x5 a1).bind fun r6 =>
 some (v4.1,(decide (r6=0)),())) (some (v4.1,false,())))
def ad2:TFn:={ ps:=(.cons (.sl tT21) (.cons tT17 (.cons (.fn 193) .unit))),res:=(.tup (.cons (.int .i64) (.cons .bool .unit))),fn:=fun v=>zae v.1 v.2.1 v.2.2.1 }
def aB1:TEnv:=(vZ [(193,aco)])
theorem aB0:runY Tryz.prog aqE aB2 aB1 aF7 Tryz.f192 ad2.ps ad2.res=ad2.fn:=by kernel_rfl
theorem aqC:aA Tryz.prog G0 192 aqD:=ai (ak ⟨au,(aj al0 ac),ap,ac,an⟩ Tryz.func192 rfl (by kernel_rfl))
theorem aBZ:TOk aqD ad2:=az (E:=aqE) (ET:=aB1) (EnvT.ofX (ax (ae avj al)) am ar aK aq) aB0 rfl
def alv:Env:=(eZ [(192,aqD)] [274])
def auu:Hints:=(hZ [] [])
def ab5:PFn:=aB (runF Tryz.prog alv auu Tryz.f114)
def aD7:TH:={ loops:=[],ro:=[3] }
def ze5 (a0:List vV4) (a1:(Int×Int×Unit)):Option Int :=
(zae a0 a1 ()).bind fun r1 =>
 cond (!r1.2.1) (
 some (-1)) (
 some r1.1)
def uL:TFn:={ ps:=(.cons (.sl tT21) (.cons tT17 .unit)),res:=(.int .i64),fn:=fun v=>ze5 v.1 v.2.1 }
def aut:TEnv:=(vZ [(192,ad2)])
theorem aus:runY Tryz.prog alv auu aut aD7 Tryz.f114 uL.ps uL.res=uL.fn:=by kernel_rfl
theorem uM:aA Tryz.prog G0 114 ab5:=ai (ak ⟨au,(aj aqC ac),ap,ac,an⟩ Tryz.func114 rfl (by kernel_rfl))
theorem ab4:TOk ab5 uL:=az (E:=alv) (ET:=aut) (EnvT.ofX (ax (ae aBZ al)) am ar aK aq) aus rfl
def akQ:Env:=(eZ [(171,zW)] [274])
def ats:Hints:=(hZ [] [])
def akP:PFn:=aB (runF Tryz.prog akQ ats Tryz.f237)
def aDR:TH:={ loops:=[],ro:=[2,3] }
def zel (a0:vV4) (a1:(Int×Int×Unit)):Option Int :=
(zdd a0.1 a1).bind fun r1 =>
 some r1
def abM:TFn:={ ps:=(.cons tT21 (.cons tT17 .unit)),res:=(.int .i64),fn:=fun v=>zel v.1 v.2.1 }
def atr:TEnv:=(vZ [(171,ru)])
theorem atq:runY Tryz.prog akQ ats atr aDR Tryz.f237 abM.ps abM.res=abM.fn:=by kernel_rfl
theorem akO:aA Tryz.prog G0 237 akP:=ai (ak ⟨au,(aj pL ac),ap,ac,an⟩ Tryz.func237 rfl (by kernel_rfl))
theorem atp:TOk akP abM:=az (E:=akQ) (ET:=atr) (EnvT.ofX (ax (ae xj al)) am ar aK aq) atq rfl
def apE:Go.Shelf.Ren:=⟨fun | 41=>181 | n=>n,fun | 22=>22 | 23=>78 | 4=>4 | n=>n,fun | n=>n⟩
theorem ahr:Go.Proofs.SlLaysE0.n41 Tryz.prog apE:={
 mixed:=by kernel_rfl
 f41:=⟨Tryz.f181.name,by decide,Tryz.func181.trans (congrArg some (by kernel_rfl))⟩
 t4:=Tryz.underlying4
 a4:=Tryz.isAgg4
 z4:=Tryz.sizeOf4
 v4:=Tryz.zeroValue4
 t22:=Tryz.underlying22
 a22:=Tryz.isAgg22
 z22:=Tryz.sizeOf22
 v22:=Tryz.zeroValue22 }
def apG:SFn:=nt 6 78
theorem apF:bB Tryz.prog G0 181 apG:=uf ahr rfl rfl (fC (P:=Tryz.prog) (te:=78) (M:=6) (by kernel_rfl) (by kernel_rfl) (by kernel_rfl) (by kernel_rfl) (by kernel_rfl) (by kernel_rfl) (by kernel_rfl) (by kernel_rfl)) ⟨Tryz.f181,Tryz.func181,rfl,by kernel_rfl⟩
def zay (a0:List vV4):Option (List vV4):=fE a0
def aA1:TNew:=pp 78 tT21
theorem aA0:TNewOk apG aA1:=uj rfl rfl rfl
def apM:Go.Shelf.Ren:=⟨fun | 22=>238 | 29=>295 | 30=>296 | n=>n,fun | 24=>22 | 9=>78 | 0=>0 | 3=>3 | 4=>4 | n=>n,fun | n=>n⟩
theorem ahv:InsL Tryz.prog apM:={
 mixed:=by kernel_rfl
 f22:=⟨Tryz.f238.name,by decide,Tryz.func238.trans (congrArg some (by kernel_rfl))⟩
 f29:=⟨Tryz.f295.name,by decide,by kernel_rfl,by kernel_rfl,Tryz.func295.trans (congrArg some (by kernel_rfl))⟩
 t0:=Tryz.underlying0
 a0:=Tryz.isAgg0
 z0:=Tryz.sizeOf0
 v0:=Tryz.zeroValue0
 t3:=Tryz.underlying3
 a3:=Tryz.isAgg3
 z3:=Tryz.sizeOf3
 v3:=Tryz.zeroValue3
 t4:=Tryz.underlying4
 a4:=Tryz.isAgg4
 z4:=Tryz.sizeOf4
 v4:=Tryz.zeroValue4
 t24:=Tryz.underlying22
 a24:=Tryz.isAgg22
 z24:=Tryz.sizeOf22
 v24:=Tryz.zeroValue22 }
def apO:SFn:=d9 6 78
theorem apN:bB Tryz.prog G0 238 apO:=kf ahv rfl rfl rfl (fC (P:=Tryz.prog) (te:=78) (M:=6) (by kernel_rfl) (by kernel_rfl) (by kernel_rfl) (by kernel_rfl) (by kernel_rfl) (by kernel_rfl) (by kernel_rfl) (by kernel_rfl)) true Tryz.isAgg78 ⟨Tryz.f238,Tryz.func238,rfl,by kernel_rfl⟩
def zav (a1:Int) (a2:List vV4) (w0:List vV4):Option (Unit×List vV4×Unit):=(insT w0 a1 a2).map fun l=>((),(l,()))
def aA9:TRaw:=insR false 78 tT21
theorem aA8:TRawOk apO aA9:=wd rfl rfl rfl rfl (by decide)
def aqB:Env:=(eZ [(237,akP)] [274])
def aBY:Hints:=(hZ [(3,[0,2,4,8,9,10])] [])
def aqA:PFn:=aB (runF Tryz.prog aqB aBY Tryz.f192)
def aF6:TH:={ joins:=[(8,{ keep:=[(4,(.bx 0 0)),(9,(.int .i64))],mem:=[.same] })],loops:=[(3,{ keep:=[(4,(.bx 0 0)),(9,(.int .i64)),(10,(.int .i64))],mem:=[.same] })],ro:=[4] }
def rF (a0:List vV4) (a1:(Int×Int×Unit)) (y3:(Int×Int×Unit)):Option ((Int×Int×Unit)⊕((Int×Unit)⊕(Int×Bool×Unit))) :=
 cond (decide (y3.1<y3.2.1)) (
(shrT .u64 (IntKind.wrap .u64 (IntKind.wrap .i64 (y3.1+y3.2.1))) 1).bind fun t1 =>
(atI a0 (IntKind.wrap .i64 t1)).bind fun x2 =>
(zel x2 a1).bind fun r3 =>
 cond (decide (r3<0)) (
 some (.inl ((IntKind.wrap .i64 ((IntKind.wrap .i64 t1)+1)),y3.2.1,()))) (
 some (.inl (y3.1,(IntKind.wrap .i64 t1),())))) (
 some (.inr (.inl (y3.1,()))))
def zaf (a0:List vV4) (a1:(Int×Int×Unit)) (a2:Unit):Option (Int×Bool×Unit) :=
(aH (rF a0 a1) (0,(a0.length:Int),()):Option ((Int×Unit)⊕(Int×Bool×Unit))).bind (aT fun v4 =>
 cond (decide (v4.1<(a0.length:Int))) ((atI a0 v4.1).bind fun x5 =>
(zel x5 a1).bind fun r6 =>
 some (v4.1,(decide (r6=0)),())) (some (v4.1,false,())))
def ad1:TFn:={ ps:=(.cons (.sl tT21) (.cons tT17 (.cons (.fn 237) .unit))),res:=(.tup (.cons (.int .i64) (.cons .bool .unit))),fn:=fun v=>zaf v.1 v.2.1 v.2.2.1 }
def aBX:TEnv:=(vZ [(237,abM)])
theorem aBW:runY Tryz.prog aqB aBY aBX aF6 Tryz.f192 ad1.ps ad1.res=ad1.fn:=by kernel_rfl
theorem aqz:aA Tryz.prog G0 192 aqA:=ai (ak ⟨au,(aj akO ac),ap,ac,an⟩ Tryz.func192 rfl (by kernel_rfl))
theorem aBV:TOk aqA ad1:=az (E:=aqB) (ET:=aBX) (EnvT.ofX (ax (ae atp al)) am ar aK aq) aBW rfl
def ake:Env:={ pure:=[(192,aqA)],raw:=[(181,apG),(238,apO)],glob:=G0,same:=[274],look:=[],ext:=[] }
def asv:Hints:={ seqs:=[],loops:=[],own:=[19],frz:=[(4,[3])] }
def akd:PFn:=aB (runF Tryz.prog ake asv Tryz.f169)
def aDC:TH:=yZ
def zfa (a0:List vV4) (a1:vV4):Option (List vV4) :=
(zaf a0 a1.1 ()).bind fun r1 =>
 cond r1.2.1 (
 some a0) (
(zay a0).bind fun n2 =>
(zav r1.1 ([a1]:List vV4) n2).bind fun q3 =>
 some q3.2.1)
def abv:TFn:={ ps:=(.cons (.sl tT21) (.cons tT21 .unit)),res:=(.sl tT21),fn:=fun v=>zfa v.1 v.2.1 }
def asu:TEnv:={ pure:=[(192,ad1)],look:=[],glob:=G0T,ty:=[(78,tT21)],raw:=[(238,aA9)],fresh:=[(181,aA1)] }
theorem ast:runY Tryz.prog ake asv asu aDC Tryz.f169 abv.ps abv.res=abv.fn:=by kernel_rfl
theorem akc:aA Tryz.prog G0 169 akd:=ai (ak ⟨au,(aj aqz ac),(be apF (be apN ap)),ac,an⟩ Tryz.func169 rfl (by kernel_rfl))
theorem ass:TOk akd abv:=az (E:=ake) (ET:=asu) (EnvT.ofX (ax (ae aBV al)) am (iX (bq aA8 rfl rfl ar) rfl) aK (jd aA0 rfl rfl rfl aq)) ast rfl
def akX:Env:=(eZ [] [274])
def atD:Hints:=(hZ [] [])
def abQ:PFn:=aB (runF Tryz.prog akX atD Tryz.f173)
def aDU:TH:={ loops:=[],ro:=[1] }
def zei (a0:(Int×Int×Unit)):Option Bool :=
 cond (decide (a0.1≥0)) (cond (decide (a0.1<16)) (cond (decide (a0.2.1≥1)) (some (decide (a0.2.1≤1048576))) (some false)) (some false)) (some false)
def uH:TFn:={ ps:=(.cons tT17 .unit),res:=.bool,fn:=fun v=>zei v.1 }
def atC:TEnv:=(vZ [])
theorem atB:runY Tryz.prog akX atD atC aDU Tryz.f173 uH.ps uH.res=uH.fn:=by kernel_rfl
theorem uI:aA Tryz.prog G0 173 abQ:=ai (ak ⟨au,ac,ap,ac,an⟩ Tryz.func173 rfl (by kernel_rfl))
theorem abP:TOk abQ uH:=az (E:=akX) (ET:=atC) (EnvT.ofX (ax al) am ar aK aq) atB rfl
def akb:Env:=(eZ [(173,abQ)] [274])
def asr:Hints:=(hZ [] [])
def aka:PFn:=aB (runF Tryz.prog akb asr Tryz.f194)
def aDB:TH:={ loops:=[],ro:=[3] }
def zfb (a0:List Int) (a1:(Int×Int×Unit)):Option Bool :=
(zei a1).bind fun r1 =>
 cond r1 ((inI 16 a1.1).bind fun i2 =>
(a0[i2]?).bind fun x3 =>
 some (decide (a1.2.1≤x3))) (some false)
def abu:TFn:={ ps:=(.cons (.arr 16 (.int .i64)) (.cons tT17 .unit)),res:=.bool,fn:=fun v=>zfb v.1 v.2.1 }
def asq:TEnv:=(vZ [(173,uH)])
theorem aso:runY Tryz.prog akb asr asq aDB Tryz.f194 abu.ps abu.res=abu.fn:=by kernel_rfl
theorem aj9:aA Tryz.prog G0 194 aka:=ai (ak ⟨au,(aj uI ac),ap,ac,an⟩ Tryz.func194 rfl (by kernel_rfl))
theorem asn:TOk aka abu:=az (E:=akb) (ET:=asq) (EnvT.ofX (ax (ae abP al)) am ar aK aq) aso rfl
def aqF:Env:=(eZ [(171,zW)] [274])
def aB5:Hints:=(hZ [(3,[0,2,4,8,9,10])] [])
def ahC:PFn:=aB (runF Tryz.prog aqF aB5 Tryz.f195)
def aF8:TH:={ joins:=[(8,{ keep:=[(4,(.bx 0 0)),(9,(.int .i64))],mem:=[.same] })],loops:=[(3,{ keep:=[(4,(.bx 0 0)),(9,(.int .i64)),(10,(.int .i64))],mem:=[.same] })],ro:=[4] }
def lU (a0:List (Int×Int×Unit)) (a1:(Int×Int×Unit)) (y3:(Int×Int×Unit)):Option ((Int×Int×Unit)⊕((Int×Unit)⊕(Int×Bool×Unit))) :=
 cond (decide (y3.1<y3.2.1)) (
(shrT .u64 (IntKind.wrap .u64 (IntKind.wrap .i64 (y3.1+y3.2.1))) 1).bind fun t1 =>
(atI a0 (IntKind.wrap .i64 t1)).bind fun x2 =>
(zdd x2 a1).bind fun r3 =>
 cond (decide (r3<0)) (
 some (.inl ((IntKind.wrap .i64 ((IntKind.wrap .i64 t1)+1)),y3.2.1,()))) (
 some (.inl (y3.1,(IntKind.wrap .i64 t1),())))) (
 some (.inr (.inl (y3.1,()))))
def zad (a0:List (Int×Int×Unit)) (a1:(Int×Int×Unit)) (a2:Unit):Option (Int×Bool×Unit) :=
(aH (lU a0 a1) (0,(a0.length:Int),()):Option ((Int×Unit)⊕(Int×Bool×Unit))).bind (aT fun v4 =>
 cond (decide (v4.1<(a0.length:Int))) ((atI a0 v4.1).bind fun x5 =>
(zdd x5 a1).bind fun r6 =>
 some (v4.1,(decide (r6=0)),())) (some (v4.1,false,())))
def aap:TFn:={ ps:=(.cons (.sl tT17) (.cons tT17 (.cons (.fn 171) .unit))),res:=(.tup (.cons (.int .i64) (.cons .bool .unit))),fn:=fun v=>zad v.1 v.2.1 v.2.2.1 }
def aB4:TEnv:=(vZ [(171,ru)])
theorem aB3:runY Tryz.prog aqF aB5 aB4 aF8 Tryz.f195 aap.ps aap.res=aap.fn:=by kernel_rfl
theorem ad3:aA Tryz.prog G0 195 ahC:=ai (ak ⟨au,(aj pL ac),ap,ac,an⟩ Tryz.func195 rfl (by kernel_rfl))
theorem ajH:TOk ahC aap:=az (E:=aqF) (ET:=aB4) (EnvT.ofX (ax (ae xj al)) am ar aK aq) aB3 rfl
def alw:Env:=(eZ [(194,aka),(195,ahC)] [274])
def aux:Hints:=(hZ [] [])
def ab7:PFn:=aB (runF Tryz.prog alw aux Tryz.f115)
def aD8:TH:={ loops:=[],ro:=[2,3] }
def ze4 (a0:vV9) (a1:(Int×Int×Unit)):Option Bool :=
(zfb a0.1 a1).bind fun r1 =>
 cond r1 (
 some true) (
(zad a0.2.1 a1 ()).bind fun r2 =>
 some r2.2.1)
def uN:TFn:={ ps:=(.cons tT24 (.cons tT17 .unit)),res:=.bool,fn:=fun v=>ze4 v.1 v.2.1 }
def auw:TEnv:=(vZ [(194,abu),(195,aap)])
theorem auv:runY Tryz.prog alw aux auw aD8 Tryz.f115 uN.ps uN.res=uN.fn:=by kernel_rfl
theorem uO:aA Tryz.prog G0 115 ab7:=ai (ak ⟨au,(aj aj9 (aj ad3 ac)),ap,ac,an⟩ Tryz.func115 rfl (by kernel_rfl))
theorem ab6:TOk ab7 uN:=az (E:=alw) (ET:=auw) (EnvT.ofX (ax (ae asn (ae ajH al))) am ar aK aq) auv rfl
def apJ:Go.Shelf.Ren:=⟨fun | 41=>180 | n=>n,fun | 22=>64 | 23=>72 | 4=>4 | n=>n,fun | n=>n⟩
theorem ahu:Go.Proofs.SlLaysE0.n41 Tryz.prog apJ:={
 mixed:=by kernel_rfl
 f41:=⟨Tryz.f180.name,by decide,Tryz.func180.trans (congrArg some (by kernel_rfl))⟩
 t4:=Tryz.underlying4
 a4:=Tryz.isAgg4
 z4:=Tryz.sizeOf4
 v4:=Tryz.zeroValue4
 t22:=Tryz.underlying64
 a22:=Tryz.isAgg64
 z22:=Tryz.sizeOf64
 v22:=Tryz.zeroValue64 }
def apL:SFn:=nt 2 72
theorem apK:bB Tryz.prog G0 180 apL:=uf ahu rfl rfl (fC (P:=Tryz.prog) (te:=72) (M:=2) (by kernel_rfl) (by kernel_rfl) (by kernel_rfl) (by kernel_rfl) (by kernel_rfl) (by kernel_rfl) (by kernel_rfl) (by kernel_rfl)) ⟨Tryz.f180,Tryz.func180,rfl,by kernel_rfl⟩
def zaw (a0:List (Int×Int×Unit)):Option (List (Int×Int×Unit)):=fE a0
def aA7:TNew:=pp 72 tT17
theorem aA6:TNewOk apL aA7:=uj rfl rfl rfl
def apP:Go.Shelf.Ren:=⟨fun | 22=>239 | 29=>297 | 30=>298 | n=>n,fun | 24=>64 | 9=>72 | 0=>0 | 3=>3 | 4=>4 | n=>n,fun | n=>n⟩
theorem ahw:InsL Tryz.prog apP:={
 mixed:=by kernel_rfl
 f22:=⟨Tryz.f239.name,by decide,Tryz.func239.trans (congrArg some (by kernel_rfl))⟩
 f29:=⟨Tryz.f297.name,by decide,by kernel_rfl,by kernel_rfl,Tryz.func297.trans (congrArg some (by kernel_rfl))⟩
 t0:=Tryz.underlying0
 a0:=Tryz.isAgg0
 z0:=Tryz.sizeOf0
 v0:=Tryz.zeroValue0
 t3:=Tryz.underlying3
 a3:=Tryz.isAgg3
 z3:=Tryz.sizeOf3
 v3:=Tryz.zeroValue3
 t4:=Tryz.underlying4
 a4:=Tryz.isAgg4
 z4:=Tryz.sizeOf4
 v4:=Tryz.zeroValue4
 t24:=Tryz.underlying64
 a24:=Tryz.isAgg64
 z24:=Tryz.sizeOf64
 v24:=Tryz.zeroValue64 }
def apR:SFn:=d9 2 72
theorem apQ:bB Tryz.prog G0 239 apR:=kf ahw rfl rfl rfl (fC (P:=Tryz.prog) (te:=72) (M:=2) (by kernel_rfl) (by kernel_rfl) (by kernel_rfl) (by kernel_rfl) (by kernel_rfl) (by kernel_rfl) (by kernel_rfl) (by kernel_rfl)) true Tryz.isAgg72 ⟨Tryz.f239,Tryz.func239,rfl,by kernel_rfl⟩
def zau (a1:Int) (a2:List (Int×Int×Unit)) (w0:List (Int×Int×Unit)):Option (Unit×List (Int×Int×Unit)×Unit):=(insT w0 a1 a2).map fun l=>((),(l,()))
def aFX:TRaw:=insR false 72 tT17
theorem aBa:TRawOk apR aFX:=wd rfl rfl rfl rfl (by decide)
def ak9:Env:=(eZ [] [274])
def atV:Hints:=(hZ [(3,[4,5,10,11,12])] [])
def ak8:PFn:=aB (runF Tryz.prog ak9 atV Tryz.f188)
def aDY:TH:={ loops:=[(3,{ keep:=[(4,(.bx 1 0)),(5,(.bx 2 0)),(12,(.int .i64))],mem:=[.same,.box 66 tT27,.box 66 (.agg (.cons (.arr 16 (.int .i64)) (.cons (.own 4) .unit))),.gone,.row true 72 tT17] })],ro:=[2] }
def w7 (a1:List (Int×Int×Unit)) (y3:(Int×vV11×vV11×List (Int×Int×Unit)×Unit)):Option ((Int×vV11×vV11×List (Int×Int×Unit)×Unit)⊕vV9) :=
 cond (decide (y3.1<(a1.length:Int))) (
(atI a1 y3.1).bind fun x1 =>
(inI 16 x1.1).bind fun i2 =>
(y3.2.2.1.1[i2]?).bind fun x3 =>
 cond (decide (x1.2.1≤x3)) (
 some (.inl ((IntKind.wrap .i64 (y3.1+1)),y3.2.1,y3.2.2.1,y3.2.2.2.1,()))) (
(inI 16 x1.1).bind fun i4 =>
(y3.2.2.1.1[i4]?).bind fun x5 =>
 cond (decide (x1.2.1=(IntKind.wrap .i64 (x5+1)))) (
(inI 16 x1.1).bind fun i6 =>
(y3.2.2.1.1[i6]?).bind fun x7 =>
 some (.inl ((IntKind.wrap .i64 (y3.1+1)),y3.2.1,((y3.2.2.1.1.set i6 x1.2.1),y3.2.2.1.2.1,()),y3.2.2.2.1,()))) (
 cond (decide ((y3.2.2.2.1.length:Int)=0)) ((bh (y3.2.2.2.1.length+([x1]:List (Int×Int×Unit)).length)).bind fun u8 =>
 some (.inl ((IntKind.wrap .i64 (y3.1+1)),y3.2.1,(y3.2.2.1.1,(),()),(y3.2.2.2.1++([x1]:List (Int×Int×Unit))),()))) ((inI y3.2.2.2.1.length (IntKind.wrap .i64 ((y3.2.2.2.1.length:Int)-1))).bind fun i9 =>
(y3.2.2.2.1[i9]?).bind fun x10 =>
 cond (!(eqV tT17 x10 x1)) (
(bh (y3.2.2.2.1.length+([x1]:List (Int×Int×Unit)).length)).bind fun u11 =>
 some (.inl ((IntKind.wrap .i64 (y3.1+1)),y3.2.1,(y3.2.2.1.1,(),()),(y3.2.2.2.1++([x1]:List (Int×Int×Unit))),()))) (
 some (.inl ((IntKind.wrap .i64 (y3.1+1)),y3.2.1,y3.2.2.1,y3.2.2.2.1,()))))))) (
 some (.inr (y3.2.2.1.1,y3.2.2.2.1,())))
def zee (a0:List Int) (a1:List (Int×Int×Unit)):Option vV9 :=
 aH (w7 a1) (0,([0,0,0,0,0,0,0,0,0,0,0,0,0,0,0,0],(),()),(a0,(),()),[],())
def abU:TFn:={ ps:=(.cons (.arr 16 (.int .i64)) (.cons (.sl tT17) .unit)),res:=tT24,fn:=fun v=>zee v.1 v.2.1 }
def atU:TEnv:={ pure:=[],look:=[],glob:=G0T,ty:=[(72,tT17)],raw:=[],fresh:=[] }
theorem atT:runY Tryz.prog ak9 atV atU aDY Tryz.f188 abU.ps abU.res=abU.fn:=by kernel_rfl
theorem ak7:aA Tryz.prog G0 188 ak8:=ai (ak ⟨au,ac,ap,ac,an⟩ Tryz.func188 rfl (by kernel_rfl))
theorem atS:TOk ak8 abU:=az (E:=ak9) (ET:=atU) (EnvT.ofX (ax al) am ar aK aq) atT rfl
def ap2:SFn:=jl apR
theorem ap1:bB Tryz.prog G0 239 ap2:=iJ apQ
def zaq (a1:Int) (a2:List (Int×Int×Unit)) (w0:List (Int×Int×Unit)):Option (List (Int×Int×Unit)×Unit):=(zau a1 a2 w0).map fun q=>(q.2.1,())
def aBk:TRaw:={ ps:=(.cons (.own 0) (.cons (.int .i64) (.cons (.sl tT17) .unit))),ins:=[.row false 72 tT17],res:=(.sl tT17),outs:=[.gone],fn:=fun v w=>zaq v.2.1 v.2.2.1 w.1 }
theorem aBj:TRawOk ap2 aBk:=aiH aBa
def alz:Env:={ pure:=[(115,ab7),(173,abQ),(188,ak8),(195,ahC)],raw:=[(180,apL),(239,ap2)],glob:=G0,same:=[274],look:=[],ext:=[] }
def auB:Hints:={ seqs:=[],loops:=[],own:=[24,26,29],frz:=[(4,[2,3])] }
def aly:PFn:=aB (runF Tryz.prog alz auB Tryz.f170)
def aD9:TH:=yZ
def ze3 (a0:vV9) (a1:(Int×Int×Unit)):Option vV9 :=
(zei a1).bind fun r1 =>
 cond (!r1) (some a0) ((ze4 a0 a1).bind fun r2 =>
 cond r2 (
 some a0) (
(zad a0.2.1 a1 ()).bind fun r3 =>
(zaw a0.2.1).bind fun n4 =>
(zaq r3.1 ([a1]:List (Int×Int×Unit)) n4).bind fun q5 =>
(zee a0.1 q5.1).bind fun r6 =>
 some r6))
def ab8:TFn:={ ps:=(.cons tT24 (.cons tT17 .unit)),res:=tT24,fn:=fun v=>ze3 v.1 v.2.1 }
def auA:TEnv:={ pure:=[(115,uN),(173,uH),(188,abU),(195,aap)],look:=[],glob:=G0T,ty:=[(72,tT17)],raw:=[(239,aBk)],fresh:=[(180,aA7)] }
theorem auz:runY Tryz.prog alz auB auA aD9 Tryz.f170 ab8.ps ab8.res=ab8.fn:=by kernel_rfl
theorem alx:aA Tryz.prog G0 170 aly:=ai (ak ⟨au,(aj uO (aj uI (aj ak7 (aj ad3 ac)))),(be apK (be ap1 ap)),ac,an⟩ Tryz.func170 rfl (by kernel_rfl))
theorem auy:TOk aly ab8:=az (E:=alz) (ET:=auA) (EnvT.ofX (ax (ae ab6 (ae abP (ae atS (ae ajH al))))) am (iX (bq aBj rfl rfl ar) rfl) aK (jd aA6 rfl rfl rfl aq)) auz rfl
def ak3:Env:=(eZ [(114,ab5),(169,akd),(170,aly)] [274])
def atN:Hints:=(hZ [] [])
def ak2:PFn:=aB (runF Tryz.prog ak3 atN Tryz.f97)
def aDW:TH:={ loops:=[],ro:=[3] }
def zeg (a0:vV2) (a1:vV4):Option vV2 :=
(ze5 a0.1 a1.1).bind fun r1 =>
 cond (decide (r1≥0)) (
 some a0) (
(zfa a0.1 a1).bind fun r2 =>
(ze3 a0.2.2.1 a1.1).bind fun r3 =>
 some (r2,a0.2.1,r3,a0.2.2.2.1,a0.2.2.2.2.1,()))
def abS:TFn:={ ps:=(.cons tT14 (.cons tT21 .unit)),res:=tT14,fn:=fun v=>zeg v.1 v.2.1 }
def atL:TEnv:=(vZ [(114,uL),(169,abv),(170,ab8)])
theorem atK:runY Tryz.prog ak3 atN atL aDW Tryz.f97 abS.ps abS.res=abS.fn:=by kernel_rfl
theorem ak1:aA Tryz.prog G0 97 ak2:=ai (ak ⟨au,(aj uM (aj akc (aj alx ac))),ap,ac,an⟩ Tryz.func97 rfl (by kernel_rfl))
theorem atJ:TOk ak2 abS:=az (E:=ak3) (ET:=atL) (EnvT.ofX (ax (ae ab4 (ae ass (ae auy al)))) am ar aK aq) atK rfl
def aoQ:Env:=(eZ [(171,zW)] [274])
def azM:Hints:=(hZ [] [])
def ahf:PFn:=aB (runF Tryz.prog aoQ azM Tryz.f242)
def aFC:TH:={ loops:=[],ro:=[2,3] }
def zbl (a0:vV3) (a1:vV3):Option Int :=
(zdd a0.1 a1.1).bind fun r1 =>
 some r1
def aam:TFn:={ ps:=(.cons tT18 (.cons tT18 .unit)),res:=(.int .i64),fn:=fun v=>zbl v.1 v.2.1 }
def azL:TEnv:=(vZ [(171,ru)])
theorem azK:runY Tryz.prog aoQ azM azL aFC Tryz.f242 aam.ps aam.res=aam.fn:=by kernel_rfl
theorem adA:aA Tryz.prog G0 242 ahf:=ai (ak ⟨au,(aj pL ac),ap,ac,an⟩ Tryz.func242 rfl (by kernel_rfl))
theorem ajB:TOk ahf aam:=az (E:=aoQ) (ET:=azL) (EnvT.ofX (ax (ae xj al)) am ar aK aq) azK rfl
def aqI:Env:=(eZ [(242,ahf)] [274])
def aB9:Hints:=(hZ [(3,[0,2,4,8,9,10])] [])
def aqH:PFn:=aB (runF Tryz.prog aqI aB9 Tryz.f284)
def aF9:TH:={ joins:=[(8,{ keep:=[(4,(.bx 0 0)),(9,(.int .i64))],mem:=[.same] })],loops:=[(3,{ keep:=[(4,(.bx 0 0)),(9,(.int .i64)),(10,(.int .i64))],mem:=[.same] })],ro:=[4] }
def oz (a0:List vV3) (a1:vV3) (y3:(Int×Int×Unit)):Option ((Int×Int×Unit)⊕((Int×Unit)⊕(Int×Bool×Unit))) :=
 cond (decide (y3.1<y3.2.1)) (
(shrT .u64 (IntKind.wrap .u64 (IntKind.wrap .i64 (y3.1+y3.2.1))) 1).bind fun t1 =>
(atI a0 (IntKind.wrap .i64 t1)).bind fun x2 =>
(zbl x2 a1).bind fun r3 =>
 cond (decide (r3<0)) (
 some (.inl ((IntKind.wrap .i64 ((IntKind.wrap .i64 t1)+1)),y3.2.1,()))) (
 some (.inl (y3.1,(IntKind.wrap .i64 t1),())))) (
 some (.inr (.inl (y3.1,()))))
def zac (a0:List vV3) (a1:vV3) (a2:Unit):Option (Int×Bool×Unit) :=
(aH (oz a0 a1) (0,(a0.length:Int),()):Option ((Int×Unit)⊕(Int×Bool×Unit))).bind (aT fun v4 =>
 cond (decide (v4.1<(a0.length:Int))) ((atI a0 v4.1).bind fun x5 =>
(zbl x5 a1).bind fun r6 =>
 some (v4.1,(decide (r6=0)),())) (some (v4.1,false,())))
def ad4:TFn:={ ps:=(.cons (.sl tT18) (.cons tT18 (.cons (.fn 242) .unit))),res:=(.tup (.cons (.int .i64) (.cons .bool .unit))),fn:=fun v=>zac v.1 v.2.1 v.2.2.1 }
def aB8:TEnv:=(vZ [(242,aam)])
theorem aB7:runY Tryz.prog aqI aB9 aB8 aF9 Tryz.f284 ad4.ps ad4.res=ad4.fn:=by kernel_rfl
theorem aqG:aA Tryz.prog G0 284 aqH:=ai (ak ⟨au,(aj adA ac),ap,ac,an⟩ Tryz.func284 rfl (by kernel_rfl))
theorem aB6:TOk aqH ad4:=az (E:=aqI) (ET:=aB8) (EnvT.ofX (ax (ae ajB al)) am ar aK aq) aB7 rfl
def alG:Env:=(eZ [(284,aqH)] [274])
def auM:Hints:=(hZ [] [])
def alF:PFn:=aB (runF Tryz.prog alG auM Tryz.f217)
def aEc:TH:={ loops:=[],ro:=[3] }
def ze0 (a0:List vV3) (a1:(Int×Int×Unit)):Option (Int×Bool×Unit) :=
(zac a0 (a1,0,()) ()).bind fun r1 =>
 some (r1.1,r1.2.1,())
def acd:TFn:={ ps:=(.cons (.sl tT18) (.cons tT17 .unit)),res:=(.tup (.cons (.int .i64) (.cons .bool .unit))),fn:=fun v=>ze0 v.1 v.2.1 }
def auL:TEnv:=(vZ [(284,ad4)])
theorem auK:runY Tryz.prog alG auM auL aEc Tryz.f217 acd.ps acd.res=acd.fn:=by kernel_rfl
theorem alE:aA Tryz.prog G0 217 alF:=ai (ak ⟨au,(aj aqG ac),ap,ac,an⟩ Tryz.func217 rfl (by kernel_rfl))
theorem auJ:TOk alF acd:=az (E:=alG) (ET:=auL) (EnvT.ofX (ax (ae aB6 al)) am ar aK aq) auK rfl
def akr:Env:=(eZ [(217,alF)] [274])
def asO:Hints:=(hZ [] [])
def agI:PFn:=aB (runF Tryz.prog akr asO Tryz.f145)
def aDH:TH:={ loops:=[],ro:=[3] }
def zev (a0:List vV3) (a1:(Int×Int×Unit)):Option Int :=
(ze0 a0 a1).bind fun r1 =>
 cond r1.2.1 (
(atI a0 r1.1).bind fun x2 =>
 some x2.2.1) (
 some 0)
def zO:TFn:={ ps:=(.cons (.sl tT18) (.cons tT17 .unit)),res:=(.int .i64),fn:=fun v=>zev v.1 v.2.1 }
def asN:TEnv:=(vZ [(217,acd)])
theorem asM:runY Tryz.prog akr asO asN aDH Tryz.f145 zO.ps zO.res=zO.fn:=by kernel_rfl
theorem abA:aA Tryz.prog G0 145 agI:=ai (ak ⟨au,(aj alE ac),ap,ac,an⟩ Tryz.func145 rfl (by kernel_rfl))
theorem aja:TOk agI zO:=az (E:=akr) (ET:=asN) (EnvT.ofX (ax (ae auJ al)) am ar aK aq) asM rfl
def amL:Env:=(eZ [(145,agI)] [274])
def awt:Hints:=(hZ [] [])
def acG:PFn:=aB (runF Tryz.prog amL awt Tryz.f75)
def aEF:TH:={ loops:=[],ro:=[3] }
def zd7 (a0:List vV3) (a1:(Int×Int×Unit)):Option Bool :=
(zev a0 a1).bind fun r1 =>
(remT r1 2).bind fun t2 =>
 some (decide (t2=0))
def uT:TFn:={ ps:=(.cons (.sl tT18) (.cons tT17 .unit)),res:=.bool,fn:=fun v=>zd7 v.1 v.2.1 }
def aws:TEnv:=(vZ [(145,zO)])
theorem awr:runY Tryz.prog amL awt aws aEF Tryz.f75 uT.ps uT.res=uT.fn:=by kernel_rfl
theorem uU:aA Tryz.prog G0 75 acG:=ai (ak ⟨au,(aj abA ac),ap,ac,an⟩ Tryz.func75 rfl (by kernel_rfl))
theorem acF:TOk acG uT:=az (E:=amL) (ET:=aws) (EnvT.ofX (ax (ae aja al)) am ar aK aq) awr rfl
def aoa:Env:=(eZ [(145,agI),(173,abQ)] [274])
def ayG:Hints:=(hZ [] [])
def ag7:PFn:=aB (runF Tryz.prog aoa ayG Tryz.f102)
def aFj:TH:={ loops:=[],ro:=[3] }
def zc4 (a0:List vV3) (a1:(Int×Int×Unit)):Option (vV3×Int×Unit) :=
(zev a0 a1).bind fun r1 =>
(zei a1).bind fun r2 =>
 cond (!r2) (
 some (((0,0,()),0,()),2,())) (
 cond (decide (r1≥64)) (
 some (((0,0,()),0,()),14,())) (
 some ((a1,(IntKind.wrap .i64 (r1+1)),()),0,())))
def aah:TFn:={ ps:=(.cons (.sl tT18) (.cons tT17 .unit)),res:=(.tup (.cons tT18 tT25)),fn:=fun v=>zc4 v.1 v.2.1 }
def ayF:TEnv:=(vZ [(145,zO),(173,uH)])
theorem ayE:runY Tryz.prog aoa ayG ayF aFj Tryz.f102 aah.ps aah.res=aah.fn:=by kernel_rfl
theorem adg:aA Tryz.prog G0 102 ag7:=ai (ak ⟨au,(aj abA (aj uI ac)),ap,ac,an⟩ Tryz.func102 rfl (by kernel_rfl))
theorem ajv:TOk ag7 aah:=az (E:=aoa) (ET:=ayF) (EnvT.ofX (ax (ae aja (ae abP al))) am ar aK aq) ayE rfl
def akT:Env:=(eZ [(102,ag7),(115,ab7)] [274])
def atw:Hints:=(hZ [] [])
def akS:PFn:=aB (runF Tryz.prog akT atw Tryz.f100)
def aDS:TH:={ loops:=[],ro:=[2,3] }
def zek (a0:vV2) (a1:(Int×Int×Unit)):Option Int :=
(ze4 a0.2.2.2.1 a1).bind fun r1 =>
 cond r1 (
 some 13) (
(zc4 a0.2.1 a1).bind fun r2 =>
 some r2.2.1)
def abN:TFn:={ ps:=(.cons tT14 (.cons tT17 .unit)),res:=(.int .i64),fn:=fun v=>zek v.1 v.2.1 }
def atv:TEnv:=(vZ [(102,aah),(115,uN)])
theorem atu:runY Tryz.prog akT atw atv aDS Tryz.f100 abN.ps abN.res=abN.fn:=by kernel_rfl
theorem akR:aA Tryz.prog G0 100 akS:=ai (ak ⟨au,(aj adg (aj uO ac)),ap,ac,an⟩ Tryz.func100 rfl (by kernel_rfl))
theorem att:TOk akS abN:=az (E:=akT) (ET:=atv) (EnvT.ofX (ax (ae ajv (ae ab6 al))) am ar aK aq) atu rfl
def anG:Env:=(eZ [(75,acG),(100,akS),(114,ab5),(115,ab7)] [274])
def axS:Hints:=(hZ [] [])
def ag1:PFn:=aB (runF Tryz.prog anG axS Tryz.f46)
def aE5:TH:={ loops:=[],ro:=[3,4] }
def zci (a0:vV2) (a1:(Int×Int×Unit)) (a2:Bool):Option Int :=
(ze5 a0.1 a1).bind fun r1 =>
 cond (decide (r1<0)) (
 some 12) (
(ze4 a0.2.2.2.1 a1).bind fun r2 =>
 cond r2 (
 some 13) (
(zd7 a0.2.1 a1).bind fun r3 =>
 cond (r3==a2) (
 some 11) (
(zek a0 a1).bind fun r4 =>
 some r4)))
def aab:TFn:={ ps:=tT28,res:=(.int .i64),fn:=fun v=>zci v.1 v.2.1 v.2.2.1 }
def axR:TEnv:=(vZ [(75,uT),(100,abN),(114,uL),(115,uN)])
theorem axQ:runY Tryz.prog anG axS axR aE5 Tryz.f46 aab.ps aab.res=aab.fn:=by kernel_rfl
theorem ac1:aA Tryz.prog G0 46 ag1:=ai (ak ⟨au,(aj uU (aj akR (aj uM (aj uO ac)))),ap,ac,an⟩ Tryz.func46 rfl (by kernel_rfl))
theorem ajp:TOk ag1 aab:=az (E:=anG) (ET:=axR) (EnvT.ofX (ax (ae acF (ae att (ae ab4 (ae ab6 al))))) am ar aK aq) axQ rfl
def alZ:Env:=(eZ [(242,ahf)] [274])
def avi:Hints:=(hZ [(2,[0,1,5])] [34,38,42,57,68])
def alY:PFn:=aB (runF Tryz.prog alZ avi Tryz.f179)
def aEl:TH:={ joins:=[(3,{ keep:=[(5,(.own 0))],mem:=[.row true 82 tT18] }),(10,{ keep:=[(5,(.own 0)),(6,(.int .i64))],mem:=[.row true 82 tT18] })],loops:=[(2,{ keep:=[(0,(.sl tT18)),(1,(.sl tT18)),(5,(.own 0))],mem:=[.row true 82 tT18] })],ro:=[] }
def f9 (y2:(List vV3×List vV3×List vV3×Unit)):Option ((List vV3×List vV3×List vV3×Unit)⊕List vV3) :=
(cond (decide ((y2.1.length:Int)>0)) (some (.inl (y2.2.2.1,()))) (cond (decide ((y2.2.1.length:Int)>0)) (
 some (.inl (y2.2.2.1,()))) (
 some (.inr (.inr y2.2.2.1)))):Option ((List vV3×Unit)⊕((List vV3×List vV3×List vV3×Unit)⊕List vV3))).bind (aT fun v1 =>
(cond (decide ((y2.1.length:Int)=0)) (
 some (.inl (1,v1.1,()))) (
 cond (decide ((y2.2.1.length:Int)>0)) (
(atI y2.1 0).bind fun x2 =>
(atI y2.2.1 0).bind fun x3 =>
(zbl x2 x3).bind fun r4 =>
 some (.inl (r4,v1.1,()))) (
 some (.inl ((-1),v1.1,())))):Option ((Int×List vV3×Unit)⊕((List vV3×List vV3×List vV3×Unit)⊕List vV3))).bind (aT fun v5 =>
 cond (decide (v5.1<0)) (
(atI y2.1 0).bind fun x6 =>
(bh (v5.2.1.length+([x6]:List vV3).length)).bind fun u7 =>
(subI y2.1 1 (y2.1.length:Int)).bind fun s8 =>
 some (.inl (s8,y2.2.1,(v5.2.1++([x6]:List vV3)),()))) (
 cond (decide (v5.1>0)) (
(atI y2.2.1 0).bind fun x9 =>
(bh (v5.2.1.length+([x9]:List vV3).length)).bind fun u10 =>
(subI y2.2.1 1 (y2.2.1.length:Int)).bind fun s11 =>
 some (.inl (y2.1,s11,(v5.2.1++([x9]:List vV3)),()))) (
(atI y2.1 0).bind fun x12 =>
(atI y2.1 0).bind fun x13 =>
(atI y2.2.1 0).bind fun x14 =>
(bh (v5.2.1.length+([(x12.1,(max x13.2.1 x14.2.1),())]:List vV3).length)).bind fun u15 =>
(subI y2.1 1 (y2.1.length:Int)).bind fun s16 =>
(subI y2.2.1 1 (y2.2.1.length:Int)).bind fun s17 =>
 some (.inl (s16,s17,(v5.2.1++([(x12.1,(max x13.2.1 x14.2.1),())]:List vV3)),()))))))
def zdr (a0:List vV3) (a1:List vV3):Option (List vV3) :=
 aH (f9) (a0,a1,[],())
def acn:TFn:={ ps:=(.cons (.sl tT18) (.cons (.sl tT18) .unit)),res:=(.sl tT18),fn:=fun v=>zdr v.1 v.2.1 }
def avh:TEnv:={ pure:=[(242,aam)],look:=[],glob:=G0T,ty:=[(82,tT18)],raw:=[],fresh:=[] }
theorem avg:runY Tryz.prog alZ avi avh aEl Tryz.f179 acn.ps acn.res=acn.fn:=by kernel_rfl
theorem alX:aA Tryz.prog G0 179 alY:=ai (ak ⟨au,(aj adA ac),ap,ac,an⟩ Tryz.func179 rfl (by kernel_rfl))
theorem avf:TOk alY acn:=az (E:=alZ) (ET:=avh) (EnvT.ofX (ax (ae ajB al)) am ar aK aq) avg rfl
def anM:Env:=(eZ [(179,alY)] [274])
def ax0:Hints:=(hZ [] [])
def anL:PFn:=aB (runF Tryz.prog anM ax0 Tryz.f104)
def aE7:TH:=yZ
def zcg (a0:vV2) (a1:List vV3):Option vV2 :=
(zdr a0.2.1 a1).bind fun r1 =>
 some (a0.1,r1,a0.2.2.1,a0.2.2.2.1,a0.2.2.2.2.1,())
def ac3:TFn:={ ps:=(.cons tT14 (.cons (.sl tT18) .unit)),res:=tT14,fn:=fun v=>zcg v.1 v.2.1 }
def axZ:TEnv:=(vZ [(179,acn)])
theorem axY:runY Tryz.prog anM ax0 axZ aE7 Tryz.f104 ac3.ps ac3.res=ac3.fn:=by kernel_rfl
theorem anK:aA Tryz.prog G0 104 anL:=ai (ak ⟨au,(aj alX ac),ap,ac,an⟩ Tryz.func104 rfl (by kernel_rfl))
theorem axX:TOk anL ac3:=az (E:=anM) (ET:=axZ) (EnvT.ofX (ax (ae avf al)) am ar aK aq) axY rfl
def aoz:Env:=(eZ [(102,ag7),(104,anL)] [274])
def azk:Hints:=(hZ [] [])
def ahc:PFn:=aB (runF Tryz.prog aoz azk Tryz.f130)
def aFu:TH:={ loops:=[],ro:=[2,3] }
def zbt (a0:vV2) (a1:(Int×Int×Unit)):Option (vV2×Int×Unit) :=
(zc4 a0.2.1 a1).bind fun r1 =>
 cond (!decide (r1.2.1=0)) (
 some (([],[],([0,0,0,0,0,0,0,0,0,0,0,0,0,0,0,0],[],()),([0,0,0,0,0,0,0,0,0,0,0,0,0,0,0,0],[],()),[[],[],[],[],[],[],[],[]],()),r1.2.1,())) (
(zcg a0 ([r1.1]:List vV3)).bind fun r2 =>
 some (r2,0,()))
def aak:TFn:={ ps:=(.cons tT14 (.cons tT17 .unit)),res:=(.tup (.cons tT14 tT25)),fn:=fun v=>zbt v.1 v.2.1 }
def azj:TEnv:={ pure:=[(102,aah),(104,ac3)],look:=[],glob:=G0T,ty:=[(82,tT18)],raw:=[],fresh:=[] }
theorem azi:runY Tryz.prog aoz azk azj aFu Tryz.f130 aak.ps aak.res=aak.fn:=by kernel_rfl
theorem ads:aA Tryz.prog G0 130 ahc:=ai (ak ⟨au,(aj adg (aj anK ac)),ap,ac,an⟩ Tryz.func130 rfl (by kernel_rfl))
theorem ajy:TOk ahc aak:=az (E:=aoz) (ET:=azj) (EnvT.ofX (ax (ae ajv (ae axX al))) am ar aK aq) azi rfl
def apg:Env:=(eZ [(75,acG)] [274])
def aAu:Hints:=(hZ [(3,[1,5,13,14,15]),(7,[1,5,13,14,15,25,26,27]),(10,[1,5,13,14,15,25,26,27,32,33,34])] [])
def apf:SFn:=runF Tryz.prog apg aAu Tryz.f74
def aFN:TH:={ loops:=[(3,{ keep:=[(5,(.mp 0)),(15,(.int .i64))],mem:=[.map tT18 .bool] }),(7,{ keep:=[(5,(.mp 0)),(27,(.int .i64))],mem:=[.map tT18 .bool,.gone] }),(10,{ keep:=[(5,(.mp 0)),(34,(.int .i64))],mem:=[.map tT18 .bool,.gone,.gone] })],ro:=[] }
def pQ (y7:vV10) (x3:vV0) (y10:vV10):Option (vV10⊕(vV10⊕(vV10⊕(List (vV3×Bool))))) :=
 cond (decide (y10.1<(x3.2.2.2.2.1.length:Int))) (
(atI x3.2.2.2.2.1 y10.1).bind fun x4 =>
 some (.inl ((IntKind.wrap .i64 (y10.1+1)),(putK tT18 x4 true y10.2.1),()))) (
 some (.inr (.inl ((IntKind.wrap .i64 (y7.1+1)),y10.2.1,()))))
def xP (y3:vV10) (x1:vV4) (y7:vV10):Option (vV10⊕(vV10⊕(List (vV3×Bool)))) :=
 cond (decide (y7.1<(x1.2.2.2.2.1.length:Int))) (
(atI x1.2.2.2.2.1 y7.1).bind fun x3 =>
 aH (pQ y7 x3) (0,y7.2.1,())) (
 some (.inr (.inl ((IntKind.wrap .i64 (y3.1+1)),y7.2.1,()))))
def xQ (a0:List vV4) (a1:List vV3) (y3:vV10):Option (vV10⊕(List (vV3×Bool))) :=
 cond (decide (y3.1<(a0.length:Int))) (
(atI a0 y3.1).bind fun x1 =>
(zd7 a1 x1.1).bind fun r2 =>
 cond (!r2) (
 some (.inl ((IntKind.wrap .i64 (y3.1+1)),y3.2.1,()))) (
 aH (xP y3 x1) (0,y3.2.1,()))) (
 some (.inr y3.2.1))
def zb9 (a0:List vV4) (a1:List vV3):Option (List (vV3×Bool)) :=
 aH (xQ a0 a1) (0,[],())
def ahn:TNew:={ ps:=(.cons (.sl tT21) (.cons (.sl tT18) .unit)),e:=143,t:=(.sl (.cons tT18 .bool)),fn:=fun v=>zb9 v.1 v.2.1,mp:=true }
def aAt:TEnv:={ pure:=[(75,uT)],look:=[],glob:=G0T,ty:=[(4,.bool),(146,tT18)],raw:=[],fresh:=[] }
theorem aAs:aC7 Tryz.prog apg aAu aAt aFN Tryz.f74 ahn.ps tT18 .bool=ahn.fn:=by kernel_rfl
theorem ape:bB Tryz.prog G0 74 apf:=ak ⟨au,(aj uU ac),ap,ac,an⟩ Tryz.func74 rfl (by kernel_rfl)
theorem aAr:TNewOk apf ahn:=aij (E:=apg) (ET:=aAt) (EnvT.ofX (ax (ae acF al)) am ar aK aq) aAs
def akh:Env:={ pure:=[(75,acG)],raw:=[(74,apf)],glob:=G0,same:=[274],look:=[],ext:=[] }
def asz:Hints:=(hZ [(4,[1,5,6,15,16,17]),(8,[1,5,6,8,15,16,17,27,28,29])] [])
def akg:PFn:=aB (runF Tryz.prog akh asz Tryz.f19)
def aDD:TH:={ loops:=[(4,{ keep:=[(5,(.mp 0)),(6,(.own 4)),(17,(.int .i64))],mem:=[.map tT18 .bool,.gone,.gone,.gone,.row true 148 tT20] }),(8,{ keep:=[(5,(.mp 0)),(6,(.own 4)),(8,(.bx 5 0)),(29,(.int .i64))],mem:=[.map tT18 .bool,.gone,.gone,.gone,.row true 148 tT20,.box 78 tT21] })],ro:=[] }
def wT (y4:(Int×List (vV3×Bool)×List vV7×Unit)) (x2:vV4) (y8:(Int×List (vV3×Bool)×List vV7×vV4×Unit)):Option ((Int×List (vV3×Bool)×List vV7×vV4×Unit)⊕((Int×List (vV3×Bool)×List vV7×Unit)⊕List vV7)) :=
 cond (decide (y8.1<(x2.2.2.2.2.1.length:Int))) (
(atI x2.2.2.2.2.1 y8.1).bind fun x4 =>
 cond (decide (x4.1=1)) (cond (!((getK tT18 false (y8.2.2.2.1.1,y8.1,()) y8.2.1).1)) (
(bh (y8.2.2.1.length+([((y8.2.2.2.1.1,y8.1,()),x4,y8.2.2.2.1.2.2.1,())]:List vV7).length)).bind fun u5 =>
 some (.inl ((IntKind.wrap .i64 (y8.1+1)),y8.2.1,(y8.2.2.1++([((y8.2.2.2.1.1,y8.1,()),x4,y8.2.2.2.1.2.2.1,())]:List vV7)),y8.2.2.2.1,()))) (
 some (.inl ((IntKind.wrap .i64 (y8.1+1)),y8.2.1,y8.2.2.1,y8.2.2.2.1,())))) (cond (decide (x4.1=2)) (cond (!((getK tT18 false (y8.2.2.2.1.1,y8.1,()) y8.2.1).1)) (
(bh (y8.2.2.1.length+([((y8.2.2.2.1.1,y8.1,()),x4,y8.2.2.2.1.2.2.1,())]:List vV7).length)).bind fun u6 =>
 some (.inl ((IntKind.wrap .i64 (y8.1+1)),y8.2.1,(y8.2.2.1++([((y8.2.2.2.1.1,y8.1,()),x4,y8.2.2.2.1.2.2.1,())]:List vV7)),y8.2.2.2.1,()))) (
 some (.inl ((IntKind.wrap .i64 (y8.1+1)),y8.2.1,y8.2.2.1,y8.2.2.2.1,())))) (cond (decide (x4.1=3)) (cond (!((getK tT18 false (y8.2.2.2.1.1,y8.1,()) y8.2.1).1)) (
(bh (y8.2.2.1.length+([((y8.2.2.2.1.1,y8.1,()),x4,y8.2.2.2.1.2.2.1,())]:List vV7).length)).bind fun u7 =>
 some (.inl ((IntKind.wrap .i64 (y8.1+1)),y8.2.1,(y8.2.2.1++([((y8.2.2.2.1.1,y8.1,()),x4,y8.2.2.2.1.2.2.1,())]:List vV7)),y8.2.2.2.1,()))) (
 some (.inl ((IntKind.wrap .i64 (y8.1+1)),y8.2.1,y8.2.2.1,y8.2.2.2.1,())))) (some (.inl ((IntKind.wrap .i64 (y8.1+1)),y8.2.1,y8.2.2.1,y8.2.2.2.1,())))))) (
 some (.inr (.inl ((IntKind.wrap .i64 (y4.1+1)),y8.2.1,y8.2.2.1,()))))
def wU (a0:List vV4) (a1:List vV3) (y4:(Int×List (vV3×Bool)×List vV7×Unit)):Option ((Int×List (vV3×Bool)×List vV7×Unit)⊕List vV7) :=
 cond (decide (y4.1<(a0.length:Int))) (
(atI a0 y4.1).bind fun x2 =>
(zd7 a1 x2.1).bind fun r3 =>
 cond (!r3) (
 some (.inl ((IntKind.wrap .i64 (y4.1+1)),y4.2.1,y4.2.2.1,()))) (
 aH (wT y4 x2) (0,y4.2.1,y4.2.2.1,x2,()))) (
 some (.inr y4.2.2.1))
def zez (a0:List vV4) (a1:List vV3):Option (List vV7) :=
(zb9 a0 a1).bind fun n1 =>
 aH (wU a0 a1) (0,n1,[],())
def abw:TFn:={ ps:=(.cons (.sl tT21) (.cons (.sl tT18) .unit)),res:=(.sl tT20),fn:=fun v=>zez v.1 v.2.1 }
def asy:TEnv:={ pure:=[(75,uT)],look:=[],glob:=G0T,ty:=[(148,tT20)],raw:=[],fresh:=[(74,ahn)] }
theorem asx:runY Tryz.prog akh asz asy aDD Tryz.f19 abw.ps abw.res=abw.fn:=by kernel_rfl
theorem akf:aA Tryz.prog G0 19 akg:=ai (ak ⟨au,(aj uU ac),(be ape ap),ac,an⟩ Tryz.func19 rfl (by kernel_rfl))
theorem asw:TOk akg abw:=az (E:=akh) (ET:=asy) (EnvT.ofX (ax (ae acF al)) am (iX ar rfl) aK (jd aAr rfl rfl rfl aq)) asx rfl
def am4:Env:=(eZ [(19,akg)] [274])
def aw4:Hints:=(hZ [] [])
def agX:PFn:=aB (runF Tryz.prog am4 aw4 Tryz.f50)
def aEQ:TH:={ loops:=[],ro:=[1] }
def zcw (a0:vV2):Option (List vV7) :=
(zez a0.1 a0.2.1).bind fun r1 =>
 some r1
def z8:TFn:={ ps:=(.cons tT14 .unit),res:=(.sl tT20),fn:=fun v=>zcw v.1 }
def aw3:TEnv:=(vZ [(19,abw)])
theorem aw2:runY Tryz.prog am4 aw4 aw3 aEQ Tryz.f50 z8.ps z8.res=z8.fn:=by kernel_rfl
theorem acP:aA Tryz.prog G0 50 agX:=ai (ak ⟨au,(aj akf ac),ap,ac,an⟩ Tryz.func50 rfl (by kernel_rfl))
theorem ajn:TOk agX z8:=az (E:=am4) (ET:=aw3) (EnvT.ofX (ax (ae asw al)) am ar aK aq) aw2 rfl
def aq9:Go.Shelf.Ren:=⟨fun | 41=>72 | n=>n,fun | 22=>24 | 23=>9 | 4=>4 | n=>n,fun | n=>n⟩
theorem ahG:Go.Proofs.SlLaysE0.n41 Tryz.prog aq9:={
 mixed:=by kernel_rfl
 f41:=⟨Tryz.f72.name,by decide,Tryz.func72.trans (congrArg some (by kernel_rfl))⟩
 t4:=Tryz.underlying4
 a4:=Tryz.isAgg4
 z4:=Tryz.sizeOf4
 v4:=Tryz.zeroValue4
 t22:=Tryz.underlying24
 a22:=Tryz.isAgg24
 z22:=Tryz.sizeOf24
 v22:=Tryz.zeroValue24 }
def aeg:PFn:=(nu 1)
theorem vi:aA Tryz.prog G0 72 aeg:=clone_lays ahG 1 ⟨Tryz.f72,Tryz.func72,rfl,by kernel_rfl⟩ (by kernel_rfl) (by kernel_rfl) (by kernel_rfl) (by kernel_rfl) (by kernel_rfl) (by decide) (fun w=>Tryz.sizeOf9 w)
def za0 (a0:List (List UInt8)):Option (List (List UInt8)):=fE a0
def ahH:TFn:=hI .str
theorem aef:TOk aeg ahH:=uh rfl rfl rfl
def alq:Env:=(eZ [] [274])
def auj:Hints:=(hZ [] [])
def agK:PFn:=aB (runF Tryz.prog alq auj Tryz.f124)
def aD4:TH:={ joins:=[(6,{ keep:=[(6,.bool)],mem:=[] })],loops:=[],ro:=[] }
def ze8 (a0:Int):Option Int :=
 cond (decide (a0=1)) (
 some 1) (
(cond (decide (a0=2)) (
 some (.inl ((decide (a0=2)),()))) (
 some (.inl ((decide (a0=4)),()))):Option ((Bool×Unit)⊕Int)).bind (aT fun v1 =>
 cond v1.1 (
 some 2) (
 cond (decide (a0=3)) (
 some 3) (
 some 0))))
def zQ:TFn:={ ps:=tT25,res:=(.int .i64),fn:=fun v=>ze8 v.1 }
def aui:TEnv:=(vZ [])
theorem auh:runY Tryz.prog alq auj aui aD4 Tryz.f124 zQ.ps zQ.res=zQ.fn:=by kernel_rfl
theorem ab0:aA Tryz.prog G0 124 agK:=ai (ak ⟨au,ac,ap,ac,an⟩ Tryz.func124 rfl (by kernel_rfl))
theorem ajc:TOk agK zQ:=az (E:=alq) (ET:=aui) (EnvT.ofX (ax al) am ar aK aq) auh rfl
def ao7:Env:=(eZ [] [274])
def aAe:Hints:=(hZ [] [])
def ahk:PFn:=aB (runF Tryz.prog ao7 aAe Tryz.f330)
def aFJ:TH:=yZ
def zbd (a0:List UInt8):Option Bool :=
 some (!decide (a0=a0))
def adF:TFn:={ ps:=(.cons .str .unit),res:=.bool,fn:=fun v=>zbd v.1 }
def aAd:TEnv:=(vZ [])
theorem aAc:runY Tryz.prog ao7 aAe aAd aFJ Tryz.f330 adF.ps adF.res=adF.fn:=by kernel_rfl
theorem ao6:aA Tryz.prog G0 330 ahk:=ai (ak ⟨au,ac,ap,ac,an⟩ Tryz.func330 rfl (by kernel_rfl))
theorem aAb:TOk ahk adF:=az (E:=ao7) (ET:=aAd) (EnvT.ofX (ax al) am ar aK aq) aAc rfl
def aqQ:Env:=(eZ [(330,ahk)] [274])
def aCl:Hints:=(hZ [] [])
def ahE:PFn:=aB (runF Tryz.prog aqQ aCl Tryz.f287)
def aGc:TH:=yZ
def za9 (a0:List UInt8) (a1:List UInt8):Option Int :=
(zbd a0).bind fun r1 =>
(zbd a1).bind fun r2 =>
 cond r1 (
 cond r2 (
 some 0) (
 some (-1))) (
 cond r2 (
 some 1) (
 cond (Op.bytesLess a0 a1) (
 some (-1)) (
 cond (!(Op.bytesLess a0 a1||decide (a0=a1))) (
 some 1) (
 some 0))))
def ad7:TFn:={ ps:=(.cons .str (.cons .str .unit)),res:=(.int .i64),fn:=fun v=>za9 v.1 v.2.1 }
def aCk:TEnv:=(vZ [(330,adF)])
theorem aCj:runY Tryz.prog aqQ aCl aCk aGc Tryz.f287 ad7.ps ad7.res=ad7.fn:=by kernel_rfl
theorem aqP:aA Tryz.prog G0 287 ahE:=ai (ak ⟨au,(aj ao6 ac),ap,ac,an⟩ Tryz.func287 rfl (by kernel_rfl))
theorem aCi:TOk ahE ad7:=az (E:=aqQ) (ET:=aCk) (EnvT.ofX (ax (ae aAb al)) am ar aK aq) aCj rfl
def apI:Env:=(eZ [(287,ahE)] [274])
def aA5:Hints:=(hZ [(2,[0,1,9,10,11])] [])
def aht:PFn:=aB (runF Tryz.prog apI aA5 Tryz.f225)
def aFW:TH:={ joins:=[(11,{ keep:=[],mem:=[] })],loops:=[(2,{ keep:=[(11,(.int .i64))],mem:=[] })],ro:=[] }
def iP (a0:List (List UInt8)) (a1:List (List UInt8)) (y2:(Int×Unit)):Option ((Int×Unit)⊕(Unit⊕Int)) :=
 cond (decide (y2.1<(a0.length:Int))) (
(atI a0 y2.1).bind fun x1 =>
 cond (decide (y2.1≥(a1.length:Int))) (
 some (.inr (.inr 1))) (
(atI a1 y2.1).bind fun x2 =>
(za9 x1 x2).bind fun r3 =>
 cond (!decide (r3=0)) (
 some (.inr (.inr r3))) (
 some (.inl ((IntKind.wrap .i64 (y2.1+1)),()))))) (
 some (.inr (.inl ())))
def zax (a0:List (List UInt8)) (a1:List (List UInt8)):Option Int :=
(aH (iP a0 a1) (0,()):Option (Unit⊕Int)).bind (aT fun v4 =>
 cond (decide ((a0.length:Int)<(a1.length:Int))) (
 some (-1)) (
 some 0))
def adU:TFn:={ ps:=(.cons (.sl .str) tT30),res:=(.int .i64),fn:=fun v=>zax v.1 v.2.1 }
def aA4:TEnv:=(vZ [(287,ad7)])
theorem aA3:runY Tryz.prog apI aA5 aA4 aFW Tryz.f225 adU.ps adU.res=adU.fn:=by kernel_rfl
theorem apH:aA Tryz.prog G0 225 aht:=ai (ak ⟨au,(aj aqP ac),ap,ac,an⟩ Tryz.func225 rfl (by kernel_rfl))
theorem aA2:TOk aht adU:=az (E:=apI) (ET:=aA4) (EnvT.ofX (ax (ae aCi al)) am ar aK aq) aA3 rfl
def apt:Env:=(eZ [(225,aht)] [274])
def aAN:Hints:=(hZ [] [])
def adP:PFn:=aB (runF Tryz.prog apt aAN Tryz.f155)
def aFS:TH:=yZ
def zb3 (a0:List (List UInt8)) (a1:List (List UInt8)):Option Int :=
(zax a0 a1).bind fun r1 =>
 some r1
def aao:TFn:={ ps:=(.cons (.sl .str) tT30),res:=(.int .i64),fn:=fun v=>zb3 v.1 v.2.1 }
def aAM:TEnv:=(vZ [(225,adU)])
theorem aAL:runY Tryz.prog apt aAN aAM aFS Tryz.f155 aao.ps aao.res=aao.fn:=by kernel_rfl
theorem adO:aA Tryz.prog G0 155 adP:=ai (ak ⟨au,(aj apH ac),ap,ac,an⟩ Tryz.func155 rfl (by kernel_rfl))
theorem ajF:TOk adP aao:=az (E:=apt) (ET:=aAM) (EnvT.ofX (ax (ae aA2 al)) am ar aK aq) aAL rfl
def apo:Env:=(eZ [(154,uV),(155,adP),(156,uY)] [274])
def aAF:Hints:=(hZ [] [])
def adK:PFn:=aB (runF Tryz.prog apo aAF Tryz.f126)
def aFQ:TH:={ loops:=[],ro:=[2,3] }
def zb6 (a0:vV5) (a1:vV5):Option Int :=
(zb3 a0.1 a1.1).bind fun r1 =>
(zbj a0.2.1 a1.2.1).bind fun r2 =>
(zd5 ([r1,r2]:List Int)).bind fun r3 =>
 some r3
def adJ:TFn:={ ps:=(.cons tT22 (.cons tT22 .unit)),res:=(.int .i64),fn:=fun v=>zb6 v.1 v.2.1 }
def aAE:TEnv:={ pure:=[(154,rv),(155,aao),(156,rE)],look:=[],glob:=G0T,ty:=[(3,(.int .i64))],raw:=[],fresh:=[] }
theorem aAD:runY Tryz.prog apo aAF aAE aFQ Tryz.f126 adJ.ps adJ.res=adJ.fn:=by kernel_rfl
theorem apn:aA Tryz.prog G0 126 adK:=ai (ak ⟨au,(aj pM (aj adO (aj pP ac))),ap,ac,an⟩ Tryz.func126 rfl (by kernel_rfl))
theorem ajD:TOk adK adJ:=az (E:=apo) (ET:=aAE) (EnvT.ofX (ax (ae xm (ae ajF (ae xK al)))) am ar aK aq) aAD rfl
theorem aha : @aA ⟨True⟩ Tryz.prog G0 226 ahb:=by
 letI:Drawn:=⟨True⟩;exact ai (ak ⟨au,ac,ap,ac,an⟩ Tryz.func226 rfl (by kernel_rfl))
theorem xL : @aA ⟨True⟩ Tryz.prog G0 156 uY:=by
 letI:Drawn:=⟨True⟩;exact ai (ak ⟨au,(aj aha ac),ap,ac,an⟩ Tryz.func156 rfl (by kernel_rfl))
theorem xn : @aA ⟨True⟩ Tryz.prog G0 154 uV:=by
 letI:Drawn:=⟨True⟩;exact ai (ak ⟨au,ac,ap,ac,an⟩ Tryz.func154 rfl (by kernel_rfl))
theorem ahj : @aA ⟨True⟩ Tryz.prog G0 330 ahk:=by
 letI:Drawn:=⟨True⟩;exact ai (ak ⟨au,ac,ap,ac,an⟩ Tryz.func330 rfl (by kernel_rfl))
theorem ahD : @aA ⟨True⟩ Tryz.prog G0 287 ahE:=by
 letI:Drawn:=⟨True⟩;exact ai (ak ⟨au,(aj ahj ac),ap,ac,an⟩ Tryz.func287 rfl (by kernel_rfl))
theorem ahs : @aA ⟨True⟩ Tryz.prog G0 225 aht:=by
 letI:Drawn:=⟨True⟩;exact ai (ak ⟨au,(aj ahD ac),ap,ac,an⟩ Tryz.func225 rfl (by kernel_rfl))
theorem ahp : @aA ⟨True⟩ Tryz.prog G0 155 adP:=by
 letI:Drawn:=⟨True⟩;exact ai (ak ⟨au,(aj ahs ac),ap,ac,an⟩ Tryz.func155 rfl (by kernel_rfl))
theorem aho : @aA ⟨True⟩ Tryz.prog G0 126 adK:=by
 letI:Drawn:=⟨True⟩;exact ai (ak ⟨au,(aj xn (aj ahp (aj xL ac))),ap,ac,an⟩ Tryz.func126 rfl (by kernel_rfl))
def aqg:Go.Shelf.Ren:=⟨fun | 6=>125 | 14=>200 | 15=>201 | 20=>260 | 21=>261 | 22=>262 | 23=>263 | 24=>264 | 25=>265 | 26=>266 | 27=>267 | 28=>268 | 29=>269 | 46=>315 | 47=>316 | 48=>317 | 49=>318 | 50=>319 | 57=>351 | n=>n,fun | 0=>0 | 3=>3 | 4=>4 | 5=>5 | 9=>9 | 22=>104 | 24=>109 | 25=>199 | 39=>230 | 45=>314 | 46=>315 | 50=>161 | 53=>321 | 55=>323 | 66=>354 | 70=>358 | 76=>378 | 77=>283 | n=>n,fun | n=>n⟩
theorem ahA:Go.Proofs.SlLaysF0.n6 Tryz.prog aqg:={
 mixed:=by kernel_rfl
 f6:=⟨Tryz.f125.name,by decide,Tryz.func125.trans (congrArg some (by kernel_rfl))⟩
 f14:=⟨Tryz.f200.name,by decide,Tryz.func200.trans (congrArg some (by kernel_rfl))⟩
 f15:=Tryz.func201.trans (congrArg some (by kernel_rfl))
 f20:=⟨Tryz.f260.name,by decide,Tryz.func260.trans (congrArg some (by kernel_rfl))⟩
 f21:=⟨Tryz.f261.name,by decide,Tryz.func261.trans (congrArg some (by kernel_rfl))⟩
 f22:=⟨Tryz.f262.name,by decide,Tryz.func262.trans (congrArg some (by kernel_rfl))⟩
 f23:=⟨Tryz.f263.name,by decide,Tryz.func263.trans (congrArg some (by kernel_rfl))⟩
 f24:=⟨Tryz.f264.name,by decide,Tryz.func264.trans (congrArg some (by kernel_rfl))⟩
 f25:=⟨Tryz.f265.name,by decide,Tryz.func265.trans (congrArg some (by kernel_rfl))⟩
 f26:=⟨Tryz.f266.name,by decide,Tryz.func266.trans (congrArg some (by kernel_rfl))⟩
 f27:=⟨Tryz.f267.name,by decide,Tryz.func267.trans (congrArg some (by kernel_rfl))⟩
 f28:=Tryz.func268.trans (congrArg some (by kernel_rfl))
 f29:=Tryz.func269.trans (congrArg some (by kernel_rfl))
 f46:=⟨Tryz.f315.name,by decide,Tryz.func315.trans (congrArg some (by kernel_rfl))⟩
 f47:=Tryz.func316.trans (congrArg some (by kernel_rfl))
 f48:=Tryz.func317.trans (congrArg some (by kernel_rfl))
 f49:=⟨Tryz.f318.name,by decide,Tryz.func318.trans (congrArg some (by kernel_rfl))⟩
 f50:=⟨Tryz.f319.name,by decide,Tryz.func319.trans (congrArg some (by kernel_rfl))⟩
 f57:=⟨Tryz.f351.name,by decide,Tryz.func351.trans (congrArg some (by kernel_rfl))⟩
 t0:=Tryz.underlying0
 a0:=Tryz.isAgg0
 z0:=Tryz.sizeOf0
 v0:=Tryz.zeroValue0
 t3:=Tryz.underlying3
 a3:=Tryz.isAgg3
 z3:=Tryz.sizeOf3
 v3:=Tryz.zeroValue3
 t4:=Tryz.underlying4
 a4:=Tryz.isAgg4
 z4:=Tryz.sizeOf4
 v4:=Tryz.zeroValue4
 t5:=Tryz.underlying5
 a5:=Tryz.isAgg5
 z5:=Tryz.sizeOf5
 v5:=Tryz.zeroValue5
 t9:=Tryz.underlying9
 a9:=Tryz.isAgg9
 z9:=Tryz.sizeOf9
 v9:=Tryz.zeroValue9
 t22:=Tryz.underlying104
 a22:=Tryz.isAgg104
 z22:=Tryz.sizeOf104
 v22:=Tryz.zeroValue104
 t25:=Tryz.underlying199
 a25:=Tryz.isAgg199
 z25:=Tryz.sizeOf199
 v25:=Tryz.zeroValue199
 t39:=Tryz.underlying230
 a39:=Tryz.isAgg230
 z39:=Tryz.sizeOf230
 v39:=Tryz.zeroValue230
 t45:=Tryz.underlying314
 a45:=Tryz.isAgg314
 z45:=Tryz.sizeOf314
 v45:=Tryz.zeroValue314
 t46:=Tryz.underlying315
 a46:=Tryz.isAgg315
 z46:=Tryz.sizeOf315
 v46:=Tryz.zeroValue315
 t50:=Tryz.underlying161
 a50:=Tryz.isAgg161
 z50:=Tryz.sizeOf161
 v50:=Tryz.zeroValue161
 t53:=Tryz.underlying321
 a53:=Tryz.isAgg321
 z53:=Tryz.sizeOf321
 v53:=Tryz.zeroValue321
 t55:=Tryz.underlying323
 a55:=Tryz.isAgg323
 z55:=Tryz.sizeOf323
 v55:=Tryz.zeroValue323
 t66:=Tryz.underlying354
 a66:=Tryz.isAgg354
 z66:=Tryz.sizeOf354
 v66:=Tryz.zeroValue354
 t70:=Tryz.underlying358
 a70:=Tryz.isAgg358
 z70:=Tryz.sizeOf358
 v70:=Tryz.zeroValue358
 t76:=Tryz.underlying378
 a76:=Tryz.isAgg378
 z76:=Tryz.sizeOf378
 v76:=Tryz.zeroValue378
 t77:=Tryz.underlying283
 a77:=Tryz.isAgg283
 z77:=Tryz.sizeOf283
 v77:=Tryz.zeroValue283 }
def aqi:SFn:=p7 adK 126 2 109
theorem aqh:bB Tryz.prog G0 125 aqi:=mh (M:=2) (g:=126) ahA (by decide) (fun w=>Tryz.isAgg109 w) (fun w=>Tryz.sizeOf109 w) aho ⟨Tryz.f125,Tryz.func125,rfl,by kernel_rfl⟩
def zal (w0:List vV5):Option (Unit×List vV5×Unit):=(nS (fun x y=>zb6 x y) w0).map fun l=>((),(l,()))
def aBB:TRaw:=aew false 126 109 tT22 (fun x y=>zb6 x y)
theorem aBA:TRawOk aqi aBB:=yi rfl rfl rfl rfl ajD
def aoL:Env:=(eZ [(126,adK)] [274])
def azC:Hints:=(hZ [] [])
def aoK:PFn:=aB (runF Tryz.prog aoL azC Tryz.f128)
def aFz:TH:={ loops:=[],ro:=[2,3] }
def zbo (a0:vV5) (a1:vV5):Option Bool :=
(zb6 a0 a1).bind fun r1 =>
 some (decide (r1=0))
def adx:TFn:={ ps:=(.cons tT22 (.cons tT22 .unit)),res:=.bool,fn:=fun v=>zbo v.1 v.2.1 }
def azB:TEnv:=(vZ [(126,adJ)])
theorem azA:runY Tryz.prog aoL azC azB aFz Tryz.f128 adx.ps adx.res=adx.fn:=by kernel_rfl
theorem aoJ:aA Tryz.prog G0 128 aoK:=ai (ak ⟨au,(aj apn ac),ap,ac,an⟩ Tryz.func128 rfl (by kernel_rfl))
theorem azz:TOk aoK adx:=az (E:=aoL) (ET:=azB) (EnvT.ofX (ax (ae ajD al)) am ar aK aq) azA rfl
def aqv:Env:=(eZ [(128,aoK)] [274])
def aBQ:Hints:=(hZ [(4,[0,1,5]),(9,[0,1,5,6,7])] [])
def aqu:SFn:=jl (runF Tryz.prog aqv aBQ Tryz.f127)
def aF4:TH:={ joins:=[(14,{ keep:=[(0,(.own 0)),(5,(.int .i64))],mem:=[.row false 109 tT22] })],loops:=[(4,{ keep:=[(0,(.own 0)),(5,(.int .i64))],mem:=[.row false 109 tT22] }),(9,{ keep:=[(0,(.own 0)),(5,(.int .i64)),(6,(.vw 0)),(7,(.int .i64))],mem:=[.row false 109 tT22] })],ro:=[] }
def oy (y9:(Int×(Nat×Nat)×Int×List vV5×Unit)):Option ((Int×(Nat×Nat)×Int×List vV5×Unit)⊕((Int×List vV5×Unit)⊕((Int×List vV5×Unit)⊕(List vV5)))) :=
 cond (decide (y9.2.2.1<(y9.2.1.2:Int))) (
 cond y9.2.2.2.1.isEmpty (none) ((inI y9.2.1.2 y9.2.2.1).bind fun i7 =>
(y9.2.2.2.1[(y9.2.1.1+i7)]?).bind fun x8 =>
 cond y9.2.2.2.1.isEmpty (none) ((inI y9.2.1.2 (IntKind.wrap .i64 (y9.2.2.1-1))).bind fun i9 =>
(y9.2.2.2.1[(y9.2.1.1+i9)]?).bind fun x10 =>
(zbo x8 x10).bind fun r11 =>
 cond (!r11) (
 cond y9.2.2.2.1.isEmpty (none) ((inI y9.2.1.2 y9.2.2.1).bind fun i12 =>
(y9.2.2.2.1[(y9.2.1.1+i12)]?).bind fun x13 =>
(inI y9.2.2.2.1.length y9.1).bind fun i14 =>
(y9.2.2.2.1[i14]?).bind fun x15 =>
 some (.inl ((IntKind.wrap .i64 (y9.1+1)),y9.2.1,(IntKind.wrap .i64 (y9.2.2.1+1)),(y9.2.2.2.1.set i14 x13),())))) (
 some (.inl (y9.1,y9.2.1,(IntKind.wrap .i64 (y9.2.2.1+1)),y9.2.2.2.1,())))))) (
 some (.inr (.inl (y9.1,y9.2.2.2.1,()))))
def lT (y4:(Int×List vV5×Unit)):Option ((Int×List vV5×Unit)⊕(List vV5)) :=
 cond (decide (y4.1<(y4.2.1.length:Int))) (
(inI y4.2.1.length y4.1).bind fun i1 =>
(y4.2.1[i1]?).bind fun x2 =>
(inI y4.2.1.length (IntKind.wrap .i64 (y4.1-1))).bind fun i3 =>
(y4.2.1[i3]?).bind fun x4 =>
(zbo x2 x4).bind fun r5 =>
 cond r5 (
 cond y4.2.1.isEmpty (none) ((lZ (y4.2.1.length) y4.1 (y4.2.1.length:Int)).bind fun p6 =>
(aH (oy) (y4.1,p6,1,y4.2.1,()):Option ((Int×List vV5×Unit)⊕((Int×List vV5×Unit)⊕(List vV5)))).bind (aT fun v16 =>
 cond v16.2.1.isEmpty (none) ((lZ (v16.2.1.length) v16.1 (v16.2.1.length:Int)).bind fun p17 =>
 cond v16.2.1.isEmpty (none) ((if p17.1+p17.2≤v16.2.1.length then some () else none).bind fun u18 =>
 cond (v16.2.1.take p17.1++List.replicate p17.2 ([],0,())++v16.2.1.drop (p17.1+p17.2)).isEmpty (none) ((lZ ((v16.2.1.take p17.1++List.replicate p17.2 ([],0,())++v16.2.1.drop (p17.1+p17.2)).length) 0 v16.1).bind fun p19 =>
(cond (v16.2.1.take p17.1++List.replicate p17.2 ([],0,())++v16.2.1.drop (p17.1+p17.2)).isEmpty none (if p19.1+p19.2≤(v16.2.1.take p17.1++List.replicate p17.2 ([],0,())++v16.2.1.drop (p17.1+p17.2)).length then some (((v16.2.1.take p17.1++List.replicate p17.2 ([],0,())++v16.2.1.drop (p17.1+p17.2)).drop p19.1).take p19.2) else none)).map .inr)))))) (
 some (.inl ((IntKind.wrap .i64 (y4.1+1)),y4.2.1,())))) (
 some (.inr y4.2.1))
def aqs (w0:List vV5):Option (List vV5) :=
 cond (decide ((w0.length:Int)<2)) (
 some w0) (
 aH (lT) (1,w0,()))
def zah (w0:List vV5):Option (List vV5×Unit):=(aqs w0).map fun l=>(l,())
def aBP:TRaw:={ ps:=(.cons (.own 0) (.cons (.fn 128) .unit)),ins:=[.row false 109 tT22],res:=(.sl tT22),outs:=[.gone],fn:=fun v w=>zah w.1 }
def aBO:TEnv:=(vZ [(128,adx)])
theorem aBN:aiI Tryz.prog aqv aBQ aBO aF4 Tryz.f127 (.cons (.own 0) (.cons (.fn 128) .unit)) false 109 tT22=fun _ w=>aqs w:=by kernel_rfl
theorem aqt:bB Tryz.prog G0 127 aqu:=iJ (ak ⟨au,(aj aoJ ac),ap,ac,an⟩ Tryz.func127 rfl (by kernel_rfl))
theorem aBM:TRawOk aqu aBP:=yX (E:=aqv) (ET:=aBO) (EnvT.ofX (ax (ae azz al)) am ar aK aq) aBN
def an9:Env:={ pure:=[(72,aeg),(124,agK)],raw:=[(125,aqi),(127,aqu)],glob:=G0,same:=[274],look:=[],ext:=[] }
def ayD:Hints:=(hZ [(3,[3,6,7,8])] [])
def ag6:PFn:=aB (runF Tryz.prog an9 ayD Tryz.f55)
def aFi:TH:={ joins:=[(7,{ keep:=[(3,(.own 1))],mem:=[.gone,.row true 109 tT22] })],loops:=[(3,{ keep:=[(3,(.own 1)),(8,(.int .i64))],mem:=[.gone,.row true 109 tT22] })],ro:=[] }
def xD (a0:List vV7) (y3:(Int×List vV5×Unit)):Option ((Int×List vV5×Unit)⊕((List vV5×Unit)⊕List vV5)) :=
 cond (decide (y3.1<(a0.length:Int))) (
(atI a0 y3.1).bind fun x1 =>
(za0 x1.2.1.2.1).bind fun r2 =>
(ze8 x1.2.1.1).bind fun r3 =>
(bh (y3.2.1.length+([(r2,r3,())]:List vV5).length)).bind fun u4 =>
 some (.inl ((IntKind.wrap .i64 (y3.1+1)),(y3.2.1++([(r2,r3,())]:List vV5)),()))) (
 some (.inr (.inl (y3.2.1,()))))
def zc5 (a0:List vV7):Option (List vV5) :=
(aH (xD a0) (0,[],()):Option ((List vV5×Unit)⊕List vV5)).bind (aT fun v5 =>
(zal v5.1).bind fun q6 =>
(zah q6.2.1).bind fun q7 =>
 some q7.1)
def aag:TFn:={ ps:=(.cons (.sl tT20) .unit),res:=(.sl tT22),fn:=fun v=>zc5 v.1 }
def ayC:TEnv:={ pure:=[(72,ahH),(124,zQ)],look:=[],glob:=G0T,ty:=[(109,tT22)],raw:=[(125,aBB),(127,aBP)],fresh:=[] }
theorem ayB:runY Tryz.prog an9 ayD ayC aFi Tryz.f55 aag.ps aag.res=aag.fn:=by kernel_rfl
theorem adf:aA Tryz.prog G0 55 ag6:=ai (ak ⟨au,(aj vi (aj ab0 ac)),(be aqh (be aqt ap)),ac,an⟩ Tryz.func55 rfl (by kernel_rfl))
theorem aju:TOk ag6 aag:=az (E:=an9) (ET:=ayC) (EnvT.ofX (ax (ae aef (ae ajc al))) am (bq aBA rfl rfl (bq aBM rfl rfl ar)) aK aq) ayB rfl
def apD:Env:=(eZ [] [274])
def aAZ:Hints:=(hZ [(4,[0,1,12,13])] [])
def apC:PFn:=aB (runF Tryz.prog apD aAZ Tryz.f196)
def aFV:TH:={ loops:=[(4,{ keep:=[(13,(.int .i64))],mem:=[] })],ro:=[] }
def xW (a0:List (List UInt8)) (a1:List (List UInt8)) (y4:(Int×Unit)):Option ((Int×Unit)⊕Bool) :=
 cond (decide (y4.1<(a0.length:Int))) (
(atI a0 y4.1).bind fun x1 =>
(atI a1 y4.1).bind fun x2 =>
 cond (!decide (x1=x2)) (
 some (.inr false)) (
 some (.inl ((IntKind.wrap .i64 (y4.1+1)),())))) (
 some (.inr true))
def zaz (a0:List (List UInt8)) (a1:List (List UInt8)):Option Bool :=
 cond (!decide ((a0.length:Int)=(a1.length:Int))) (
 some false) (
 aH (xW a0 a1) (0,()))
def adT:TFn:={ ps:=(.cons (.sl .str) tT30),res:=.bool,fn:=fun v=>zaz v.1 v.2.1 }
def aAY:TEnv:=(vZ [])
theorem aAX:runY Tryz.prog apD aAZ aAY aFV Tryz.f196 adT.ps adT.res=adT.fn:=by kernel_rfl
theorem apB:aA Tryz.prog G0 196 apC:=ai (ak ⟨au,ac,ap,ac,an⟩ Tryz.func196 rfl (by kernel_rfl))
theorem aAW:TOk apC adT:=az (E:=apD) (ET:=aAY) (EnvT.ofX (ax al) am ar aK aq) aAX rfl
def akG:Env:=(eZ [(196,apC)] [274])
def atd:Hints:=(hZ [] [])
def agJ:PFn:=aB (runF Tryz.prog akG atd Tryz.f160)
def aDN:TH:=yZ
def zep (a0:List (List UInt8)) (a1:List (List UInt8)):Option Bool :=
(zaz a0 a1).bind fun r1 =>
 some r1
def zP:TFn:={ ps:=(.cons (.sl .str) tT30),res:=.bool,fn:=fun v=>zep v.1 v.2.1 }
def atc:TEnv:=(vZ [(196,adT)])
theorem atb:runY Tryz.prog akG atd atc aDN Tryz.f160 zP.ps zP.res=zP.fn:=by kernel_rfl
theorem abH:aA Tryz.prog G0 160 agJ:=ai (ak ⟨au,(aj apB ac),ap,ac,an⟩ Tryz.func160 rfl (by kernel_rfl))
theorem ajb:TOk agJ zP:=az (E:=akG) (ET:=atc) (EnvT.ofX (ax (ae aAW al)) am ar aK aq) atb rfl
def alr:Env:=(eZ [(124,agK),(160,agJ)] [274])
def aum:Hints:=(hZ [(3,[1,2,7,10,11,12])] [])
def ab2:PFn:=aB (runF Tryz.prog alr aum Tryz.f229)
def aD5:TH:={ loops:=[(3,{ keep:=[(7,(.own 1)),(12,(.int .i64))],mem:=[.gone,.row true 148 tT20] })],ro:=[] }
def w9 (a0:List vV7) (a1:List (List UInt8)) (a2:Int) (y3:vV13):Option (vV13⊕List vV7) :=
 cond (decide (y3.1<(a0.length:Int))) (
(atI a0 y3.1).bind fun x1 =>
(ze8 x1.2.1.1).bind fun r2 =>
 cond (decide (r2=a2)) ((zep x1.2.1.2.1 a1).bind fun r3 =>
 cond r3 (
(bh (y3.2.1.length+([x1]:List vV7).length)).bind fun u4 =>
 some (.inl ((IntKind.wrap .i64 (y3.1+1)),(y3.2.1++([x1]:List vV7)),()))) (
 some (.inl ((IntKind.wrap .i64 (y3.1+1)),y3.2.1,())))) (some (.inl ((IntKind.wrap .i64 (y3.1+1)),y3.2.1,())))) (
 some (.inr y3.2.1))
def ze7 (a0:List vV7) (a1:List (List UInt8)) (a2:Int):Option (List vV7) :=
 aH (w9 a0 a1 a2) (0,[],())
def uJ:TFn:={ ps:=(.cons (.sl tT20) (.cons (.sl .str) tT25)),res:=(.sl tT20),fn:=fun v=>ze7 v.1 v.2.1 v.2.2.1 }
def aul:TEnv:={ pure:=[(124,zQ),(160,zP)],look:=[],glob:=G0T,ty:=[(148,tT20)],raw:=[],fresh:=[] }
theorem auk:runY Tryz.prog alr aum aul aD5 Tryz.f229 uJ.ps uJ.res=uJ.fn:=by kernel_rfl
theorem uK:aA Tryz.prog G0 229 ab2:=ai (ak ⟨au,(aj ab0 (aj abH ac)),ap,ac,an⟩ Tryz.func229 rfl (by kernel_rfl))
theorem ab1:TOk ab2 uJ:=az (E:=alr) (ET:=aul) (EnvT.ofX (ax (ae ajc (ae ajb al))) am ar aK aq) auk rfl
def ahh:PFn:=cmpF
theorem aoY:aA Tryz.prog G0 291 ahh:=tY ⟨Tryz.f291,Tryz.func291,rfl,by kernel_rfl⟩ Tryz.strings_Compare
def zbh (a0:List UInt8) (a1:List UInt8):Option Int:=cmpT a0 a1
def azZ:TFn:=agj
theorem azY:TOk ahh azZ:=asa
def aoB:Env:=(eZ [(154,uV),(156,uY),(291,ahh)] [274])
def azn:Hints:=(hZ [] [])
def adu:PFn:=aB (runF Tryz.prog aoB azn Tryz.f231)
def aFv:TH:={ loops:=[],ro:=[2,3] }
def zbs (a0:vV6) (a1:vV6):Option Int :=
(zbj a0.1 a1.1).bind fun r1 =>
(zbj a0.2.1 a1.2.1).bind fun r2 =>
(zbh a0.2.2.1 a1.2.2.1).bind fun r3 =>
(zd5 ([r1,r2,r3]:List Int)).bind fun r4 =>
 some r4
def adt:TFn:={ ps:=(.cons tT19 (.cons tT19 .unit)),res:=(.int .i64),fn:=fun v=>zbs v.1 v.2.1 }
def azm:TEnv:={ pure:=[(154,rv),(156,rE),(291,azZ)],look:=[],glob:=G0T,ty:=[(3,(.int .i64))],raw:=[],fresh:=[] }
theorem azl:runY Tryz.prog aoB azn azm aFv Tryz.f231 adt.ps adt.res=adt.fn:=by kernel_rfl
theorem aoA:aA Tryz.prog G0 231 adu:=ai (ak ⟨au,(aj pM (aj pP (aj aoY ac))),ap,ac,an⟩ Tryz.func231 rfl (by kernel_rfl))
theorem ajz:TOk adu adt:=az (E:=aoB) (ET:=azm) (EnvT.ofX (ax (ae xm (ae xK (ae azY al)))) am ar aK aq) azl rfl
theorem ahg : @aA ⟨True⟩ Tryz.prog G0 291 ahh:=by
 letI:Drawn:=⟨True⟩;exact tY ⟨Tryz.f291,Tryz.func291,rfl,by kernel_rfl⟩ Tryz.strings_Compare
theorem ahd : @aA ⟨True⟩ Tryz.prog G0 231 adu:=by
 letI:Drawn:=⟨True⟩;exact ai (ak ⟨au,(aj xn (aj xL (aj ahg ac))),ap,ac,an⟩ Tryz.func231 rfl (by kernel_rfl))
def aqj:Go.Shelf.Ren:=⟨fun | 6=>230 | 14=>290 | 15=>201 | 20=>332 | 21=>333 | 22=>334 | 23=>335 | 24=>336 | 25=>337 | 26=>338 | 27=>339 | 28=>268 | 29=>269 | 46=>359 | 47=>316 | 48=>317 | 49=>360 | 50=>361 | 57=>374 | n=>n,fun | 0=>0 | 3=>3 | 4=>4 | 5=>5 | 9=>9 | 22=>123 | 24=>132 | 25=>296 | 39=>230 | 45=>314 | 46=>315 | 50=>161 | 53=>321 | 55=>323 | 66=>354 | 70=>358 | 76=>378 | 77=>283 | n=>n,fun | n=>n⟩
theorem ahB:Go.Proofs.SlLaysF0.n6 Tryz.prog aqj:={
 mixed:=by kernel_rfl
 f6:=⟨Tryz.f230.name,by decide,Tryz.func230.trans (congrArg some (by kernel_rfl))⟩
 f14:=⟨Tryz.f290.name,by decide,Tryz.func290.trans (congrArg some (by kernel_rfl))⟩
 f15:=Tryz.func201.trans (congrArg some (by kernel_rfl))
 f20:=⟨Tryz.f332.name,by decide,Tryz.func332.trans (congrArg some (by kernel_rfl))⟩
 f21:=⟨Tryz.f333.name,by decide,Tryz.func333.trans (congrArg some (by kernel_rfl))⟩
 f22:=⟨Tryz.f334.name,by decide,Tryz.func334.trans (congrArg some (by kernel_rfl))⟩
 f23:=⟨Tryz.f335.name,by decide,Tryz.func335.trans (congrArg some (by kernel_rfl))⟩
 f24:=⟨Tryz.f336.name,by decide,Tryz.func336.trans (congrArg some (by kernel_rfl))⟩
 f25:=⟨Tryz.f337.name,by decide,Tryz.func337.trans (congrArg some (by kernel_rfl))⟩
 f26:=⟨Tryz.f338.name,by decide,Tryz.func338.trans (congrArg some (by kernel_rfl))⟩
 f27:=⟨Tryz.f339.name,by decide,Tryz.func339.trans (congrArg some (by kernel_rfl))⟩
 f28:=Tryz.func268.trans (congrArg some (by kernel_rfl))
 f29:=Tryz.func269.trans (congrArg some (by kernel_rfl))
 f46:=⟨Tryz.f359.name,by decide,Tryz.func359.trans (congrArg some (by kernel_rfl))⟩
 f47:=Tryz.func316.trans (congrArg some (by kernel_rfl))
 f48:=Tryz.func317.trans (congrArg some (by kernel_rfl))
 f49:=⟨Tryz.f360.name,by decide,Tryz.func360.trans (congrArg some (by kernel_rfl))⟩
 f50:=⟨Tryz.f361.name,by decide,Tryz.func361.trans (congrArg some (by kernel_rfl))⟩
 f57:=⟨Tryz.f374.name,by decide,Tryz.func374.trans (congrArg some (by kernel_rfl))⟩
 t0:=Tryz.underlying0
 a0:=Tryz.isAgg0
 z0:=Tryz.sizeOf0
 v0:=Tryz.zeroValue0
 t3:=Tryz.underlying3
 a3:=Tryz.isAgg3
 z3:=Tryz.sizeOf3
 v3:=Tryz.zeroValue3
 t4:=Tryz.underlying4
 a4:=Tryz.isAgg4
 z4:=Tryz.sizeOf4
 v4:=Tryz.zeroValue4
 t5:=Tryz.underlying5
 a5:=Tryz.isAgg5
 z5:=Tryz.sizeOf5
 v5:=Tryz.zeroValue5
 t9:=Tryz.underlying9
 a9:=Tryz.isAgg9
 z9:=Tryz.sizeOf9
 v9:=Tryz.zeroValue9
 t22:=Tryz.underlying123
 a22:=Tryz.isAgg123
 z22:=Tryz.sizeOf123
 v22:=Tryz.zeroValue123
 t25:=Tryz.underlying296
 a25:=Tryz.isAgg296
 z25:=Tryz.sizeOf296
 v25:=Tryz.zeroValue296
 t39:=Tryz.underlying230
 a39:=Tryz.isAgg230
 z39:=Tryz.sizeOf230
 v39:=Tryz.zeroValue230
 t45:=Tryz.underlying314
 a45:=Tryz.isAgg314
 z45:=Tryz.sizeOf314
 v45:=Tryz.zeroValue314
 t46:=Tryz.underlying315
 a46:=Tryz.isAgg315
 z46:=Tryz.sizeOf315
 v46:=Tryz.zeroValue315
 t50:=Tryz.underlying161
 a50:=Tryz.isAgg161
 z50:=Tryz.sizeOf161
 v50:=Tryz.zeroValue161
 t53:=Tryz.underlying321
 a53:=Tryz.isAgg321
 z53:=Tryz.sizeOf321
 v53:=Tryz.zeroValue321
 t55:=Tryz.underlying323
 a55:=Tryz.isAgg323
 z55:=Tryz.sizeOf323
 v55:=Tryz.zeroValue323
 t66:=Tryz.underlying354
 a66:=Tryz.isAgg354
 z66:=Tryz.sizeOf354
 v66:=Tryz.zeroValue354
 t70:=Tryz.underlying358
 a70:=Tryz.isAgg358
 z70:=Tryz.sizeOf358
 v70:=Tryz.zeroValue358
 t76:=Tryz.underlying378
 a76:=Tryz.isAgg378
 z76:=Tryz.sizeOf378
 v76:=Tryz.zeroValue378
 t77:=Tryz.underlying283
 a77:=Tryz.isAgg283
 z77:=Tryz.sizeOf283
 v77:=Tryz.zeroValue283 }
def aql:SFn:=p7 adu 231 3 132
theorem aqk:bB Tryz.prog G0 230 aql:=mh (M:=3) (g:=231) ahB (by decide) (fun w=>Tryz.isAgg132 w) (fun w=>Tryz.sizeOf132 w) ahd ⟨Tryz.f230,Tryz.func230,rfl,by kernel_rfl⟩
def zak (w0:List vV6):Option (Unit×List vV6×Unit):=(nS (fun x y=>zbs x y) w0).map fun l=>((),(l,()))
def aBD:TRaw:=aew false 231 132 tT19 (fun x y=>zbs x y)
theorem aBC:TRawOk aql aBD:=yi rfl rfl rfl rfl ajz
def aqc:Env:=(eZ [] [274])
def aBv:Hints:=(hZ [(4,[0,3]),(9,[0,3,4,5])] [])
def aqb:SFn:=jl (runF Tryz.prog aqc aBv Tryz.f232)
def aF0:TH:={ joins:=[(14,{ keep:=[(0,(.own 0)),(3,(.int .i64))],mem:=[.row false 132 tT19] })],loops:=[(4,{ keep:=[(0,(.own 0)),(3,(.int .i64))],mem:=[.row false 132 tT19] }),(9,{ keep:=[(0,(.own 0)),(3,(.int .i64)),(4,(.vw 0)),(5,(.int .i64))],mem:=[.row false 132 tT19] })],ro:=[] }
def ox (y9:(Int×(Nat×Nat)×Int×List vV6×Unit)):Option ((Int×(Nat×Nat)×Int×List vV6×Unit)⊕((Int×List vV6×Unit)⊕((Int×List vV6×Unit)⊕(List vV6)))) :=
 cond (decide (y9.2.2.1<(y9.2.1.2:Int))) (
 cond y9.2.2.2.1.isEmpty (none) ((inI y9.2.1.2 y9.2.2.1).bind fun i6 =>
(y9.2.2.2.1[(y9.2.1.1+i6)]?).bind fun x7 =>
 cond y9.2.2.2.1.isEmpty (none) ((inI y9.2.1.2 (IntKind.wrap .i64 (y9.2.2.1-1))).bind fun i8 =>
(y9.2.2.2.1[(y9.2.1.1+i8)]?).bind fun x9 =>
 cond (!(eqV tT19 x7 x9)) (
 cond y9.2.2.2.1.isEmpty (none) ((inI y9.2.1.2 y9.2.2.1).bind fun i10 =>
(y9.2.2.2.1[(y9.2.1.1+i10)]?).bind fun x11 =>
(inI y9.2.2.2.1.length y9.1).bind fun i12 =>
(y9.2.2.2.1[i12]?).bind fun x13 =>
 some (.inl ((IntKind.wrap .i64 (y9.1+1)),y9.2.1,(IntKind.wrap .i64 (y9.2.2.1+1)),(y9.2.2.2.1.set i12 x11),())))) (
 some (.inl (y9.1,y9.2.1,(IntKind.wrap .i64 (y9.2.2.1+1)),y9.2.2.2.1,())))))) (
 some (.inr (.inl (y9.1,y9.2.2.2.1,()))))
def lS (y4:(Int×List vV6×Unit)):Option ((Int×List vV6×Unit)⊕(List vV6)) :=
 cond (decide (y4.1<(y4.2.1.length:Int))) (
(inI y4.2.1.length y4.1).bind fun i1 =>
(y4.2.1[i1]?).bind fun x2 =>
(inI y4.2.1.length (IntKind.wrap .i64 (y4.1-1))).bind fun i3 =>
(y4.2.1[i3]?).bind fun x4 =>
 cond (eqV tT19 x2 x4) (
 cond y4.2.1.isEmpty (none) ((lZ (y4.2.1.length) y4.1 (y4.2.1.length:Int)).bind fun p5 =>
(aH (ox) (y4.1,p5,1,y4.2.1,()):Option ((Int×List vV6×Unit)⊕((Int×List vV6×Unit)⊕(List vV6)))).bind (aT fun v14 =>
 cond v14.2.1.isEmpty (none) ((lZ (v14.2.1.length) v14.1 (v14.2.1.length:Int)).bind fun p15 =>
 cond v14.2.1.isEmpty (none) ((if p15.1+p15.2≤v14.2.1.length then some () else none).bind fun u16 =>
 cond (v14.2.1.take p15.1++List.replicate p15.2 (0,0,[],())++v14.2.1.drop (p15.1+p15.2)).isEmpty (none) ((lZ ((v14.2.1.take p15.1++List.replicate p15.2 (0,0,[],())++v14.2.1.drop (p15.1+p15.2)).length) 0 v14.1).bind fun p17 =>
(cond (v14.2.1.take p15.1++List.replicate p15.2 (0,0,[],())++v14.2.1.drop (p15.1+p15.2)).isEmpty none (if p17.1+p17.2≤(v14.2.1.take p15.1++List.replicate p15.2 (0,0,[],())++v14.2.1.drop (p15.1+p15.2)).length then some (((v14.2.1.take p15.1++List.replicate p15.2 (0,0,[],())++v14.2.1.drop (p15.1+p15.2)).drop p17.1).take p17.2) else none)).map .inr)))))) (
 some (.inl ((IntKind.wrap .i64 (y4.1+1)),y4.2.1,())))) (
 some (.inr y4.2.1))
def ap9 (w0:List vV6):Option (List vV6) :=
 cond (decide ((w0.length:Int)<2)) (
 some w0) (
 aH (lS) (1,w0,()))
def zan (w0:List vV6):Option (List vV6×Unit):=(ap9 w0).map fun l=>(l,())
def aBu:TRaw:={ ps:=(.cons (.own 0) .unit),ins:=[.row false 132 tT19],res:=(.sl tT19),outs:=[.gone],fn:=fun v w=>zan w.1 }
def aBt:TEnv:=(vZ [])
theorem aBs:aiI Tryz.prog aqc aBv aBt aF0 Tryz.f232 (.cons (.own 0) .unit) false 132 tT19=fun _ w=>ap9 w:=by kernel_rfl
theorem aqa:bB Tryz.prog G0 232 aqb:=iJ (ak ⟨au,ac,ap,ac,an⟩ Tryz.func232 rfl (by kernel_rfl))
theorem aBr:TRawOk aqb aBu:=yX (E:=aqc) (ET:=aBt) (EnvT.ofX (ax al) am ar aK aq) aBs
def amY:Env:={ pure:=[(229,ab2)],raw:=[(230,aql),(232,aqb)],glob:=G0,same:=[274],look:=[],ext:=[] }
def awR:Hints:=(hZ [(3,[5,10,11,12])] [])
def amX:PFn:=aB (runF Tryz.prog amY awR Tryz.f163)
def aEM:TH:={ joins:=[(7,{ keep:=[(5,(.own 1))],mem:=[.gone,.row true 132 tT19] })],loops:=[(3,{ keep:=[(5,(.own 1)),(12,(.int .i64))],mem:=[.gone,.row true 132 tT19] })],ro:=[] }
def xp (r1:List vV7) (y3:(Int×List vV6×Unit)):Option ((Int×List vV6×Unit)⊕((List vV6×Unit)⊕List vV6)) :=
 cond (decide (y3.1<(r1.length:Int))) (
(atI r1 y3.1).bind fun x2 =>
(bh (y3.2.1.length+([x2.2.1.2.2.1]:List vV6).length)).bind fun u3 =>
 some (.inl ((IntKind.wrap .i64 (y3.1+1)),(y3.2.1++([x2.2.1.2.2.1]:List vV6)),()))) (
 some (.inr (.inl (y3.2.1,()))))
def zd0 (a0:List vV7) (a1:List (List UInt8)):Option (List vV6) :=
((ze7 a0 a1 1).bind fun r1 =>
 aH (xp r1) (0,[],()):Option ((List vV6×Unit)⊕List vV6)).bind (aT fun v4 =>
(zak v4.1).bind fun q5 =>
(zan q5.2.1).bind fun q6 =>
 some q6.1)
def acM:TFn:={ ps:=(.cons (.sl tT20) tT30),res:=(.sl tT19),fn:=fun v=>zd0 v.1 v.2.1 }
def awQ:TEnv:={ pure:=[(229,uJ)],look:=[],glob:=G0T,ty:=[(132,tT19)],raw:=[(230,aBD),(232,aBu)],fresh:=[] }
theorem awP:runY Tryz.prog amY awR awQ aEM Tryz.f163 acM.ps acM.res=acM.fn:=by kernel_rfl
theorem amW:aA Tryz.prog G0 163 amX:=ai (ak ⟨au,(aj uK ac),(be aqk (be aqa ap)),ac,an⟩ Tryz.func163 rfl (by kernel_rfl))
theorem awO:TOk amX acM:=az (E:=amY) (ET:=awQ) (EnvT.ofX (ax (ae ab1 al)) am (bq aBC rfl rfl (bq aBr rfl rfl ar)) aK aq) awP rfl
def ap3:Go.Shelf.Ren:=⟨fun | 22=>234 | 29=>292 | 30=>293 | n=>n,fun | 24=>123 | 9=>132 | 0=>0 | 3=>3 | 4=>4 | n=>n,fun | n=>n⟩
theorem ahz:InsL Tryz.prog ap3:={
 mixed:=by kernel_rfl
 f22:=⟨Tryz.f234.name,by decide,Tryz.func234.trans (congrArg some (by kernel_rfl))⟩
 f29:=⟨Tryz.f292.name,by decide,by kernel_rfl,by kernel_rfl,Tryz.func292.trans (congrArg some (by kernel_rfl))⟩
 t0:=Tryz.underlying0
 a0:=Tryz.isAgg0
 z0:=Tryz.sizeOf0
 v0:=Tryz.zeroValue0
 t3:=Tryz.underlying3
 a3:=Tryz.isAgg3
 z3:=Tryz.sizeOf3
 v3:=Tryz.zeroValue3
 t4:=Tryz.underlying4
 a4:=Tryz.isAgg4
 z4:=Tryz.sizeOf4
 v4:=Tryz.zeroValue4
 t24:=Tryz.underlying123
 a24:=Tryz.isAgg123
 z24:=Tryz.sizeOf123
 v24:=Tryz.zeroValue123 }
def ap5:SFn:=d9 3 132
theorem ap4:bB Tryz.prog G0 234 ap5:=kf ahz rfl rfl rfl (fC (P:=Tryz.prog) (te:=132) (M:=3) (by kernel_rfl) (by kernel_rfl) (by kernel_rfl) (by kernel_rfl) (by kernel_rfl) (by kernel_rfl) (by kernel_rfl) (by kernel_rfl)) true Tryz.isAgg132 ⟨Tryz.f234,Tryz.func234,rfl,by kernel_rfl⟩
def zap (a1:Int) (a2:List vV6) (w0:List vV6):Option (Unit×List vV6×Unit):=(insT w0 a1 a2).map fun l=>((),(l,()))
def aBm:TRaw:=insR false 132 tT19
theorem aBl:TRawOk ap5 aBm:=wd rfl rfl rfl rfl (by decide)
def aqL:Env:=(eZ [(231,adu)] [274])
def aCd:Hints:=(hZ [(3,[0,2,4,8,9,10])] [])
def aqK:PFn:=aB (runF Tryz.prog aqL aCd Tryz.f233)
def aGa:TH:={ joins:=[(8,{ keep:=[(4,(.bx 0 0)),(9,(.int .i64))],mem:=[.same] })],loops:=[(3,{ keep:=[(4,(.bx 0 0)),(9,(.int .i64)),(10,(.int .i64))],mem:=[.same] })],ro:=[4] }
def oA (a0:List vV6) (a1:vV6) (y3:(Int×Int×Unit)):Option ((Int×Int×Unit)⊕((Int×Unit)⊕(Int×Bool×Unit))) :=
 cond (decide (y3.1<y3.2.1)) (
(shrT .u64 (IntKind.wrap .u64 (IntKind.wrap .i64 (y3.1+y3.2.1))) 1).bind fun t1 =>
(atI a0 (IntKind.wrap .i64 t1)).bind fun x2 =>
(zbs x2 a1).bind fun r3 =>
 cond (decide (r3<0)) (
 some (.inl ((IntKind.wrap .i64 ((IntKind.wrap .i64 t1)+1)),y3.2.1,()))) (
 some (.inl (y3.1,(IntKind.wrap .i64 t1),())))) (
 some (.inr (.inl (y3.1,()))))
def zab (a0:List vV6) (a1:vV6) (a2:Unit):Option (Int×Bool×Unit) :=
(aH (oA a0 a1) (0,(a0.length:Int),()):Option ((Int×Unit)⊕(Int×Bool×Unit))).bind (aT fun v4 =>
 cond (decide (v4.1<(a0.length:Int))) ((atI a0 v4.1).bind fun x5 =>
(zbs x5 a1).bind fun r6 =>
 some (v4.1,(decide (r6=0)),())) (some (v4.1,false,())))
def ad5:TFn:={ ps:=(.cons (.sl tT19) (.cons tT19 (.cons (.fn 231) .unit))),res:=(.tup (.cons (.int .i64) (.cons .bool .unit))),fn:=fun v=>zab v.1 v.2.1 v.2.2.1 }
def aCc:TEnv:=(vZ [(231,adt)])
theorem aCb:runY Tryz.prog aqL aCd aCc aGa Tryz.f233 ad5.ps ad5.res=ad5.fn:=by kernel_rfl
theorem aqJ:aA Tryz.prog G0 233 aqK:=ai (ak ⟨au,(aj aoA ac),ap,ac,an⟩ Tryz.func233 rfl (by kernel_rfl))
theorem aCa:TOk aqK ad5:=az (E:=aqL) (ET:=aCc) (EnvT.ofX (ax (ae ajz al)) am ar aK aq) aCb rfl
def alJ:Env:={ pure:=[(229,ab2)],raw:=[(234,ap5)],glob:=G0,same:=[274],look:=[(233,aqK)],ext:=[] }
def auQ:Hints:=(hZ [(3,[5,12,13,14])] [])
def alI:PFn:=aB (runF Tryz.prog alJ auQ Tryz.f164)
def aEd:TH:={ loops:=[(3,{ keep:=[(5,(.own 1)),(14,(.int .i64))],mem:=[.gone,.row false 132 tT19] })],ro:=[] }
def xd (r1:List vV7) (y3:(Int×List vV6×Unit)):Option ((Int×List vV6×Unit)⊕List vV6) :=
 cond (decide (y3.1<(r1.length:Int))) (
(atI r1 y3.1).bind fun x2 =>
(zab y3.2.1 x2.2.1.2.2.1 ()).bind fun r3 =>
 cond (!r3.2.1) (
(zap r3.1 ([x2.2.1.2.2.1]:List vV6) y3.2.1).bind fun q4 =>
 some (.inl ((IntKind.wrap .i64 (y3.1+1)),q4.2.1,()))) (
 some (.inl ((IntKind.wrap .i64 (y3.1+1)),y3.2.1,())))) (
 some (.inr y3.2.1))
def zdz (a0:List vV7) (a1:List (List UInt8)):Option (List vV6) :=
(ze7 a0 a1 2).bind fun r1 =>
 aH (xd r1) (0,[],())
def ace:TFn:={ ps:=(.cons (.sl tT20) tT30),res:=(.sl tT19),fn:=fun v=>zdz v.1 v.2.1 }
def auP:TEnv:={ pure:=[(229,uJ)],look:=[(233,ad5)],glob:=G0T,ty:=[(132,tT19)],raw:=[(234,aBm)],fresh:=[] }
theorem auO:runY Tryz.prog alJ auQ auP aEd Tryz.f164 ace.ps ace.res=ace.fn:=by kernel_rfl
theorem alH:aA Tryz.prog G0 164 alI:=ai (ak ⟨au,(aj uK ac),(be ap4 ap),(aj aqJ ac),an⟩ Tryz.func164 rfl (by kernel_rfl))
theorem auN:TOk alI ace:=az (E:=alJ) (ET:=auP) (EnvT.ofX (ax (ae ab1 al)) (j6 aCa rfl am) (bq aBl rfl rfl ar) aK aq) auO rfl
def aku:Env:=(eZ [(229,ab2)] [274])
def asS:Hints:=(hZ [(3,[5,10,11,12])] [])
def akt:PFn:=aB (runF Tryz.prog aku asS Tryz.f165)
def aDI:TH:={ loops:=[(3,{ keep:=[(5,(.int .i64)),(12,(.int .i64))],mem:=[] })],ro:=[] }
def wV (r1:List vV7) (y3:(Int×Int×Unit)):Option ((Int×Int×Unit)⊕Int) :=
 cond (decide (y3.2.1<(r1.length:Int))) (
(atI r1 y3.2.1).bind fun x2 =>
 some (.inl ((IntKind.wrap .i64 (y3.1+x2.2.1.2.2.2.1)),(IntKind.wrap .i64 (y3.2.1+1)),()))) (
 some (.inr y3.1))
def zeu (a0:List vV7) (a1:List (List UInt8)):Option Int :=
(ze7 a0 a1 3).bind fun r1 =>
 aH (wV r1) (0,0,())
def abB:TFn:={ ps:=(.cons (.sl tT20) tT30),res:=(.int .i64),fn:=fun v=>zeu v.1 v.2.1 }
def asR:TEnv:=(vZ [(229,uJ)])
theorem asQ:runY Tryz.prog aku asS asR aDI Tryz.f165 abB.ps abB.res=abB.fn:=by kernel_rfl
theorem aks:aA Tryz.prog G0 165 akt:=ai (ak ⟨au,(aj uK ac),ap,ac,an⟩ Tryz.func165 rfl (by kernel_rfl))
theorem asP:TOk akt abB:=az (E:=aku) (ET:=asR) (EnvT.ofX (ax (ae ab1 al)) am ar aK aq) asQ rfl
def alp:Env:=(eZ [(72,aeg),(163,amX),(164,alI),(165,akt)] [274])
def aug:Hints:=(hZ [] [])
def alo:PFn:=aB (runF Tryz.prog alp aug Tryz.f94)
def aD3:TH:=yZ
def ze9 (a0:List vV7) (a1:List (List UInt8)) (a2:Int):Option vV1 :=
(za0 a1).bind fun r1 =>
 cond (decide (a2=1)) (
(zd0 a0 a1).bind fun r2 =>
 some (r1,a2,r2,0,())) (
 cond (decide (a2=2)) (
(zdz a0 a1).bind fun r3 =>
 some (r1,a2,r3,0,())) (
 cond (decide (a2=3)) (
(zeu a0 a1).bind fun r4 =>
 some (r1,a2,[],r4,())) (
 some (r1,a2,[],0,()))))
def abZ:TFn:={ ps:=(.cons (.sl tT20) (.cons (.sl .str) tT25)),res:=tT16,fn:=fun v=>ze9 v.1 v.2.1 v.2.2.1 }
def auf:TEnv:=(vZ [(72,ahH),(163,acM),(164,ace),(165,abB)])
theorem aue:runY Tryz.prog alp aug auf aD3 Tryz.f94 abZ.ps abZ.res=abZ.fn:=by kernel_rfl
theorem aln:aA Tryz.prog G0 94 alo:=ai (ak ⟨au,(aj vi (aj amW (aj alH (aj aks ac)))),ap,ac,an⟩ Tryz.func94 rfl (by kernel_rfl))
theorem aud:TOk alo abZ:=az (E:=alp) (ET:=auf) (EnvT.ofX (ax (ae aef (ae awO (ae auN (ae asP al))))) am ar aK aq) aue rfl
def alu:Env:=(eZ [(55,ag6),(94,alo)] [274])
def aur:Hints:=(hZ [(3,[0,3,7,8,9])] [])
def alt:PFn:=aB (runF Tryz.prog alu aur Tryz.f68)
def aD6:TH:={ loops:=[(3,{ keep:=[(3,(.own 1)),(9,(.int .i64))],mem:=[.gone,.row true 125 tT16] })],ro:=[] }
def xa (a0:List vV7) (r1:List vV5) (y3:(Int×List vV1×Unit)):Option ((Int×List vV1×Unit)⊕List vV1) :=
 cond (decide (y3.1<(r1.length:Int))) (
(atI r1 y3.1).bind fun x2 =>
(ze9 a0 x2.1 x2.2.1).bind fun r3 =>
(bh (y3.2.1.length+([r3]:List vV1).length)).bind fun u4 =>
 some (.inl ((IntKind.wrap .i64 (y3.1+1)),(y3.2.1++([r3]:List vV1)),()))) (
 some (.inr y3.2.1))
def ze6 (a0:List vV7):Option (List vV1) :=
(zc5 a0).bind fun r1 =>
 aH (xa a0 r1) (0,[],())
def ab3:TFn:={ ps:=(.cons (.sl tT20) .unit),res:=(.sl tT16),fn:=fun v=>ze6 v.1 }
def auq:TEnv:={ pure:=[(55,aag),(94,abZ)],look:=[],glob:=G0T,ty:=[(125,tT16)],raw:=[],fresh:=[] }
theorem aup:runY Tryz.prog alu aur auq aD6 Tryz.f68 ab3.ps ab3.res=ab3.fn:=by kernel_rfl
theorem als:aA Tryz.prog G0 68 alt:=ai (ak ⟨au,(aj adf (aj aln ac)),ap,ac,an⟩ Tryz.func68 rfl (by kernel_rfl))
theorem auo:TOk alt ab3:=az (E:=alu) (ET:=auq) (EnvT.ofX (ax (ae aju (ae aud al))) am ar aK aq) aup rfl
def aoT:Env:=(eZ [(154,uV),(155,adP),(156,uY)] [274])
def azQ:Hints:=(hZ [] [])
def aoS:PFn:=aB (runF Tryz.prog aoT azQ Tryz.f86)
def aFD:TH:={ loops:=[],ro:=[2,3] }
def zbk (a0:vV1) (a1:vV1):Option Int :=
(zb3 a0.1 a1.1).bind fun r1 =>
(zbj a0.2.1 a1.2.1).bind fun r2 =>
(zd5 ([r1,r2]:List Int)).bind fun r3 =>
 some r3
def adB:TFn:={ ps:=(.cons tT16 (.cons tT16 .unit)),res:=(.int .i64),fn:=fun v=>zbk v.1 v.2.1 }
def azP:TEnv:={ pure:=[(154,rv),(155,aao),(156,rE)],look:=[],glob:=G0T,ty:=[(3,(.int .i64))],raw:=[],fresh:=[] }
theorem azO:runY Tryz.prog aoT azQ azP aFD Tryz.f86 adB.ps adB.res=adB.fn:=by kernel_rfl
theorem aoR:aA Tryz.prog G0 86 aoS:=ai (ak ⟨au,(aj pM (aj adO (aj pP ac))),ap,ac,an⟩ Tryz.func86 rfl (by kernel_rfl))
theorem azN:TOk aoS adB:=az (E:=aoT) (ET:=azP) (EnvT.ofX (ax (ae xm (ae ajF (ae xK al)))) am ar aK aq) azO rfl
def apY:Go.Shelf.Ren:=⟨fun | 41=>159 | n=>n,fun | 22=>123 | 23=>132 | 4=>4 | n=>n,fun | n=>n⟩
theorem ahy:Go.Proofs.SlLaysE0.n41 Tryz.prog apY:={
 mixed:=by kernel_rfl
 f41:=⟨Tryz.f159.name,by decide,Tryz.func159.trans (congrArg some (by kernel_rfl))⟩
 t4:=Tryz.underlying4
 a4:=Tryz.isAgg4
 z4:=Tryz.sizeOf4
 v4:=Tryz.zeroValue4
 t22:=Tryz.underlying123
 a22:=Tryz.isAgg123
 z22:=Tryz.sizeOf123
 v22:=Tryz.zeroValue123 }
def ap0:PFn:=(nu 3)
theorem apZ:aA Tryz.prog G0 159 ap0:=clone_lays ahy 3 ⟨Tryz.f159,Tryz.func159,rfl,by kernel_rfl⟩ (by kernel_rfl) (by kernel_rfl) (by kernel_rfl) (by kernel_rfl) (by kernel_rfl) (by decide) (fun w=>Tryz.sizeOf132 w)
def zar (a0:List vV6):Option (List vV6):=fE a0
def aBi:TFn:=hI tT19
theorem aBh:TOk ap0 aBi:=uh rfl rfl rfl
def anT:Env:=(eZ [(72,aeg),(159,ap0)] [274])
def ayb:Hints:=(hZ [] [])
def anS:PFn:=aB (runF Tryz.prog anT ayb Tryz.f89)
def aFa:TH:=yZ
def zcd (a0:vV1):Option vV1 :=
(za0 a0.1).bind fun r1 =>
(zar a0.2.2.1).bind fun r2 =>
 some (r1,a0.2.1,r2,a0.2.2.2.1,())
def ac6:TFn:={ ps:=(.cons tT16 .unit),res:=tT16,fn:=fun v=>zcd v.1 }
def aya:TEnv:=(vZ [(72,ahH),(159,aBi)])
theorem ax9:runY Tryz.prog anT ayb aya aFa Tryz.f89 ac6.ps ac6.res=ac6.fn:=by kernel_rfl
theorem anR:aA Tryz.prog G0 89 anS:=ai (ak ⟨au,(aj vi (aj apZ ac)),ap,ac,an⟩ Tryz.func89 rfl (by kernel_rfl))
theorem ax8:TOk anS ac6:=az (E:=anT) (ET:=aya) (EnvT.ofX (ax (ae aef (ae aBh al))) am ar aK aq) ax9 rfl
def apX:Env:=(eZ [] [274])
def aBg:Hints:=(hZ [(4,[0,1,12,13])] [])
def apW:PFn:=aB (runF Tryz.prog apX aBg Tryz.f161)
def aFY:TH:={ loops:=[(4,{ keep:=[(13,(.int .i64))],mem:=[] })],ro:=[] }
def xX (a0:List vV6) (a1:List vV6) (y4:(Int×Unit)):Option ((Int×Unit)⊕Bool) :=
 cond (decide (y4.1<(a0.length:Int))) (
(atI a0 y4.1).bind fun x1 =>
(atI a1 y4.1).bind fun x2 =>
 cond (!(eqV tT19 x1 x2)) (
 some (.inr false)) (
 some (.inl ((IntKind.wrap .i64 (y4.1+1)),())))) (
 some (.inr true))
def zas (a0:List vV6) (a1:List vV6):Option Bool :=
 cond (!decide ((a0.length:Int)=(a1.length:Int))) (
 some false) (
 aH (xX a0 a1) (0,()))
def adV:TFn:={ ps:=(.cons (.sl tT19) (.cons (.sl tT19) .unit)),res:=.bool,fn:=fun v=>zas v.1 v.2.1 }
def aBf:TEnv:=(vZ [])
theorem aBe:runY Tryz.prog apX aBg aBf aFY Tryz.f161 adV.ps adV.res=adV.fn:=by kernel_rfl
theorem apV:aA Tryz.prog G0 161 apW:=ai (ak ⟨au,ac,ap,ac,an⟩ Tryz.func161 rfl (by kernel_rfl))
theorem aBd:TOk apW adV:=az (E:=apX) (ET:=aBf) (EnvT.ofX (ax al) am ar aK aq) aBe rfl
def akq:Env:=(eZ [(160,agJ),(161,apW)] [274])
def asL:Hints:=(hZ [] [])
def akp:PFn:=aB (runF Tryz.prog akq asL Tryz.f92)
def aDG:TH:={ loops:=[],cuts:=[(1,[(12,{ keep:=[(2,(.bx 0 0)),(3,(.bx 1 0)),(16,.bool)],mem:=[.same,.same] })])],ro:=[2,3],news:=[] }
def zew (a0:vV1) (a1:vV1):Option Bool :=
(cond (decide (a0.2.1=a1.2.1)) (some ((decide (a0.2.2.2.1=a1.2.2.2.1)),())) (some (false,())):Option (Bool×Unit)).bind fun v1 =>
 cond v1.1 ((zep a0.1 a1.1).bind fun r2 =>
 cond r2 ((zas a0.2.2.1 a1.2.2.1).bind fun r3 =>
 some r3) (some false)) (some false)
def abz:TFn:={ ps:=(.cons tT16 (.cons tT16 .unit)),res:=.bool,fn:=fun v=>zew v.1 v.2.1 }
def asK:TEnv:=(vZ [(160,zP),(161,adV)])
theorem asJ:runY Tryz.prog akq asL asK aDG Tryz.f92 abz.ps abz.res=abz.fn:=by kernel_rfl
theorem ako:aA Tryz.prog G0 92 akp:=ai (ak ⟨au,(aj abH (aj apV ac)),ap,ac,an⟩ Tryz.func92 rfl (by kernel_rfl))
theorem asI:TOk akp abz:=az (E:=akq) (ET:=asK) (EnvT.ofX (ax (ae ajb (ae aBd al))) am ar aK aq) asJ rfl
def aqO:Env:=(eZ [(92,akp)] [274])
def aCh:Hints:=(hZ [(4,[1,2,15,16,17])] [])
def aqN:PFn:=aB (runF Tryz.prog aqO aCh Tryz.f91)
def aGb:TH:={ loops:=[(4,{ keep:=[(17,(.int .i64))],mem:=[] })],ro:=[] }
def ya (a0:List vV1) (a1:List vV1) (y4:(Int×Unit)):Option ((Int×Unit)⊕Bool) :=
 cond (decide (y4.1<(a0.length:Int))) (
(atI a0 y4.1).bind fun x1 =>
(atI a1 y4.1).bind fun x2 =>
(zew x1 x2).bind fun r3 =>
 cond (!r3) (
 some (.inr false)) (
 some (.inl ((IntKind.wrap .i64 (y4.1+1)),())))) (
 some (.inr true))
def zaa (a0:List vV1) (a1:List vV1) (a2:Unit):Option Bool :=
 cond (!decide ((a0.length:Int)=(a1.length:Int))) (
 some false) (
 aH (ya a0 a1) (0,()))
def ad6:TFn:={ ps:=(.cons (.sl tT16) (.cons (.sl tT16) (.cons (.fn 92) .unit))),res:=.bool,fn:=fun v=>zaa v.1 v.2.1 v.2.2.1 }
def aCg:TEnv:=(vZ [(92,abz)])
theorem aCf:runY Tryz.prog aqO aCh aCg aGb Tryz.f91 ad6.ps ad6.res=ad6.fn:=by kernel_rfl
theorem aqM:aA Tryz.prog G0 91 aqN:=ai (ak ⟨au,(aj ako ac),ap,ac,an⟩ Tryz.func91 rfl (by kernel_rfl))
theorem aCe:TOk aqN ad6:=az (E:=aqO) (ET:=aCg) (EnvT.ofX (ax (ae asI al)) am ar aK aq) aCf rfl
def alm:Env:=(eZ [(91,aqN)] [274])
def auc:Hints:=(hZ [] [])
def alk:PFn:=aB (runF Tryz.prog alm auc Tryz.f31)
def aD2:TH:=yZ
def zea (a0:List vV1) (a1:List vV1):Option Bool :=
(zaa a0 a1 ()).bind fun r1 =>
 some r1
def abY:TFn:={ ps:=(.cons (.sl tT16) (.cons (.sl tT16) .unit)),res:=.bool,fn:=fun v=>zea v.1 v.2.1 }
def aub:TEnv:=(vZ [(91,ad6)])
theorem aua:runY Tryz.prog alm auc aub aD2 Tryz.f31 abY.ps abY.res=abY.fn:=by kernel_rfl
theorem alj:aA Tryz.prog G0 31 alk:=ai (ak ⟨au,(aj aqM ac),ap,ac,an⟩ Tryz.func31 rfl (by kernel_rfl))
theorem at9:TOk alk abY:=az (E:=alm) (ET:=aub) (EnvT.ofX (ax (ae aCe al)) am ar aK aq) aua rfl
def aog:Env:=(eZ [(31,alk)] [274])
def ayO:Hints:=(hZ [] [])
def aof:PFn:=aB (runF Tryz.prog aog ayO Tryz.f87)
def aFl:TH:={ loops:=[],ro:=[2,3] }
def zc2 (a0:vV1) (a1:vV1):Option Bool :=
(zea ([a0]:List vV1) ([a1]:List vV1)).bind fun r1 =>
 some r1
def adi:TFn:={ ps:=(.cons tT16 (.cons tT16 .unit)),res:=.bool,fn:=fun v=>zc2 v.1 v.2.1 }
def ayN:TEnv:={ pure:=[(31,abY)],look:=[],glob:=G0T,ty:=[(125,tT16)],raw:=[],fresh:=[] }
theorem ayM:runY Tryz.prog aog ayO ayN aFl Tryz.f87 adi.ps adi.res=adi.fn:=by kernel_rfl
theorem aoe:aA Tryz.prog G0 87 aof:=ai (ak ⟨au,(aj alj ac),ap,ac,an⟩ Tryz.func87 rfl (by kernel_rfl))
theorem ayL:TOk aof adi:=az (E:=aog) (ET:=ayN) (EnvT.ofX (ax (ae at9 al)) am ar aK aq) ayM rfl
def anl:Env:=(eZ [(86,aoS),(87,aof),(89,anS)] [274])
def axr:Hints:=(hZ [(2,[0,1,5])] [41,45,60,73])
def ank:PFn:=aB (runF Tryz.prog anl axr Tryz.f76)
def aEW:TH:={ joins:=[(3,{ keep:=[(5,(.own 0))],mem:=[.row true 127 tT23] }),(11,{ keep:=[(5,(.own 0)),(6,(.int .i64))],mem:=[.row true 127 tT23] }),(10,{ keep:=[(5,(.own 0))],mem:=[.row true 127 tT23] })],loops:=[(2,{ keep:=[(0,(.sl tT16)),(1,(.sl tT16)),(5,(.own 0))],mem:=[.row true 127 tT23] })],ro:=[] }
def iO (y2:(List vV1×List vV1×List vV8×Unit)):Option ((List vV1×List vV1×List vV8×Unit)⊕List vV8) :=
(cond (decide ((y2.1.length:Int)>0)) (some (.inl (y2.2.2.1,()))) (cond (decide ((y2.2.1.length:Int)>0)) (
 some (.inl (y2.2.2.1,()))) (
 some (.inr (.inr y2.2.2.1)))):Option ((List vV8×Unit)⊕((List vV1×List vV1×List vV8×Unit)⊕List vV8))).bind (aT fun v1 =>
(cond (decide ((y2.2.1.length:Int)=0)) (
 some (.inl ((-1),v1.1,()))) (
 cond (decide ((y2.1.length:Int)>0)) (
(atI y2.1 0).bind fun x2 =>
(atI y2.2.1 0).bind fun x3 =>
(zbk x2 x3).bind fun r4 =>
 some (.inl (r4,v1.1,()))) (
 some (.inl (1,v1.1,())))):Option ((Int×List vV8×Unit)⊕((List vV1×List vV1×List vV8×Unit)⊕List vV8))).bind (aT fun v5 =>
 cond (decide (v5.1<0)) (
(atI y2.1 0).bind fun x6 =>
(zcd x6).bind fun r7 =>
(bh (v5.2.1.length+([(2,r7,([],0,[],0,()),())]:List vV8).length)).bind fun u8 =>
(subI y2.1 1 (y2.1.length:Int)).bind fun s9 =>
 some (.inl (s9,y2.2.1,(v5.2.1++([(2,r7,([],0,[],0,()),())]:List vV8)),()))) (
 cond (decide (v5.1>0)) (
(atI y2.2.1 0).bind fun x10 =>
(zcd x10).bind fun r11 =>
(bh (v5.2.1.length+([(1,([],0,[],0,()),r11,())]:List vV8).length)).bind fun u12 =>
(subI y2.2.1 1 (y2.2.1.length:Int)).bind fun s13 =>
 some (.inl (y2.1,s13,(v5.2.1++([(1,([],0,[],0,()),r11,())]:List vV8)),()))) (
((atI y2.1 0).bind fun x14 =>
(atI y2.2.1 0).bind fun x15 =>
(zc2 x14 x15).bind fun r16 =>
 cond (!r16) (
(atI y2.1 0).bind fun x17 =>
(zcd x17).bind fun r18 =>
(atI y2.2.1 0).bind fun x19 =>
(zcd x19).bind fun r20 =>
(bh (v5.2.1.length+([(3,r18,r20,())]:List vV8).length)).bind fun u21 =>
 some (.inl ((v5.2.1++([(3,r18,r20,())]:List vV8)),()))) (
 some (.inl (v5.2.1,()))):Option ((List vV8×Unit)⊕((List vV1×List vV1×List vV8×Unit)⊕List vV8))).bind (aT fun v22 =>
(subI y2.1 1 (y2.1.length:Int)).bind fun s23 =>
(subI y2.2.1 1 (y2.2.1.length:Int)).bind fun s24 =>
 some (.inl (s23,s24,v22.1,())))))))
def zcq (a0:List vV1) (a1:List vV1):Option (List vV8) :=
 aH (iO) (a0,a1,[],())
def acV:TFn:={ ps:=(.cons (.sl tT16) (.cons (.sl tT16) .unit)),res:=(.sl tT23),fn:=fun v=>zcq v.1 v.2.1 }
def axq:TEnv:={ pure:=[(86,adB),(87,adi),(89,ac6)],look:=[],glob:=G0T,ty:=[(127,tT23)],raw:=[],fresh:=[] }
theorem axp:runY Tryz.prog anl axr axq aEW Tryz.f76 acV.ps acV.res=acV.fn:=by kernel_rfl
theorem anj:aA Tryz.prog G0 76 ank:=ai (ak ⟨au,(aj aoR (aj aoe (aj anR ac))),ap,ac,an⟩ Tryz.func76 rfl (by kernel_rfl))
theorem axo:TOk ank acV:=az (E:=anl) (ET:=axq) (EnvT.ofX (ax (ae azN (ae ayL (ae ax8 al)))) am ar aK aq) axp rfl
def amV:Env:=(eZ [(46,ag1),(50,agX),(68,alt),(76,ank),(130,ahc)] [274])
def awN:Hints:=(hZ [] [])
def agV:PFn:=aB (runF Tryz.prog amV awN Tryz.f59)
def aEL:TH:={ loops:=[],ro:=[3,4] }
def zd1 (a0:vV2) (a1:(Int×Int×Unit)) (a2:Bool):Option (List vV8×Int×Unit) :=
(zci a0 a1 a2).bind fun r1 =>
 cond (!decide (r1=0)) (
 some ([],r1,())) (
(zbt a0 a1).bind fun r2 =>
 cond (!decide (r2.2.1=0)) (
 some ([],r2.2.1,())) (
(zcw a0).bind fun r3 =>
(ze6 r3).bind fun r4 =>
(zcw r2.1).bind fun r5 =>
(ze6 r5).bind fun r6 =>
(zcq r4 r6).bind fun r7 =>
 some (r7,0,())))
def z6:TFn:={ ps:=tT28,res:=(.tup (.cons (.sl tT23) tT25)),fn:=fun v=>zd1 v.1 v.2.1 v.2.2.1 }
def awM:TEnv:=(vZ [(46,aab),(50,z8),(68,ab3),(76,acV),(130,aak)])
theorem awL:runY Tryz.prog amV awN awM aEL Tryz.f59 z6.ps z6.res=z6.fn:=by kernel_rfl
theorem acL:aA Tryz.prog G0 59 agV:=ai (ak ⟨au,(aj ac1 (aj acP (aj als (aj anj (aj ads ac))))),ap,ac,an⟩ Tryz.func59 rfl (by kernel_rfl))
theorem ajl:TOk agV z6:=az (E:=amV) (ET:=awM) (EnvT.ofX (ax (ae ajp (ae ajn (ae auo (ae axo (ae ajy al)))))) am ar aK aq) awL rfl
def aE1:Env:=(eZ [] [274])
def aE0:Hints:=(hZ [] [])
def anw:PFn:=aB (runF Tryz.prog aE1 aE0 Tryz.f275)
theorem anv:aA Tryz.prog G0 275 anw:=ai (ak ⟨au,ac,ap,ac,an⟩ Tryz.func275 rfl (by kernel_rfl))
def aq2:Env:=(eZ [] [274])
def aCG:Hints:=(hZ [] [6,9,11,19])
def aee:SFn:=runF Tryz.prog aq2 aCG Tryz.f209
def aGi:TH:=yZ
def za3 (w0:vV12) (w1:List Int):Option (Unit×vV12×List Int×Unit) :=
 cond (!w0.1) (
 some ((),(true,w0.2.1,()),w1,())) (
 cond (!w0.1) (
 none) (
 some ((),w0,w1,())))
def pS:TRaw:={ ps:=(.cons (.bx 0 0) .unit),ins:=[.box 216 tT26,.row true 5 (.int .u8)],res:=(.tup .unit),outs:=[.box 216 tT26,.row true 5 (.int .u8)],fn:=fun v w=>za3 w.1 w.2.1 }
def aCF:TEnv:=(vZ [])
theorem aCE:rawY Tryz.prog aq2 aCG aCF aGi [(0,0)] Tryz.f209 pS.ps pS.ins pS.res pS.outs=pS.fn:=by kernel_rfl
theorem vf:bB Tryz.prog G0 209 aee:=ak ⟨au,ac,ap,ac,an⟩ Tryz.func209 rfl (by kernel_rfl)
theorem aed:TRawOk aee pS:=iE (E:=aq2) (ET:=aCF) (EnvT.ofX (ax al) am ar aK aq) aCE
def aq1:Env:={ pure:=[],raw:=[(209,aee)],glob:=G0,same:=[274],look:=[],ext:=[] }
def aCD:Hints:=(hZ [] [])
def ahF:SFn:=runF Tryz.prog aq1 aCD Tryz.f323
def aGh:TH:=yZ
def za4 (a1:Int) (w0:vV12) (w1:List Int):Option (Bool×vV12×List Int×Unit) :=
(za3 w0 w1).bind fun q1 =>
(bh (q1.2.2.1.length+([a1]:List Int).length)).bind fun u2 =>
 some (false,(q1.2.1.1,(),()),(q1.2.2.1++([a1]:List Int)),())
def rH:TRaw:={ ps:=(.cons (.bx 0 0) (.cons (.int .u8) .unit)),ins:=[.box 216 tT26,.row true 5 (.int .u8)],res:=.err,outs:=[.box 216 tT26,.row true 5 (.int .u8)],fn:=fun v w=>za4 v.2.1 w.1 w.2.1 }
def aCC:TEnv:={ pure:=[],look:=[],glob:=G0T,ty:=[(5,(.int .u8))],raw:=[(209,pS)],fresh:=[] }
theorem aCB:rawY Tryz.prog aq1 aCD aCC aGh [(0,0)] Tryz.f323 rH.ps rH.ins rH.res rH.outs=rH.fn:=by kernel_rfl
theorem aec:bB Tryz.prog G0 323 ahF:=ak ⟨au,ac,(be vf ap),ac,an⟩ Tryz.func323 rfl (by kernel_rfl)
theorem ajI:TRawOk ahF rH:=iE (E:=aq1) (ET:=aCC) (EnvT.ofX (ax al) am (bq aed rfl rfl ar) aK aq) aCB
def aq0:Env:=(eZ [] [274])
def aCA:Hints:=(hZ [] [])
def aqZ:SFn:=runF Tryz.prog aq0 aCA Tryz.f369
def aGg:TH:={ joins:=[(7,{ keep:=[(0,(.own 0)),(25,.bool)],mem:=[.row true 5 (.int .u8)] })],loops:=[],cuts:=[(6,[(6,{ keep:=[(0,(.own 0)),(33,.bool)],mem:=[.row true 5 (.int .u8)] })])],ro:=[],news:=[] }
def za5 (a1:Int) (w0:List Int):Option (Unit×List Int×Unit) :=
 cond (decide ((IntKind.wrap .u32 a1)≤2047)) (
(shrT .i32 a1 6).bind fun t1 =>
(bh (w0.length+([(IntKind.wrap .u8 ((BitVec.ofInt (IntKind.bits .u8) 192 ||| BitVec.ofInt (IntKind.bits .u8) (IntKind.wrap .u8 t1)).toNat)),(IntKind.wrap .u8 ((BitVec.ofInt (IntKind.bits .u8) 128 ||| BitVec.ofInt (IntKind.bits .u8) (IntKind.wrap .u8 ((BitVec.ofInt (IntKind.bits .u8) (IntKind.wrap .u8 a1) &&& BitVec.ofInt (IntKind.bits .u8) 63).toNat))).toNat))]:List Int).length)).bind fun u2 =>
 some ((),(w0++([(IntKind.wrap .u8 ((BitVec.ofInt (IntKind.bits .u8) 192 ||| BitVec.ofInt (IntKind.bits .u8) (IntKind.wrap .u8 t1)).toNat)),(IntKind.wrap .u8 ((BitVec.ofInt (IntKind.bits .u8) 128 ||| BitVec.ofInt (IntKind.bits .u8) (IntKind.wrap .u8 ((BitVec.ofInt (IntKind.bits .u8) (IntKind.wrap .u8 a1) &&& BitVec.ofInt (IntKind.bits .u8) 63).toNat))).toNat))]:List Int)),())) (
(cond (decide ((IntKind.wrap .u32 a1)<55296)) (
 some (.inl ((decide ((IntKind.wrap .u32 a1)<55296)),w0,()))) (
(cond (decide (57343<(IntKind.wrap .u32 a1))) (some ((decide ((IntKind.wrap .u32 a1)≤65535)),w0,())) (some (false,w0,())):Option (Bool×List Int×Unit)).bind fun v3 =>
 some (.inl (v3.1,v3.2.1,()))):Option ((Bool×List Int×Unit)⊕(Unit×List Int×Unit))).bind (aT fun v4 =>
 cond v4.1 (
(shrT .i32 a1 12).bind fun t5 =>
(shrT .i32 a1 6).bind fun t6 =>
(bh (v4.2.1.length+([(IntKind.wrap .u8 ((BitVec.ofInt (IntKind.bits .u8) 224 ||| BitVec.ofInt (IntKind.bits .u8) (IntKind.wrap .u8 t5)).toNat)),(IntKind.wrap .u8 ((BitVec.ofInt (IntKind.bits .u8) 128 ||| BitVec.ofInt (IntKind.bits .u8) (IntKind.wrap .u8 ((BitVec.ofInt (IntKind.bits .u8) (IntKind.wrap .u8 t6) &&& BitVec.ofInt (IntKind.bits .u8) 63).toNat))).toNat)),(IntKind.wrap .u8 ((BitVec.ofInt (IntKind.bits .u8) 128 ||| BitVec.ofInt (IntKind.bits .u8) (IntKind.wrap .u8 ((BitVec.ofInt (IntKind.bits .u8) (IntKind.wrap .u8 a1) &&& BitVec.ofInt (IntKind.bits .u8) 63).toNat))).toNat))]:List Int).length)).bind fun u7 =>
 some ((),(v4.2.1++([(IntKind.wrap .u8 ((BitVec.ofInt (IntKind.bits .u8) 224 ||| BitVec.ofInt (IntKind.bits .u8) (IntKind.wrap .u8 t5)).toNat)),(IntKind.wrap .u8 ((BitVec.ofInt (IntKind.bits .u8) 128 ||| BitVec.ofInt (IntKind.bits .u8) (IntKind.wrap .u8 ((BitVec.ofInt (IntKind.bits .u8) (IntKind.wrap .u8 t6) &&& BitVec.ofInt (IntKind.bits .u8) 63).toNat))).toNat)),(IntKind.wrap .u8 ((BitVec.ofInt (IntKind.bits .u8) 128 ||| BitVec.ofInt (IntKind.bits .u8) (IntKind.wrap .u8 ((BitVec.ofInt (IntKind.bits .u8) (IntKind.wrap .u8 a1) &&& BitVec.ofInt (IntKind.bits .u8) 63).toNat))).toNat))]:List Int)),())) (
 cond (decide ((IntKind.wrap .u32 a1)>65535)) (cond (decide ((IntKind.wrap .u32 a1)≤1114111)) (
(shrT .i32 a1 18).bind fun t8 =>
(shrT .i32 a1 12).bind fun t9 =>
(shrT .i32 a1 6).bind fun t10 =>
(bh (v4.2.1.length+([(IntKind.wrap .u8 ((BitVec.ofInt (IntKind.bits .u8) 240 ||| BitVec.ofInt (IntKind.bits .u8) (IntKind.wrap .u8 t8)).toNat)),(IntKind.wrap .u8 ((BitVec.ofInt (IntKind.bits .u8) 128 ||| BitVec.ofInt (IntKind.bits .u8) (IntKind.wrap .u8 ((BitVec.ofInt (IntKind.bits .u8) (IntKind.wrap .u8 t9) &&& BitVec.ofInt (IntKind.bits .u8) 63).toNat))).toNat)),(IntKind.wrap .u8 ((BitVec.ofInt (IntKind.bits .u8) 128 ||| BitVec.ofInt (IntKind.bits .u8) (IntKind.wrap .u8 ((BitVec.ofInt (IntKind.bits .u8) (IntKind.wrap .u8 t10) &&& BitVec.ofInt (IntKind.bits .u8) 63).toNat))).toNat)),(IntKind.wrap .u8 ((BitVec.ofInt (IntKind.bits .u8) 128 ||| BitVec.ofInt (IntKind.bits .u8) (IntKind.wrap .u8 ((BitVec.ofInt (IntKind.bits .u8) (IntKind.wrap .u8 a1) &&& BitVec.ofInt (IntKind.bits .u8) 63).toNat))).toNat))]:List Int).length)).bind fun u11 =>
 some ((),(v4.2.1++([(IntKind.wrap .u8 ((BitVec.ofInt (IntKind.bits .u8) 240 ||| BitVec.ofInt (IntKind.bits .u8) (IntKind.wrap .u8 t8)).toNat)),(IntKind.wrap .u8 ((BitVec.ofInt (IntKind.bits .u8) 128 ||| BitVec.ofInt (IntKind.bits .u8) (IntKind.wrap .u8 ((BitVec.ofInt (IntKind.bits .u8) (IntKind.wrap .u8 t9) &&& BitVec.ofInt (IntKind.bits .u8) 63).toNat))).toNat)),(IntKind.wrap .u8 ((BitVec.ofInt (IntKind.bits .u8) 128 ||| BitVec.ofInt (IntKind.bits .u8) (IntKind.wrap .u8 ((BitVec.ofInt (IntKind.bits .u8) (IntKind.wrap .u8 t10) &&& BitVec.ofInt (IntKind.bits .u8) 63).toNat))).toNat)),(IntKind.wrap .u8 ((BitVec.ofInt (IntKind.bits .u8) 128 ||| BitVec.ofInt (IntKind.bits .u8) (IntKind.wrap .u8 ((BitVec.ofInt (IntKind.bits .u8) (IntKind.wrap .u8 a1) &&& BitVec.ofInt (IntKind.bits .u8) 63).toNat))).toNat))]:List Int)),())) (
(bh (v4.2.1.length+([239,191,189]:List Int).length)).bind fun u12 =>
 some ((),(v4.2.1++([239,191,189]:List Int)),()))) ((bh (v4.2.1.length+([239,191,189]:List Int).length)).bind fun u13 =>
 some ((),(v4.2.1++([239,191,189]:List Int)),())))))
def ve:TRaw:={ ps:=(.cons (.own 0) (.cons (.int .i32) .unit)),ins:=[.row true 5 (.int .u8)],res:=(.own 0),outs:=[.row true 5 (.int .u8)],fn:=fun v w=>za5 v.2.1 w.1 }
def aCz:TEnv:={ pure:=[],look:=[],glob:=G0T,ty:=[(5,(.int .u8))],raw:=[],fresh:=[] }
theorem aCy:rawY Tryz.prog aq0 aCA aCz aGg [] Tryz.f369 ve.ps ve.ins ve.res ve.outs=ve.fn:=by kernel_rfl
theorem aqY:bB Tryz.prog G0 369 aqZ:=ak ⟨au,ac,ap,ac,an⟩ Tryz.func369 rfl (by kernel_rfl)
theorem aCx:TRawOk aqZ ve:=iE (E:=aq0) (ET:=aCz) (EnvT.ofX (ax al) am ar aK aq) aCy
def ao2:Env:={ pure:=[],raw:=[(369,aqZ)],glob:=G0,same:=[274],look:=[],ext:=[] }
def az6:Hints:=(hZ [] [])
def ao1:SFn:=runF Tryz.prog ao2 az6 Tryz.f353
def aFH:TH:=yZ
def zbf (a1:Int) (w0:List Int):Option (Unit×List Int×Unit) :=
 cond (decide ((IntKind.wrap .u32 a1)≤127)) (
(bh (w0.length+([(IntKind.wrap .u8 a1)]:List Int).length)).bind fun u1 =>
 some ((),(w0++([(IntKind.wrap .u8 a1)]:List Int)),())) (
(za5 a1 w0).bind fun q2 =>
 some (q2.1,q2.2.1,()))
def uZ:TRaw:={ ps:=(.cons (.own 0) (.cons (.int .i32) .unit)),ins:=[.row true 5 (.int .u8)],res:=(.own 0),outs:=[.row true 5 (.int .u8)],fn:=fun v w=>zbf v.2.1 w.1 }
def az5:TEnv:={ pure:=[],look:=[],glob:=G0T,ty:=[(5,(.int .u8))],raw:=[(369,ve)],fresh:=[] }
theorem az4:rawY Tryz.prog ao2 az6 az5 aFH [] Tryz.f353 uZ.ps uZ.ins uZ.res uZ.outs=uZ.fn:=by kernel_rfl
theorem ao0:bB Tryz.prog G0 353 ao1:=ak ⟨au,ac,(be aqY ap),ac,an⟩ Tryz.func353 rfl (by kernel_rfl)
theorem az3:TRawOk ao1 uZ:=iE (E:=ao2) (ET:=az5) (EnvT.ofX (ax al) am (bq aCx rfl rfl ar) aK aq) az4
def aq5:Env:={ pure:=[],raw:=[(209,aee),(353,ao1)],glob:=G0,same:=[274],look:=[],ext:=[] }
def aCK:Hints:=(hZ [] [])
def aq4:SFn:=runF Tryz.prog aq5 aCK Tryz.f324
def aGj:TH:=yZ
def za2 (a1:Int) (w0:vV12) (w1:List Int):Option ((Int×Bool×Unit)×vV12×List Int×Unit) :=
(za3 w0 w1).bind fun q1 =>
(zbf a1 q1.2.2.1).bind fun q2 =>
 some (((IntKind.wrap .i64 ((q2.2.1.length:Int)-(q1.2.2.1.length:Int))),false,()),(q1.2.1.1,q2.1,()),q2.2.1,())
def vg:TRaw:={ ps:=(.cons (.bx 0 0) (.cons (.int .i32) .unit)),ins:=[.box 216 tT26,.row true 5 (.int .u8)],res:=(.tup (.cons (.int .i64) (.cons .err .unit))),outs:=[.box 216 tT26,.row true 5 (.int .u8)],fn:=fun v w=>za2 v.2.1 w.1 w.2.1 }
def aCJ:TEnv:={ pure:=[],look:=[],glob:=G0T,ty:=[],raw:=[(209,pS),(353,uZ)],fresh:=[] }
theorem aCI:rawY Tryz.prog aq5 aCK aCJ aGj [(0,0)] Tryz.f324 vg.ps vg.ins vg.res vg.outs=vg.fn:=by kernel_rfl
theorem aq3:bB Tryz.prog G0 324 aq4:=ak ⟨au,ac,(be vf (be ao0 ap)),ac,an⟩ Tryz.func324 rfl (by kernel_rfl)
theorem aCH:TRawOk aq4 vg:=iE (E:=aq5) (ET:=aCJ) (EnvT.ofX (ax al) am (bq aed rfl rfl (bq az3 rfl rfl ar)) aK aq) aCI
def aqX:Env:=(eZ [] [274])
def aCw:Hints:=(hZ [] [])
def aeb:SFn:=runF Tryz.prog aqX aCw Tryz.f140
def aGf:TH:=yZ
def za6 (w0:vV12) (w1:List Int):Option (List UInt8×vV12×Unit) :=
 cond w1.isEmpty ((akB (w1.length:Int)).bind fun u1 =>
 some ([],w0,())) ((rJ 0 w1.length (w1.length:Int)).bind fun u2 =>
 some ((w1.map fun n=>UInt8.ofNat n.toNat),w0,()))
def pR:TRaw:={ ps:=(.cons (.bx 0 0) .unit),ins:=[.box 216 tT26,.row true 5 (.int .u8)],res:=.str,outs:=[.box 216 tT26,.gone],fn:=fun v w=>za6 w.1 w.2.1 }
def aCv:TEnv:=(vZ [])
theorem aCu:rawY Tryz.prog aqX aCw aCv aGf [(0,0)] Tryz.f140 pR.ps pR.ins pR.res pR.outs=pR.fn:=by kernel_rfl
theorem vd:bB Tryz.prog G0 140 aeb:=ak ⟨au,ac,ap,ac,an⟩ Tryz.func140 rfl (by kernel_rfl)
theorem aea:TRawOk aeb pR:=iE (E:=aqX) (ET:=aCv) (EnvT.ofX (ax al) am ar aK aq) aCu
def anF:Env:={ pure:=[],raw:=[(140,aeb),(323,ahF),(324,aq4)],glob:=G0,same:=[274],look:=[],ext:=[] }
def axP:Hints:=(hZ [(4,[3,8])] [])
def ag0:PFn:=aB (runF Tryz.prog anF axP Tryz.f276)
def aE4:TH:={ loops:=[(4,{ keep:=[(3,(.bx 1 0)),(8,(.it 2))],mem:=[.row true 5 (.int .u8),.box 216 tT29,.iter] })],cuts:=[],ro:=[],news:=[(3,(tT29,[(5,(.int .u8))]))] }
def oo (a0:List UInt8) (y4:(List Int×vV12×Nat×Unit)):Option ((List Int×vV12×Nat×Unit)⊕List UInt8) :=
 cond (decide (y4.2.2.1<a0.length)) (cond (decide (((Utf8.decode ⟨a0.toArray⟩ y4.2.2.1).1:Int)=34)) ((za4 92 (y4.2.1.1,(),()) y4.1).bind fun q2 =>
(za2 ((Utf8.decode ⟨a0.toArray⟩ y4.2.2.1).1:Int) (q2.2.1.1,(),()) q2.2.2.1).bind fun q3 =>
 some (.inl (q3.2.2.1,q3.2.1,(y4.2.2.1+(Utf8.decode ⟨a0.toArray⟩ y4.2.2.1).2),()))) (cond (decide (((Utf8.decode ⟨a0.toArray⟩ y4.2.2.1).1:Int)=92)) (
(za4 92 (y4.2.1.1,(),()) y4.1).bind fun q4 =>
(za2 ((Utf8.decode ⟨a0.toArray⟩ y4.2.2.1).1:Int) (q4.2.1.1,(),()) q4.2.2.1).bind fun q5 =>
 some (.inl (q5.2.2.1,q5.2.1,(y4.2.2.1+(Utf8.decode ⟨a0.toArray⟩ y4.2.2.1).2),()))) (
(za2 ((Utf8.decode ⟨a0.toArray⟩ y4.2.2.1).1:Int) (y4.2.1.1,(),()) y4.1).bind fun q6 =>
 some (.inl (q6.2.2.1,q6.2.1,(y4.2.2.1+(Utf8.decode ⟨a0.toArray⟩ y4.2.2.1).2),()))))) (((za4 34 (y4.2.1.1,(),()) y4.1).bind fun q7 =>
(za6 (q7.2.1.1,(),()) q7.2.2.1).bind fun q8 =>
 some q8.1).map .inr)
def zcj (a0:List UInt8):Option (List UInt8) :=
(za4 34 (false,(),()) []).bind fun q1 =>
 aH (oo a0) (q1.2.2.1,q1.2.1,0,())
def agZ:TFn:={ ps:=(.cons .str .unit),res:=.str,fn:=fun v=>zcj v.1 }
def axO:TEnv:={ pure:=[],look:=[],glob:=G0T,ty:=[],raw:=[(140,pR),(323,rH),(324,vg)],fresh:=[] }
theorem axN:runY Tryz.prog anF axP axO aE4 Tryz.f276 agZ.ps agZ.res=agZ.fn:=by kernel_rfl
theorem anE:aA Tryz.prog G0 276 ag0:=ai (ak ⟨au,ac,(be vd (be aec (be aq3 ap))),ac,an⟩ Tryz.func276 rfl (by kernel_rfl))
theorem axM:TOk ag0 agZ:=az (E:=anF) (ET:=axO) (EnvT.ofX (ax al) am (bq aea rfl rfl (bq ajI rfl rfl (bq aCH rfl rfl ar))) aK aq) axN rfl
def aqW:Env:=(eZ [] [274])
def aCt:Hints:=(hZ [] [])
def aqV:PFn:=aB (runF Tryz.prog aqW aCt Tryz.f325)
def aGe:TH:=yZ
def za7 (a0:Bool):Option (List UInt8) :=
 cond a0 (
 some [116,114,117,101]) (
 some [102,97,108,115,101])
def ad9:TFn:={ ps:=(.cons .bool .unit),res:=.str,fn:=fun v=>za7 v.1 }
def aCs:TEnv:=(vZ [])
theorem aCr:runY Tryz.prog aqW aCt aCs aGe Tryz.f325 ad9.ps ad9.res=ad9.fn:=by kernel_rfl
theorem aqU:aA Tryz.prog G0 325 aqV:=ai (ak ⟨au,ac,ap,ac,an⟩ Tryz.func325 rfl (by kernel_rfl))
theorem aCq:TOk aqV ad9:=az (E:=aqW) (ET:=aCs) (EnvT.ofX (ax al) am ar aK aq) aCr rfl
def apc:Env:=(eZ [(325,aqV)] [274])
def aAm:Hints:=(hZ [] [])
def ahm:PFn:=aB (runF Tryz.prog apc aAm Tryz.f277)
def aFL:TH:=yZ
def zbb (a0:Bool):Option (List UInt8) :=
(za7 a0).bind fun r1 =>
 some r1
def ahl:TFn:={ ps:=(.cons .bool .unit),res:=.str,fn:=fun v=>zbb v.1 }
def aAl:TEnv:=(vZ [(325,ad9)])
theorem aAk:runY Tryz.prog apc aAm aAl aFL Tryz.f277 ahl.ps ahl.res=ahl.fn:=by kernel_rfl
theorem apb:aA Tryz.prog G0 277 ahm:=ai (ak ⟨au,(aj aqU ac),ap,ac,an⟩ Tryz.func277 rfl (by kernel_rfl))
theorem aAj:TOk ahm ahl:=az (E:=apc) (ET:=aAl) (EnvT.ofX (ax (ae aCq al)) am ar aK aq) aAk rfl
def adM:PFn:=aiy
theorem adL:aA Tryz.prog G0 213 adM:=aa5 (g:=3) ⟨Tryz.f213,Tryz.func213,rfl,by kernel_rfl⟩ (by kernel_rfl) (by kernel_rfl) Tryz.strconv_Itoa
def zb5 (a0:Int):Option (List UInt8):=itoa a0
def aAG:TFn:=yN
theorem ajE:TOk adM aAG:=arJ
def aEv:Env:=(eZ [(275,anw),(276,ag0),(277,ahm),(213,adM)] [274])
def avS:Hints:=(hZ [] [])
def agR:PFn:=aB (runF Tryz.prog aEv avS Tryz.f210)
theorem amn:aA Tryz.prog G0 210 agR:=ai (ak ⟨au,(aj anv (aj anE (aj apb (aj adL ac)))),ap,ac,an⟩ Tryz.func210 rfl (by kernel_rfl))
def cj (Fq Fb Fs:PFn):PFn:=aB (runF Tryz.prog (eZ [(275,anw),(276,Fq),(277,Fb),(213,Fs)] [274]) avS Tryz.f210)
theorem ma:agR=cj ag0 ahm adM:=rfl
theorem rP (Fq Fb Fs:PFn) (n:Int) (s:List UInt8):cj Fq Fb Fs [.agg [.int .i64 2,.int .i64 n,.str s]]=((Fq [.str s]).bind fun t=>some (t,[AReg.row 132 3 [.agg [.int .i64 2,.int .i64 n,.str s]]])).bind fun p=>bW p.2 p.1:=by kernel_rfl
theorem rO (Fq Fb Fs:PFn) (n:Int) (s:List UInt8):cj Fq Fb Fs [.agg [.int .i64 3,.int .i64 n,.str s]]=((Fb [.bool (n==1)]).bind fun t=>some (t,[AReg.row 132 3 [.agg [.int .i64 3,.int .i64 n,.str s]]])).bind fun p=>bW p.2 p.1:=by kernel_rfl
theorem rR (Fq Fb Fs:PFn) (n:Int) (s:List UInt8):cj Fq Fb Fs [.agg [.int .i64 (Int.ofNat 0),.int .i64 n,.str s]]=((Fs [.int .i64 n]).bind fun t=>some (t,[AReg.row 132 3 [.agg [.int .i64 (Int.ofNat 0),.int .i64 n,.str s]]])).bind fun p=>bW p.2 p.1:=by kernel_rfl
theorem rQ (Fq Fb Fs:PFn) (n:Int) (s:List UInt8):cj Fq Fb Fs [.agg [.int .i64 (Int.ofNat 1),.int .i64 n,.str s]]=((Fs [.int .i64 n]).bind fun t=>some (t,[AReg.row 132 3 [.agg [.int .i64 (Int.ofNat 1),.int .i64 n,.str s]]])).bind fun p=>bW p.2 p.1:=by kernel_rfl
theorem rN (Fq Fb Fs:PFn) (k:Nat) (n:Int) (s:List UInt8):cj Fq Fb Fs [.agg [.int .i64 (Int.ofNat (k+4)),.int .i64 n,.str s]]=((Fs [.int .i64 n]).bind fun t=>some (t,[AReg.row 132 3 [.agg [.int .i64 (Int.ofNat (k+4)),.int .i64 n,.str s]]])).bind fun p=>bW p.2 p.1:=by kernel_rfl
theorem rM (Fq Fb Fs:PFn) (k:Nat) (n:Int) (s:List UInt8):cj Fq Fb Fs [.agg [.int .i64 (Int.negSucc k),.int .i64 n,.str s]]=((Fs [.int .i64 n]).bind fun t=>some (t,[AReg.row 132 3 [.agg [.int .i64 (Int.negSucc k),.int .i64 n,.str s]]])).bind fun p=>bW p.2 p.1:=by kernel_rfl
theorem rL (Fq Fb Fs:PFn) (k n:Int) (s:List UInt8) (h2:k≠2) (h3:k≠3):cj Fq Fb Fs [.agg [.int .i64 k,.int .i64 n,.str s]]=((Fs [.int .i64 n]).bind fun t=>some (t,[AReg.row 132 3 [.agg [.int .i64 k,.int .i64 n,.str s]]])).bind fun p=>bW p.2 p.1:=by
 match k,h2,h3 with
 | .ofNat 0,_,_=>exact rR Fq Fb Fs n s
 | .ofNat 1,_,_=>exact rQ Fq Fb Fs n s
 | .ofNat 2,h,_=>exact absurd rfl h
 | .ofNat 3,_,h=>exact absurd rfl h
 | .ofNat (k+4),_,_=>exact rN Fq Fb Fs k n s
 | .negSucc k,_,_=>exact rM Fq Fb Fs k n s
def zdh (a0:Int×Int×List UInt8×Unit):Option (List UInt8):=if a0.1=2 then zcj a0.2.2.1 else if a0.1=3 then zbb (a0.2.1==1) else zb5 a0.2.1
def agQ:TFn:={ ps:=.cons tT19 .unit,res:=.str,fn:=fun v=>zdh v.1 }
theorem avR:TOk agR agQ:=⟨rfl,rfl,rfl,fun v r xs hr hps=>by
 obtain ⟨⟨k,n,s,⟨⟩⟩,⟨⟩⟩:=v;simp only[R,agQ] at hps;obtain ⟨l1,l2,rfl,⟨cs,rfl,a1,a2,rfl,rfl,a3,a4,rfl,rfl,a5,a6,rfl,rfl,rfl⟩,rfl⟩:=hps;rw[ma];simp only[agQ,zdh] at hr
 have done:∀ {o:Option AVal}{t:List UInt8}{st:aC},o=some (.str t)→((o.bind fun t=>some (t,st)).bind fun p=>bW p.2 p.1)=some (.str t):=fun h=>by rw[h]; rfl
 simp only[qBV,qBB,qAR]
 split at hr
 · rename_i h; subst h;obtain ⟨a,h1,h2⟩:=axM.run (s,()) r [.str s] hr ⟨[.str s],[],rfl,rfl,rfl⟩;have h2:=ai9 h2; subst h2;exact ⟨_,(rP _ _ _ n s).trans (done h1),rfl⟩
 · split at hr
   · rename_i h; subst h;obtain ⟨a,h1,h2⟩:=aAj.run ((n==1),()) r [.bool (n==1)] hr ⟨[.bool (n==1)],[],rfl,rfl,rfl⟩;have h2:=ai9 h2; subst h2;exact ⟨_,(rO _ _ _ n s).trans (done h1),rfl⟩
   · rename_i h g;obtain ⟨a,h1,h2⟩:=ajE.run (n,()) r [.int .i64 n] hr ⟨[.int .i64 n],[],rfl,rfl,rfl⟩;have h2:=ai9 h2; subst h2;exact ⟨_,(rL _ _ _ k n s h g).trans (done h1),rfl⟩⟩
def ahq:PFn:=afG
theorem adQ:aA Tryz.prog G0 211 ahq:=aa4 ⟨Tryz.f211,Tryz.func211,rfl,by kernel_rfl⟩ Tryz.strings_Join_none Tryz.strings_Join
def zb2 (a0:List (List UInt8)) (a1:List UInt8):Option (List UInt8):=aiw a0 a1
def apu:TFn:=qA
theorem ajG:TOk ahq apu:=aiv
def ame:Env:={ pure:=[],raw:=[(140,aeb),(323,ahF)],glob:=G0,same:=[274],look:=[],ext:=[] }
def avC:Hints:=(hZ [(3,[0,3,6,7])] [])
def amd:PFn:=aB (runF Tryz.prog ame avC Tryz.f279)
def aEq:TH:={ joins:=[(7,{ keep:=[(3,(.bx 1 0))],mem:=[.row true 5 (.int .u8),.box 216 tT29] })],loops:=[(3,{ keep:=[(3,(.bx 1 0)),(7,(.int .i64))],mem:=[.row true 5 (.int .u8),.box 216 tT29] })],cuts:=[],ro:=[],news:=[(3,(tT29,[(5,(.int .u8))]))] }
def ol (a0:List UInt8) (y3:(Int×List Int×vV12×Unit)):Option ((Int×List Int×vV12×Unit)⊕List UInt8) :=
 cond (decide (y3.1<(a0.length:Int))) (
((atI a0 y3.1).bind fun b1 =>
 cond (decide ((b1.toNat:Int)=47)) ((za4 92 (y3.2.2.1.1,(),()) y3.2.1).bind fun q2 =>
 some (.inl (q2.2.2.1,q2.2.1,()))) ((atI a0 y3.1).bind fun b3 =>
 cond (decide ((b3.toNat:Int)=92)) (
(za4 92 (y3.2.2.1.1,(),()) y3.2.1).bind fun q4 =>
 some (.inl (q4.2.2.1,q4.2.1,()))) (
 some (.inl (y3.2.1,y3.2.2.1,())))):Option ((List Int×vV12×Unit)⊕((Int×List Int×vV12×Unit)⊕List UInt8))).bind (aT fun v5 =>
(atI a0 y3.1).bind fun b6 =>
(za4 (b6.toNat:Int) (v5.2.1.1,(),()) v5.1).bind fun q7 =>
 some (.inl ((IntKind.wrap .i64 (y3.1+1)),q7.2.2.1,q7.2.1,())))) (
((za6 (y3.2.2.1.1,(),()) y3.2.1).bind fun q8 =>
 some q8.1).map .inr)
def zdm (a0:List UInt8):Option (List UInt8) :=
 aH (ol a0) (0,[],(false,(),()),())
def acs:TFn:={ ps:=(.cons .str .unit),res:=.str,fn:=fun v=>zdm v.1 }
def avB:TEnv:={ pure:=[],look:=[],glob:=G0T,ty:=[],raw:=[(140,pR),(323,rH)],fresh:=[] }
theorem avA:runY Tryz.prog ame avC avB aEq Tryz.f279 acs.ps acs.res=acs.fn:=by kernel_rfl
theorem amc:aA Tryz.prog G0 279 amd:=ai (ak ⟨au,ac,(be vd (be aec ap)),ac,an⟩ Tryz.func279 rfl (by kernel_rfl))
theorem avz:TOk amd acs:=az (E:=ame) (ET:=avB) (EnvT.ofX (ax al) am (bq aea rfl rfl (bq ajI rfl rfl ar)) aK aq) avA rfl
def akA:Env:={ pure:=[(279,amd)],raw:=[],glob:=G0,same:=[274],look:=[(211,ahq)],ext:=[] }
def as0:Hints:=(hZ [(3,[3,6,7,8])] [])
def akz:PFn:=aB (runF Tryz.prog akA as0 Tryz.f212)
def aDK:TH:={ loops:=[(3,{ keep:=[(3,(.own 0)),(8,(.int .i64))],mem:=[.row true 9 .str] })],ro:=[] }
def wW (a0:List (List UInt8)) (y3:(Int×List (List UInt8)×Unit)):Option ((Int×List (List UInt8)×Unit)⊕List UInt8) :=
 cond (decide (y3.1<(a0.length:Int))) (
(atI a0 y3.1).bind fun x1 =>
(zdm x1).bind fun r2 =>
(bh (y3.2.1.length+([r2]:List (List UInt8)).length)).bind fun u3 =>
 some (.inl ((IntKind.wrap .i64 (y3.1+1)),(y3.2.1++([r2]:List (List UInt8))),()))) (
((zb2 y3.2.1 [47]).bind fun r4 =>
 some r4).map .inr)
def zes (a0:List (List UInt8)):Option (List UInt8) :=
 aH (wW a0) (0,[],())
def abD:TFn:={ ps:=tT30,res:=.str,fn:=fun v=>zes v.1 }
def asZ:TEnv:={ pure:=[(279,acs)],look:=[(211,apu)],glob:=G0T,ty:=[(9,.str)],raw:=[],fresh:=[] }
theorem asY:runY Tryz.prog akA as0 asZ aDK Tryz.f212 abD.ps abD.res=abD.fn:=by kernel_rfl
theorem aky:aA Tryz.prog G0 212 akz:=ai (ak ⟨au,(aj amc ac),ap,(aj adQ ac),an⟩ Tryz.func212 rfl (by kernel_rfl))
theorem asX:TOk akz abD:=az (E:=akA) (ET:=asZ) (EnvT.ofX (ax (ae avz al)) (j6 ajG rfl am) ar aK aq) asY rfl
def ak6:Env:={ pure:=[(210,agR),(212,akz),(213,adM)],raw:=[],glob:=G0,same:=[274],look:=[(211,ahq)],ext:=[] }
def atR:Hints:=(hZ [(3,[1,3,8,9,10])] [])
def ak5:PFn:=aB (runF Tryz.prog ak6 atR Tryz.f139)
def aDX:TH:={ joins:=[(7,{ keep:=[(1,(.bx 0 0)),(3,(.own 2))],mem:=[.same,.gone,.row true 9 .str] })],loops:=[(3,{ keep:=[(1,(.bx 0 0)),(3,(.own 2)),(10,(.int .i64))],mem:=[.same,.gone,.row true 9 .str] })],ro:=[1] }
def w6 (a0:vV1) (y3:(Int×List (List UInt8)×Unit)):Option ((Int×List (List UInt8)×Unit)⊕((List (List UInt8)×Unit)⊕List UInt8)) :=
 cond (decide (y3.1<(a0.2.2.1.length:Int))) (
(atI a0.2.2.1 y3.1).bind fun x1 =>
(zdh x1).bind fun r2 =>
(bh (y3.2.1.length+([r2]:List (List UInt8)).length)).bind fun u3 =>
 some (.inl ((IntKind.wrap .i64 (y3.1+1)),(y3.2.1++([r2]:List (List UInt8))),()))) (
 some (.inr (.inl (y3.2.1,()))))
def zef (a0:vV1):Option (List UInt8) :=
(aH (w6 a0) (0,[],()):Option ((List (List UInt8)×Unit)⊕List UInt8)).bind (aT fun v4 =>
(zb2 v4.1 [32]).bind fun r5 =>
 cond (decide (a0.2.1=1)) (
(zes a0.1).bind fun r6 =>
(catT r6 [32,61,32]).bind fun s7 =>
(catT s7 r5).bind fun s8 =>
 some s8) (
 cond (decide (a0.2.1=2)) (
(zes a0.1).bind fun r9 =>
(catT r9 [32,58,32]).bind fun s10 =>
(catT s10 r5).bind fun s11 =>
 some s11) (
(zes a0.1).bind fun r12 =>
(catT r12 [32,35,32]).bind fun s13 =>
(zb5 a0.2.2.2.1).bind fun r14 =>
(catT s13 r14).bind fun s15 =>
 some s15)))
def abT:TFn:={ ps:=(.cons tT16 .unit),res:=.str,fn:=fun v=>zef v.1 }
def atQ:TEnv:={ pure:=[(210,agQ),(212,abD),(213,aAG)],look:=[(211,apu)],glob:=G0T,ty:=[(9,.str)],raw:=[],fresh:=[] }
theorem atP:runY Tryz.prog ak6 atR atQ aDX Tryz.f139 abT.ps abT.res=abT.fn:=by kernel_rfl
theorem ak4:aA Tryz.prog G0 139 ak5:=ai (ak ⟨au,(aj amn (aj aky (aj adL ac))),ap,(aj adQ ac),an⟩ Tryz.func139 rfl (by kernel_rfl))
theorem atO:TOk ak5 abT:=az (E:=ak6) (ET:=atQ) (EnvT.ofX (ax (ae avR (ae asX (ae ajE al)))) (j6 ajG rfl am) ar aK aq) atP rfl
def aq8:Env:={ pure:=[],raw:=[(209,aee)],glob:=G0,same:=[274],look:=[],ext:=[] }
def aCO:Hints:=(hZ [] [])
def aq7:SFn:=runF Tryz.prog aq8 aCO Tryz.f138
def aGk:TH:=yZ
def za1 (a1:List UInt8) (w0:vV12) (w1:List Int):Option ((Int×Bool×Unit)×vV12×List Int×Unit) :=
(za3 w0 w1).bind fun q1 =>
(bh (q1.2.2.1.length+(a1.map fun b=>(b.toNat:Int)).length)).bind fun u2 =>
 some (((a1.length:Int),false,()),(q1.2.1.1,(),()),(q1.2.2.1++(a1.map fun b=>(b.toNat:Int))),())
def vh:TRaw:={ ps:=(.cons (.bx 0 0) (.cons .str .unit)),ins:=[.box 216 tT26,.row true 5 (.int .u8)],res:=(.tup (.cons (.int .i64) (.cons .err .unit))),outs:=[.box 216 tT26,.row true 5 (.int .u8)],fn:=fun v w=>za1 v.2.1 w.1 w.2.1 }
def aCN:TEnv:={ pure:=[],look:=[],glob:=G0T,ty:=[(5,(.int .u8))],raw:=[(209,pS)],fresh:=[] }
theorem aCM:rawY Tryz.prog aq8 aCO aCN aGk [(0,0)] Tryz.f138 vh.ps vh.ins vh.res vh.outs=vh.fn:=by kernel_rfl
theorem aq6:bB Tryz.prog G0 138 aq7:=ak ⟨au,ac,(be vf ap),ac,an⟩ Tryz.func138 rfl (by kernel_rfl)
theorem aCL:TRawOk aq7 vh:=iE (E:=aq8) (ET:=aCN) (EnvT.ofX (ax al) am (bq aed rfl rfl ar) aK aq) aCM
def amD:Env:={ pure:=[(139,ak5)],raw:=[(138,aq7),(140,aeb)],glob:=G0,same:=[274],look:=[],ext:=[] }
def awf:Hints:=(hZ [(3,[3,6,7,8])] [])
def amC:PFn:=aB (runF Tryz.prog amD awf Tryz.f69)
def aEB:TH:={ joins:=[(7,{ keep:=[(3,(.bx 1 0)),(5,(.bx 2 0))],mem:=[.row true 5 (.int .u8),.box 216 tT29,.box 127 tT23] })],loops:=[(3,{ keep:=[(3,(.bx 1 0)),(8,(.int .i64))],mem:=[.row true 5 (.int .u8),.box 216 tT29] })],cuts:=[],ro:=[],news:=[(3,(tT29,[(5,(.int .u8))]))] }
def xk (a0:List vV8) (y3:(Int×List Int×vV12×Unit)):Option ((Int×List Int×vV12×Unit)⊕List UInt8) :=
 cond (decide (y3.1<(a0.length:Int))) (
(atI a0 y3.1).bind fun x1 =>
(cond (!decide (x1.1=1)) (
(zef x1.2.1).bind fun r2 =>
(catT [45,32] r2).bind fun s3 =>
(catT s3 [10]).bind fun s4 =>
(za1 s4 (y3.2.2.1.1,(),()) y3.2.1).bind fun q5 =>
 some (.inl (q5.2.2.1,q5.2.1,x1,()))) (
 some (.inl (y3.2.1,y3.2.2.1,x1,()))):Option ((List Int×vV12×vV8×Unit)⊕((Int×List Int×vV12×Unit)⊕List UInt8))).bind (aT fun v6 =>
 cond (!decide (v6.2.2.1.1=2)) (
(zef v6.2.2.1.2.2.1).bind fun r7 =>
(catT [43,32] r7).bind fun s8 =>
(catT s8 [10]).bind fun s9 =>
(za1 s9 (v6.2.1.1,(),()) v6.1).bind fun q10 =>
 some (.inl ((IntKind.wrap .i64 (y3.1+1)),q10.2.2.1,q10.2.1,()))) (
 some (.inl ((IntKind.wrap .i64 (y3.1+1)),v6.1,v6.2.1,()))))) (
((za6 (y3.2.2.1.1,(),()) y3.2.1).bind fun q11 =>
 some q11.1).map .inr)
def zdb (a0:List vV8):Option (List UInt8) :=
 aH (xk a0) (0,[],(false,(),()),())
def acB:TFn:={ ps:=(.cons (.sl tT23) .unit),res:=.str,fn:=fun v=>zdb v.1 }
def awe:TEnv:={ pure:=[(139,abT)],look:=[],glob:=G0T,ty:=[],raw:=[(138,vh),(140,pR)],fresh:=[] }
theorem awd:runY Tryz.prog amD awf awe aEB Tryz.f69 acB.ps acB.res=acB.fn:=by kernel_rfl
theorem amB:aA Tryz.prog G0 69 amC:=ai (ak ⟨au,(aj ak4 ac),(be aq6 (be vd ap)),ac,an⟩ Tryz.func69 rfl (by kernel_rfl))
theorem awc:TOk amC acB:=az (E:=amD) (ET:=awe) (EnvT.ofX (ax (ae atO al)) am (bq aCL rfl rfl (bq aea rfl rfl ar)) aK aq) awd rfl
def aoP:Env:=(eZ [(114,ab5)] [274])
def azJ:Hints:=(hZ [(6,[2,3,6,26,27,28]),(9,[2,3,6,26,27,28,33,34,35]),(16,[3,6,11,45,46,47])] [])
def ahe:PFn:=aB (runF Tryz.prog aoP azJ Tryz.f53)
def aFB:TH:={ joins:=[(14,{ keep:=[(2,(.bx 0 0)),(3,(.bx 1 0)),(6,(.mp 2))],mem:=[.same,.same,.map tT17 .bool] })],loops:=[(6,{ keep:=[(2,(.bx 0 0)),(3,(.bx 1 0)),(6,(.mp 2)),(28,(.int .i64))],mem:=[.same,.same,.map tT17 .bool] }),(9,{ keep:=[(2,(.bx 0 0)),(3,(.bx 1 0)),(6,(.mp 2)),(35,(.int .i64))],mem:=[.same,.same,.map tT17 .bool,.gone] }),(16,{ keep:=[(3,(.bx 1 0)),(6,(.mp 2)),(11,(.own 4)),(47,(.int .i64))],mem:=[.same,.same,.map tT17 .bool,.gone,.row true 72 tT17] })],ro:=[2,3] }
def xJ (y6:(Int×List ((Int×Int×Unit)×Bool)×Unit)) (x3:vV0) (y9:(Int×List ((Int×Int×Unit)×Bool)×Unit)):Option ((Int×List ((Int×Int×Unit)×Bool)×Unit)⊕((Int×List ((Int×Int×Unit)×Bool)×Unit)⊕((List ((Int×Int×Unit)×Bool)×Unit)⊕List (Int×Int×Unit)))) :=
 cond (decide (y9.1<(x3.2.2.2.2.1.length:Int))) (
(atI x3.2.2.2.2.1 y9.1).bind fun x4 =>
 some (.inl ((IntKind.wrap .i64 (y9.1+1)),(putK tT17 x4.1 true y9.2.1),()))) (
 some (.inr (.inl ((IntKind.wrap .i64 (y6.1+1)),y9.2.1,()))))
def rD (x2:vV4) (y6:(Int×List ((Int×Int×Unit)×Bool)×Unit)):Option ((Int×List ((Int×Int×Unit)×Bool)×Unit)⊕((List ((Int×Int×Unit)×Bool)×Unit)⊕List (Int×Int×Unit))) :=
 cond (decide (y6.1<(x2.2.2.2.2.1.length:Int))) (
(atI x2.2.2.2.2.1 y6.1).bind fun x3 =>
 aH (xJ y6 x3) (0,y6.2.1,())) (
 some (.inr (.inl (y6.2.1,()))))
def pO (a0:vV2) (a1:(Int×Int×Unit)) (y16:(Int×List ((Int×Int×Unit)×Bool)×List (Int×Int×Unit)×Unit)):Option ((Int×List ((Int×Int×Unit)×Bool)×List (Int×Int×Unit)×Unit)⊕List (Int×Int×Unit)) :=
 cond (decide (y16.1<(a0.1.length:Int))) (
(atI a0.1 y16.1).bind fun x6 =>
 cond ((getK tT17 false x6.1 y16.2.1).1) (cond (!(eqV tT17 x6.1 a1)) (
(bh (y16.2.2.1.length+([x6.1]:List (Int×Int×Unit)).length)).bind fun u7 =>
 some (.inl ((IntKind.wrap .i64 (y16.1+1)),y16.2.1,(y16.2.2.1++([x6.1]:List (Int×Int×Unit))),()))) (
 some (.inl ((IntKind.wrap .i64 (y16.1+1)),y16.2.1,y16.2.2.1,())))) (some (.inl ((IntKind.wrap .i64 (y16.1+1)),y16.2.1,y16.2.2.1,())))) (
 some (.inr y16.2.2.1))
def zbm (a0:vV2) (a1:(Int×Int×Unit)):Option (List (Int×Int×Unit)) :=
(ze5 a0.1 a1).bind fun r1 =>
 cond (decide (r1<0)) (
 some []) (
((atI a0.1 r1).bind fun x2 =>
 aH (rD x2) (0,[],()):Option ((List ((Int×Int×Unit)×Bool)×Unit)⊕List (Int×Int×Unit))).bind (aT fun v5 =>
 aH (pO a0 a1) (0,v5.1,[],())))
def aal:TFn:={ ps:=(.cons tT14 (.cons tT17 .unit)),res:=(.sl tT17),fn:=fun v=>zbm v.1 v.2.1 }
def azI:TEnv:={ pure:=[(114,uL)],look:=[],glob:=G0T,ty:=[(4,.bool),(72,tT17)],raw:=[],fresh:=[] }
theorem azH:runY Tryz.prog aoP azJ azI aFB Tryz.f53 aal.ps aal.res=aal.fn:=by kernel_rfl
theorem adz:aA Tryz.prog G0 53 ahe:=ai (ak ⟨au,(aj uM ac),ap,ac,an⟩ Tryz.func53 rfl (by kernel_rfl))
theorem ajA:TOk ahe aal:=az (E:=aoP) (ET:=azI) (EnvT.ofX (ax (ae ab4 al)) am ar aK aq) azH rfl
def aqT:Env:=(eZ [] [274])
def aCp:Hints:=(hZ [] [])
def aqS:PFn:=aB (runF Tryz.prog aqT aCp Tryz.f123)
def aGd:TH:={ loops:=[],ro:=[2] }
def za8 (a0:vV3) (a1:(Int×Int×Unit)):Option Bool :=
 some (eqV tT17 a0.1 a1)
def ad8:TFn:={ ps:=(.cons tT18 (.cons (.rp tT17 0) .unit)),res:=.bool,fn:=fun v=>za8 v.1 v.2.1 }
def aCo:TEnv:=(vZ [])
theorem aCn:runY Tryz.prog aqT aCp aCo aGd Tryz.f123 ad8.ps ad8.res=ad8.fn:=by kernel_rfl
theorem aqR:aA Tryz.prog G0 123 aqS:=ai (ak ⟨au,ac,ap,ac,an⟩ Tryz.func123 rfl (by kernel_rfl))
theorem aCm:TOk aqS ad8:=az (E:=aqT) (ET:=aCo) (EnvT.ofX (ax al) am ar aK aq) aCn rfl
def aqr:Env:=(eZ [(123,aqS)] [274])
def aBL:Hints:=(hZ [(2,[0,1,7,8])] [])
def aqq:PFn:=aB (runF Tryz.prog aqr aBL Tryz.f199)
def aF3:TH:={ loops:=[(2,{ keep:=[(8,(.int .i64))],mem:=[] })],ro:=[] }
def xZ (a0:List vV3) (a1:((Int×Int×Unit)×Unit)) (y2:(Int×Unit)):Option ((Int×Unit)⊕Int) :=
 cond (decide (y2.1<(a0.length:Int))) (
(atI a0 y2.1).bind fun x1 =>
(za8 x1 a1.1).bind fun r2 =>
 cond r2 (
 some (.inr y2.1)) (
 some (.inl ((IntKind.wrap .i64 (y2.1+1)),())))) (
 some (.inr (-1)))
def zai (a0:List vV3) (a1:((Int×Int×Unit)×Unit)):Option Int :=
 aH (xZ a0 a1) (0,())
def adZ:TFn:={ ps:=(.cons (.sl tT18) (.cons (.cl 123 (.cons (.rp tT17 0) .unit)) .unit)),res:=(.int .i64),fn:=fun v=>zai v.1 v.2.1 }
def aBK:TEnv:=(vZ [(123,ad8)])
theorem aBJ:runY Tryz.prog aqr aBL aBK aF3 Tryz.f199 adZ.ps adZ.res=adZ.fn:=by kernel_rfl
theorem aqp:aA Tryz.prog G0 199 aqq:=ai (ak ⟨au,(aj aqR ac),ap,ac,an⟩ Tryz.func199 rfl (by kernel_rfl))
theorem aBI:TOk aqq adZ:=az (E:=aqr) (ET:=aBK) (EnvT.ofX (ax (ae aCm al)) am ar aK aq) aBJ rfl
def aqy:Env:=(eZ [(199,aqq)] [274])
def aBU:Hints:=(hZ [] [])
def aqx:PFn:=aB (runF Tryz.prog aqy aBU Tryz.f122)
def aF5:TH:=yZ
def zag (a0:List vV3) (a1:((Int×Int×Unit)×Unit)):Option Bool :=
(zai a0 a1).bind fun r1 =>
 some (decide (r1≥0))
def ad0:TFn:={ ps:=(.cons (.sl tT18) (.cons (.cl 123 (.cons (.rp tT17 0) .unit)) .unit)),res:=.bool,fn:=fun v=>zag v.1 v.2.1 }
def aBT:TEnv:=(vZ [(199,adZ)])
theorem aBS:runY Tryz.prog aqy aBU aBT aF5 Tryz.f122 ad0.ps ad0.res=ad0.fn:=by kernel_rfl
theorem aqw:aA Tryz.prog G0 122 aqx:=ai (ak ⟨au,(aj aqp ac),ap,ac,an⟩ Tryz.func122 rfl (by kernel_rfl))
theorem aBR:TOk aqx ad0:=az (E:=aqy) (ET:=aBT) (EnvT.ofX (ax (ae aBI al)) am ar aK aq) aBS rfl
def apa:Env:=(eZ [(122,aqx)] [274])
def aAi:Hints:=(hZ [] [])
def ao9:PFn:=aB (runF Tryz.prog apa aAi Tryz.f121)
def aFK:TH:={ loops:=[],ro:=[2] }
def zbc (a0:vV0) (a1:(Int×Int×Unit)):Option Bool :=
(zag a0.2.2.2.2.1 (a1,())).bind fun r1 =>
 some r1
def adG:TFn:={ ps:=(.cons tT15 (.cons (.rp tT17 0) .unit)),res:=.bool,fn:=fun v=>zbc v.1 v.2.1 }
def aAh:TEnv:=(vZ [(122,ad0)])
theorem aAg:runY Tryz.prog apa aAi aAh aFK Tryz.f121 adG.ps adG.res=adG.fn:=by kernel_rfl
theorem ao8:aA Tryz.prog G0 121 ao9:=ai (ak ⟨au,(aj aqw ac),ap,ac,an⟩ Tryz.func121 rfl (by kernel_rfl))
theorem aAf:TOk ao9 adG:=az (E:=apa) (ET:=aAh) (EnvT.ofX (ax (ae aBR al)) am ar aK aq) aAg rfl
def aqf:Env:=(eZ [(121,ao9)] [274])
def aBz:Hints:=(hZ [(2,[0,1,7,8])] [])
def aqe:PFn:=aB (runF Tryz.prog aqf aBz Tryz.f198)
def aF1:TH:={ loops:=[(2,{ keep:=[(8,(.int .i64))],mem:=[] })],ro:=[] }
def xY (a0:List vV0) (a1:((Int×Int×Unit)×Unit)) (y2:(Int×Unit)):Option ((Int×Unit)⊕Int) :=
 cond (decide (y2.1<(a0.length:Int))) (
(atI a0 y2.1).bind fun x1 =>
(zbc x1 a1.1).bind fun r2 =>
 cond r2 (
 some (.inr y2.1)) (
 some (.inl ((IntKind.wrap .i64 (y2.1+1)),())))) (
 some (.inr (-1)))
def zam (a0:List vV0) (a1:((Int×Int×Unit)×Unit)):Option Int :=
 aH (xY a0 a1) (0,())
def adX:TFn:={ ps:=(.cons (.sl tT15) (.cons (.cl 121 (.cons (.rp tT17 0) .unit)) .unit)),res:=(.int .i64),fn:=fun v=>zam v.1 v.2.1 }
def aBy:TEnv:=(vZ [(121,adG)])
theorem aBx:runY Tryz.prog aqf aBz aBy aF1 Tryz.f198 adX.ps adX.res=adX.fn:=by kernel_rfl
theorem aqd:aA Tryz.prog G0 198 aqe:=ai (ak ⟨au,(aj ao8 ac),ap,ac,an⟩ Tryz.func198 rfl (by kernel_rfl))
theorem aBw:TOk aqe adX:=az (E:=aqf) (ET:=aBy) (EnvT.ofX (ax (ae aAf al)) am ar aK aq) aBx rfl
def aqo:Env:=(eZ [(198,aqe)] [274])
def aBH:Hints:=(hZ [] [])
def aqn:PFn:=aB (runF Tryz.prog aqo aBH Tryz.f120)
def aF2:TH:=yZ
def zaj (a0:List vV0) (a1:((Int×Int×Unit)×Unit)):Option Bool :=
(zam a0 a1).bind fun r1 =>
 some (decide (r1≥0))
def adY:TFn:={ ps:=(.cons (.sl tT15) (.cons (.cl 121 (.cons (.rp tT17 0) .unit)) .unit)),res:=.bool,fn:=fun v=>zaj v.1 v.2.1 }
def aBG:TEnv:=(vZ [(198,adX)])
theorem aBF:runY Tryz.prog aqo aBH aBG aF2 Tryz.f120 adY.ps adY.res=adY.fn:=by kernel_rfl
theorem aqm:aA Tryz.prog G0 120 aqn:=ai (ak ⟨au,(aj aqd ac),ap,ac,an⟩ Tryz.func120 rfl (by kernel_rfl))
theorem aBE:TOk aqn adY:=az (E:=aqo) (ET:=aBG) (EnvT.ofX (ax (ae aBw al)) am ar aK aq) aBF rfl
def aoZ:Env:=(eZ [(120,aqn)] [274])
def az2:Hints:={ seqs:=[],loops:=[(3,[3,5,9,10,11])],own:=[],frz:=[(1,[3])] }
def ahi:PFn:=aB (runF Tryz.prog aoZ az2 Tryz.f54)
def aFG:TH:={ loops:=[(3,{ keep:=[(5,(.own 3)),(11,(.int .i64))],mem:=[.same,.gone,.gone,.row true 72 tT17] })],ro:=[2] }
def xM (a0:vV2) (a1:(Int×Int×Unit)) (y3:(Int×List (Int×Int×Unit)×Unit)):Option ((Int×List (Int×Int×Unit)×Unit)⊕List (Int×Int×Unit)) :=
 cond (decide (y3.1<(a0.1.length:Int))) (
(atI a0.1 y3.1).bind fun x1 =>
 cond (!(eqV tT17 x1.1 a1)) ((zaj x1.2.2.2.2.1 (a1,())).bind fun r2 =>
 cond r2 (
(bh (y3.2.1.length+([x1.1]:List (Int×Int×Unit)).length)).bind fun u3 =>
 some (.inl ((IntKind.wrap .i64 (y3.1+1)),(y3.2.1++([x1.1]:List (Int×Int×Unit))),()))) (
 some (.inl ((IntKind.wrap .i64 (y3.1+1)),y3.2.1,())))) (some (.inl ((IntKind.wrap .i64 (y3.1+1)),y3.2.1,())))) (
 some (.inr y3.2.1))
def zbg (a0:vV2) (a1:(Int×Int×Unit)):Option (List (Int×Int×Unit)) :=
 aH (xM a0 a1) (0,[],())
def aan:TFn:={ ps:=(.cons tT14 (.cons tT17 .unit)),res:=(.sl tT17),fn:=fun v=>zbg v.1 v.2.1 }
def az1:TEnv:={ pure:=[(120,adY)],look:=[],glob:=G0T,ty:=[(72,tT17)],raw:=[],fresh:=[] }
theorem az0:runY Tryz.prog aoZ az2 az1 aFG Tryz.f54 aan.ps aan.res=aan.fn:=by kernel_rfl
theorem adD:aA Tryz.prog G0 54 ahi:=ai (ak ⟨au,(aj aqm ac),ap,ac,an⟩ Tryz.func54 rfl (by kernel_rfl))
theorem ajC:TOk ahi aan:=az (E:=aoZ) (ET:=az1) (EnvT.ofX (ax (ae aBE al)) am ar aK aq) az0 rfl
def am8:Env:=(eZ [(53,ahe),(54,ahi),(59,agV),(69,amC),(97,ak2),(119,akw)] [274])
def axb:Hints:=(hZ [] [])
def am7:PFn:=aB (runF Tryz.prog am8 axb Tryz.f51)
def aES:TH:={ loops:=[],cuts:=[(3,[(7,{ keep:=[(1,(.bx 0 0)),(24,.bool)],mem:=[.box 69 tT14] })])],ro:=[],news:=[] }
def zcu:Option Bool :=
(zet 1 1 []).bind fun r1 =>
(zeg ([],[],([0,0,0,0,0,0,0,0,0,0,0,0,0,0,0,0],[],()),([0,0,0,0,0,0,0,0,0,0,0,0,0,0,0,0],[],()),[[],[],[],[],[],[],[],[]],()) r1).bind fun r2 =>
(zet 2 2 ([((0,1,()),0,())]:List vV3)).bind fun r3 =>
(zeg r2 r3).bind fun r4 =>
(zd1 r4 (0,2,()) false).bind fun r5 =>
(cond (decide (r5.2.1=0)) ((zdb r5.1).bind fun r6 =>
 some ((decide (r6=[45,32,97,32,61,32,50,10,43,32,97,32,61,32,49,10])),r4,())) (some (false,r4,())):Option (Bool×vV2×Unit)).bind fun v7 =>
 cond v7.1 ((zbm v7.2.1 (0,2,())).bind fun r8 =>
 cond (decide ((r8.length:Int)=1)) ((zbg v7.2.1 (0,1,())).bind fun r9 =>
 some (decide ((r9.length:Int)=1))) (some false)) (some false)
def acR:TFn:={ ps:=.unit,res:=.bool,fn:=fun v=>zcu  }
def axa:TEnv:={ pure:=[(53,aal),(54,aan),(59,z6),(69,acB),(97,abS),(119,abC)],look:=[],glob:=G0T,ty:=[(146,tT18)],raw:=[],fresh:=[] }
theorem aw9:runY Tryz.prog am8 axb axa aES Tryz.f51 acR.ps acR.res=acR.fn:=by kernel_rfl
theorem am6:aA Tryz.prog G0 51 am7:=ai (ak ⟨au,(aj adz (aj adD (aj acL (aj amB (aj ak1 (aj akv ac)))))),ap,ac,an⟩ Tryz.func51 rfl (by kernel_rfl))
theorem aw8:TOk am7 acR:=az (E:=am8) (ET:=axa) (EnvT.ofX (ax (ae ajA (ae ajC (ae ajl (ae awc (ae atJ (ae asT al))))))) am ar aK aq) aw9 rfl
def alQ:Env:=(eZ [] [274])
def au6:Hints:=(hZ [(4,[0,1,5])] [])
def agN:PFn:=aB (runF Tryz.prog alQ au6 Tryz.f58)
def aEi:TH:={ loops:=[(4,{ keep:=[(5,(.int .i64))],mem:=[] })],ro:=[] }
def xe (a0:List (List UInt8)) (a1:List (List UInt8)) (y4:(Int×Unit)):Option ((Int×Unit)⊕Bool) :=
 cond (decide (y4.1<(a0.length:Int))) (
(atI a0 y4.1).bind fun x1 =>
(atI a1 y4.1).bind fun x2 =>
 cond (!decide (x1=x2)) (
 some (.inr false)) (
 some (.inl ((IntKind.wrap .i64 (y4.1+1)),())))) (
 some (.inr true))
def zdu (a0:List (List UInt8)) (a1:List (List UInt8)):Option Bool :=
 cond (!decide ((a0.length:Int)=(a1.length:Int))) (
 some false) (
 aH (xe a0 a1) (0,()))
def zT:TFn:={ ps:=(.cons (.sl .str) tT30),res:=.bool,fn:=fun v=>zdu v.1 v.2.1 }
def au5:TEnv:=(vZ [])
theorem au4:runY Tryz.prog alQ au6 au5 aEi Tryz.f58 zT.ps zT.res=zT.fn:=by kernel_rfl
theorem ack:aA Tryz.prog G0 58 agN:=ai (ak ⟨au,ac,ap,ac,an⟩ Tryz.func58 rfl (by kernel_rfl))
theorem ajf:TOk agN zT:=az (E:=alQ) (ET:=au5) (EnvT.ofX (ax al) am ar aK aq) au4 rfl
def amm:Env:=(eZ [] [274])
def avQ:Hints:=(hZ [(2,[0,3,5])] [])
def agP:PFn:=aB (runF Tryz.prog amm avQ Tryz.f36)
def aEu:TH:={ loops:=[(2,{ keep:=[(3,(.bx 0 0)),(5,(.int .i64))],mem:=[.same] })],ro:=[3] }
def xi (a0:List vV4) (a1:(Int×Int×Unit)) (y2:(Int×Unit)):Option ((Int×Unit)⊕Int) :=
 cond (decide (y2.1<(a0.length:Int))) (
(atI a0 y2.1).bind fun x1 =>
 cond (eqV tT17 x1.1 a1) (
 some (.inr y2.1)) (
 some (.inl ((IntKind.wrap .i64 (y2.1+1)),())))) (
 some (.inr (-1)))
def zdi (a0:List vV4) (a1:(Int×Int×Unit)):Option Int :=
 aH (xi a0 a1) (0,())
def zV:TFn:={ ps:=(.cons (.sl tT21) (.cons tT17 .unit)),res:=(.int .i64),fn:=fun v=>zdi v.1 v.2.1 }
def avP:TEnv:=(vZ [])
theorem avO:runY Tryz.prog amm avQ avP aEu Tryz.f36 zV.ps zV.res=zV.fn:=by kernel_rfl
theorem acw:aA Tryz.prog G0 36 agP:=ai (ak ⟨au,ac,ap,ac,an⟩ Tryz.func36 rfl (by kernel_rfl))
theorem ajh:TOk agP zV:=az (E:=amm) (ET:=avP) (EnvT.ofX (ax al) am ar aK aq) avO rfl
def akN:Env:=(eZ [] [274])
def ato:Hints:=(hZ [(2,[0,3,5])] [])
def abL:PFn:=aB (runF Tryz.prog akN ato Tryz.f48)
def aDQ:TH:={ loops:=[(2,{ keep:=[(3,(.bx 0 0)),(5,(.int .i64))],mem:=[.same] })],ro:=[3] }
def rn (a0:List vV3) (a1:(Int×Int×Unit)) (y2:(Int×Unit)):Option ((Int×Unit)⊕Int) :=
 cond (decide (y2.1<(a0.length:Int))) (
(atI a0 y2.1).bind fun x1 =>
 cond (eqV tT17 x1.1 a1) (
(atI a0 y2.1).bind fun x2 =>
 some (.inr x2.2.1)) (
 some (.inl ((IntKind.wrap .i64 (y2.1+1)),())))) (
 some (.inr 0))
def zem (a0:List vV3) (a1:(Int×Int×Unit)):Option Int :=
 aH (rn a0 a1) (0,())
def uF:TFn:={ ps:=(.cons (.sl tT18) (.cons tT17 .unit)),res:=(.int .i64),fn:=fun v=>zem v.1 v.2.1 }
def atn:TEnv:=(vZ [])
theorem atm:runY Tryz.prog akN ato atn aDQ Tryz.f48 uF.ps uF.res=uF.fn:=by kernel_rfl
theorem uG:aA Tryz.prog G0 48 abL:=ai (ak ⟨au,ac,ap,ac,an⟩ Tryz.func48 rfl (by kernel_rfl))
theorem abK:TOk abL uF:=az (E:=akN) (ET:=atn) (EnvT.ofX (ax al) am ar aK aq) atm rfl
def alP:Env:=(eZ [(48,abL)] [274])
def au3:Hints:=(hZ [] [])
def acj:PFn:=aB (runF Tryz.prog alP au3 Tryz.f37)
def aEh:TH:={ loops:=[],ro:=[3] }
def zdv (a0:List vV3) (a1:(Int×Int×Unit)):Option Bool :=
(zem a0 a1).bind fun r1 =>
(remT r1 2).bind fun t2 =>
 some (decide (t2=0))
def uR:TFn:={ ps:=(.cons (.sl tT18) (.cons tT17 .unit)),res:=.bool,fn:=fun v=>zdv v.1 v.2.1 }
def au2:TEnv:=(vZ [(48,uF)])
theorem au1:runY Tryz.prog alP au3 au2 aEh Tryz.f37 uR.ps uR.res=uR.fn:=by kernel_rfl
theorem uS:aA Tryz.prog G0 37 acj:=ai (ak ⟨au,(aj uG ac),ap,ac,an⟩ Tryz.func37 rfl (by kernel_rfl))
theorem aci:TOk acj uR:=az (E:=alP) (ET:=au2) (EnvT.ofX (ax (ae abK al)) am ar aK aq) au1 rfl
def am5:Env:=(eZ [(48,abL),(109,nP)] [274])
def aw7:Hints:=(hZ [] [])
def agY:PFn:=aB (runF Tryz.prog am5 aw7 Tryz.f203)
def aER:TH:={ loops:=[],ro:=[3] }
def zcv (a0:List vV3) (a1:(Int×Int×Unit)):Option (vV3×Int×Unit) :=
(zcy a1).bind fun r1 =>
 cond (!r1) (
 some (((0,0,()),0,()),2,())) (
(zem a0 a1).bind fun r2 =>
 cond (decide (r2≥64)) (
 some (((0,0,()),0,()),14,())) (
(zem a0 a1).bind fun r3 =>
 some ((a1,(IntKind.wrap .i64 (r3+1)),()),0,())))
def aaa:TFn:={ ps:=(.cons (.sl tT18) (.cons tT17 .unit)),res:=(.tup (.cons tT18 tT25)),fn:=fun v=>zcv v.1 v.2.1 }
def aw6:TEnv:=(vZ [(48,uF),(109,kY)])
theorem aw5:runY Tryz.prog am5 aw7 aw6 aER Tryz.f203 aaa.ps aaa.res=aaa.fn:=by kernel_rfl
theorem acQ:aA Tryz.prog G0 203 agY:=ai (ak ⟨au,(aj uG (aj gn ac)),ap,ac,an⟩ Tryz.func203 rfl (by kernel_rfl))
theorem ajo:TOk agY aaa:=az (E:=am5) (ET:=aw6) (EnvT.ofX (ax (ae abK (ae kx al))) am ar aK aq) aw5 rfl
def ali:Env:=(eZ [(203,agY),(270,abF)] [274])
def at8:Hints:=(hZ [] [])
def alh:PFn:=aB (runF Tryz.prog ali at8 Tryz.f271)
def aD1:TH:={ loops:=[],ro:=[2,3] }
def zeb (a0:vV2) (a1:(Int×Int×Unit)):Option Int :=
(zer a0.2.2.2.1 a1).bind fun r1 =>
 cond r1 (
 some 13) (
(zcv a0.2.1 a1).bind fun r2 =>
 some r2.2.1)
def abX:TFn:={ ps:=(.cons tT14 (.cons tT17 .unit)),res:=(.int .i64),fn:=fun v=>zeb v.1 v.2.1 }
def at7:TEnv:=(vZ [(203,aaa),(270,uD)])
theorem at6:runY Tryz.prog ali at8 at7 aD1 Tryz.f271 abX.ps abX.res=abX.fn:=by kernel_rfl
theorem alg:aA Tryz.prog G0 271 alh:=ai (ak ⟨au,(aj acQ (aj uE ac)),ap,ac,an⟩ Tryz.func271 rfl (by kernel_rfl))
theorem at5:TOk alh abX:=az (E:=ali) (ET:=at7) (EnvT.ofX (ax (ae ajo (ae abE al))) am ar aK aq) at6 rfl
def am3:Env:=(eZ [(36,agP),(37,acj),(270,abF),(271,alh)] [274])
def aw1:Hints:=(hZ [] [])
def am2:PFn:=aB (runF Tryz.prog am3 aw1 Tryz.f202)
def aEP:TH:={ loops:=[],ro:=[3,4] }
def zcx (a0:vV2) (a1:(Int×Int×Unit)) (a2:Bool):Option Int :=
(zdi a0.1 a1).bind fun r1 =>
 cond (decide (r1<0)) (
 some 12) (
(zer a0.2.2.2.1 a1).bind fun r2 =>
 cond r2 (
 some 13) (
(zdv a0.2.1 a1).bind fun r3 =>
 cond (r3==a2) (
 some 11) (
(zeb a0 a1).bind fun r4 =>
 some r4)))
def acO:TFn:={ ps:=tT28,res:=(.int .i64),fn:=fun v=>zcx v.1 v.2.1 v.2.2.1 }
def aw0:TEnv:=(vZ [(36,zV),(37,uR),(270,uD),(271,abX)])
theorem awZ:runY Tryz.prog am3 aw1 aw0 aEP Tryz.f202 acO.ps acO.res=acO.fn:=by kernel_rfl
theorem am1:aA Tryz.prog G0 202 am2:=ai (ak ⟨au,(aj acw (aj uS (aj uE (aj alg ac)))),ap,ac,an⟩ Tryz.func202 rfl (by kernel_rfl))
theorem awY:TOk am2 acO:=az (E:=am3) (ET:=aw0) (EnvT.ofX (ax (ae ajh (ae aci (ae abE (ae at5 al))))) am ar aK aq) awZ rfl
def ak0:Env:=(eZ [(48,abL),(101,rC),(224,agS)] [274])
def atH:Hints:=(hZ [(6,[0,3,5,6,7])] [])
def akZ:PFn:=aB (runF Tryz.prog ak0 atH Tryz.f321)
def aDV:TH:={ joins:=[(14,{ keep:=[(3,(.bx 0 0)),(5,(.own 1)),(6,.bool)],mem:=[.same,.row true 82 tT18] }),(12,{ keep:=[(3,(.bx 0 0)),(5,(.own 1)),(6,.bool)],mem:=[.same,.row true 82 tT18] })],loops:=[(6,{ keep:=[(3,(.bx 0 0)),(5,(.own 1)),(6,.bool),(7,(.int .i64))],mem:=[.same,.row true 82 tT18] })],ro:=[3] }
def w5 (a0:List vV3) (a1:vV3) (y6:(Bool×Int×List vV3×Unit)):Option ((Bool×Int×List vV3×Unit)⊕((Bool×List vV3×Unit)⊕List vV3)) :=
 cond (decide (y6.2.1<(a0.length:Int))) (
(atI a0 y6.2.1).bind fun x3 =>
(zbq a1.1 x3.1).bind fun r4 =>
(cond (!y6.1) (cond (decide (r4≤0)) (
(bh (y6.2.2.1.length+([a1]:List vV3).length)).bind fun u5 =>
 some (.inl (true,(y6.2.2.1++([a1]:List vV3)),()))) (
 some (.inl (y6.1,y6.2.2.1,())))) (some (.inl (y6.1,y6.2.2.1,()))):Option ((Bool×List vV3×Unit)⊕((Bool×Int×List vV3×Unit)⊕((Bool×List vV3×Unit)⊕List vV3)))).bind (aT fun v6 =>
 cond (!decide (r4=0)) (
(atI a0 y6.2.1).bind fun x7 =>
(bh (v6.2.1.length+([x7]:List vV3).length)).bind fun u8 =>
 some (.inl (v6.1,(IntKind.wrap .i64 (y6.2.1+1)),(v6.2.1++([x7]:List vV3)),()))) (
 some (.inl (v6.1,(IntKind.wrap .i64 (y6.2.1+1)),v6.2.1,()))))) (
 some (.inr (.inl (y6.1,y6.2.2.1,()))))
def zeh (a0:List vV3) (a1:vV3):Option (List vV3) :=
(zd9 a1).bind fun r1 =>
 cond (!r1) (some a0) ((zem a0 a1.1).bind fun r2 =>
 cond (decide (r2≥a1.2.1)) (
 some a0) (
(aH (w5 a0 a1) (false,0,[],()):Option ((Bool×List vV3×Unit)⊕List vV3)).bind (aT fun v9 =>
 cond (!v9.1) (
(bh (v9.2.1.length+([a1]:List vV3).length)).bind fun u10 =>
 some (v9.2.1++([a1]:List vV3))) (
 some v9.2.1))))
def abR:TFn:={ ps:=(.cons (.sl tT18) (.cons tT18 .unit)),res:=(.sl tT18),fn:=fun v=>zeh v.1 v.2.1 }
def atG:TEnv:={ pure:=[(48,uF),(101,nQ),(224,zX)],look:=[],glob:=G0T,ty:=[(82,tT18)],raw:=[],fresh:=[] }
theorem atF:runY Tryz.prog ak0 atH atG aDV Tryz.f321 abR.ps abR.res=abR.fn:=by kernel_rfl
theorem akY:aA Tryz.prog G0 321 akZ:=ai (ak ⟨au,(aj uG (aj jM (aj acD ac))),ap,ac,an⟩ Tryz.func321 rfl (by kernel_rfl))
theorem atE:TOk akZ abR:=az (E:=ak0) (ET:=atG) (EnvT.ofX (ax (ae abK (ae ow (ae aji al)))) am ar aK aq) atF rfl
def aml:Env:=(eZ [(321,akZ)] [274])
def avN:Hints:=(hZ [(3,[1,5,6])] [])
def amk:PFn:=aB (runF Tryz.prog aml avN Tryz.f272)
def aEt:TH:={ loops:=[(3,{ keep:=[(5,(.sl tT18)),(6,(.int .i64))],mem:=[] })],ro:=[] }
def rq (a1:List vV3) (y3:(List vV3×Int×Unit)):Option ((List vV3×Int×Unit)⊕List vV3) :=
 cond (decide (y3.2.1<(a1.length:Int))) (
(atI a1 y3.2.1).bind fun x1 =>
(zeh y3.1 x1).bind fun r2 =>
 some (.inl (r2,(IntKind.wrap .i64 (y3.2.1+1)),()))) (
 some (.inr y3.1))
def zdj (a0:List vV3) (a1:List vV3):Option (List vV3) :=
 aH (rq a1) (a0,0,())
def acv:TFn:={ ps:=(.cons (.sl tT18) (.cons (.sl tT18) .unit)),res:=(.sl tT18),fn:=fun v=>zdj v.1 v.2.1 }
def avM:TEnv:=(vZ [(321,abR)])
theorem avL:runY Tryz.prog aml avN avM aEt Tryz.f272 acv.ps acv.res=acv.fn:=by kernel_rfl
theorem amj:aA Tryz.prog G0 272 amk:=ai (ak ⟨au,(aj akY ac),ap,ac,an⟩ Tryz.func272 rfl (by kernel_rfl))
theorem avK:TOk amk acv:=az (E:=aml) (ET:=avM) (EnvT.ofX (ax (ae atE al)) am ar aK aq) avL rfl
def anf:Env:=(eZ [(272,amk)] [274])
def axj:Hints:=(hZ [] [])
def ane:PFn:=aB (runF Tryz.prog anf axj Tryz.f204)
def aEU:TH:=yZ
def zcs (a0:vV2) (a1:List vV3):Option vV2 :=
(zdj a0.2.1 a1).bind fun r1 =>
 some (a0.1,r1,a0.2.2.1,a0.2.2.2.1,a0.2.2.2.2.1,())
def acT:TFn:={ ps:=(.cons tT14 (.cons (.sl tT18) .unit)),res:=tT14,fn:=fun v=>zcs v.1 v.2.1 }
def axi:TEnv:=(vZ [(272,acv)])
theorem axh:runY Tryz.prog anf axj axi aEU Tryz.f204 acT.ps acT.res=acT.fn:=by kernel_rfl
theorem anc:aA Tryz.prog G0 204 ane:=ai (ak ⟨au,(aj amj ac),ap,ac,an⟩ Tryz.func204 rfl (by kernel_rfl))
theorem axg:TOk ane acT:=az (E:=anf) (ET:=axi) (EnvT.ofX (ax (ae avK al)) am ar aK aq) axh rfl
def apm:Env:=(eZ [] [274])
def aAC:Hints:=(hZ [(2,[2,3,5])] [])
def apl:PFn:=aB (runF Tryz.prog apm aAC Tryz.f151)
def aFP:TH:={ loops:=[(2,{ keep:=[(2,(.bx 0 0)),(3,(.bx 1 0)),(5,(.int .i64))],mem:=[.same,.same] })],ro:=[2,3] }
def xS (a0:vV0) (a1:vV3) (y2:(Int×Unit)):Option ((Int×Unit)⊕Bool) :=
 cond (decide (y2.1<(a0.2.2.2.2.1.length:Int))) (
(atI a0.2.2.2.2.1 y2.1).bind fun x1 =>
 cond (eqV tT18 x1 a1) (
 some (.inr true)) (
 some (.inl ((IntKind.wrap .i64 (y2.1+1)),())))) (
 some (.inr false))
def zb7 (a0:vV0) (a1:vV3):Option Bool :=
 aH (xS a0 a1) (0,())
def adI:TFn:={ ps:=(.cons tT15 (.cons tT18 .unit)),res:=.bool,fn:=fun v=>zb7 v.1 v.2.1 }
def aAB:TEnv:=(vZ [])
theorem aAA:runY Tryz.prog apm aAC aAB aFP Tryz.f151 adI.ps adI.res=adI.fn:=by kernel_rfl
theorem apk:aA Tryz.prog G0 151 apl:=ai (ak ⟨au,ac,ap,ac,an⟩ Tryz.func151 rfl (by kernel_rfl))
theorem aAz:TOk apl adI:=az (E:=apm) (ET:=aAB) (EnvT.ofX (ax al) am ar aK aq) aAA rfl
def aoE:Env:=(eZ [(37,acj),(151,apl)] [274])
def azr:Hints:=(hZ [(2,[0,1,5,7]),(5,[0,1,5,7,8])] [])
def aoD:PFn:=aB (runF Tryz.prog aoE azr Tryz.f79)
def aFw:TH:={ loops:=[(2,{ keep:=[(5,(.bx 0 0)),(7,(.int .i64))],mem:=[.same] }),(5,{ keep:=[(5,(.bx 0 0)),(8,(.int .i64))],mem:=[.same] })],ro:=[5] }
def xH (y2:(Int×Unit)) (a0:List vV4) (a1:List vV3) (a2:vV3) (y5:(Int×Unit)):Option ((Int×Unit)⊕((Int×Unit)⊕Bool)) :=
(atI a0 y2.1).bind fun x1 =>
 cond (decide (y5.1<(x1.2.2.2.2.1.length:Int))) (
(atI a0 y2.1).bind fun x2 =>
(atI x2.2.2.2.2.1 y5.1).bind fun x3 =>
(zb7 x3 a2).bind fun r4 =>
 cond r4 ((atI a0 y2.1).bind fun x5 =>
(zdv a1 x5.1).bind fun r6 =>
 cond r6 (
 some (.inr (.inr true))) (
 some (.inl ((IntKind.wrap .i64 (y5.1+1)),())))) (some (.inl ((IntKind.wrap .i64 (y5.1+1)),())))) (
 some (.inr (.inl ((IntKind.wrap .i64 (y2.1+1)),()))))
def xI (a0:List vV4) (a1:List vV3) (a2:vV3) (y2:(Int×Unit)):Option ((Int×Unit)⊕Bool) :=
 cond (decide (y2.1<(a0.length:Int))) (
 aH (xH y2 a0 a1 a2) (0,())) (
 some (.inr false))
def zbr (a0:List vV4) (a1:List vV3) (a2:vV3):Option Bool :=
 aH (xI a0 a1 a2) (0,())
def adv:TFn:={ ps:=(.cons (.sl tT21) (.cons (.sl tT18) (.cons tT18 .unit))),res:=.bool,fn:=fun v=>zbr v.1 v.2.1 v.2.2.1 }
def azq:TEnv:=(vZ [(37,uR),(151,adI)])
theorem azp:runY Tryz.prog aoE azr azq aFw Tryz.f79 adv.ps adv.res=adv.fn:=by kernel_rfl
theorem aoC:aA Tryz.prog G0 79 aoD:=ai (ak ⟨au,(aj uS (aj apk ac)),ap,ac,an⟩ Tryz.func79 rfl (by kernel_rfl))
theorem azo:TOk aoD adv:=az (E:=aoE) (ET:=azq) (EnvT.ofX (ax (ae aci (ae aAz al))) am ar aK aq) azp rfl
def akJ:Env:=(eZ [(37,acj),(79,aoD)] [274])
def ath:Hints:=(hZ [(3,[0,1,5,6]),(6,[0,1,5,6,7])] [72])
def akI:PFn:=aB (runF Tryz.prog akJ ath Tryz.f24)
def aDO:TH:={ loops:=[(3,{ keep:=[(5,(.own 2)),(6,(.int .i64))],mem:=[.gone,.gone,.row true 156 tT20] }),(6,{ keep:=[(5,(.own 2)),(7,(.int .i64))],mem:=[.gone,.gone,.row true 156 tT20] })],cuts:=[(10,[(8,{ keep:=[(5,(.own 2)),(8,(.bx 3 0)),(9,(.bx 4 0)),(48,.bool)],mem:=[.gone,.gone,.row true 156 tT20,.box 135 tT15,.box 146 tT18] })])],ro:=[],news:=[] }
def lM (y3:vV13) (a0:List vV4) (a1:List vV3) (y6:vV13):Option (vV13⊕(vV13⊕List vV7)) :=
(atI a0 y3.1).bind fun x1 =>
 cond (decide (y6.1<(x1.2.2.2.2.1.length:Int))) (
(atI a0 y3.1).bind fun x2 =>
(atI x2.2.2.2.2.1 y6.1).bind fun x3 =>
(atI a0 y3.1).bind fun x4 =>
(cond (decide (x3.1≥1)) (some ((decide (x3.1≤3)),y6.2.1,x3,(x4.1,y6.1,()),())) (some (false,y6.2.1,x3,(x4.1,y6.1,()),())):Option (Bool×List vV7×vV0×vV3×Unit)).bind fun v5 =>
 cond v5.1 ((atI a0 y3.1).bind fun x6 =>
(zdv a1 x6.1).bind fun r7 =>
 cond r7 ((zbr a0 a1 v5.2.2.2.1).bind fun r8 =>
 cond (!r8) (
(atI a0 y3.1).bind fun x9 =>
(bh (v5.2.1.length+([(v5.2.2.2.1,v5.2.2.1,x9.2.2.1,())]:List vV7).length)).bind fun u10 =>
 some (.inl ((IntKind.wrap .i64 (y6.1+1)),(v5.2.1++([(v5.2.2.2.1,v5.2.2.1,x9.2.2.1,())]:List vV7)),()))) (
 some (.inl ((IntKind.wrap .i64 (y6.1+1)),v5.2.1,())))) (some (.inl ((IntKind.wrap .i64 (y6.1+1)),v5.2.1,())))) (some (.inl ((IntKind.wrap .i64 (y6.1+1)),v5.2.1,())))) (
 some (.inr (.inl ((IntKind.wrap .i64 (y3.1+1)),y6.2.1,()))))
def wY (a0:List vV4) (a1:List vV3) (y3:vV13):Option (vV13⊕List vV7) :=
 cond (decide (y3.1<(a0.length:Int))) (
 aH (lM y3 a0 a1) (0,y3.2.1,())) (
 some (.inr y3.2.1))
def zeo (a0:List vV4) (a1:List vV3):Option (List vV7) :=
 aH (wY a0 a1) (0,[],())
def abI:TFn:={ ps:=(.cons (.sl tT21) (.cons (.sl tT18) .unit)),res:=(.sl tT20),fn:=fun v=>zeo v.1 v.2.1 }
def atg:TEnv:={ pure:=[(37,uR),(79,adv)],look:=[],glob:=G0T,ty:=[(156,tT20)],raw:=[],fresh:=[] }
theorem atf:runY Tryz.prog akJ ath atg aDO Tryz.f24 abI.ps abI.res=abI.fn:=by kernel_rfl
theorem akH:aA Tryz.prog G0 24 akI:=ai (ak ⟨au,(aj uS (aj aoC ac)),ap,ac,an⟩ Tryz.func24 rfl (by kernel_rfl))
theorem ate:TOk akI abI:=az (E:=akJ) (ET:=atg) (EnvT.ofX (ax (ae aci (ae azo al))) am ar aK aq) atf rfl
def anV:Env:=(eZ [(24,akI),(202,am2),(203,agY),(204,ane)] [274])
def ayh:Hints:=(hZ [] [])
def ag4:PFn:=aB (runF Tryz.prog anV ayh Tryz.f131)
def aFc:TH:={ loops:=[],ro:=[3,4] }
def zcb (a0:vV2) (a1:(Int×Int×Unit)) (a2:Bool):Option (List vV7×List vV7×Int×Unit) :=
(zcx a0 a1 a2).bind fun r1 =>
 cond (!decide (r1=0)) (
 some ([],[],r1,())) (
(zcv a0.2.1 a1).bind fun r2 =>
 cond (!decide (r2.2.1=0)) (
 some ([],[],r2.2.1,())) (
(zcs a0 ([r2.1]:List vV3)).bind fun r3 =>
(zeo a0.1 a0.2.1).bind fun r4 =>
(zeo r3.1 r3.2.1).bind fun r5 =>
 some (r4,r5,0,())))
def aae:TFn:={ ps:=tT28,res:=(.tup (.cons (.sl tT20) (.cons (.sl tT20) tT25))),fn:=fun v=>zcb v.1 v.2.1 v.2.2.1 }
def ayg:TEnv:={ pure:=[(24,abI),(202,acO),(203,aaa),(204,acT)],look:=[],glob:=G0T,ty:=[(82,tT18)],raw:=[],fresh:=[] }
theorem ayf:runY Tryz.prog anV ayh ayg aFc Tryz.f131 aae.ps aae.res=aae.fn:=by kernel_rfl
theorem ac8:aA Tryz.prog G0 131 ag4:=ai (ak ⟨au,(aj akH (aj am1 (aj acQ (aj anc ac)))),ap,ac,an⟩ Tryz.func131 rfl (by kernel_rfl))
theorem ajs:TOk ag4 aae:=az (E:=anV) (ET:=ayg) (EnvT.ofX (ax (ae ate (ae awY (ae ajo (ae axg al))))) am ar aK aq) ayf rfl
def alN:Env:=(eZ [] [274])
def auX:Hints:=(hZ [] [])
def agL:PFn:=aB (runF Tryz.prog alN auX Tryz.f207)
def aEf:TH:=yZ
def zdx (a0:Int):Option Int :=
 cond (decide (a0=1)) (
 some 1) (
 cond (decide (a0=2)) (some 2) (cond (decide (a0=4)) (
 some 2) (
 cond (decide (a0=3)) (
 some 3) (
 some 0))))
def zR:TFn:={ ps:=tT25,res:=(.int .i64),fn:=fun v=>zdx v.1 }
def auW:TEnv:=(vZ [])
theorem auV:runY Tryz.prog alN auX auW aEf Tryz.f207 zR.ps zR.res=zR.fn:=by kernel_rfl
theorem acg:aA Tryz.prog G0 207 agL:=ai (ak ⟨au,ac,ap,ac,an⟩ Tryz.func207 rfl (by kernel_rfl))
theorem ajd:TOk agL zR:=az (E:=alN) (ET:=auW) (EnvT.ofX (ax al) am ar aK aq) auV rfl
def amT:Env:=(eZ [] [274])
def awH:Hints:=(hZ [] [])
def agT:PFn:=aB (runF Tryz.prog amT awH Tryz.f352)
def aEJ:TH:=yZ
def zd3 (a0:Int) (a1:Int):Option Int :=
 cond (decide (a0<a1)) (
 some (-1)) (
 cond (decide (a0>a1)) (
 some 1) (
 some 0))
def zY:TFn:={ ps:=(.cons (.int .i64) tT25),res:=(.int .i64),fn:=fun v=>zd3 v.1 v.2.1 }
def awG:TEnv:=(vZ [])
theorem awF:runY Tryz.prog amT awH awG aEJ Tryz.f352 zY.ps zY.res=zY.fn:=by kernel_rfl
theorem acJ:aA Tryz.prog G0 352 agT:=ai (ak ⟨au,ac,ap,ac,an⟩ Tryz.func352 rfl (by kernel_rfl))
theorem ajj:TOk agT zY:=az (E:=amT) (ET:=awG) (EnvT.ofX (ax al) am ar aK aq) awF rfl
def anN:Env:=(eZ [(352,agT)] [274])
def ax3:Hints:=(hZ [(2,[0,1,5])] [])
def ag2:PFn:=aB (runF Tryz.prog anN ax3 Tryz.f322)
def aE8:TH:={ joins:=[(6,{ keep:=[],mem:=[] })],loops:=[(2,{ keep:=[(5,(.int .i64))],mem:=[] })],ro:=[] }
def ky (a0:List UInt8) (a1:List UInt8) (y2:(Int×Unit)):Option ((Int×Unit)⊕(Unit⊕Int)) :=
 cond (decide (y2.1<(a0.length:Int))) (cond (decide (y2.1<(a1.length:Int))) (
(atI a0 y2.1).bind fun b1 =>
(atI a1 y2.1).bind fun b2 =>
 cond (!decide ((b1.toNat:Int)=(b2.toNat:Int))) (
(atI a0 y2.1).bind fun b3 =>
(atI a1 y2.1).bind fun b4 =>
(zd3 (IntKind.wrap .i64 (b3.toNat:Int)) (IntKind.wrap .i64 (b4.toNat:Int))).bind fun r5 =>
 some (.inr (.inr r5))) (
 some (.inl ((IntKind.wrap .i64 (y2.1+1)),())))) (
 some (.inr (.inl ())))) (some (.inr (.inl ())))
def zcf (a0:List UInt8) (a1:List UInt8):Option Int :=
(aH (ky a0 a1) (0,()):Option (Unit⊕Int)).bind (aT fun v6 =>
(zd3 (a0.length:Int) (a1.length:Int)).bind fun r7 =>
 some r7)
def aac:TFn:={ ps:=(.cons .str (.cons .str .unit)),res:=(.int .i64),fn:=fun v=>zcf v.1 v.2.1 }
def ax2:TEnv:=(vZ [(352,zY)])
theorem ax1:runY Tryz.prog anN ax3 ax2 aE8 Tryz.f322 aac.ps aac.res=aac.fn:=by kernel_rfl
theorem ac4:aA Tryz.prog G0 322 ag2:=ai (ak ⟨au,(aj acJ ac),ap,ac,an⟩ Tryz.func322 rfl (by kernel_rfl))
theorem ajq:TOk ag2 aac:=az (E:=anN) (ET:=ax2) (EnvT.ofX (ax (ae ajj al)) am ar aK aq) ax1 rfl
def aoy:Env:=(eZ [(322,ag2)] [274])
def azh:Hints:=(hZ [(2,[0,1,5])] [])
def adr:PFn:=aB (runF Tryz.prog aoy azh Tryz.f273)
def aFt:TH:={ joins:=[(7,{ keep:=[],mem:=[] })],loops:=[(2,{ keep:=[(5,(.int .i64))],mem:=[] })],ro:=[] }
def lR (a0:List (List UInt8)) (a1:List (List UInt8)) (y2:(Int×Unit)):Option ((Int×Unit)⊕(Unit⊕Int)) :=
 cond (decide (y2.1<(a0.length:Int))) (cond (decide (y2.1<(a1.length:Int))) (
(atI a0 y2.1).bind fun x1 =>
(atI a1 y2.1).bind fun x2 =>
(zcf x1 x2).bind fun r3 =>
 cond (!decide (r3=0)) (
 some (.inr (.inr r3))) (
 some (.inl ((IntKind.wrap .i64 (y2.1+1)),())))) (
 some (.inr (.inl ())))) (some (.inr (.inl ())))
def zbu (a0:List (List UInt8)) (a1:List (List UInt8)):Option Int :=
(aH (lR a0 a1) (0,()):Option (Unit⊕Int)).bind (aT fun v4 =>
 cond (decide ((a0.length:Int)<(a1.length:Int))) (
 some (-1)) (
 cond (decide ((a0.length:Int)>(a1.length:Int))) (
 some 1) (
 some 0)))
def uW:TFn:={ ps:=(.cons (.sl .str) tT30),res:=(.int .i64),fn:=fun v=>zbu v.1 v.2.1 }
def azg:TEnv:=(vZ [(322,aac)])
theorem azf:runY Tryz.prog aoy azh azg aFt Tryz.f273 uW.ps uW.res=uW.fn:=by kernel_rfl
theorem uX:aA Tryz.prog G0 273 adr:=ai (ak ⟨au,(aj ac4 ac),ap,ac,an⟩ Tryz.func273 rfl (by kernel_rfl))
theorem adq:TOk adr uW:=az (E:=aoy) (ET:=azg) (EnvT.ofX (ax (ae ajq al)) am ar aK aq) azf rfl
def aoI:Env:=(eZ [(273,adr)] [274])
def azy:Hints:=(hZ [] [])
def aoH:PFn:=aB (runF Tryz.prog aoI azy Tryz.f208)
def aFy:TH:={ loops:=[],ro:=[2,3] }
def zbp (a0:vV5) (a1:vV5):Option Int :=
(zbu a0.1 a1.1).bind fun r1 =>
 cond (!decide (r1=0)) (
 some r1) (
 some (IntKind.wrap .i64 (a0.2.1-a1.2.1)))
def adw:TFn:={ ps:=(.cons tT22 (.cons tT22 .unit)),res:=(.int .i64),fn:=fun v=>zbp v.1 v.2.1 }
def azx:TEnv:=(vZ [(273,uW)])
theorem azw:runY Tryz.prog aoI azy azx aFy Tryz.f208 adw.ps adw.res=adw.fn:=by kernel_rfl
theorem aoG:aA Tryz.prog G0 208 aoH:=ai (ak ⟨au,(aj uX ac),ap,ac,an⟩ Tryz.func208 rfl (by kernel_rfl))
theorem azv:TOk aoH adw:=az (E:=aoI) (ET:=azx) (EnvT.ofX (ax (ae adq al)) am ar aK aq) azw rfl
def aon:Env:=(eZ [(207,agL),(208,aoH)] [274])
def ayZ:Hints:=(hZ [(3,[0,3,4]),(7,[0,3,4,5,6]),(12,[0,3,4,5,6,7])] [19,25])
def ag8:PFn:=aB (runF Tryz.prog aon ayZ Tryz.f136)
def aFo:TH:={ joins:=[(9,{ keep:=[(3,(.own 1)),(5,(.bx 2 0)),(6,(.int .i64))],mem:=[.gone,.row true 211 tT22,.box 211 tT22] }),(10,{ keep:=[(3,(.own 1)),(5,(.bx 2 0))],mem:=[.gone,.row true 211 tT22,.box 211 tT22] }),(15,{ keep:=[(3,(.own 1)),(5,(.bx 2 0))],mem:=[.gone,.row true 211 tT22,.box 211 tT22] })],loops:=[(3,{ keep:=[(3,(.own 1)),(4,(.int .i64))],mem:=[.gone,.row true 211 tT22] }),(7,{ keep:=[(3,(.own 1)),(5,(.bx 2 0)),(6,(.int .i64))],mem:=[.gone,.row true 211 tT22,.box 211 tT22] }),(12,{ keep:=[(3,(.own 1)),(5,(.bx 2 0)),(7,(.int .i64))],mem:=[.gone,.row true 211 tT22,.box 211 tT22] })],ro:=[] }
def ov (y7:(Int×List vV5×vV5×Unit)):Option ((Int×List vV5×vV5×Unit)⊕((Int×List vV5×vV5×Unit)⊕((Int×List vV5×Unit)⊕List vV5))) :=
 cond (decide (y7.1<(y7.2.1.length:Int))) ((inI y7.2.1.length y7.1).bind fun i4 =>
(y7.2.1[i4]?).bind fun x5 =>
(zbp x5 y7.2.2.1).bind fun r6 =>
 cond (decide (r6<0)) (
 some (.inl ((IntKind.wrap .i64 (y7.1+1)),y7.2.1,y7.2.2.1,()))) (
 some (.inr (.inl (y7.1,y7.2.1,y7.2.2.1,()))))) (some (.inr (.inl (y7.1,y7.2.1,y7.2.2.1,()))))
def iw (v7:(Int×List vV5×vV5×Unit)) (y12:(Int×List vV5×vV5×Unit)):Option ((Int×List vV5×vV5×Unit)⊕((List vV5×vV5×Unit)⊕((Int×List vV5×Unit)⊕List vV5))) :=
 cond (decide (y12.1>v7.1)) (
(inI y12.2.1.length (IntKind.wrap .i64 (y12.1-1))).bind fun i13 =>
(y12.2.1[i13]?).bind fun x14 =>
(inI y12.2.1.length y12.1).bind fun i15 =>
(y12.2.1[i15]?).bind fun x16 =>
 some (.inl ((IntKind.wrap .i64 (y12.1-1)),(y12.2.1.set i15 x14),y12.2.2.1,()))) (
 some (.inr (.inl (y12.2.1,y12.2.2.1,()))))
def rA (a0:List vV7) (y3:(Int×List vV5×Unit)):Option ((Int×List vV5×Unit)⊕List vV5) :=
 cond (decide (y3.1<(a0.length:Int))) (
(atI a0 y3.1).bind fun x1 =>
(atI a0 y3.1).bind fun x2 =>
(zdx x2.2.1.1).bind fun r3 =>
(aH (ov) (0,y3.2.1,(x1.2.1.2.1,r3,()),()):Option ((Int×List vV5×vV5×Unit)⊕((Int×List vV5×Unit)⊕List vV5))).bind (aT fun v7 =>
(cond (decide (v7.1<(v7.2.1.length:Int))) ((inI v7.2.1.length v7.1).bind fun i8 =>
(v7.2.1[i8]?).bind fun x9 =>
(zbp x9 v7.2.2.1).bind fun r10 =>
 cond (decide (r10=0)) (
 some (.inr (.inl ((IntKind.wrap .i64 (y3.1+1)),v7.2.1,())))) (
 some (.inl (v7.2.1,v7.2.2.1,())))) (some (.inl (v7.2.1,v7.2.2.1,()))):Option ((List vV5×vV5×Unit)⊕((Int×List vV5×Unit)⊕List vV5))).bind (aT fun v11 =>
(bh (v11.1.length+([v11.2.1]:List vV5).length)).bind fun u12 =>
(aH (iw v7) ((IntKind.wrap .i64 (((v11.1++([v11.2.1]:List vV5)).length:Int)-1)),(v11.1++([v11.2.1]:List vV5)),v11.2.1,()):Option ((List vV5×vV5×Unit)⊕((Int×List vV5×Unit)⊕List vV5))).bind (aT fun v17 =>
(inI v17.1.length v7.1).bind fun i18 =>
(v17.1[i18]?).bind fun x19 =>
 some (.inl ((IntKind.wrap .i64 (y3.1+1)),(v17.1.set i18 v17.2.1),())))))) (
 some (.inr y3.2.1))
def zbz (a0:List vV7):Option (List vV5) :=
 aH (rA a0) (0,[],())
def aai:TFn:={ ps:=(.cons (.sl tT20) .unit),res:=(.sl tT22),fn:=fun v=>zbz v.1 }
def ayY:TEnv:={ pure:=[(207,zR),(208,adw)],look:=[],glob:=G0T,ty:=[(211,tT22)],raw:=[],fresh:=[] }
theorem ayX:runY Tryz.prog aon ayZ ayY aFo Tryz.f136 aai.ps aai.res=aai.fn:=by kernel_rfl
theorem adl:aA Tryz.prog G0 136 ag8:=ai (ak ⟨au,(aj acg (aj aoG ac)),ap,ac,an⟩ Tryz.func136 rfl (by kernel_rfl))
theorem ajw:TOk ag8 aai:=az (E:=aon) (ET:=ayY) (EnvT.ofX (ax (ae ajd (ae azv al))) am ar aK aq) ayX rfl
def alA:Env:=(eZ [(207,agL),(273,adr)] [274])
def auE:Hints:=(hZ [(3,[0,1,2,7,8])] [])
def aca:PFn:=aB (runF Tryz.prog alA auE Tryz.f285)
def aEa:TH:={ loops:=[(3,{ keep:=[(7,(.own 0)),(8,(.int .i64))],mem:=[.row true 156 tT20] })],ro:=[] }
def xb (a0:List vV7) (a1:List (List UInt8)) (a2:Int) (y3:vV13):Option (vV13⊕List vV7) :=
 cond (decide (y3.1<(a0.length:Int))) (
(atI a0 y3.1).bind fun x1 =>
(zdx x1.2.1.1).bind fun r2 =>
 cond (decide (r2=a2)) ((atI a0 y3.1).bind fun x3 =>
(zbu x3.2.1.2.1 a1).bind fun r4 =>
 cond (decide (r4=0)) (
(atI a0 y3.1).bind fun x5 =>
(bh (y3.2.1.length+([x5]:List vV7).length)).bind fun u6 =>
 some (.inl ((IntKind.wrap .i64 (y3.1+1)),(y3.2.1++([x5]:List vV7)),()))) (
 some (.inl ((IntKind.wrap .i64 (y3.1+1)),y3.2.1,())))) (some (.inl ((IntKind.wrap .i64 (y3.1+1)),y3.2.1,())))) (
 some (.inr y3.2.1))
def ze2 (a0:List vV7) (a1:List (List UInt8)) (a2:Int):Option (List vV7) :=
 aH (xb a0 a1 a2) (0,[],())
def uP:TFn:={ ps:=(.cons (.sl tT20) (.cons (.sl .str) tT25)),res:=(.sl tT20),fn:=fun v=>ze2 v.1 v.2.1 v.2.2.1 }
def auD:TEnv:={ pure:=[(207,zR),(273,uW)],look:=[],glob:=G0T,ty:=[(156,tT20)],raw:=[],fresh:=[] }
theorem auC:runY Tryz.prog alA auE auD aEa Tryz.f285 uP.ps uP.res=uP.fn:=by kernel_rfl
theorem uQ:aA Tryz.prog G0 285 aca:=ai (ak ⟨au,(aj acg (aj uX ac)),ap,ac,an⟩ Tryz.func285 rfl (by kernel_rfl))
theorem ab9:TOk aca uP:=az (E:=alA) (ET:=auD) (EnvT.ofX (ax (ae ajd (ae adq al))) am ar aK aq) auC rfl
def aoO:Env:=(eZ [(322,ag2),(352,agT)] [274])
def azG:Hints:=(hZ [] [])
def aoN:PFn:=aB (runF Tryz.prog aoO azG Tryz.f329)
def aFA:TH:={ loops:=[],ro:=[2,3] }
def zbn (a0:vV6) (a1:vV6):Option Int :=
 cond (!decide (a0.1=a1.1)) (
(zd3 a0.1 a1.1).bind fun r1 =>
 some r1) (
 cond (!decide (a0.2.1=a1.2.1)) (
(zd3 a0.2.1 a1.2.1).bind fun r2 =>
 some r2) (
(zcf a0.2.2.1 a1.2.2.1).bind fun r3 =>
 some r3))
def ady:TFn:={ ps:=(.cons tT19 (.cons tT19 .unit)),res:=(.int .i64),fn:=fun v=>zbn v.1 v.2.1 }
def azF:TEnv:=(vZ [(322,aac),(352,zY)])
theorem azE:runY Tryz.prog aoO azG azF aFA Tryz.f329 ady.ps ady.res=ady.fn:=by kernel_rfl
theorem aoM:aA Tryz.prog G0 329 aoN:=ai (ak ⟨au,(aj ac4 (aj acJ ac)),ap,ac,an⟩ Tryz.func329 rfl (by kernel_rfl))
theorem azD:TOk aoN ady:=az (E:=aoO) (ET:=azF) (EnvT.ofX (ax (ae ajq (ae ajj al))) am ar aK aq) azE rfl
def anU:Env:=(eZ [(329,aoN)] [274])
def aye:Hints:=(hZ [(4,[0,3,5,6,7])] [])
def ag3:PFn:=aB (runF Tryz.prog anU aye Tryz.f286)
def aFb:TH:={ joins:=[(13,{ keep:=[(3,(.bx 0 0)),(5,(.own 1)),(6,.bool)],mem:=[.same,.row true 132 tT19] }),(12,{ keep:=[(3,(.bx 0 0)),(5,(.own 1)),(6,.bool)],mem:=[.same,.row true 132 tT19] })],loops:=[(4,{ keep:=[(3,(.bx 0 0)),(5,(.own 1)),(6,.bool),(7,(.int .i64))],mem:=[.same,.row true 132 tT19] })],ro:=[3] }
def rz (a0:List vV6) (a1:vV6) (y4:(Bool×Int×List vV6×Unit)):Option ((Bool×Int×List vV6×Unit)⊕((Bool×List vV6×Unit)⊕List vV6)) :=
 cond (decide (y4.2.1<(a0.length:Int))) (
(atI a0 y4.2.1).bind fun x1 =>
(zbn a1 x1).bind fun r2 =>
 cond (decide (r2=0)) (
 some (.inr (.inr a0))) (
(cond (decide (r2<0)) (cond (!y4.1) (
(bh (y4.2.2.1.length+([a1]:List vV6).length)).bind fun u3 =>
 some (.inl (true,(y4.2.2.1++([a1]:List vV6)),()))) (
 some (.inl (y4.1,y4.2.2.1,())))) (some (.inl (y4.1,y4.2.2.1,()))):Option ((Bool×List vV6×Unit)⊕((Bool×Int×List vV6×Unit)⊕((Bool×List vV6×Unit)⊕List vV6)))).bind (aT fun v4 =>
(atI a0 y4.2.1).bind fun x5 =>
(bh (v4.2.1.length+([x5]:List vV6).length)).bind fun u6 =>
 some (.inl (v4.1,(IntKind.wrap .i64 (y4.2.1+1)),(v4.2.1++([x5]:List vV6)),()))))) (
 some (.inr (.inl (y4.1,y4.2.2.1,()))))
def zcc (a0:List vV6) (a1:vV6):Option (List vV6) :=
(aH (rz a0 a1) (false,0,[],()):Option ((Bool×List vV6×Unit)⊕List vV6)).bind (aT fun v7 =>
 cond (!v7.1) (
(bh (v7.2.1.length+([a1]:List vV6).length)).bind fun u8 =>
 some (v7.2.1++([a1]:List vV6))) (
 some v7.2.1))
def aad:TFn:={ ps:=(.cons (.sl tT19) (.cons tT19 .unit)),res:=(.sl tT19),fn:=fun v=>zcc v.1 v.2.1 }
def ayd:TEnv:={ pure:=[(329,ady)],look:=[],glob:=G0T,ty:=[(132,tT19)],raw:=[],fresh:=[] }
theorem ayc:runY Tryz.prog anU aye ayd aFb Tryz.f286 aad.ps aad.res=aad.fn:=by kernel_rfl
theorem ac7:aA Tryz.prog G0 286 ag3:=ai (ak ⟨au,(aj aoM ac),ap,ac,an⟩ Tryz.func286 rfl (by kernel_rfl))
theorem ajr:TOk ag3 aad:=az (E:=anU) (ET:=ayd) (EnvT.ofX (ax (ae azD al)) am ar aK aq) ayc rfl
def apx:Env:=(eZ [(285,aca),(286,ag3)] [274])
def aAR:Hints:=(hZ [(4,[5,6,7])] [])
def apw:PFn:=aB (runF Tryz.prog apx aAR Tryz.f219)
def aFT:TH:={ loops:=[(4,{ keep:=[(5,(.sl tT19)),(7,(.int .i64))],mem:=[] })],ro:=[] }
def xU (r1:List vV7) (y4:(List vV6×Int×Unit)):Option ((List vV6×Int×Unit)⊕List vV6) :=
 cond (decide (y4.2.1<(r1.length:Int))) (
(atI r1 y4.2.1).bind fun x2 =>
(zcc y4.1 x2.2.1.2.2.1).bind fun r3 =>
 some (.inl (r3,(IntKind.wrap .i64 (y4.2.1+1)),()))) (
 some (.inr y4.1))
def zb1 (a0:List vV7) (a1:List (List UInt8)):Option (List vV6) :=
(ze2 a0 a1 1).bind fun r1 =>
 aH (xU r1) ([],0,())
def adR:TFn:={ ps:=(.cons (.sl tT20) tT30),res:=(.sl tT19),fn:=fun v=>zb1 v.1 v.2.1 }
def aAQ:TEnv:=(vZ [(285,uP),(286,aad)])
theorem aAP:runY Tryz.prog apx aAR aAQ aFT Tryz.f219 adR.ps adR.res=adR.fn:=by kernel_rfl
theorem apv:aA Tryz.prog G0 219 apw:=ai (ak ⟨au,(aj uQ (aj ac7 ac)),ap,ac,an⟩ Tryz.func219 rfl (by kernel_rfl))
theorem aAO:TOk apw adR:=az (E:=apx) (ET:=aAQ) (EnvT.ofX (ax (ae ab9 (ae ajr al))) am ar aK aq) aAP rfl
def apj:Env:=(eZ [(285,aca),(286,ag3)] [274])
def aAy:Hints:=(hZ [(4,[5,6,7])] [])
def api:PFn:=aB (runF Tryz.prog apj aAy Tryz.f220)
def aFO:TH:={ loops:=[(4,{ keep:=[(5,(.sl tT19)),(7,(.int .i64))],mem:=[] })],ro:=[] }
def xR (r1:List vV7) (y4:(List vV6×Int×Unit)):Option ((List vV6×Int×Unit)⊕List vV6) :=
 cond (decide (y4.2.1<(r1.length:Int))) (
(atI r1 y4.2.1).bind fun x2 =>
(zcc y4.1 x2.2.1.2.2.1).bind fun r3 =>
 some (.inl (r3,(IntKind.wrap .i64 (y4.2.1+1)),()))) (
 some (.inr y4.1))
def zb8 (a0:List vV7) (a1:List (List UInt8)):Option (List vV6) :=
(ze2 a0 a1 2).bind fun r1 =>
 aH (xR r1) ([],0,())
def adH:TFn:={ ps:=(.cons (.sl tT20) tT30),res:=(.sl tT19),fn:=fun v=>zb8 v.1 v.2.1 }
def aAx:TEnv:=(vZ [(285,uP),(286,aad)])
theorem aAw:runY Tryz.prog apj aAy aAx aFO Tryz.f220 adH.ps adH.res=adH.fn:=by kernel_rfl
theorem aph:aA Tryz.prog G0 220 api:=ai (ak ⟨au,(aj uQ (aj ac7 ac)),ap,ac,an⟩ Tryz.func220 rfl (by kernel_rfl))
theorem aAv:TOk api adH:=az (E:=apj) (ET:=aAx) (EnvT.ofX (ax (ae ab9 (ae ajr al))) am ar aK aq) aAw rfl
def aoj:Env:=(eZ [(285,aca)] [274])
def ayS:Hints:=(hZ [(4,[7,8,9,10])] [])
def aoi:PFn:=aB (runF Tryz.prog aoj ayS Tryz.f221)
def aFm:TH:={ joins:=[(11,{ keep:=[(7,(.int .i64)),(8,(.int .i64))],mem:=[] }),(9,{ keep:=[(7,(.int .i64))],mem:=[] })],loops:=[(4,{ keep:=[(7,(.int .i64)),(8,(.int .i64)),(10,(.int .i64))],mem:=[] })],ro:=[] }
def xF (r1:List vV7) (y4:(Int×Int×Int×Unit)):Option ((Int×Int×Int×Unit)⊕((Int×Int×Unit)⊕(Int×Int×Int×Unit))) :=
 cond (decide (y4.2.2.1<(r1.length:Int))) (
(atI r1 y4.2.2.1).bind fun x2 =>
(cond (decide (x2.2.1.2.2.2.1>0)) (
 some (.inl ((IntKind.wrap .i64 (y4.1+x2.2.1.2.2.2.1)),()))) (
 some (.inl (y4.1,()))):Option ((Int×Unit)⊕((Int×Int×Int×Unit)⊕((Int×Int×Unit)⊕(Int×Int×Int×Unit))))).bind (aT fun v3 =>
 cond (decide (x2.2.1.2.2.2.1<0)) (
 some (.inl (v3.1,(IntKind.wrap .i64 (y4.2.1-x2.2.1.2.2.2.1)),(IntKind.wrap .i64 (y4.2.2.1+1)),()))) (
 some (.inl (v3.1,y4.2.1,(IntKind.wrap .i64 (y4.2.2.1+1)),()))))) (
 some (.inr (.inl (y4.1,y4.2.1,()))))
def zc1 (a0:List vV7) (a1:List (List UInt8)):Option (Int×Int×Int×Unit) :=
(ze2 a0 a1 3).bind fun r1 =>
(aH (xF r1) (0,0,0,()):Option ((Int×Int×Unit)⊕(Int×Int×Int×Unit))).bind (aT fun v4 =>
 some (v4.1,v4.2.1,(r1.length:Int),()))
def adj:TFn:={ ps:=(.cons (.sl tT20) tT30),res:=(.tup (.cons (.int .i64) (.cons (.int .i64) tT25))),fn:=fun v=>zc1 v.1 v.2.1 }
def ayR:TEnv:=(vZ [(285,uP)])
theorem ayQ:runY Tryz.prog aoj ayS ayR aFm Tryz.f221 adj.ps adj.res=adj.fn:=by kernel_rfl
theorem aoh:aA Tryz.prog G0 221 aoi:=ai (ak ⟨au,(aj uQ ac),ap,ac,an⟩ Tryz.func221 rfl (by kernel_rfl))
theorem ayP:TOk aoi adj:=az (E:=aoj) (ET:=ayR) (EnvT.ofX (ax (ae ab9 al)) am ar aK aq) ayQ rfl
def akk:Env:=(eZ [(219,apw),(220,api),(221,aoi)] [274])
def asD:Hints:=(hZ [] [])
def akj:PFn:=aB (runF Tryz.prog akk asD Tryz.f147)
def aDE:TH:={ joins:=[(4,{ keep:=[(6,(.bx 0 0)),(7,(.bx 1 0))],mem:=[.box 150 (.agg (.cons .nilsl (.cons (.int .i64) (.cons .nilsl tT25)))),.box 150 tT16] }),(6,{ keep:=[(6,(.bx 0 0)),(7,(.bx 1 0))],mem:=[.box 150 (.agg (.cons .nilsl (.cons (.int .i64) (.cons .nilsl tT25)))),.box 150 tT16] })],loops:=[],ro:=[] }
def zey (a0:List vV7) (a1:List (List UInt8)) (a2:Int):Option vV1 :=
(cond (decide (a2=1)) (
(zb1 a0 a1).bind fun r1 =>
 some (.inl (((),0,(),0,()),(a1,a2,r1,0,()),()))) (
 some (.inl (((),0,(),0,()),(a1,a2,[],0,()),()))):Option (((Unit×Int×Unit×Int×Unit)×vV1×Unit)⊕vV1)).bind (aT fun v2 =>
(cond (decide (a2=2)) (
(zb8 a0 a1).bind fun r3 =>
 some (.inl (v2.1,(v2.2.1.1,v2.2.1.2.1,r3,v2.2.1.2.2.2.1,()),()))) (
 some (.inl (v2.1,v2.2.1,()))):Option (((Unit×Int×Unit×Int×Unit)×vV1×Unit)⊕vV1)).bind (aT fun v4 =>
 cond (decide (a2=3)) (
(zc1 a0 a1).bind fun r5 =>
 some (v4.2.1.1,v4.2.1.2.1,v4.2.1.2.2.1,(IntKind.wrap .i64 (r5.1-r5.2.1)),())) (
 some v4.2.1)))
def abx:TFn:={ ps:=(.cons (.sl tT20) (.cons (.sl .str) tT25)),res:=tT16,fn:=fun v=>zey v.1 v.2.1 v.2.2.1 }
def asC:TEnv:=(vZ [(219,adR),(220,adH),(221,adj)])
theorem asB:runY Tryz.prog akk asD asC aDE Tryz.f147 abx.ps abx.res=abx.fn:=by kernel_rfl
theorem aki:aA Tryz.prog G0 147 akj:=ai (ak ⟨au,(aj apv (aj aph (aj aoh ac))),ap,ac,an⟩ Tryz.func147 rfl (by kernel_rfl))
theorem asA:TOk akj abx:=az (E:=akk) (ET:=asC) (EnvT.ofX (ax (ae aAO (ae aAv (ae ayP al)))) am ar aK aq) asB rfl
def alD:Env:=(eZ [(136,ag8),(147,akj)] [274])
def auI:Hints:=(hZ [(4,[0,3,4,5])] [20,25])
def alC:PFn:=aB (runF Tryz.prog alD auI Tryz.f132)
def aEb:TH:={ loops:=[(4,{ keep:=[(4,(.own 0)),(5,(.int .i64))],mem:=[.row true 150 tT16] })],ro:=[] }
def xc (a0:List vV7) (r1:List vV5) (y4:(Int×List vV1×Unit)):Option ((Int×List vV1×Unit)⊕List vV1) :=
 cond (decide (y4.1<(r1.length:Int))) (
(atI r1 y4.1).bind fun x2 =>
(atI r1 y4.1).bind fun x3 =>
(zey a0 x2.1 x3.2.1).bind fun r4 =>
(bh (y4.2.1.length+([r4]:List vV1).length)).bind fun u5 =>
 some (.inl ((IntKind.wrap .i64 (y4.1+1)),(y4.2.1++([r4]:List vV1)),()))) (
 some (.inr y4.2.1))
def ze1 (a0:List vV7):Option (List vV1) :=
(zbz a0).bind fun r1 =>
 aH (xc a0 r1) (0,[],())
def acb:TFn:={ ps:=(.cons (.sl tT20) .unit),res:=(.sl tT16),fn:=fun v=>ze1 v.1 }
def auH:TEnv:={ pure:=[(136,aai),(147,abx)],look:=[],glob:=G0T,ty:=[(150,tT16)],raw:=[],fresh:=[] }
theorem auG:runY Tryz.prog alD auI auH aEb Tryz.f132 acb.ps acb.res=acb.fn:=by kernel_rfl
theorem alB:aA Tryz.prog G0 132 alC:=ai (ak ⟨au,(aj adl (aj aki ac)),ap,ac,an⟩ Tryz.func132 rfl (by kernel_rfl))
theorem auF:TOk alC acb:=az (E:=alD) (ET:=auH) (EnvT.ofX (ax (ae ajw (ae asA al))) am ar aK aq) auG rfl
def aov:Env:=(eZ [(273,adr)] [274])
def aza:Hints:=(hZ [] [])
def ag9:PFn:=aB (runF Tryz.prog aov aza Tryz.f222)
def aFr:TH:={ loops:=[],ro:=[2,3] }
def zbw (a0:vV1) (a1:vV1):Option Int :=
(zbu a0.1 a1.1).bind fun r1 =>
 cond (!decide (r1=0)) (
 some r1) (
 cond (decide (a0.2.1<a1.2.1)) (
 some (-1)) (
 cond (decide (a0.2.1>a1.2.1)) (
 some 1) (
 some 0)))
def aaj:TFn:={ ps:=(.cons tT16 (.cons tT16 .unit)),res:=(.int .i64),fn:=fun v=>zbw v.1 v.2.1 }
def ay9:TEnv:=(vZ [(273,uW)])
theorem ay8:runY Tryz.prog aov aza ay9 aFr Tryz.f222 aaj.ps aaj.res=aaj.fn:=by kernel_rfl
theorem ado:aA Tryz.prog G0 222 ag9:=ai (ak ⟨au,(aj uX ac),ap,ac,an⟩ Tryz.func222 rfl (by kernel_rfl))
theorem ajx:TOk ag9 aaj:=az (E:=aov) (ET:=ay9) (EnvT.ofX (ax (ae adq al)) am ar aK aq) ay8 rfl
def amb:Env:=(eZ [(222,ag9)] [274])
def avy:Hints:=(hZ [(2,[0,3,5])] [])
def ama:PFn:=aB (runF Tryz.prog amb avy Tryz.f148)
def aEp:TH:={ loops:=[(2,{ keep:=[(3,(.bx 0 0)),(5,(.int .i64))],mem:=[.same] })],ro:=[3] }
def oj (a0:List vV1) (a1:vV1) (y2:(Int×Unit)):Option ((Int×Unit)⊕Int) :=
 cond (decide (y2.1<(a0.length:Int))) (
(atI a0 y2.1).bind fun x1 =>
(zbw x1 a1).bind fun r2 =>
 cond (decide (r2=0)) (
 some (.inr y2.1)) (
 some (.inl ((IntKind.wrap .i64 (y2.1+1)),())))) (
 some (.inr (-1)))
def zdn (a0:List vV1) (a1:vV1):Option Int :=
 aH (oj a0 a1) (0,())
def acr:TFn:={ ps:=(.cons (.sl tT16) (.cons tT16 .unit)),res:=(.int .i64),fn:=fun v=>zdn v.1 v.2.1 }
def avx:TEnv:=(vZ [(222,aaj)])
theorem avw:runY Tryz.prog amb avy avx aEp Tryz.f148 acr.ps acr.res=acr.fn:=by kernel_rfl
theorem al9:aA Tryz.prog G0 148 ama:=ai (ak ⟨au,(aj ado ac),ap,ac,an⟩ Tryz.func148 rfl (by kernel_rfl))
theorem avv:TOk ama acr:=az (E:=amb) (ET:=avx) (EnvT.ofX (ax (ae ajx al)) am ar aK aq) avw rfl
def amK:Env:=(eZ [] [274])
def awq:Hints:=(hZ [] [])
def amJ:PFn:=aB (runF Tryz.prog amK awq Tryz.f223)
def aEE:TH:={ loops:=[],ro:=[1] }
def zd8 (a0:vV8):Option vV1 :=
 cond (decide (a0.1=1)) (
 some a0.2.2.1) (
 some a0.2.1)
def acE:TFn:={ ps:=(.cons tT23 .unit),res:=tT16,fn:=fun v=>zd8 v.1 }
def awp:TEnv:=(vZ [])
theorem awo:runY Tryz.prog amK awq awp aEE Tryz.f223 acE.ps acE.res=acE.fn:=by kernel_rfl
theorem amI:aA Tryz.prog G0 223 amJ:=ai (ak ⟨au,ac,ap,ac,an⟩ Tryz.func223 rfl (by kernel_rfl))
theorem awn:TOk amJ acE:=az (E:=amK) (ET:=awp) (EnvT.ofX (ax al) am ar aK aq) awo rfl
def anQ:Env:=(eZ [(222,ag9),(223,amJ)] [274])
def ax7:Hints:=(hZ [(4,[0,3,5,6,7])] [])
def anP:PFn:=aB (runF Tryz.prog anQ ax7 Tryz.f149)
def aE9:TH:={ joins:=[(10,{ keep:=[(3,(.bx 0 0)),(5,(.own 1)),(6,.bool)],mem:=[.same,.row true 152 tT23] }),(9,{ keep:=[(3,(.bx 0 0)),(5,(.own 1)),(6,.bool)],mem:=[.same,.row true 152 tT23] })],loops:=[(4,{ keep:=[(3,(.bx 0 0)),(5,(.own 1)),(6,.bool),(7,(.int .i64))],mem:=[.same,.row true 152 tT23] })],ro:=[3] }
def gp (a0:List vV8) (a1:vV8) (y4:(Bool×Int×List vV8×Unit)):Option ((Bool×Int×List vV8×Unit)⊕((Bool×List vV8×Unit)⊕List vV8)) :=
 cond (decide (y4.2.1<(a0.length:Int))) (
(cond (!y4.1) ((zd8 a1).bind fun r1 =>
(atI a0 y4.2.1).bind fun x2 =>
(zd8 x2).bind fun r3 =>
(zbw r1 r3).bind fun r4 =>
 cond (decide (r4<0)) (
(bh (y4.2.2.1.length+([a1]:List vV8).length)).bind fun u5 =>
 some (.inl (true,(y4.2.2.1++([a1]:List vV8)),()))) (
 some (.inl (y4.1,y4.2.2.1,())))) (some (.inl (y4.1,y4.2.2.1,()))):Option ((Bool×List vV8×Unit)⊕((Bool×Int×List vV8×Unit)⊕((Bool×List vV8×Unit)⊕List vV8)))).bind (aT fun v6 =>
(atI a0 y4.2.1).bind fun x7 =>
(bh (v6.2.1.length+([x7]:List vV8).length)).bind fun u8 =>
 some (.inl (v6.1,(IntKind.wrap .i64 (y4.2.1+1)),(v6.2.1++([x7]:List vV8)),())))) (
 some (.inr (.inl (y4.1,y4.2.2.1,()))))
def zce (a0:List vV8) (a1:vV8):Option (List vV8) :=
(aH (gp a0 a1) (false,0,[],()):Option ((Bool×List vV8×Unit)⊕List vV8)).bind (aT fun v9 =>
 cond (!v9.1) (
(bh (v9.2.1.length+([a1]:List vV8).length)).bind fun u10 =>
 some (v9.2.1++([a1]:List vV8))) (
 some v9.2.1))
def ac5:TFn:={ ps:=(.cons (.sl tT23) (.cons tT23 .unit)),res:=(.sl tT23),fn:=fun v=>zce v.1 v.2.1 }
def ax6:TEnv:={ pure:=[(222,aaj),(223,acE)],look:=[],glob:=G0T,ty:=[(152,tT23)],raw:=[],fresh:=[] }
theorem ax5:runY Tryz.prog anQ ax7 ax6 aE9 Tryz.f149 ac5.ps ac5.res=ac5.fn:=by kernel_rfl
theorem anO:aA Tryz.prog G0 149 anP:=ai (ak ⟨au,(aj ado (aj amI ac)),ap,ac,an⟩ Tryz.func149 rfl (by kernel_rfl))
theorem ax4:TOk anP ac5:=az (E:=anQ) (ET:=ax6) (EnvT.ofX (ax (ae ajx (ae awn al))) am ar aK aq) ax5 rfl
def alW:Env:=(eZ [] [274])
def ave:Hints:=(hZ [(4,[0,1,5])] [])
def alV:PFn:=aB (runF Tryz.prog alW ave Tryz.f80)
def aEk:TH:={ loops:=[(4,{ keep:=[(5,(.int .i64))],mem:=[] })],ro:=[] }
def xf (a0:List vV6) (a1:List vV6) (y4:(Int×Unit)):Option ((Int×Unit)⊕Bool) :=
 cond (decide (y4.1<(a0.length:Int))) (
(atI a0 y4.1).bind fun x1 =>
(atI a1 y4.1).bind fun x2 =>
 cond (!(eqV tT19 x1 x2)) (
 some (.inr false)) (
 some (.inl ((IntKind.wrap .i64 (y4.1+1)),())))) (
 some (.inr true))
def zds (a0:List vV6) (a1:List vV6):Option Bool :=
 cond (!decide ((a0.length:Int)=(a1.length:Int))) (
 some false) (
 aH (xf a0 a1) (0,()))
def acm:TFn:={ ps:=(.cons (.sl tT19) (.cons (.sl tT19) .unit)),res:=.bool,fn:=fun v=>zds v.1 v.2.1 }
def avd:TEnv:=(vZ [])
theorem avc:runY Tryz.prog alW ave avd aEk Tryz.f80 acm.ps acm.res=acm.fn:=by kernel_rfl
theorem alU:aA Tryz.prog G0 80 alV:=ai (ak ⟨au,ac,ap,ac,an⟩ Tryz.func80 rfl (by kernel_rfl))
theorem avb:TOk alV acm:=az (E:=alW) (ET:=avd) (EnvT.ofX (ax al) am ar aK aq) avc rfl
def amf:Env:=(eZ [(58,agN),(80,alV)] [274])
def avF:Hints:=(hZ [(4,[0,1,5])] [])
def agO:PFn:=aB (runF Tryz.prog amf avF Tryz.f25)
def aEr:TH:={ loops:=[(4,{ keep:=[(5,(.int .i64))],mem:=[] })],cuts:=[(6,[(24,{ keep:=[(40,.bool)],mem:=[] }),(14,{ keep:=[(54,.bool)],mem:=[] })])],ro:=[],news:=[] }
def xh (a0:List vV1) (a1:List vV1) (y4:(Int×Unit)):Option ((Int×Unit)⊕Bool) :=
 cond (decide (y4.1<(a0.length:Int))) (
((atI a0 y4.1).bind fun x1 =>
(atI a1 y4.1).bind fun x2 =>
 cond (!decide (x1.2.1=x2.2.1)) (some (true,())) ((atI a0 y4.1).bind fun x3 =>
(atI a1 y4.1).bind fun x4 =>
 some ((!decide (x3.2.2.2.1=x4.2.2.2.1)),())):Option (Bool×Unit)).bind fun v5 =>
(cond v5.1 (some (true,())) ((atI a0 y4.1).bind fun x6 =>
(atI a1 y4.1).bind fun x7 =>
(zdu x6.1 x7.1).bind fun r8 =>
 some ((!r8),())):Option (Bool×Unit)).bind fun v9 =>
 cond v9.1 (some (.inr false)) ((atI a0 y4.1).bind fun x10 =>
(atI a1 y4.1).bind fun x11 =>
(zds x10.2.2.1 x11.2.2.1).bind fun r12 =>
 cond (!r12) (
 some (.inr false)) (
 some (.inl ((IntKind.wrap .i64 (y4.1+1)),()))))) (
 some (.inr true))
def zdl (a0:List vV1) (a1:List vV1):Option Bool :=
 cond (!decide ((a0.length:Int)=(a1.length:Int))) (
 some false) (
 aH (xh a0 a1) (0,()))
def zU:TFn:={ ps:=(.cons (.sl tT16) (.cons (.sl tT16) .unit)),res:=.bool,fn:=fun v=>zdl v.1 v.2.1 }
def avE:TEnv:=(vZ [(58,zT),(80,acm)])
theorem avD:runY Tryz.prog amf avF avE aEr Tryz.f25 zU.ps zU.res=zU.fn:=by kernel_rfl
theorem act:aA Tryz.prog G0 25 agO:=ai (ak ⟨au,(aj ack (aj alU ac)),ap,ac,an⟩ Tryz.func25 rfl (by kernel_rfl))
theorem ajg:TOk agO zU:=az (E:=amf) (ET:=avE) (EnvT.ofX (ax (ae ajf (ae avb al))) am ar aK aq) avD rfl
def ami:Env:=(eZ [(25,agO)] [274])
def avJ:Hints:=(hZ [] [])
def amh:PFn:=aB (runF Tryz.prog ami avJ Tryz.f150)
def aEs:TH:={ loops:=[],ro:=[2,3] }
def zdk (a0:vV1) (a1:vV1):Option Bool :=
(zdl ([a0]:List vV1) ([a1]:List vV1)).bind fun r1 =>
 some r1
def acu:TFn:={ ps:=(.cons tT16 (.cons tT16 .unit)),res:=.bool,fn:=fun v=>zdk v.1 v.2.1 }
def avI:TEnv:={ pure:=[(25,zU)],look:=[],glob:=G0T,ty:=[(150,tT16)],raw:=[],fresh:=[] }
theorem avH:runY Tryz.prog ami avJ avI aEs Tryz.f150 acu.ps acu.res=acu.fn:=by kernel_rfl
theorem amg:aA Tryz.prog G0 150 amh:=ai (ak ⟨au,(aj act ac),ap,ac,an⟩ Tryz.func150 rfl (by kernel_rfl))
theorem avG:TOk amh acu:=az (E:=ami) (ET:=avI) (EnvT.ofX (ax (ae ajg al)) am ar aK aq) avH rfl
def amt:Env:=(eZ [(148,ama),(149,anP),(150,amh)] [274])
def av0:Hints:=(hZ [(3,[0,1,5,6]),(11,[0,1,5,8])] [])
def ams:PFn:=aB (runF Tryz.prog amt av0 Tryz.f78)
def aEx:TH:={ joins:=[(10,{ keep:=[(5,(.sl tT23))],mem:=[] })],loops:=[(3,{ keep:=[(5,(.sl tT23)),(6,(.int .i64))],mem:=[] }),(11,{ keep:=[(5,(.sl tT23)),(8,(.int .i64))],mem:=[] })],ro:=[] }
def rr (a0:List vV1) (a1:List vV1) (y3:(List vV8×Int×Unit)):Option ((List vV8×Int×Unit)⊕((List vV8×Unit)⊕List vV8)) :=
 cond (decide (y3.2.1<(a0.length:Int))) (
(atI a0 y3.2.1).bind fun x1 =>
(zdn a1 x1).bind fun r2 =>
 cond (decide (r2<0)) (
(atI a0 y3.2.1).bind fun x3 =>
(zce y3.1 (2,x3,([],0,[],0,()),())).bind fun r4 =>
 some (.inl (r4,(IntKind.wrap .i64 (y3.2.1+1)),()))) (
(atI a0 y3.2.1).bind fun x5 =>
(atI a1 r2).bind fun x6 =>
(zdk x5 x6).bind fun r7 =>
 cond (!r7) (
(atI a0 y3.2.1).bind fun x8 =>
(atI a1 r2).bind fun x9 =>
(zce y3.1 (3,x8,x9,())).bind fun r10 =>
 some (.inl (r10,(IntKind.wrap .i64 (y3.2.1+1)),()))) (
 some (.inl (y3.1,(IntKind.wrap .i64 (y3.2.1+1)),()))))) (
 some (.inr (.inl (y3.1,()))))
def lO (a0:List vV1) (a1:List vV1) (y11:(List vV8×Int×Unit)):Option ((List vV8×Int×Unit)⊕List vV8) :=
 cond (decide (y11.2.1<(a1.length:Int))) (
(atI a1 y11.2.1).bind fun x12 =>
(zdn a0 x12).bind fun r13 =>
 cond (decide (r13<0)) (
(atI a1 y11.2.1).bind fun x14 =>
(zce y11.1 (1,([],0,[],0,()),x14,())).bind fun r15 =>
 some (.inl (r15,(IntKind.wrap .i64 (y11.2.1+1)),()))) (
 some (.inl (y11.1,(IntKind.wrap .i64 (y11.2.1+1)),())))) (
 some (.inr y11.1))
def zdf (a0:List vV1) (a1:List vV1):Option (List vV8) :=
(aH (rr a0 a1) ([],0,()):Option ((List vV8×Unit)⊕List vV8)).bind (aT fun v11 =>
 aH (lO a0 a1) (v11.1,0,()))
def acy:TFn:={ ps:=(.cons (.sl tT16) (.cons (.sl tT16) .unit)),res:=(.sl tT23),fn:=fun v=>zdf v.1 v.2.1 }
def avZ:TEnv:=(vZ [(148,acr),(149,ac5),(150,acu)])
theorem avY:runY Tryz.prog amt av0 avZ aEx Tryz.f78 acy.ps acy.res=acy.fn:=by kernel_rfl
theorem amr:aA Tryz.prog G0 78 ams:=ai (ak ⟨au,(aj al9 (aj anO (aj amg ac))),ap,ac,an⟩ Tryz.func78 rfl (by kernel_rfl))
theorem avX:TOk ams acy:=az (E:=amt) (ET:=avZ) (EnvT.ofX (ax (ae avv (ae ax4 (ae avG al)))) am ar aK aq) avY rfl
def akn:Env:=(eZ [(78,ams),(131,ag4),(132,alC)] [274])
def asH:Hints:=(hZ [] [])
def akm:PFn:=aB (runF Tryz.prog akn asH Tryz.f60)
def aDF:TH:={ loops:=[],ro:=[3,4] }
def zex (a0:vV2) (a1:(Int×Int×Unit)) (a2:Bool):Option (List vV8×Int×Unit) :=
(zcb a0 a1 a2).bind fun r1 =>
 cond (!decide (r1.2.2.1=0)) (
 some ([],r1.2.2.1,())) (
(ze1 r1.1).bind fun r2 =>
(ze1 r1.2.1).bind fun r3 =>
(zdf r2 r3).bind fun r4 =>
 some (r4,0,()))
def aby:TFn:={ ps:=tT28,res:=(.tup (.cons (.sl tT23) tT25)),fn:=fun v=>zex v.1 v.2.1 v.2.2.1 }
def asG:TEnv:=(vZ [(78,acy),(131,aae),(132,acb)])
theorem asF:runY Tryz.prog akn asH asG aDF Tryz.f60 aby.ps aby.res=aby.fn:=by kernel_rfl
theorem akl:aA Tryz.prog G0 60 akm:=ai (ak ⟨au,(aj amr (aj ac8 (aj alB ac))),ap,ac,an⟩ Tryz.func60 rfl (by kernel_rfl))
theorem asE:TOk akm aby:=az (E:=akn) (ET:=asG) (EnvT.ofX (ax (ae avX (ae ajs (ae auF al)))) am ar aK aq) asF rfl
def akF:Env:=(eZ [] [274])
def ata:Hints:=(hZ [(3,[3,6,7,8])] [])
def akE:PFn:=aB (runF Tryz.prog akF ata Tryz.f206)
def aDM:TH:={ loops:=[(3,{ keep:=[(3,(.own 1)),(8,(.int .i64))],mem:=[.gone,.row true 146 tT18] })],ro:=[] }
def wX (a0:List vV7) (y3:(Int×List vV3×Unit)):Option ((Int×List vV3×Unit)⊕List vV3) :=
 cond (decide (y3.1<(a0.length:Int))) (
(atI a0 y3.1).bind fun x1 =>
(bh (y3.2.1.length+([x1.1]:List vV3).length)).bind fun u2 =>
 some (.inl ((IntKind.wrap .i64 (y3.1+1)),(y3.2.1++([x1.1]:List vV3)),()))) (
 some (.inr y3.2.1))
def zeq (a0:List vV7):Option (List vV3) :=
 aH (wX a0) (0,[],())
def abG:TFn:={ ps:=(.cons (.sl tT20) .unit),res:=(.sl tT18),fn:=fun v=>zeq v.1 }
def as9:TEnv:={ pure:=[],look:=[],glob:=G0T,ty:=[(146,tT18)],raw:=[],fresh:=[] }
theorem as8:runY Tryz.prog akF ata as9 aDM Tryz.f206 abG.ps abG.res=abG.fn:=by kernel_rfl
theorem akD:aA Tryz.prog G0 206 akE:=ai (ak ⟨au,ac,ap,ac,an⟩ Tryz.func206 rfl (by kernel_rfl))
theorem as7:TOk akE abG:=az (E:=akF) (ET:=as9) (EnvT.ofX (ax al) am ar aK aq) as8 rfl
def ao5:Env:=(eZ [(206,akE)] [274])
def aAa:Hints:=(hZ [(3,[0,5,13,14,15]),(9,[5,8,22,23,24])] [])
def ao4:PFn:=aB (runF Tryz.prog ao5 aAa Tryz.f134)
def aFI:TH:={ joins:=[(7,{ keep:=[(5,(.mp 0))],mem:=[.map tT18 .bool] })],loops:=[(3,{ keep:=[(5,(.mp 0)),(15,(.int .i64))],mem:=[.map tT18 .bool] }),(9,{ keep:=[(5,(.mp 0)),(8,(.own 2)),(24,(.int .i64))],mem:=[.map tT18 .bool,.gone,.row true 148 tT20] })],ro:=[] }
def xO (r1:List vV3) (y3:vV10):Option (vV10⊕((List (vV3×Bool)×Unit)⊕List vV7)) :=
 cond (decide (y3.1<(r1.length:Int))) (
(atI r1 y3.1).bind fun x2 =>
 some (.inl ((IntKind.wrap .i64 (y3.1+1)),(putK tT18 x2 true y3.2.1),()))) (
 some (.inr (.inl (y3.2.1,()))))
def xN (a0:List vV7) (y9:(Int×List (vV3×Bool)×List vV7×Unit)):Option ((Int×List (vV3×Bool)×List vV7×Unit)⊕List vV7) :=
 cond (decide (y9.1<(a0.length:Int))) (
(atI a0 y9.1).bind fun x4 =>
 cond (!((getK tT18 false x4.1 y9.2.1).1)) (
(bh (y9.2.2.1.length+([x4]:List vV7).length)).bind fun u5 =>
 some (.inl ((IntKind.wrap .i64 (y9.1+1)),y9.2.1,(y9.2.2.1++([x4]:List vV7)),()))) (
 some (.inl ((IntKind.wrap .i64 (y9.1+1)),y9.2.1,y9.2.2.1,())))) (
 some (.inr y9.2.2.1))
def zbe (a0:List vV7) (a1:List vV7):Option (List vV7) :=
((zeq a1).bind fun r1 =>
 aH (xO r1) (0,[],()):Option ((List (vV3×Bool)×Unit)⊕List vV7)).bind (aT fun v3 =>
 aH (xN a0) (0,v3.1,[],()))
def adE:TFn:={ ps:=(.cons (.sl tT20) (.cons (.sl tT20) .unit)),res:=(.sl tT20),fn:=fun v=>zbe v.1 v.2.1 }
def az9:TEnv:={ pure:=[(206,abG)],look:=[],glob:=G0T,ty:=[(4,.bool),(146,tT18),(148,tT20)],raw:=[],fresh:=[] }
theorem az8:runY Tryz.prog ao5 aAa az9 aFI Tryz.f134 adE.ps adE.res=adE.fn:=by kernel_rfl
theorem ao3:aA Tryz.prog G0 134 ao4:=ai (ak ⟨au,(aj akD ac),ap,ac,an⟩ Tryz.func134 rfl (by kernel_rfl))
theorem az7:TOk ao4 adE:=az (E:=ao5) (ET:=az9) (EnvT.ofX (ax (ae as7 al)) am ar aK aq) az8 rfl
def apS:Go.Shelf.Ren:=⟨fun | 4=>205 | n=>n,fun | 22=>37 | 25=>148 | 0=>0 | 3=>3 | 4=>4 | 9=>9 | 20=>20 | n=>n,fun | n=>n⟩
theorem ahx:Go.Proofs.Lays8.n4 Tryz.prog apS:={
 mixed:=by kernel_rfl
 f4:=⟨Tryz.f205.name,by decide,Tryz.func205.trans (congrArg some (by kernel_rfl))⟩
 t0:=Tryz.underlying0
 a0:=Tryz.isAgg0
 z0:=Tryz.sizeOf0
 v0:=Tryz.zeroValue0
 t3:=Tryz.underlying3
 a3:=Tryz.isAgg3
 z3:=Tryz.sizeOf3
 v3:=Tryz.zeroValue3
 t4:=Tryz.underlying4
 a4:=Tryz.isAgg4
 z4:=Tryz.sizeOf4
 v4:=Tryz.zeroValue4
 t9:=Tryz.underlying9
 a9:=Tryz.isAgg9
 z9:=Tryz.sizeOf9
 v9:=Tryz.zeroValue9
 t20:=Tryz.underlying20
 a20:=Tryz.isAgg20
 z20:=Tryz.sizeOf20
 v20:=Tryz.zeroValue20
 t22:=Tryz.underlying37
 a22:=Tryz.isAgg37
 z22:=Tryz.sizeOf37
 v22:=Tryz.zeroValue37 }
def apU:SFn:=wi 11 148
theorem apT:bB Tryz.prog G0 205 apU:=aiD ahx rfl rfl (fC (P:=Tryz.prog) (te:=148) (M:=11) (by kernel_rfl) (by kernel_rfl) (by kernel_rfl) (by kernel_rfl) (by kernel_rfl) (by kernel_rfl) (by kernel_rfl) (by kernel_rfl)) ⟨Tryz.f205,Tryz.func205,rfl,by kernel_rfl⟩
def zat (a0:Unit) (a1:Int):Option (List vV7):=aiE a1
def aBc:TNew:=afQ 148 tT20
theorem aBb:TNewOk apU aBc:=aiF rfl
def ap8:Env:={ pure:=[],raw:=[(205,apU)],glob:=G0,same:=[274],look:=[],ext:=[] }
def aBq:Hints:=(hZ [(3,[0,3,9,10,11]),(11,[6,25,26,27])] [])
def ap7:PFn:=aB (runF Tryz.prog ap8 aBq Tryz.f133)
def aFZ:TH:={ joins:=[(9,{ keep:=[(3,(.int .i64))],mem:=[] })],loops:=[(3,{ keep:=[(3,(.int .i64)),(11,(.int .i64))],mem:=[] }),(11,{ keep:=[(6,(.own 0)),(27,(.int .i64))],mem:=[.row false 148 tT20] })],ro:=[] }
def kC (a0:List (List vV7)) (y3:(Int×Int×Unit)):Option ((Int×Int×Unit)⊕((Int×Unit)⊕List vV7)) :=
 cond (decide (y3.2.1<(a0.length:Int))) (
(atI a0 y3.2.1).bind fun x1 =>
 cond (decide ((IntKind.wrap .i64 (y3.1+(x1.length:Int)))<0)) (
 none) (
 some (.inl ((IntKind.wrap .i64 (y3.1+(x1.length:Int))),(IntKind.wrap .i64 (y3.2.1+1)),())))) (
 some (.inr (.inl (y3.1,()))))
def gq (a0:List (List vV7)) (y11:vV13):Option (vV13⊕List vV7) :=
 cond (decide (y11.1<(a0.length:Int))) (
(atI a0 y11.1).bind fun x4 =>
(bh (y11.2.1.length+x4.length)).bind fun u5 =>
 some (.inl ((IntKind.wrap .i64 (y11.1+1)),(y11.2.1++x4),()))) (
 some (.inr y11.2.1))
def zao (a0:List (List vV7)):Option (List vV7) :=
(aH (kC a0) (0,0,()):Option ((Int×Unit)⊕List vV7)).bind (aT fun v2 =>
(zat () v2.1).bind fun n3 =>
 aH (gq a0) (0,n3,()))
def adW:TFn:={ ps:=(.cons (.sl (.sl tT20)) .unit),res:=(.sl tT20),fn:=fun v=>zao v.1 }
def aBp:TEnv:={ pure:=[],look:=[],glob:=G0T,ty:=[(148,tT20)],raw:=[],fresh:=[(205,aBc)] }
theorem aBo:runY Tryz.prog ap8 aBq aBp aFZ Tryz.f133 adW.ps adW.res=adW.fn:=by kernel_rfl
theorem ap6:aA Tryz.prog G0 133 ap7:=ai (ak ⟨au,ac,(be apT ap),ac,an⟩ Tryz.func133 rfl (by kernel_rfl))
theorem aBn:TOk ap7 adW:=az (E:=ap8) (ET:=aBp) (EnvT.ofX (ax al) am (iX ar rfl) aK (jd aBb rfl rfl rfl aq)) aBo rfl
def aoX:Env:=(eZ [(46,ag1),(50,agX),(55,ag6),(130,ahc),(133,ap7),(134,ao4)] [274])
def azX:Hints:=(hZ [] [])
def aoW:PFn:=aB (runF Tryz.prog aoX azX Tryz.f61)
def aFF:TH:={ loops:=[],ro:=[3,4] }
def zbi (a0:vV2) (a1:(Int×Int×Unit)) (a2:Bool):Option (List vV5×Int×Unit) :=
(zci a0 a1 a2).bind fun r1 =>
 cond (!decide (r1=0)) (
 some ([],r1,())) (
(zbt a0 a1).bind fun r2 =>
 cond (!decide (r2.2.1=0)) (
 some ([],r2.2.1,())) (
(zcw a0).bind fun r3 =>
(zcw r2.1).bind fun r4 =>
(zbe r3 r4).bind fun r5 =>
(zbe r4 r3).bind fun r6 =>
(zao ([r5,r6]:List (List vV7))).bind fun r7 =>
(zc5 r7).bind fun r8 =>
 some (r8,0,())))
def adC:TFn:={ ps:=tT28,res:=(.tup (.cons (.sl tT22) tT25)),fn:=fun v=>zbi v.1 v.2.1 v.2.2.1 }
def azW:TEnv:={ pure:=[(46,aab),(50,z8),(55,aag),(130,aak),(133,adW),(134,adE)],look:=[],glob:=G0T,ty:=[(37,(.sl tT20))],raw:=[],fresh:=[] }
theorem azV:runY Tryz.prog aoX azX azW aFF Tryz.f61 adC.ps adC.res=adC.fn:=by kernel_rfl
theorem aoV:aA Tryz.prog G0 61 aoW:=ai (ak ⟨au,(aj ac1 (aj acP (aj adf (aj ads (aj ap6 (aj ao3 ac)))))),ap,ac,an⟩ Tryz.func61 rfl (by kernel_rfl))
theorem azU:TOk aoW adC:=az (E:=aoX) (ET:=azW) (EnvT.ofX (ax (ae ajp (ae ajn (ae aju (ae ajy (ae aBn (ae az7 al))))))) am ar aK aq) azV rfl
def alf:Env:=(eZ [] [274])
def at4:Hints:=(hZ [(2,[0,3,5])] [])
def ale:PFn:=aB (runF Tryz.prog alf at4 Tryz.f135)
def aD0:TH:={ loops:=[(2,{ keep:=[(3,(.bx 0 0)),(5,(.int .i64))],mem:=[.same] })],ro:=[3] }
def w8 (a0:List vV7) (a1:vV3) (y2:(Int×Unit)):Option ((Int×Unit)⊕Bool) :=
 cond (decide (y2.1<(a0.length:Int))) (
(atI a0 y2.1).bind fun x1 =>
 cond (eqV tT18 x1.1 a1) (
 some (.inr true)) (
 some (.inl ((IntKind.wrap .i64 (y2.1+1)),())))) (
 some (.inr false))
def zec (a0:List vV7) (a1:vV3):Option Bool :=
 aH (w8 a0 a1) (0,())
def abW:TFn:={ ps:=(.cons (.sl tT20) (.cons tT18 .unit)),res:=.bool,fn:=fun v=>zec v.1 v.2.1 }
def at3:TEnv:=(vZ [])
theorem at2:runY Tryz.prog alf at4 at3 aD0 Tryz.f135 abW.ps abW.res=abW.fn:=by kernel_rfl
theorem ald:aA Tryz.prog G0 135 ale:=ai (ak ⟨au,ac,ap,ac,an⟩ Tryz.func135 rfl (by kernel_rfl))
theorem at1:TOk ale abW:=az (E:=alf) (ET:=at3) (EnvT.ofX (ax al) am ar aK aq) at2 rfl
def aou:Env:=(eZ [(131,ag4),(135,ale),(136,ag8)] [274])
def ay7:Hints:=(hZ [(6,[8,9,11,12]),(11,[8,9,11,13])] [67])
def aot:PFn:=aB (runF Tryz.prog aou ay7 Tryz.f62)
def aFq:TH:={ joins:=[(10,{ keep:=[(11,(.own 2))],mem:=[.same,.same,.row true 156 tT20] }),(15,{ keep:=[(11,(.own 2))],mem:=[.same,.same,.row true 156 tT20] })],loops:=[(6,{ keep:=[(11,(.own 2)),(12,(.int .i64))],mem:=[.same,.same,.row true 156 tT20] }),(11,{ keep:=[(11,(.own 2)),(13,(.int .i64))],mem:=[.same,.same,.row true 156 tT20] })],ro:=[3,4] }
def rB (r1:(List vV7×List vV7×Int×Unit)) (y6:vV13):Option (vV13⊕((List vV7×Unit)⊕(List vV5×Int×Unit))) :=
 cond (decide (y6.1<(r1.1.length:Int))) (
(atI r1.1 y6.1).bind fun x2 =>
(zec r1.2.1 x2.1).bind fun r3 =>
 cond (!r3) (
(atI r1.1 y6.1).bind fun x4 =>
(bh (y6.2.1.length+([x4]:List vV7).length)).bind fun u5 =>
 some (.inl ((IntKind.wrap .i64 (y6.1+1)),(y6.2.1++([x4]:List vV7)),()))) (
 some (.inl ((IntKind.wrap .i64 (y6.1+1)),y6.2.1,())))) (
 some (.inr (.inl (y6.2.1,()))))
def lQ (r1:(List vV7×List vV7×Int×Unit)) (y11:vV13):Option (vV13⊕((List vV7×Unit)⊕(List vV5×Int×Unit))) :=
 cond (decide (y11.1<(r1.2.1.length:Int))) (
(atI r1.2.1 y11.1).bind fun x7 =>
(zec r1.1 x7.1).bind fun r8 =>
 cond (!r8) (
(atI r1.2.1 y11.1).bind fun x9 =>
(bh (y11.2.1.length+([x9]:List vV7).length)).bind fun u10 =>
 some (.inl ((IntKind.wrap .i64 (y11.1+1)),(y11.2.1++([x9]:List vV7)),()))) (
 some (.inl ((IntKind.wrap .i64 (y11.1+1)),y11.2.1,())))) (
 some (.inr (.inl (y11.2.1,()))))
def zbx (a0:vV2) (a1:(Int×Int×Unit)) (a2:Bool):Option (List vV5×Int×Unit) :=
(zcb a0 a1 a2).bind fun r1 =>
 cond (!decide (r1.2.2.1=0)) (
 some ([],r1.2.2.1,())) (
(aH (rB r1) (0,[],()):Option ((List vV7×Unit)⊕(List vV5×Int×Unit))).bind (aT fun v6 =>
(aH (lQ r1) (0,v6.1,()):Option ((List vV7×Unit)⊕(List vV5×Int×Unit))).bind (aT fun v11 =>
(zbz v11.1).bind fun r12 =>
 some (r12,0,()))))
def adn:TFn:={ ps:=tT28,res:=(.tup (.cons (.sl tT22) tT25)),fn:=fun v=>zbx v.1 v.2.1 v.2.2.1 }
def ay6:TEnv:={ pure:=[(131,aae),(135,abW),(136,aai)],look:=[],glob:=G0T,ty:=[(156,tT20)],raw:=[],fresh:=[] }
theorem ay5:runY Tryz.prog aou ay7 ay6 aFq Tryz.f62 adn.ps adn.res=adn.fn:=by kernel_rfl
theorem aos:aA Tryz.prog G0 62 aot:=ai (ak ⟨au,(aj ac8 (aj ald (aj adl ac))),ap,ac,an⟩ Tryz.func62 rfl (by kernel_rfl))
theorem ay4:TOk aot adn:=az (E:=aou) (ET:=ay6) (EnvT.ofX (ax (ae ajs (ae at1 (ae ajw al)))) am ar aK aq) ay5 rfl
def aps:Env:=(eZ [] [274])
def aAK:Hints:=(hZ [(3,[0,3,4])] [16,21,26,31])
def apr:PFn:=aB (runF Tryz.prog aps aAK Tryz.f26)
def aFR:TH:={ loops:=[(3,{ keep:=[(3,(.own 0)),(4,(.int .i64))],mem:=[.row true 150 tT16] })],ro:=[] }
def xT (a0:List vV1) (y3:(Int×List vV1×Unit)):Option ((Int×List vV1×Unit)⊕List vV1) :=
 cond (decide (y3.1<(a0.length:Int))) (
(atI a0 y3.1).bind fun x1 =>
(atI a0 y3.1).bind fun x2 =>
(atI a0 y3.1).bind fun x3 =>
(atI a0 y3.1).bind fun x4 =>
(bh (y3.2.1.length+([(x1.1,x2.2.1,x3.2.2.1,x4.2.2.2.1,())]:List vV1).length)).bind fun u5 =>
 some (.inl ((IntKind.wrap .i64 (y3.1+1)),(y3.2.1++([(x1.1,x2.2.1,x3.2.2.1,x4.2.2.2.1,())]:List vV1)),()))) (
 some (.inr y3.2.1))
def zb4 (a0:List vV1):Option (List vV1) :=
 aH (xT a0) (0,[],())
def adN:TFn:={ ps:=(.cons (.sl tT16) .unit),res:=(.sl tT16),fn:=fun v=>zb4 v.1 }
def aAJ:TEnv:={ pure:=[],look:=[],glob:=G0T,ty:=[(150,tT16)],raw:=[],fresh:=[] }
theorem aAI:runY Tryz.prog aps aAK aAJ aFR Tryz.f26 adN.ps adN.res=adN.fn:=by kernel_rfl
theorem apq:aA Tryz.prog G0 26 apr:=ai (ak ⟨au,ac,ap,ac,an⟩ Tryz.func26 rfl (by kernel_rfl))
theorem aAH:TOk apr adN:=az (E:=aps) (ET:=aAJ) (EnvT.ofX (ax al) am ar aK aq) aAI rfl
def amO:Env:=(eZ [(25,agO),(26,apr)] [274])
def awx:Hints:=(hZ [(4,[0,1,5])] [21,26,33,38,45,50])
def amN:PFn:=aB (runF Tryz.prog amO awx Tryz.f63)
def aEG:TH:={ loops:=[(4,{ keep:=[(5,(.int .i64))],mem:=[] })],ro:=[] }
def xl (a0:List vV8) (a1:List vV8) (y4:(Int×Unit)):Option ((Int×Unit)⊕Bool) :=
 cond (decide (y4.1<(a0.length:Int))) (
(atI a0 y4.1).bind fun x1 =>
(atI a1 y4.1).bind fun x2 =>
 cond (!decide (x1.1=x2.1)) (some (.inr false)) ((atI a0 y4.1).bind fun x3 =>
(atI a0 y4.1).bind fun x4 =>
(zb4 ([x3.2.1,x4.2.2.1]:List vV1)).bind fun r5 =>
(atI a1 y4.1).bind fun x6 =>
(atI a1 y4.1).bind fun x7 =>
(zdl r5 ([x6.2.1,x7.2.2.1]:List vV1)).bind fun r8 =>
 cond (!r8) (
 some (.inr false)) (
 some (.inl ((IntKind.wrap .i64 (y4.1+1)),()))))) (
 some (.inr true))
def zd6 (a0:List vV8) (a1:List vV8):Option Bool :=
 cond (!decide ((a0.length:Int)=(a1.length:Int))) (
 some false) (
 aH (xl a0 a1) (0,()))
def acH:TFn:={ ps:=(.cons (.sl tT23) (.cons (.sl tT23) .unit)),res:=.bool,fn:=fun v=>zd6 v.1 v.2.1 }
def aww:TEnv:={ pure:=[(25,zU),(26,adN)],look:=[],glob:=G0T,ty:=[(125,tT16),(150,tT16)],raw:=[],fresh:=[] }
theorem awv:runY Tryz.prog amO awx aww aEG Tryz.f63 acH.ps acH.res=acH.fn:=by kernel_rfl
theorem amM:aA Tryz.prog G0 63 amN:=ai (ak ⟨au,(aj act (aj apq ac)),ap,ac,an⟩ Tryz.func63 rfl (by kernel_rfl))
theorem awu:TOk amN acH:=az (E:=amO) (ET:=aww) (EnvT.ofX (ax (ae ajg (ae aAH al))) am ar aK aq) awv rfl
def apA:Env:=(eZ [(58,agN)] [274])
def aAV:Hints:=(hZ [(4,[0,1,5])] [])
def apz:PFn:=aB (runF Tryz.prog apA aAV Tryz.f64)
def aFU:TH:={ loops:=[(4,{ keep:=[(5,(.int .i64))],mem:=[] })],ro:=[] }
def xV (a0:List vV5) (a1:List vV5) (y4:(Int×Unit)):Option ((Int×Unit)⊕Bool) :=
 cond (decide (y4.1<(a0.length:Int))) (
(atI a0 y4.1).bind fun x1 =>
(atI a1 y4.1).bind fun x2 =>
 cond (!decide (x1.2.1=x2.2.1)) (some (.inr false)) ((atI a0 y4.1).bind fun x3 =>
(atI a1 y4.1).bind fun x4 =>
(zdu x3.1 x4.1).bind fun r5 =>
 cond (!r5) (
 some (.inr false)) (
 some (.inl ((IntKind.wrap .i64 (y4.1+1)),()))))) (
 some (.inr true))
def zb0 (a0:List vV5) (a1:List vV5):Option Bool :=
 cond (!decide ((a0.length:Int)=(a1.length:Int))) (
 some false) (
 aH (xV a0 a1) (0,()))
def adS:TFn:={ ps:=(.cons (.sl tT22) (.cons (.sl tT22) .unit)),res:=.bool,fn:=fun v=>zb0 v.1 v.2.1 }
def aAU:TEnv:=(vZ [(58,zT)])
theorem aAT:runY Tryz.prog apA aAV aAU aFU Tryz.f64 adS.ps adS.res=adS.fn:=by kernel_rfl
theorem apy:aA Tryz.prog G0 64 apz:=ai (ak ⟨au,(aj ack ac),ap,ac,an⟩ Tryz.func64 rfl (by kernel_rfl))
theorem aAS:TOk apz adS:=az (E:=apA) (ET:=aAU) (EnvT.ofX (ax (ae ajf al)) am ar aK aq) aAT rfl
def amZ:Env:=(eZ [] [274])
def awU:Hints:=(hZ [(2,[2,3,5]),(5,[2,3,5,6])] [])
def agW:PFn:=aB (runF Tryz.prog amZ awU Tryz.f137)
def aEN:TH:={ loops:=[(2,{ keep:=[(2,(.bx 0 0)),(3,(.bx 1 0)),(5,(.int .i64))],mem:=[.same,.same] }),(5,{ keep:=[(2,(.bx 0 0)),(3,(.bx 1 0)),(6,(.int .i64))],mem:=[.same,.same] })],ro:=[2,3] }
def xq (y2:(Int×Unit)) (a0:vV4) (a1:(Int×Int×Unit)) (y5:(Int×Unit)):Option ((Int×Unit)⊕((Int×Unit)⊕Bool)) :=
(atI a0.2.2.2.2.1 y2.1).bind fun x1 =>
 cond (decide (y5.1<(x1.2.2.2.2.1.length:Int))) (
(atI a0.2.2.2.2.1 y2.1).bind fun x2 =>
(atI x2.2.2.2.2.1 y5.1).bind fun x3 =>
 cond (eqV tT17 x3.1 a1) (
 some (.inr (.inr true))) (
 some (.inl ((IntKind.wrap .i64 (y5.1+1)),())))) (
 some (.inr (.inl ((IntKind.wrap .i64 (y2.1+1)),()))))
def xr (a0:vV4) (a1:(Int×Int×Unit)) (y2:(Int×Unit)):Option ((Int×Unit)⊕Bool) :=
 cond (decide (y2.1<(a0.2.2.2.2.1.length:Int))) (
 aH (xq y2 a0 a1) (0,())) (
 some (.inr false))
def zcz (a0:vV4) (a1:(Int×Int×Unit)):Option Bool :=
 aH (xr a0 a1) (0,())
def z7:TFn:={ ps:=(.cons tT21 (.cons tT17 .unit)),res:=.bool,fn:=fun v=>zcz v.1 v.2.1 }
def awT:TEnv:=(vZ [])
theorem awS:runY Tryz.prog amZ awU awT aEN Tryz.f137 z7.ps z7.res=z7.fn:=by kernel_rfl
theorem acN:aA Tryz.prog G0 137 agW:=ai (ak ⟨au,ac,ap,ac,an⟩ Tryz.func137 rfl (by kernel_rfl))
theorem ajm:TOk agW z7:=az (E:=amZ) (ET:=awT) (EnvT.ofX (ax al) am ar aK aq) awS rfl
def amw:Env:=(eZ [(36,agP),(137,agW)] [274])
def av4:Hints:=(hZ [(4,[2,5,6,7])] [])
def amv:PFn:=aB (runF Tryz.prog amw av4 Tryz.f66)
def aEy:TH:={ loops:=[(4,{ keep:=[(2,(.bx 0 0)),(6,(.own 2)),(7,(.int .i64))],mem:=[.same,.same,.row true 72 tT17] })],ro:=[2,3] }
def rt (a0:vV2) (r1:Int) (y4:(Int×List (Int×Int×Unit)×Unit)):Option ((Int×List (Int×Int×Unit)×Unit)⊕List (Int×Int×Unit)) :=
 cond (decide (y4.1<(a0.1.length:Int))) (cond (decide (r1≥0)) (
 cond (!decide (y4.1=r1)) ((atI a0.1 r1).bind fun x2 =>
(atI a0.1 y4.1).bind fun x3 =>
(zcz x2 x3.1).bind fun r4 =>
 cond r4 (
(atI a0.1 y4.1).bind fun x5 =>
(bh (y4.2.1.length+([x5.1]:List (Int×Int×Unit)).length)).bind fun u6 =>
 some (.inl ((IntKind.wrap .i64 (y4.1+1)),(y4.2.1++([x5.1]:List (Int×Int×Unit))),()))) (
 some (.inl ((IntKind.wrap .i64 (y4.1+1)),y4.2.1,())))) (some (.inl ((IntKind.wrap .i64 (y4.1+1)),y4.2.1,())))) (
 some (.inr y4.2.1))) (some (.inr y4.2.1))
def zde (a0:vV2) (a1:(Int×Int×Unit)):Option (List (Int×Int×Unit)) :=
(zdi a0.1 a1).bind fun r1 =>
 aH (rt a0 r1) (0,[],())
def acz:TFn:={ ps:=(.cons tT14 (.cons tT17 .unit)),res:=(.sl tT17),fn:=fun v=>zde v.1 v.2.1 }
def av3:TEnv:={ pure:=[(36,zV),(137,z7)],look:=[],glob:=G0T,ty:=[(72,tT17)],raw:=[],fresh:=[] }
theorem av2:runY Tryz.prog amw av4 av3 aEy Tryz.f66 acz.ps acz.res=acz.fn:=by kernel_rfl
theorem amu:aA Tryz.prog G0 66 amv:=ai (ak ⟨au,(aj acw (aj acN ac)),ap,ac,an⟩ Tryz.func66 rfl (by kernel_rfl))
theorem av1:TOk amv acz:=az (E:=amw) (ET:=av3) (EnvT.ofX (ax (ae ajh (ae ajm al))) am ar aK aq) av2 rfl
def aor:Env:=(eZ [(137,agW)] [274])
def ay3:Hints:=(hZ [(3,[2,3,5,6])] [])
def aoq:PFn:=aB (runF Tryz.prog aor ay3 Tryz.f67)
def aFp:TH:={ loops:=[(3,{ keep:=[(2,(.bx 0 0)),(3,(.bx 1 0)),(5,(.own 2)),(6,(.int .i64))],mem:=[.same,.same,.row true 72 tT17] })],ro:=[2,3] }
def xG (a0:vV2) (a1:(Int×Int×Unit)) (y3:(Int×List (Int×Int×Unit)×Unit)):Option ((Int×List (Int×Int×Unit)×Unit)⊕List (Int×Int×Unit)) :=
 cond (decide (y3.1<(a0.1.length:Int))) (
(atI a0.1 y3.1).bind fun x1 =>
 cond (!(eqV tT17 x1.1 a1)) ((atI a0.1 y3.1).bind fun x2 =>
(zcz x2 a1).bind fun r3 =>
 cond r3 (
(atI a0.1 y3.1).bind fun x4 =>
(bh (y3.2.1.length+([x4.1]:List (Int×Int×Unit)).length)).bind fun u5 =>
 some (.inl ((IntKind.wrap .i64 (y3.1+1)),(y3.2.1++([x4.1]:List (Int×Int×Unit))),()))) (
 some (.inl ((IntKind.wrap .i64 (y3.1+1)),y3.2.1,())))) (some (.inl ((IntKind.wrap .i64 (y3.1+1)),y3.2.1,())))) (
 some (.inr y3.2.1))
def zby (a0:vV2) (a1:(Int×Int×Unit)):Option (List (Int×Int×Unit)) :=
 aH (xG a0 a1) (0,[],())
def adm:TFn:={ ps:=(.cons tT14 (.cons tT17 .unit)),res:=(.sl tT17),fn:=fun v=>zby v.1 v.2.1 }
def ay2:TEnv:={ pure:=[(137,z7)],look:=[],glob:=G0T,ty:=[(72,tT17)],raw:=[],fresh:=[] }
theorem ay1:runY Tryz.prog aor ay3 ay2 aFp Tryz.f67 adm.ps adm.res=adm.fn:=by kernel_rfl
theorem aoo:aA Tryz.prog G0 67 aoq:=ai (ak ⟨au,(aj acN ac),ap,ac,an⟩ Tryz.func67 rfl (by kernel_rfl))
theorem ay0:TOk aoq adm:=az (E:=aor) (ET:=ay2) (EnvT.ofX (ax (ae ajm al)) am ar aK aq) ay1 rfl
def apd:Env:=(eZ [(33,amR),(51,am7),(53,ahe),(54,ahi),(59,agV),(60,akm),(61,aoW),(62,aot),(63,amN),(64,apz),(65,agM),(66,amv),(67,aoq)] [274])
def aAp:Hints:=(hZ [] [])
def aAq:PFn:=aB (runF Tryz.prog apd aAp Tryz.f11)
def aFM:TH:={ loops:=[],cuts:=[(7,[(8,{ keep:=[(3,(.bx 0 0)),(4,(.bx 1 0)),(54,.bool)],mem:=[.same,.same] }),(5,{ keep:=[(3,(.bx 0 0)),(4,(.bx 1 0)),(59,.bool)],mem:=[.same,.same] }),(5,{ keep:=[(3,(.bx 0 0)),(4,(.bx 1 0)),(64,.bool)],mem:=[.same,.same] }),(9,{ keep:=[(3,(.bx 0 0)),(4,(.bx 1 0)),(73,.bool)],mem:=[.same,.same] })])],ro:=[3,4],news:=[] }
def zba (a0:vV2) (a1:(Int×Int×Unit)) (a2:Bool):Option Bool :=
(zd4 a0).bind fun r1 =>
 cond (!r1) (
(zcu).bind fun r2 =>
 some r2) (
(zd1 a0 a1 a2).bind fun r3 =>
(zex a0 a1 a2).bind fun r4 =>
(zbi a0 a1 a2).bind fun r5 =>
(zbx a0 a1 a2).bind fun r6 =>
((zd6 r3.1 r4.1).bind fun r7 =>
 cond r7 (some ((decide (r3.2.1=r4.2.1)),())) (some (false,())):Option (Bool×Unit)).bind fun v8 =>
(cond v8.1 ((zb0 r5.1 r6.1).bind fun r9 =>
 some (r9,())) (some (false,())):Option (Bool×Unit)).bind fun v10 =>
(cond v10.1 (some ((decide (r5.2.1=r6.2.1)),())) (some (false,())):Option (Bool×Unit)).bind fun v11 =>
(cond v11.1 ((zbm a0 a1).bind fun r12 =>
(zde a0 a1).bind fun r13 =>
(zdw r12 r13).bind fun r14 =>
 some (r14,())) (some (false,())):Option (Bool×Unit)).bind fun v15 =>
 cond v15.1 ((zbg a0 a1).bind fun r16 =>
(zby a0 a1).bind fun r17 =>
(zdw r16 r17).bind fun r18 =>
 cond r18 ((zcu).bind fun r19 =>
 some r19) (some false)) (some false))
def u9:TFn:={ ps:=tT28,res:=.bool,fn:=fun v=>zba v.1 v.2.1 v.2.2.1 }
def aAo:TEnv:=(vZ [(33,acI),(51,acR),(53,aal),(54,aan),(59,z6),(60,aby),(61,adC),(62,adn),(63,acH),(64,adS),(65,zS),(66,acz),(67,adm)])
theorem aAn:runY Tryz.prog apd aAp aAo aFM Tryz.f11 u9.ps u9.res=u9.fn:=by kernel_rfl
theorem zba_Fok:aA Tryz.prog G0 11 aAq:=ai (ak ⟨au,(aj amQ (aj am6 (aj adz (aj adD (aj acL (aj akl (aj aoV (aj aos (aj amM (aj apy (aj ach (aj amu (aj aoo ac))))))))))))),ap,ac,an⟩ Tryz.func11 rfl (by kernel_rfl))
theorem zba_ok:TOk aAq u9:=az (E:=apd) (ET:=aAo) (EnvT.ofX (ax (ae awB (ae aw8 (ae ajA (ae ajC (ae ajl (ae asE (ae azU (ae ay4 (ae awu (ae aAS (ae aje (ae av1 (ae ay0 al)))))))))))))) am ar aK aq) aAn rfl
end
end Go.Proofs.YtnbgkhdcidbkaaaGreatDoor.Y
