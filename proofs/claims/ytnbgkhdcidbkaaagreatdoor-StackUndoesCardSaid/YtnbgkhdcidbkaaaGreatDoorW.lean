import Derived.Test.YtnbgkhdcidbkaaaGreatDoorS
import Derived.Test.YtnbgkhdcidbkaaaGreatDoorT32
import GoSem.PinnedTables
set_option linter.unusedVariables false
set_option maxRecDepth 100000
namespace Go.Proofs.YtnbgkhdcidbkaaaGreatDoor.Y
open Go.EM Go.TY Go.Proofs
theorem zb.{u,v}{A:Type u}{B:Type v} (a:A) (f:A→Option B):(some a).bind f=f a:=rfl
theorem zg.{u}{A:Type u}{l:List A}{i:Nat} (h:i<l.length):l[i]? = some l[i]:=List.getElem?_eq_getElem h
theorem zl.{u}{A:Type u}{a:A}{l:List A}:(a::l).length=l.length+1:=rfl
theorem zf {p:Prop} [Decidable p] (h:¬p):decide p=false:=decide_eq_false h
theorem zn.{u}{c:Prop}{h:Decidable c} (hc:¬c) {A:Sort u}{t e:A}:ite c t e=e:=if_neg hc
theorem zp.{u}{c:Prop}{h:Decidable c} (hc:c) {A:Sort u}{t e:A}:ite c t e=t:=if_pos hc
theorem zm.{u}{A:Type u}{l:List A}{n:Nat} (h:n<l.length):l[n]∈l:=List.getElem_mem h
theorem zt {p:Prop} [Decidable p] (h:p):decide p=true:=decide_eq_true h
noncomputable section
def qT:List Int:=Go.Pinned.utf8FirstZ.map fun (n:Nat)=>(n:Int)
def nU:List (Int×Int×Unit):=[(128,191,()),(160,191,()),(128,159,()),(144,191,()),(128,143,()),(0,0,()),(0,0,()),(0,0,()),(0,0,()),(0,0,()),(0,0,()),(0,0,()),(0,0,()),(0,0,()),(0,0,()),(0,0,())]
def G0:List (Nat×AVal):=[(0,.rptr (qT.map (AVal.int .u8))),(1,.rptr (nU.flatMap fun p=>[AVal.int .u8 p.1,AVal.int .u8 p.2.1]))]
def G0T:List (Nat×TV):=[(0,⟨.rp (.arr 256 (.int .u8)) 0,qT⟩),(1,⟨.rp (.arr 16 (.agg (.cons (.int .u8) (.cons (.int .u8) .unit)))) 0,nU⟩)]
theorem aI:iy G0 G0T:=lT rfl rfl (xF (by kernel_rfl)) (lT rfl rfl (tk (by kernel_rfl)) xE)
theorem ay:∀ f,memN f [274]=true→Same Tryz.prog f:=by
 intro f h
 by_cases e274:f=274
 · subst e274; exact ⟨Tryz.f274,Tryz.func274,by kernel_rfl,by kernel_rfl,by kernel_rfl,by kernel_rfl⟩
 simp_all [memN]
def eZ (l:List (Nat×PFn)) (s:List Nat):Env:={ pure:=l,raw:=[],glob:=G0,same:=s,look:=[],ext:=[] }
def vZ (l:List (Nat×TFn)):TEnv:={ pure:=l,look:=[],glob:=G0T,ty:=[],raw:=[],fresh:=[] }
def hZ (l:List (Nat×List Nat)) (o:List Nat):Hints:={ seqs:=[],loops:=l,own:=o }
def yZ:TH:={ joins:=[],loops:=[],cuts:=[],ro:=[],news:=[] }
abbrev vV0:=(List ((Int×Int×Unit)×Int×Int×Bool×List (Int×List (List UInt8)×(Int×Int×List UInt8×Unit)×Int×List ((Int×Int×Unit)×Int×Unit)×Unit)×Unit)×List ((Int×Int×Unit)×Int×Unit)×(List Int×List (Int×Int×Unit)×Unit)×(List Int×List (Int×Int×Unit)×Unit)×List (List (Int×Int×Unit))×Unit)
abbrev vV1:=((Int×Int×Unit)×Int×Int×Bool×List (Int×List (List UInt8)×(Int×Int×List UInt8×Unit)×Int×List ((Int×Int×Unit)×Int×Unit)×Unit)×Unit)
abbrev vV2:=((Int×Int×Unit)×Int×Unit)
abbrev vV3:=(Int×List (List UInt8)×(Int×Int×List UInt8×Unit)×Int×List vV2×Unit)
abbrev vV4:=(List Int×List (Int×Int×Unit)×Unit)
abbrev vV5:=(Int×vV1×Int×vV2×Int×(List vV1×List vV2×List (Int×Int×Unit)×Unit)×vV0×Unit)
abbrev vV6:=(vV2×vV3×Int×Unit)
abbrev vV7:=(List Int×Unit×Unit)
abbrev vV8:=(Int×List (vV2×Bool)×Unit)
abbrev tT9:Ty:=(.agg (.cons (.sl (.agg (.cons (.agg (.cons (.int .i64) (.cons (.int .i64) .unit))) (.cons (.int .i64) (.cons (.int .i64) (.cons .bool (.cons (.sl (.agg (.cons (.int .i64) (.cons (.sl .str) (.cons (.agg (.cons (.int .i64) (.cons (.int .i64) (.cons .str .unit)))) (.cons (.int .i64) (.cons (.sl (.agg (.cons (.agg (.cons (.int .i64) (.cons (.int .i64) .unit))) (.cons (.int .i64) .unit)))) .unit))))))) .unit))))))) (.cons (.sl (.agg (.cons (.agg (.cons (.int .i64) (.cons (.int .i64) .unit))) (.cons (.int .i64) .unit)))) (.cons (.agg (.cons (.arr 16 (.int .i64)) (.cons (.sl (.agg (.cons (.int .i64) (.cons (.int .i64) .unit)))) .unit))) (.cons (.agg (.cons (.arr 16 (.int .i64)) (.cons (.sl (.agg (.cons (.int .i64) (.cons (.int .i64) .unit)))) .unit))) (.cons (.arr 8 (.sl (.agg (.cons (.int .i64) (.cons (.int .i64) .unit))))) .unit))))))
abbrev tT10:Ty:=(.agg (.cons (.agg (.cons (.int .i64) (.cons (.int .i64) .unit))) (.cons (.int .i64) (.cons (.int .i64) (.cons .bool (.cons (.sl (.agg (.cons (.int .i64) (.cons (.sl .str) (.cons (.agg (.cons (.int .i64) (.cons (.int .i64) (.cons .str .unit)))) (.cons (.int .i64) (.cons (.sl (.agg (.cons (.agg (.cons (.int .i64) (.cons (.int .i64) .unit))) (.cons (.int .i64) .unit)))) .unit))))))) .unit))))))
abbrev tT11:Ty:=(.agg (.cons (.int .i64) (.cons (.int .i64) .unit)))
abbrev tT12:Ty:=(.agg (.cons (.int .i64) (.cons (.sl .str) (.cons (.agg (.cons (.int .i64) (.cons (.int .i64) (.cons .str .unit)))) (.cons (.int .i64) (.cons (.sl (.agg (.cons tT11 (.cons (.int .i64) .unit)))) .unit))))))
abbrev tT13:Ty:=(.agg (.cons tT11 (.cons (.int .i64) .unit)))
abbrev tT14:Ty:=(.agg (.cons (.arr 16 (.int .i64)) (.cons (.sl tT11) .unit)))
abbrev tT15:Ty:=(.agg (.cons (.int .i64) (.cons tT10 (.cons (.int .i64) (.cons tT13 (.cons (.int .i64) (.cons (.agg (.cons (.sl tT10) (.cons (.sl tT13) (.cons (.sl tT11) .unit)))) (.cons tT9 .unit))))))))
abbrev tT16:Ty:=(.agg (.cons (.int .i64) (.cons (.int .i64) (.cons .str .unit))))
abbrev tT17:Ty:=(.agg (.cons tT13 (.cons tT12 (.cons (.int .i64) .unit))))
abbrev tT18:Ty:=(.agg (.cons (.arr 16 (.int .i64)) (.cons .nilsl .unit)))
abbrev tT19:Ty:=(.cons (.int .i64) .unit)
def afm:Env:=(eZ [] [274])
def amR:Hints:=(hZ [(4,[0,3])] [])
def afl:PFn:=aD (runF Tryz.prog afm amR Tryz.f15)
def apy:TH:={ loops:=[(4,{ keep:=[(3,(.int .i64))],mem:=[] })],ro:=[] }
def qO (a0:List (List UInt8)) (y4:(Int×Unit)):Option ((Int×Unit)⊕Bool) :=
 cond (decide (y4.1<(a0.length:Int))) (
(atI a0 y4.1).bind fun x1 =>
 cond (decide ((x1.length:Int)>120)) (
 some (.inr false)) (
 some (.inl ((IntKind.wrap .i64 (y4.1+1)),())))) (
 some (.inr true))
def za9 (a0:List (List UInt8)):Option Bool :=
 cond (decide ((a0.length:Int)>12)) (
 some false) (
 aK (qO a0) (0,()))
def vU:TFn:={ ps:=(.cons (.sl .str) .unit),res:=.bool,fn:=fun v=>za9 v.1 }
def amQ:TEnv:=(vZ [])
theorem amP:runY Tryz.prog afm amR amQ apy Tryz.f15 vU.ps vU.res=vU.fn:=by kernel_rfl
theorem afk:aB Tryz.prog G0 15 afl:=ah (aj ⟨ay,ae,ar,ae,aq⟩ Tryz.func15 rfl (by kernel_rfl))
theorem amO:TOk afl vU:=az (E:=afm) (ET:=amQ) (EnvT.ofX (ax al) am ap aI an) amP rfl
def adl:Env:=(eZ [(15,afl)] [274])
def aj6:Hints:=(hZ [] [])
def adk:PFn:=aD (runF Tryz.prog adl aj6 Tryz.f108)
def aoS:TH:={ loops:=[],ro:=[1] }
def zbm (a0:vV3):Option Bool :=
(za9 a0.2.1).bind fun r1 =>
 cond r1 (cond (decide ((a0.2.2.1.2.2.1.length:Int)≤200)) (some (decide ((a0.2.2.2.2.1.length:Int)≤300))) (some false)) (some false)
def ve:TFn:={ ps:=(.cons tT12 .unit),res:=.bool,fn:=fun v=>zbm v.1 }
def aj5:TEnv:=(vZ [(15,vU)])
theorem aj4:runY Tryz.prog adl aj6 aj5 aoS Tryz.f108 ve.ps ve.res=ve.fn:=by kernel_rfl
theorem adj:aB Tryz.prog G0 108 adk:=ah (aj ⟨ay,(ai afk ae),ar,ae,aq⟩ Tryz.func108 rfl (by kernel_rfl))
theorem aj3:TOk adk ve:=az (E:=adl) (ET:=aj5) (EnvT.ofX (ax (ac amO al)) am ap aI an) aj4 rfl
def acR:Env:=(eZ [(108,adk)] [274])
def ajp:Hints:=(hZ [(4,[1,3])] [])
def acQ:PFn:=aD (runF Tryz.prog acR ajp Tryz.f41)
def aoH:TH:={ loops:=[(4,{ keep:=[(1,(.bx 0 0)),(3,(.int .i64))],mem:=[.same] })],ro:=[1] }
def qx (a0:vV1) (y4:(Int×Unit)):Option ((Int×Unit)⊕Bool) :=
 cond (decide (y4.1<(a0.2.2.2.2.1.length:Int))) (
(atI a0.2.2.2.2.1 y4.1).bind fun x1 =>
(zbm x1).bind fun r2 =>
 cond (!r2) (
 some (.inr false)) (
 some (.inl ((IntKind.wrap .i64 (y4.1+1)),())))) (
 some (.inr true))
def zbx (a0:vV1):Option Bool :=
 cond (decide ((a0.2.2.2.2.1.length:Int)>20)) (
 some false) (
 aK (qx a0) (0,()))
def uR:TFn:={ ps:=(.cons tT10 .unit),res:=.bool,fn:=fun v=>zbx v.1 }
def ajo:TEnv:=(vZ [(108,ve)])
theorem ajn:runY Tryz.prog acR ajp ajo aoH Tryz.f41 uR.ps uR.res=uR.fn:=by kernel_rfl
theorem acP:aB Tryz.prog G0 41 acQ:=ah (aj ⟨ay,(ai adj ae),ar,ae,aq⟩ Tryz.func41 rfl (by kernel_rfl))
theorem ajm:TOk acQ uR:=az (E:=acR) (ET:=ajo) (EnvT.ofX (ax (ac aj3 al)) am ap aI an) ajn rfl
def acO:Env:=(eZ [(41,acQ)] [274])
def ajl:Hints:=(hZ [(4,[1,3]),(9,[1,4])] [])
def acN:PFn:=aD (runF Tryz.prog acO ajl Tryz.f95)
def aoG:TH:={ joins:=[(8,{ keep:=[(1,(.bx 0 0))],mem:=[.box 69 tT9] })],loops:=[(4,{ keep:=[(1,(.bx 0 0)),(3,(.int .i64))],mem:=[.box 69 tT9] }),(9,{ keep:=[(1,(.bx 0 0)),(4,(.int .i64))],mem:=[.box 69 tT9] })],cuts:=[(1,[(10,{ keep:=[(1,(.bx 0 0)),(14,.bool)],mem:=[.box 69 tT9] })])],ro:=[],news:=[] }
def kW (y4:(Int×vV0×Unit)):Option ((Int×vV0×Unit)⊕((vV0×Unit)⊕Bool)) :=
 cond (decide (y4.1<(y4.2.1.1.length:Int))) (
(atI y4.2.1.1 y4.1).bind fun x2 =>
(zbx x2).bind fun r3 =>
 cond (!r3) (
 some (.inr (.inr false))) (
 some (.inl ((IntKind.wrap .i64 (y4.1+1)),y4.2.1,())))) (
 some (.inr (.inl (y4.2.1,()))))
def kV (y9:(Int×vV0×Unit)):Option ((Int×vV0×Unit)⊕Bool) :=
 cond (decide (y9.1<8)) (
(inI 8 y9.1).bind fun i5 =>
(y9.2.1.2.2.2.2.1[i5]?).bind fun x6 =>
 cond (decide ((x6.length:Int)>40)) (
 some (.inr false)) (
 some (.inl ((IntKind.wrap .i64 (y9.1+1)),y9.2.1,())))) (
 some (.inr true))
def zby (a0:vV0):Option Bool :=
(cond (decide ((a0.1.length:Int)>20)) (some (true,a0,())) (some ((decide ((a0.2.1.length:Int)>100)),a0,())):Option (Bool×vV0×Unit)).bind fun v1 =>
 cond v1.1 (some false) (cond (decide ((v1.2.1.2.2.1.2.1.length:Int)>100)) (some false) (cond (decide ((v1.2.1.2.2.2.1.2.1.length:Int)>100)) (
 some false) (
(aK (kW) (0,v1.2.1,()):Option ((vV0×Unit)⊕Bool)).bind (bK fun v4 =>
 aK (kV) (0,v4.1,())))))
def uQ:TFn:={ ps:=(.cons tT9 .unit),res:=.bool,fn:=fun v=>zby v.1 }
def ajk:TEnv:=(vZ [(41,uR)])
theorem ajj:runY Tryz.prog acO ajl ajk aoG Tryz.f95 uQ.ps uQ.res=uQ.fn:=by kernel_rfl
theorem acM:aB Tryz.prog G0 95 acN:=ah (aj ⟨ay,(ai acP ae),ar,ae,aq⟩ Tryz.func95 rfl (by kernel_rfl))
theorem aji:TOk acN uQ:=az (E:=acO) (ET:=ajk) (EnvT.ofX (ax (ac ajm al)) am ap aI an) ajj rfl
def adY:Env:=(eZ [] [274])
def ak1:Hints:=(hZ [] [])
def yJ:PFn:=aD (runF Tryz.prog adY ak1 Tryz.f172)
def ao7:TH:=yZ
def zb7 (a0:Int) (a1:Int):Option Int :=
 cond (decide (a0<a1)) (
 some (-1)) (
 cond (decide (a0>a1)) (
 some 1) (
 some 0))
def sD:TFn:={ ps:=(.cons (.int .i64) tT19),res:=(.int .i64),fn:=fun v=>zb7 v.1 v.2.1 }
def ak0:TEnv:=(vZ [])
theorem akZ:runY Tryz.prog adY ak1 ak0 ao7 Tryz.f172 sD.ps sD.res=sD.fn:=by kernel_rfl
theorem vr:aB Tryz.prog G0 172 yJ:=ah (aj ⟨ay,ae,ar,ae,aq⟩ Tryz.func172 rfl (by kernel_rfl))
theorem aax:TOk yJ sD:=az (E:=adY) (ET:=ak0) (EnvT.ofX (ax al) am ap aI an) akZ rfl
def afI:Env:=(eZ [(172,yJ)] [274])
def ann:Hints:=(hZ [] [])
def pw:PFn:=aD (runF Tryz.prog afI ann Tryz.f101)
def apG:TH:={ loops:=[],ro:=[2,3] }
def za1 (a0:(Int×Int×Unit)) (a1:(Int×Int×Unit)):Option Int :=
 cond (!decide (a0.1=a1.1)) (
(zb7 a0.1 a1.1).bind fun r1 =>
 some r1) (
(zb7 a0.2.1 a1.2.1).bind fun r2 =>
 some r2)
def mG:TFn:={ ps:=(.cons tT11 (.cons tT11 .unit)),res:=(.int .i64),fn:=fun v=>za1 v.1 v.2.1 }
def anm:TEnv:=(vZ [(172,sD)])
theorem anl:runY Tryz.prog afI ann anm apG Tryz.f101 mG.ps mG.res=mG.fn:=by kernel_rfl
theorem jo:aB Tryz.prog G0 101 pw:=ah (aj ⟨ay,(ai vr ae),ar,ae,aq⟩ Tryz.func101 rfl (by kernel_rfl))
theorem nS:TOk pw mG:=az (E:=afI) (ET:=anm) (EnvT.ofX (ax (ac aax al)) am ap aI an) anl rfl
def adB:Env:=(eZ [(101,pw)] [274])
def akt:Hints:=(hZ [(2,[0,3])] [])
def adA:PFn:=aD (runF Tryz.prog adB akt Tryz.f152)
def aoY:TH:={ loops:=[(2,{ keep:=[(3,(.int .i64))],mem:=[] })],ro:=[] }
def qD (a0:List vV1) (y2:(Int×Unit)):Option ((Int×Unit)⊕Bool) :=
 cond (decide (y2.1<(a0.length:Int))) (
(atI a0 (IntKind.wrap .i64 (y2.1-1))).bind fun x1 =>
(atI a0 y2.1).bind fun x2 =>
(za1 x1.1 x2.1).bind fun r3 =>
 cond (!decide (r3=(-1))) (
 some (.inr false)) (
 some (.inl ((IntKind.wrap .i64 (y2.1+1)),())))) (
 some (.inr true))
def zbg (a0:List vV1):Option Bool :=
 aK (qD a0) (1,())
def vj:TFn:={ ps:=(.cons (.sl tT10) .unit),res:=.bool,fn:=fun v=>zbg v.1 }
def aks:TEnv:=(vZ [(101,mG)])
theorem akr:runY Tryz.prog adB akt aks aoY Tryz.f152 vj.ps vj.res=vj.fn:=by kernel_rfl
theorem adz:aB Tryz.prog G0 152 adA:=ah (aj ⟨ay,(ai jo ae),ar,ae,aq⟩ Tryz.func152 rfl (by kernel_rfl))
theorem akq:TOk adA vj:=az (E:=adB) (ET:=aks) (EnvT.ofX (ax (ac nS al)) am ap aI an) akr rfl
def adv:Env:=(eZ [] [274])
def akl:Hints:=(hZ [] [])
def mD:PFn:=aD (runF Tryz.prog adv akl Tryz.f109)
def aoW:TH:={ loops:=[],ro:=[1] }
def zbi (a0:(Int×Int×Unit)):Option Bool :=
 cond (decide (a0.1≥0)) (cond (decide (a0.1≤15)) (cond (decide (a0.2.1≥1)) (some (decide (a0.2.1≤1048576))) (some false)) (some false)) (some false)
def jk:TFn:={ ps:=(.cons tT11 .unit),res:=.bool,fn:=fun v=>zbi v.1 }
def akk:TEnv:=(vZ [])
theorem akj:runY Tryz.prog adv akl akk aoW Tryz.f109 jk.ps jk.res=jk.fn:=by kernel_rfl
theorem f0:aB Tryz.prog G0 109 mD:=ah (aj ⟨ay,ae,ar,ae,aq⟩ Tryz.func109 rfl (by kernel_rfl))
theorem jj:TOk mD jk:=az (E:=adv) (ET:=akk) (EnvT.ofX (ax al) am ap aI an) akj rfl
def abL:Env:=(eZ [(109,mD)] [274])
def ahG:Hints:=(hZ [] [])
def abK:PFn:=aD (runF Tryz.prog abL ahG Tryz.f224)
def aod:TH:={ loops:=[],ro:=[1] }
def zcq (a0:vV2):Option Bool :=
(zbi a0.1).bind fun r1 =>
 cond r1 (cond (decide (a0.2.1≥1)) (some (decide (a0.2.1≤64))) (some false)) (some false)
def uh:TFn:={ ps:=(.cons tT13 .unit),res:=.bool,fn:=fun v=>zcq v.1 }
def ahF:TEnv:=(vZ [(109,jk)])
theorem ahE:runY Tryz.prog abL ahG ahF aod Tryz.f224 uh.ps uh.res=uh.fn:=by kernel_rfl
theorem abJ:aB Tryz.prog G0 224 abK:=ah (aj ⟨ay,(ai f0 ae),ar,ae,aq⟩ Tryz.func224 rfl (by kernel_rfl))
theorem ahD:TOk abK uh:=az (E:=abL) (ET:=ahF) (EnvT.ofX (ax (ac jj al)) am ap aI an) ahE rfl
def acX:Env:=(eZ [(101,pw),(224,abK)] [274])
def ajx:Hints:=(hZ [(2,[0,3])] [])
def acW:PFn:=aD (runF Tryz.prog acX ajx Tryz.f153)
def aoJ:TH:={ loops:=[(2,{ keep:=[(3,(.int .i64))],mem:=[] })],ro:=[] }
def qz (a0:List vV2) (y2:(Int×Unit)):Option ((Int×Unit)⊕Bool) :=
 cond (decide (y2.1<(a0.length:Int))) (
(atI a0 y2.1).bind fun x1 =>
(zcq x1).bind fun r2 =>
 cond (!r2) (some (.inr false)) (cond (decide (y2.1>0)) ((atI a0 (IntKind.wrap .i64 (y2.1-1))).bind fun x3 =>
(atI a0 y2.1).bind fun x4 =>
(za1 x3.1 x4.1).bind fun r5 =>
 cond (!decide (r5=(-1))) (
 some (.inr false)) (
 some (.inl ((IntKind.wrap .i64 (y2.1+1)),())))) (some (.inl ((IntKind.wrap .i64 (y2.1+1)),()))))) (
 some (.inr true))
def zbv (a0:List vV2):Option Bool :=
 aK (qz a0) (0,())
def uT:TFn:={ ps:=(.cons (.sl tT13) .unit),res:=.bool,fn:=fun v=>zbv v.1 }
def ajw:TEnv:=(vZ [(101,mG),(224,uh)])
theorem ajv:runY Tryz.prog acX ajx ajw aoJ Tryz.f153 uT.ps uT.res=uT.fn:=by kernel_rfl
theorem acV:aB Tryz.prog G0 153 acW:=ah (aj ⟨ay,(ai jo (ai abJ ae)),ar,ae,aq⟩ Tryz.func153 rfl (by kernel_rfl))
theorem aju:TOk acW uT:=az (E:=acX) (ET:=ajw) (EnvT.ofX (ax (ac nS (ac ahD al))) am ap aI an) ajv rfl
def adu:Env:=(eZ [] [274])
def aki:Hints:=(hZ [(2,[1,3])] [])
def adt:PFn:=aD (runF Tryz.prog adu aki Tryz.f235)
def aoV:TH:={ loops:=[(2,{ keep:=[(1,(.bx 0 0)),(3,(.int .i64))],mem:=[.box 63 (.arr 16 (.int .i64))] })],ro:=[] }
def qB (y2:(Int×List Int×Unit)):Option ((Int×List Int×Unit)⊕Bool) :=
 cond (decide (y2.1<16)) (
(inI 16 y2.1).bind fun i1 =>
(y2.2.1[i1]?).bind fun x2 =>
 cond (decide (x2<0)) (some (.inr false)) ((inI 16 y2.1).bind fun i3 =>
(y2.2.1[i3]?).bind fun x4 =>
 cond (decide (x4>1048576)) (
 some (.inr false)) (
 some (.inl ((IntKind.wrap .i64 (y2.1+1)),y2.2.1,()))))) (
 some (.inr true))
def zbj (a0:List Int):Option Bool :=
 aK (qB) (0,a0,())
def vh:TFn:={ ps:=(.cons (.arr 16 (.int .i64)) .unit),res:=.bool,fn:=fun v=>zbj v.1 }
def akh:TEnv:=(vZ [])
theorem akg:runY Tryz.prog adu aki akh aoV Tryz.f235 vh.ps vh.res=vh.fn:=by kernel_rfl
theorem ads:aB Tryz.prog G0 235 adt:=ah (aj ⟨ay,ae,ar,ae,aq⟩ Tryz.func235 rfl (by kernel_rfl))
theorem akf:TOk adt vh:=az (E:=adu) (ET:=akh) (EnvT.ofX (ax al) am ap aI an) akg rfl
def ado:Env:=(eZ [(101,pw),(109,mD),(235,adt)] [274])
def aka:Hints:=(hZ [(4,[1,3])] [])
def adn:PFn:=aD (runF Tryz.prog ado aka Tryz.f166)
def aoT:TH:={ loops:=[(4,{ keep:=[(1,(.bx 0 0)),(3,(.int .i64))],mem:=[.box 66 tT14] })],ro:=[] }
def qA (y4:(Int×vV4×Unit)):Option ((Int×vV4×Unit)⊕Bool) :=
 cond (decide (y4.1<(y4.2.1.2.1.length:Int))) (
(atI y4.2.1.2.1 y4.1).bind fun x2 =>
(zbi x2).bind fun r3 =>
 cond (!r3) (some (.inr false)) ((inI 16 x2.1).bind fun i4 =>
(y4.2.1.1[i4]?).bind fun x5 =>
 cond (decide ((IntKind.wrap .i64 (x2.2.1-1))≤x5)) (
 some (.inr false)) (
 cond (decide (y4.1>0)) ((atI y4.2.1.2.1 (IntKind.wrap .i64 (y4.1-1))).bind fun x6 =>
(za1 x6 x2).bind fun r7 =>
 cond (!decide (r7=(-1))) (
 some (.inr false)) (
 some (.inl ((IntKind.wrap .i64 (y4.1+1)),y4.2.1,())))) (some (.inl ((IntKind.wrap .i64 (y4.1+1)),y4.2.1,())))))) (
 some (.inr true))
def zbl (a0:vV4):Option Bool :=
(zbj a0.1).bind fun r1 =>
 cond (!r1) (some false) (cond (decide ((a0.2.1.length:Int)>4096)) (
 some false) (
 aK (qA) (0,a0,())))
def vf:TFn:={ ps:=(.cons tT14 .unit),res:=.bool,fn:=fun v=>zbl v.1 }
def aj9:TEnv:=(vZ [(101,mG),(109,jk),(235,vh)])
theorem aj8:runY Tryz.prog ado aka aj9 aoT Tryz.f166 vf.ps vf.res=vf.fn:=by kernel_rfl
theorem adm:aB Tryz.prog G0 166 adn:=ah (aj ⟨ay,(ai jo (ai f0 (ai ads ae))),ar,ae,aq⟩ Tryz.func166 rfl (by kernel_rfl))
theorem aj7:TOk adn vf:=az (E:=ado) (ET:=aj9) (EnvT.ofX (ax (ac nS (ac jj (ac akf al)))) am ap aI an) aj8 rfl
def ad8:Env:=(eZ [] [274])
def alh:Hints:=(hZ [(17,[0,4,5,6,7])] [])
def ad7:PFn:=aD (runF Tryz.prog ad8 alh Tryz.f216)
def apb:TH:={ joins:=[(14,{ keep:=[(4,(.int .i64)),(5,(.int .i64)),(6,(.int .i64))],mem:=[] }),(9,{ keep:=[(18,.bool)],mem:=[] }),(22,{ keep:=[(4,(.int .i64))],mem:=[] }),(24,{ keep:=[],mem:=[] })],loops:=[(17,{ keep:=[(4,(.int .i64)),(7,(.int .i64))],mem:=[] })],ro:=[] }
def e7 (a0:List UInt8) (v3:(Int×Int×Int×Unit)) (y17:(Int×Int×Unit)):Option ((Int×Int×Unit)⊕((Int×Unit)⊕(Int×Int×Unit))) :=
 cond (decide (y17.2.1<v3.2.1)) (
(atI a0 y17.2.1).bind fun b4 =>
 cond (decide ((b4.toNat:Int)<128)) (some (.inr (.inr (0,0,())))) ((atI a0 y17.2.1).bind fun b5 =>
 cond (decide ((b5.toNat:Int)>191)) (
 some (.inr (.inr (0,0,())))) (
(atI a0 y17.2.1).bind fun b6 =>
 some (.inl ((IntKind.wrap .i64 ((IntKind.wrap .i64 ((IntKind.wrap .i64 (64*y17.1))+(IntKind.wrap .i64 (b6.toNat:Int))))-128)),(IntKind.wrap .i64 (y17.2.1+1)),()))))) (
 some (.inr (.inl (y17.1,()))))
def zb3 (a0:List UInt8):Option (Int×Int×Unit) :=
 cond (decide ((a0.length:Int)=0)) (
 some (0,0,())) (
(atI a0 0).bind fun b1 =>
(cond (decide ((IntKind.wrap .i64 (b1.toNat:Int))<128)) (
 some (.inr ((IntKind.wrap .i64 (b1.toNat:Int)),1,()))) (
(cond (decide ((IntKind.wrap .i64 (b1.toNat:Int))≥194)) (some (.inl ((decide ((IntKind.wrap .i64 (b1.toNat:Int))<224)),()))) (some (.inl (false,()))):Option ((Bool×Unit)⊕((Int×Int×Int×Unit)⊕(Int×Int×Unit)))).bind (bK fun v2 =>
 cond v2.1 (
 some (.inl ((IntKind.wrap .i64 ((IntKind.wrap .i64 (b1.toNat:Int))-192)),2,128,()))) (
 cond (decide ((IntKind.wrap .i64 (b1.toNat:Int))≥224)) (cond (decide ((IntKind.wrap .i64 (b1.toNat:Int))<240)) (
 some (.inl ((IntKind.wrap .i64 ((IntKind.wrap .i64 (b1.toNat:Int))-224)),3,2048,()))) (
 cond (decide ((IntKind.wrap .i64 (b1.toNat:Int))≥240)) (cond (decide ((IntKind.wrap .i64 (b1.toNat:Int))<245)) (
 some (.inl ((IntKind.wrap .i64 ((IntKind.wrap .i64 (b1.toNat:Int))-240)),4,65536,()))) (
 some (.inr (0,0,())))) (some (.inr (0,0,()))))) (cond (decide ((IntKind.wrap .i64 (b1.toNat:Int))≥240)) (cond (decide ((IntKind.wrap .i64 (b1.toNat:Int))<245)) (
 some (.inl ((IntKind.wrap .i64 ((IntKind.wrap .i64 (b1.toNat:Int))-240)),4,65536,()))) (
 some (.inr (0,0,())))) (some (.inr (0,0,()))))))):Option ((Int×Int×Int×Unit)⊕(Int×Int×Unit))).bind (bK fun v3 =>
 cond (decide ((a0.length:Int)<v3.2.1)) (
 some (0,0,())) (
(aK (e7 a0 v3) (v3.1,1,()):Option ((Int×Unit)⊕(Int×Int×Unit))).bind (bK fun v7 =>
(cond (decide (v7.1<v3.2.2.1)) (some (.inr (0,0,()))) (cond (decide (v7.1>1114111)) (some (.inr (0,0,()))) (cond (decide (v7.1≥55296)) (cond (decide (v7.1≤57343)) (
 some (.inr (0,0,()))) (
 some (.inl ()))) (some (.inl ())))):Option (Unit⊕(Int×Int×Unit))).bind (bK fun v8 =>
 some (v7.1,v3.2.1,()))))))
def vy:TFn:={ ps:=(.cons .str .unit),res:=(.tup (.cons (.int .i64) tT19)),fn:=fun v=>zb3 v.1 }
def alg:TEnv:=(vZ [])
theorem alf:runY Tryz.prog ad8 alh alg apb Tryz.f216 vy.ps vy.res=vy.fn:=by kernel_rfl
theorem ad6:aB Tryz.prog G0 216 ad7:=ah (aj ⟨ay,ae,ar,ae,aq⟩ Tryz.func216 rfl (by kernel_rfl))
theorem ale:TOk ad7 vy:=az (E:=ad8) (ET:=alg) (EnvT.ofX (ax al) am ap aI an) alf rfl
def acY:Env:=(eZ [(216,ad7)] [274])
def ajA:Hints:=(hZ [(3,[0,4,5])] [])
def yH:PFn:=aD (runF Tryz.prog acY ajA Tryz.f144)
def aoK:TH:={ loops:=[(3,{ keep:=[(4,(.own 0)),(5,(.int .i64))],mem:=[.row true 3 (.int .i64)] })],ro:=[] }
def kY (a0:List UInt8) (y3:(Int×List Int×Unit)):Option ((Int×List Int×Unit)⊕(List Int×Bool×Unit)) :=
 cond (decide (y3.1<(a0.length:Int))) (
(subI a0 y3.1 (a0.length:Int)).bind fun s1 =>
(zb3 s1).bind fun r2 =>
 cond (decide (r2.2.1=0)) (
 some (.inr ([],false,()))) (
(dF (y3.2.1.length+([r2.1]:List Int).length)).bind fun u3 =>
 some (.inl ((IntKind.wrap .i64 (y3.1+r2.2.1)),(y3.2.1++([r2.1]:List Int)),())))) (
 some (.inr (y3.2.1,true,())))
def zbu (a0:List UInt8):Option (List Int×Bool×Unit) :=
 aK (kY a0) (0,[],())
def sB:TFn:={ ps:=(.cons .str .unit),res:=(.tup (.cons (.sl (.int .i64)) (.cons .bool .unit))),fn:=fun v=>zbu v.1 }
def ajz:TEnv:={ pure:=[(216,vy)],look:=[],glob:=G0T,ty:=[(3,(.int .i64))],raw:=[],fresh:=[] }
theorem ajy:runY Tryz.prog acY ajA ajz aoK Tryz.f144 sB.ps sB.res=sB.fn:=by kernel_rfl
theorem uU:aB Tryz.prog G0 144 yH:=ah (aj ⟨ay,(ai ad6 ae),ar,ae,aq⟩ Tryz.func144 rfl (by kernel_rfl))
theorem aau:TOk yH sB:=az (E:=acY) (ET:=ajz) (EnvT.ofX (ax (ac ale al)) am ap aI an) ajy rfl
def abl:Env:=(eZ [] [274])
def ag6:Hints:=(hZ [] [])
def abk:PFn:=aD (runF Tryz.prog abl ag6 Tryz.f306)
def an4:TH:=yZ
def zcz (a0:Int):Option Bool :=
 cond (decide (a0≥32)) (cond (decide (a0<127)) (some (!decide (a0=65533))) (cond (decide (a0>159)) (some (!decide (a0=65533))) (some false))) (some false)
def tW:TFn:={ ps:=tT19,res:=.bool,fn:=fun v=>zcz v.1 }
def ag5:TEnv:=(vZ [])
theorem ag4:runY Tryz.prog abl ag6 ag5 an4 Tryz.f306 tW.ps tW.res=tW.fn:=by kernel_rfl
theorem abj:aB Tryz.prog G0 306 abk:=ah (aj ⟨ay,ae,ar,ae,aq⟩ Tryz.func306 rfl (by kernel_rfl))
theorem ag3:TOk abk tW:=az (E:=abl) (ET:=ag5) (EnvT.ofX (ax al) am ap aI an) ag4 rfl
def adi:Env:=(eZ [(144,yH),(306,abk)] [274])
def aj2:Hints:=(hZ [(3,[3,4,5])] [])
def adh:PFn:=aD (runF Tryz.prog adi aj2 Tryz.f253)
def aoR:TH:={ joins:=[(7,{ keep:=[],mem:=[] })],loops:=[(3,{ keep:=[(5,(.int .i64))],mem:=[] })],ro:=[] }
def nQ (r1:(List Int×Bool×Unit)) (y3:(Int×Unit)):Option ((Int×Unit)⊕(Unit⊕Bool)) :=
 cond (decide (y3.1<(r1.1.length:Int))) (
(atI r1.1 y3.1).bind fun x2 =>
(zcz x2).bind fun r3 =>
 cond (!r3) (
 some (.inr (.inr false))) (
 some (.inl ((IntKind.wrap .i64 (y3.1+1)),())))) (
 some (.inr (.inl ())))
def zbn (a0:List UInt8):Option Bool :=
(zbu a0).bind fun r1 =>
(aK (nQ r1) (0,()):Option (Unit⊕Bool)).bind (bK fun v4 =>
 cond r1.2.1 (cond (decide ((r1.1.length:Int)≥1)) (some (decide ((r1.1.length:Int)≤24))) (some false)) (some false))
def vd:TFn:={ ps:=(.cons .str .unit),res:=.bool,fn:=fun v=>zbn v.1 }
def aj1:TEnv:=(vZ [(144,sB),(306,tW)])
theorem aj0:runY Tryz.prog adi aj2 aj1 aoR Tryz.f253 vd.ps vd.res=vd.fn:=by kernel_rfl
theorem adg:aB Tryz.prog G0 253 adh:=ah (aj ⟨ay,(ai uU (ai abj ae)),ar,ae,aq⟩ Tryz.func253 rfl (by kernel_rfl))
theorem ajZ:TOk adh vd:=az (E:=adi) (ET:=aj1) (EnvT.ofX (ax (ac aau (ac ag3 al))) am ap aI an) aj0 rfl
def ady:Env:=(eZ [(253,adh)] [274])
def akp:Hints:=(hZ [(6,[0,3])] [])
def adx:PFn:=aD (runF Tryz.prog ady akp Tryz.f183)
def aoX:TH:={ loops:=[(6,{ keep:=[(3,(.int .i64))],mem:=[] })],ro:=[] }
def qC (a0:List (List UInt8)) (y6:(Int×Unit)):Option ((Int×Unit)⊕Int) :=
 cond (decide (y6.1<(a0.length:Int))) (
(atI a0 y6.1).bind fun x1 =>
(zbn x1).bind fun r2 =>
 cond (!r2) (
 some (.inr 8)) (
 some (.inl ((IntKind.wrap .i64 (y6.1+1)),())))) (
 some (.inr 0))
def zbh (a0:List (List UInt8)):Option Int :=
 cond (decide ((a0.length:Int)=0)) (
 some 8) (
 cond (decide ((a0.length:Int)>8)) (
 some 9) (
 aK (qC a0) (0,())))
def vi:TFn:={ ps:=(.cons (.sl .str) .unit),res:=(.int .i64),fn:=fun v=>zbh v.1 }
def ako:TEnv:=(vZ [(253,vd)])
theorem akn:runY Tryz.prog ady akp ako aoX Tryz.f183 vi.ps vi.res=vi.fn:=by kernel_rfl
theorem adw:aB Tryz.prog G0 183 adx:=ah (aj ⟨ay,(ai adg ae),ar,ae,aq⟩ Tryz.func183 rfl (by kernel_rfl))
theorem akm:TOk adx vi:=az (E:=ady) (ET:=ako) (EnvT.ofX (ax (ac ajZ al)) am ap aI an) akn rfl
def adr:Env:=(eZ [(144,yH)] [274])
def ake:Hints:=(hZ [] [])
def adq:PFn:=aD (runF Tryz.prog adr ake Tryz.f184)
def aoU:TH:={ loops:=[],ro:=[1] }
def zbk (a0:(Int×Int×List UInt8×Unit)):Option Bool :=
 cond (decide (a0.1=1)) (
 cond (decide (a0.2.2.1=[])) (cond (decide (a0.2.1≥(-2147483647))) (some (decide (a0.2.1≤2147483647))) (some false)) (some false)) (
 cond (decide (a0.1=2)) (
(zbu a0.2.2.1).bind fun r1 =>
 cond (decide (a0.2.1=0)) (cond r1.2.1 (some (decide ((a0.2.2.1.length:Int)≤64))) (some false)) (some false)) (
 cond (decide (a0.1=3)) (cond (decide (a0.2.2.1=[])) (cond (decide (a0.2.1≥0)) (some (decide (a0.2.1≤1))) (some false)) (some false)) (some false)))
def vg:TFn:={ ps:=(.cons tT16 .unit),res:=.bool,fn:=fun v=>zbk v.1 }
def akd:TEnv:=(vZ [(144,sB)])
theorem akc:runY Tryz.prog adr ake akd aoU Tryz.f184 vg.ps vg.res=vg.fn:=by kernel_rfl
theorem adp:aB Tryz.prog G0 184 adq:=ah (aj ⟨ay,(ai uU ae),ar,ae,aq⟩ Tryz.func184 rfl (by kernel_rfl))
theorem akb:TOk adq vg:=az (E:=adr) (ET:=akd) (EnvT.ofX (ax (ac aau al)) am ap aI an) akc rfl
def abU:Env:=(eZ [(101,pw),(172,yJ)] [274])
def ahX:Hints:=(hZ [] [])
def abT:PFn:=aD (runF Tryz.prog abU ahX Tryz.f254)
def aoi:TH:={ loops:=[],ro:=[2,3] }
def zcl (a0:vV2) (a1:vV2):Option Int :=
(za1 a0.1 a1.1).bind fun r1 =>
 cond (!decide (r1=0)) (
(za1 a0.1 a1.1).bind fun r2 =>
 some r2) (
(zb7 a0.2.1 a1.2.1).bind fun r3 =>
 some r3)
def uo:TFn:={ ps:=(.cons tT13 (.cons tT13 .unit)),res:=(.int .i64),fn:=fun v=>zcl v.1 v.2.1 }
def ahW:TEnv:=(vZ [(101,mG),(172,sD)])
theorem ahV:runY Tryz.prog abU ahX ahW aoi Tryz.f254 uo.ps uo.res=uo.fn:=by kernel_rfl
theorem abS:aB Tryz.prog G0 254 abT:=ah (aj ⟨ay,(ai jo (ai vr ae)),ar,ae,aq⟩ Tryz.func254 rfl (by kernel_rfl))
theorem ahU:TOk abT uo:=az (E:=abU) (ET:=ahW) (EnvT.ofX (ax (ac nS (ac aax al))) am ap aI an) ahV rfl
def acj:Env:=(eZ [(109,mD),(254,abT)] [274])
def aiy:Hints:=(hZ [(2,[0,3])] [])
def aci:PFn:=aD (runF Tryz.prog acj aiy Tryz.f185)
def aot:TH:={ loops:=[(2,{ keep:=[(3,(.int .i64))],mem:=[] })],ro:=[] }
def qw (a0:List vV2) (y2:(Int×Unit)):Option ((Int×Unit)⊕Bool) :=
 cond (decide (y2.1<(a0.length:Int))) (
(atI a0 y2.1).bind fun x1 =>
(zbi x1.1).bind fun r2 =>
 cond (!r2) (some (.inr false)) ((atI a0 y2.1).bind fun x3 =>
 cond (decide (x3.2.1<0)) (some (.inr false)) ((atI a0 y2.1).bind fun x4 =>
 cond (decide (x4.2.1>15)) (
 some (.inr false)) (
 cond (decide (y2.1>0)) ((atI a0 (IntKind.wrap .i64 (y2.1-1))).bind fun x5 =>
(atI a0 y2.1).bind fun x6 =>
(zcl x5 x6).bind fun r7 =>
 cond (!decide (r7=(-1))) (
 some (.inr false)) (
 some (.inl ((IntKind.wrap .i64 (y2.1+1)),())))) (some (.inl ((IntKind.wrap .i64 (y2.1+1)),()))))))) (
 some (.inr true))
def zcb (a0:List vV2):Option Bool :=
 aK (qw a0) (0,())
def uD:TFn:={ ps:=(.cons (.sl tT13) .unit),res:=.bool,fn:=fun v=>zcb v.1 }
def aix:TEnv:=(vZ [(109,jk),(254,uo)])
theorem aiw:runY Tryz.prog acj aiy aix aot Tryz.f185 uD.ps uD.res=uD.fn:=by kernel_rfl
theorem ach:aB Tryz.prog G0 185 aci:=ah (aj ⟨ay,(ai f0 (ai abS ae)),ar,ae,aq⟩ Tryz.func185 rfl (by kernel_rfl))
theorem aiv:TOk aci uD:=az (E:=acj) (ET:=aix) (EnvT.ofX (ax (ac jj (ac ahU al))) am ap aI an) aiw rfl
def ac5:Env:=(eZ [(183,adx),(184,adq),(185,aci)] [274])
def ajM:Hints:=(hZ [] [])
def ac4:PFn:=aD (runF Tryz.prog ac5 ajM Tryz.f110)
def aoN:TH:={ joins:=[(9,{ keep:=[(1,(.bx 0 0))],mem:=[.same,.gone] }),(11,{ keep:=[(1,(.bx 0 0))],mem:=[.same,.gone] }),(13,{ keep:=[(1,(.bx 0 0))],mem:=[.same,.gone] }),(15,{ keep:=[(1,(.bx 0 0))],mem:=[.same,.gone] })],loops:=[],cuts:=[(11,[(8,{ keep:=[(1,(.bx 0 0)),(55,.bool)],mem:=[.same,.gone] })])],ro:=[1],news:=[] }
def zbr (a0:vV3):Option Int :=
 cond (decide (a0.1<1)) (some 18) (cond (decide (a0.1>5)) (
 some 18) (
(zbh a0.2.1).bind fun r1 =>
 cond (!decide (r1=0)) (
 some r1) (
(cond (decide (a0.1=3)) (cond (!(eqV tT16 a0.2.2.1 (0,0,[],()))) (
 some (.inr 2)) (
 some (.inl ()))) (cond (decide (a0.1=5)) (cond (!(eqV tT16 a0.2.2.1 (0,0,[],()))) (
 some (.inr 2)) (
 some (.inl ()))) (some (.inl ()))):Option (Unit⊕Int)).bind (bK fun v2 =>
(cond (!decide (a0.1=3)) (cond (!decide (a0.1=5)) ((zbk a0.2.2.1).bind fun r3 =>
 cond (!r3) (
 some (.inr 2)) (
 some (.inl ()))) (some (.inl ()))) (some (.inl ())):Option (Unit⊕Int)).bind (bK fun v4 =>
((cond (!decide (a0.1=3)) (some ((!decide (a0.2.2.2.1=0)),())) (some (false,())):Option (Bool×Unit)).bind fun v5 =>
 cond v5.1 (some (.inr 2)) (cond (decide (a0.1=3)) (cond (decide (a0.2.2.2.1=0)) (some (.inr 2)) (cond (decide (a0.2.2.2.1>2147483647)) (some (.inr 2)) (cond (decide (a0.2.2.2.1<(-2147483647))) (
 some (.inr 2)) (
 some (.inl ()))))) (some (.inl ()))):Option (Unit⊕Int)).bind (bK fun v6 =>
(cond (decide (a0.1=2)) (cond (decide ((a0.2.2.2.2.1.length:Int)>0)) (
 some (.inr 2)) (
 some (.inl ()))) (cond (decide (a0.1=3)) (cond (decide ((a0.2.2.2.2.1.length:Int)>0)) (
 some (.inr 2)) (
 some (.inl ()))) (some (.inl ()))):Option (Unit⊕Int)).bind (bK fun v7 =>
 cond (decide ((a0.2.2.2.2.1.length:Int)>256)) (
 some 7) (
(zcb a0.2.2.2.2.1).bind fun r8 =>
 cond (!r8) (
 some 2) (
 some 0)))))))))
def uX:TFn:={ ps:=(.cons tT12 .unit),res:=(.int .i64),fn:=fun v=>zbr v.1 }
def ajL:TEnv:=(vZ [(183,vi),(184,vg),(185,uD)])
theorem ajK:runY Tryz.prog ac5 ajM ajL aoN Tryz.f110 uX.ps uX.res=uX.fn:=by kernel_rfl
theorem ac3:aB Tryz.prog G0 110 ac4:=ah (aj ⟨ay,(ai adw (ai adp (ai ach ae))),ar,ae,aq⟩ Tryz.func110 rfl (by kernel_rfl))
theorem ajJ:TOk ac4 uX:=az (E:=ac5) (ET:=ajL) (EnvT.ofX (ax (ac akm (ac akb (ac aiv al)))) am ap aI an) ajK rfl
def abX:Env:=(eZ [] [274])
def ah1:Hints:=(hZ [] [])
def abW:PFn:=aD (runF Tryz.prog abX ah1 Tryz.f111)
def aoj:TH:={ loops:=[],cuts:=[(2,[(9,{ keep:=[(1,(.bx 0 0)),(3,(.bx 1 0)),(13,.bool)],mem:=[.same,.box 132 tT16] })])],ro:=[1],news:=[] }
def zck (a0:vV3):Option Bool :=
(cond (decide (a0.1=0)) (some ((decide ((a0.2.1.length:Int)=0)),(0,0,[],()),())) (some (false,(0,0,[],()),())):Option (Bool×(Int×Int×List UInt8×Unit)×Unit)).bind fun v1 =>
 cond v1.1 (cond (eqV tT16 a0.2.2.1 v1.2.1) (cond (decide (a0.2.2.2.1=0)) (some (decide ((a0.2.2.2.2.1.length:Int)=0))) (some false)) (some false)) (some false)
def uq:TFn:={ ps:=(.cons tT12 .unit),res:=.bool,fn:=fun v=>zck v.1 }
def ah0:TEnv:=(vZ [])
theorem ahZ:runY Tryz.prog abX ah1 ah0 aoj Tryz.f111 uq.ps uq.res=uq.fn:=by kernel_rfl
theorem abV:aB Tryz.prog G0 111 abW:=ah (aj ⟨ay,ae,ar,ae,aq⟩ Tryz.func111 rfl (by kernel_rfl))
theorem ahY:TOk abW uq:=az (E:=abX) (ET:=ah0) (EnvT.ofX (ax al) am ap aI an) ahZ rfl
def adb:Env:=(eZ [(109,mD),(110,ac4),(111,abW)] [274])
def ajU:Hints:=(hZ [(8,[1,3])] [])
def ada:PFn:=aD (runF Tryz.prog adb ajU Tryz.f42)
def aoP:TH:={ loops:=[(8,{ keep:=[(1,(.bx 0 0)),(3,(.int .i64))],mem:=[.same] })],cuts:=[(1,[(9,{ keep:=[(1,(.bx 0 0)),(13,.bool)],mem:=[.same] })])],ro:=[1],news:=[] }
def nP (a0:vV1) (y8:(Int×Unit)):Option ((Int×Unit)⊕Int) :=
 cond (decide (y8.1<(a0.2.2.2.2.1.length:Int))) (
(atI a0.2.2.2.2.1 y8.1).bind fun x3 =>
(zbr x3).bind fun r4 =>
 cond (!decide (r4=0)) (cond a0.2.2.2.1 ((atI a0.2.2.2.2.1 y8.1).bind fun x5 =>
(zck x5).bind fun r6 =>
 cond (!r6) (
 some (.inr r4)) (
 some (.inl ((IntKind.wrap .i64 (y8.1+1)),())))) (some (.inr r4))) (some (.inl ((IntKind.wrap .i64 (y8.1+1)),())))) (
 some (.inr 0))
def zbp (a0:vV1):Option Int :=
((zbi a0.1).bind fun r1 =>
 cond (!r1) (some (true,())) (some ((decide (a0.2.1<0)),())):Option (Bool×Unit)).bind fun v2 =>
 cond v2.1 (some 2) (cond (decide (a0.2.1>7)) (some 2) (cond (decide (a0.2.2.1<1)) (some 2) (cond (decide (a0.2.2.1>1099511627776)) (
 some 2) (
 cond (decide ((a0.2.2.2.2.1.length:Int)=0)) (
 some 11) (
 cond (decide ((a0.2.2.2.2.1.length:Int)>16)) (
 some 7) (
 aK (nP a0) (0,())))))))
def uZ:TFn:={ ps:=(.cons tT10 .unit),res:=(.int .i64),fn:=fun v=>zbp v.1 }
def ajT:TEnv:=(vZ [(109,jk),(110,uX),(111,uq)])
theorem ajS:runY Tryz.prog adb ajU ajT aoP Tryz.f42 uZ.ps uZ.res=uZ.fn:=by kernel_rfl
theorem ac9:aB Tryz.prog G0 42 ada:=ah (aj ⟨ay,(ai f0 (ai ac3 (ai abV ae))),ar,ae,aq⟩ Tryz.func42 rfl (by kernel_rfl))
theorem ajR:TOk ada uZ:=az (E:=adb) (ET:=ajT) (EnvT.ofX (ax (ac jj (ac ajJ (ac ahY al)))) am ap aI an) ajS rfl
def abr:Env:=(eZ [(109,mD)] [274])
def ahe:Hints:=(hZ [] [])
def abq:PFn:=aD (runF Tryz.prog abr ahe Tryz.f320)
def an6:TH:={ loops:=[],ro:=[3] }
def zcx (a0:List Int) (a1:(Int×Int×Unit)):Option Bool :=
(zbi a1).bind fun r1 =>
 cond r1 ((inI 16 a1.1).bind fun i2 =>
(a0[i2]?).bind fun x3 =>
 some (decide (x3≥a1.2.1))) (some false)
def tY:TFn:={ ps:=(.cons (.arr 16 (.int .i64)) (.cons tT11 .unit)),res:=.bool,fn:=fun v=>zcx v.1 v.2.1 }
def ahd:TEnv:=(vZ [(109,jk)])
theorem ahc:runY Tryz.prog abr ahe ahd an6 Tryz.f320 tY.ps tY.res=tY.fn:=by kernel_rfl
theorem abp:aB Tryz.prog G0 320 abq:=ah (aj ⟨ay,(ai f0 ae),ar,ae,aq⟩ Tryz.func320 rfl (by kernel_rfl))
theorem ahb:TOk abq tY:=az (E:=abr) (ET:=ahd) (EnvT.ofX (ax (ac jj al)) am ap aI an) ahc rfl
def abI:Env:=(eZ [(320,abq)] [274])
def ahC:Hints:=(hZ [(4,[2,3,5])] [])
def abH:PFn:=aD (runF Tryz.prog abI ahC Tryz.f270)
def aoc:TH:={ loops:=[(4,{ keep:=[(2,(.bx 0 0)),(3,(.bx 1 0)),(5,(.int .i64))],mem:=[.same,.same] })],ro:=[2,3] }
def qt (a0:vV4) (a1:(Int×Int×Unit)) (y4:(Int×Unit)):Option ((Int×Unit)⊕Bool) :=
 cond (decide (y4.1<(a0.2.1.length:Int))) (
(atI a0.2.1 y4.1).bind fun x2 =>
 cond (eqV tT11 x2 a1) (
 some (.inr true)) (
 some (.inl ((IntKind.wrap .i64 (y4.1+1)),())))) (
 some (.inr false))
def zcr (a0:vV4) (a1:(Int×Int×Unit)):Option Bool :=
(zcx a0.1 a1).bind fun r1 =>
 cond r1 (
 some true) (
 aK (qt a0 a1) (0,()))
def ug:TFn:={ ps:=(.cons tT14 (.cons tT11 .unit)),res:=.bool,fn:=fun v=>zcr v.1 v.2.1 }
def ahB:TEnv:=(vZ [(320,tY)])
theorem ahA:runY Tryz.prog abI ahC ahB aoc Tryz.f270 ug.ps ug.res=ug.fn:=by kernel_rfl
theorem abG:aB Tryz.prog G0 270 abH:=ah (aj ⟨ay,(ai abp ae),ar,ae,aq⟩ Tryz.func270 rfl (by kernel_rfl))
theorem ahz:TOk abH ug:=az (E:=abI) (ET:=ahB) (EnvT.ofX (ax (ac ahb al)) am ap aI an) ahA rfl
def afv:Env:=(eZ [] [274])
def am3:Hints:=(hZ [(3,[1,2,3,4])] [])
def afu:PFn:=aD (runF Tryz.prog afv am3 Tryz.f294)
def apB:TH:={ loops:=[(3,{ keep:=[(1,(.bx 0 0)),(2,(.bx 1 0)),(3,(.bx 2 0)),(4,(.int .i64))],mem:=[.same,.box 66 tT18,.box 66 (.agg (.cons (.arr 16 (.int .i64)) (.cons (.own 4) .unit))),.gone,.row true 72 tT11] })],ro:=[1] }
def qP (a0:vV4) (y3:(Int×vV7×vV7×List (Int×Int×Unit)×Unit)):Option ((Int×vV7×vV7×List (Int×Int×Unit)×Unit)⊕vV4) :=
 cond (decide (y3.1<(a0.2.1.length:Int))) (
(atI a0.2.1 y3.1).bind fun x1 =>
(inI 16 x1.1).bind fun i2 =>
(y3.2.2.1.1[i2]?).bind fun x3 =>
 cond (decide (x1.2.1=(IntKind.wrap .i64 (x3+1)))) (
(inI 16 x1.1).bind fun i4 =>
(y3.2.2.1.1[i4]?).bind fun x5 =>
 some (.inl ((IntKind.wrap .i64 (y3.1+1)),y3.2.1,((y3.2.2.1.1.set i4 x1.2.1),y3.2.2.1.2.1,()),y3.2.2.2.1,()))) (
(inI 16 x1.1).bind fun i6 =>
(y3.2.2.1.1[i6]?).bind fun x7 =>
 cond (decide (x1.2.1>x7)) (
(dF (y3.2.2.2.1.length+([x1]:List (Int×Int×Unit)).length)).bind fun u8 =>
 some (.inl ((IntKind.wrap .i64 (y3.1+1)),y3.2.1,(y3.2.2.1.1,(),()),(y3.2.2.2.1++([x1]:List (Int×Int×Unit))),()))) (
 some (.inl ((IntKind.wrap .i64 (y3.1+1)),y3.2.1,y3.2.2.1,y3.2.2.2.1,()))))) (
 some (.inr (y3.2.2.1.1,y3.2.2.2.1,())))
def za6 (a0:vV4):Option vV4 :=
 aK (qP a0) (0,([0,0,0,0,0,0,0,0,0,0,0,0,0,0,0,0],(),()),(a0.1,(),()),[],())
def vX:TFn:={ ps:=(.cons tT14 .unit),res:=tT14,fn:=fun v=>za6 v.1 }
def am2:TEnv:={ pure:=[],look:=[],glob:=G0T,ty:=[(72,tT11)],raw:=[],fresh:=[] }
theorem am1:runY Tryz.prog afv am3 am2 apB Tryz.f294 vX.ps vX.res=vX.fn:=by kernel_rfl
theorem aft:aB Tryz.prog G0 294 afu:=ah (aj ⟨ay,ae,ar,ae,aq⟩ Tryz.func294 rfl (by kernel_rfl))
theorem am0:TOk afu vX:=az (E:=afv) (ET:=am2) (EnvT.ofX (ax al) am ap aI an) am1 rfl
def abo:Env:=(eZ [(101,pw),(109,mD),(270,abH),(294,afu)] [274])
def aha:Hints:=(hZ [(6,[2,3,4,5,6,7])] [56])
def abn:PFn:=aD (runF Tryz.prog abo aha Tryz.f236)
def an5:TH:={ joins:=[(12,{ keep:=[(2,(.bx 0 0)),(3,(.bx 1 0)),(4,(.bx 2 0)),(5,(.own 3)),(6,.bool)],mem:=[.same,.same,.box 66 tT18,.row true 72 tT11] }),(11,{ keep:=[(2,(.bx 0 0)),(3,(.bx 1 0)),(4,(.bx 2 0)),(5,(.own 3)),(6,.bool)],mem:=[.same,.same,.box 66 tT18,.row true 72 tT11] }),(14,{ keep:=[(2,(.bx 0 0)),(4,(.bx 2 0)),(5,(.own 3))],mem:=[.same,.same,.box 66 tT18,.row true 72 tT11] })],loops:=[(6,{ keep:=[(2,(.bx 0 0)),(3,(.bx 1 0)),(4,(.bx 2 0)),(5,(.own 3)),(6,.bool),(7,(.int .i64))],mem:=[.same,.same,.box 66 tT18,.row true 72 tT11] })],ro:=[2,3] }
def qr (a0:vV4) (a1:(Int×Int×Unit)) (y6:(Bool×Int×vV7×List (Int×Int×Unit)×Unit)):Option ((Bool×Int×vV7×List (Int×Int×Unit)×Unit)⊕((Bool×vV7×List (Int×Int×Unit)×Unit)⊕vV4)) :=
 cond (decide (y6.2.1<(a0.2.1.length:Int))) (
(cond (!y6.1) ((atI a0.2.1 y6.2.1).bind fun x3 =>
(za1 a1 x3).bind fun r4 =>
 cond (decide (r4<0)) (
(dF (y6.2.2.2.1.length+([a1]:List (Int×Int×Unit)).length)).bind fun u5 =>
 some (.inl (true,y6.2.2.1,(y6.2.2.2.1++([a1]:List (Int×Int×Unit))),()))) (
 some (.inl (y6.1,y6.2.2.1,y6.2.2.2.1,())))) (some (.inl (y6.1,y6.2.2.1,y6.2.2.2.1,()))):Option ((Bool×vV7×List (Int×Int×Unit)×Unit)⊕((Bool×Int×vV7×List (Int×Int×Unit)×Unit)⊕((Bool×vV7×List (Int×Int×Unit)×Unit)⊕vV4)))).bind (bK fun v6 =>
(atI a0.2.1 y6.2.1).bind fun x7 =>
(dF (v6.2.2.1.length+([x7]:List (Int×Int×Unit)).length)).bind fun u8 =>
 some (.inl (v6.1,(IntKind.wrap .i64 (y6.2.1+1)),v6.2.1,(v6.2.2.1++([x7]:List (Int×Int×Unit))),())))) (
 some (.inr (.inl (y6.1,y6.2.2.1,y6.2.2.2.1,()))))
def zcy (a0:vV4) (a1:(Int×Int×Unit)):Option vV4 :=
(zbi a1).bind fun r1 =>
 cond (!r1) (some a0) ((zcr a0 a1).bind fun r2 =>
 cond r2 (
 some a0) (
(aK (qr a0 a1) (false,0,([0,0,0,0,0,0,0,0,0,0,0,0,0,0,0,0],(),()),[],()):Option ((Bool×vV7×List (Int×Int×Unit)×Unit)⊕vV4)).bind (bK fun v9 =>
(cond (!v9.1) (
(dF (v9.2.2.1.length+([a1]:List (Int×Int×Unit)).length)).bind fun u10 =>
 some (.inl (v9.2.1,(v9.2.2.1++([a1]:List (Int×Int×Unit))),()))) (
 some (.inl (v9.2.1,v9.2.2.1,()))):Option ((vV7×List (Int×Int×Unit)×Unit)⊕vV4)).bind (bK fun v11 =>
(za6 (a0.1,v11.2.1,())).bind fun r12 =>
 some r12))))
def tX:TFn:={ ps:=(.cons tT14 (.cons tT11 .unit)),res:=tT14,fn:=fun v=>zcy v.1 v.2.1 }
def ag9:TEnv:={ pure:=[(101,mG),(109,jk),(270,ug),(294,vX)],look:=[],glob:=G0T,ty:=[(72,tT11)],raw:=[],fresh:=[] }
theorem ag8:runY Tryz.prog abo aha ag9 an5 Tryz.f236 tX.ps tX.res=tX.fn:=by kernel_rfl
theorem abm:aB Tryz.prog G0 236 abn:=ah (aj ⟨ay,(ai jo (ai f0 (ai abG (ai aft ae)))),ar,ae,aq⟩ Tryz.func236 rfl (by kernel_rfl))
theorem ag7:TOk abn tX:=az (E:=abo) (ET:=ag9) (EnvT.ofX (ax (ac nS (ac jj (ac ahz (ac am0 al))))) am ap aI an) ag8 rfl
def adE:Env:=(eZ [(236,abn)] [274])
def akx:Hints:=(hZ [(3,[0,2,3,4])] [])
def adD:PFn:=aD (runF Tryz.prog adE akx Tryz.f168)
def aoZ:TH:={ loops:=[(3,{ keep:=[(2,(.bx 0 0)),(3,(.bx 1 0)),(4,(.int .i64))],mem:=[.box 66 tT18,.box 66 tT14] })],ro:=[] }
def qE (a0:List vV1) (y3:(Int×vV7×vV4×Unit)):Option ((Int×vV7×vV4×Unit)⊕vV4) :=
 cond (decide (y3.1<(a0.length:Int))) (
(atI a0 y3.1).bind fun x1 =>
(zcy y3.2.2.1 x1.1).bind fun r2 =>
 some (.inl ((IntKind.wrap .i64 (y3.1+1)),y3.2.1,r2,()))) (
 some (.inr y3.2.2.1))
def zbf (a0:List vV1):Option vV4 :=
 aK (qE a0) (0,([0,0,0,0,0,0,0,0,0,0,0,0,0,0,0,0],(),()),([0,0,0,0,0,0,0,0,0,0,0,0,0,0,0,0],[],()),())
def vk:TFn:={ ps:=(.cons (.sl tT10) .unit),res:=tT14,fn:=fun v=>zbf v.1 }
def akw:TEnv:=(vZ [(236,tX)])
theorem akv:runY Tryz.prog adE akx akw aoZ Tryz.f168 vk.ps vk.res=vk.fn:=by kernel_rfl
theorem adC:aB Tryz.prog G0 168 adD:=ah (aj ⟨ay,(ai abm ae),ar,ae,aq⟩ Tryz.func168 rfl (by kernel_rfl))
theorem aku:TOk adD vk:=az (E:=adE) (ET:=akw) (EnvT.ofX (ax (ac ag7 al)) am ap aI an) akv rfl
def adU:Env:=(eZ [] [274])
def akU:Hints:=(hZ [(4,[0,1,5])] [])
def adT:PFn:=aD (runF Tryz.prog adU akU Tryz.f65)
def ao5:TH:={ loops:=[(4,{ keep:=[(5,(.int .i64))],mem:=[] })],ro:=[] }
def qF (a0:List (Int×Int×Unit)) (a1:List (Int×Int×Unit)) (y4:(Int×Unit)):Option ((Int×Unit)⊕Bool) :=
 cond (decide (y4.1<(a0.length:Int))) (
(atI a0 y4.1).bind fun x1 =>
(atI a1 y4.1).bind fun x2 =>
 cond (!(eqV tT11 x1 x2)) (
 some (.inr false)) (
 some (.inl ((IntKind.wrap .i64 (y4.1+1)),())))) (
 some (.inr true))
def zb9 (a0:List (Int×Int×Unit)) (a1:List (Int×Int×Unit)):Option Bool :=
 cond (!decide ((a0.length:Int)=(a1.length:Int))) (
 some false) (
 aK (qF a0 a1) (0,()))
def vp:TFn:={ ps:=(.cons (.sl tT11) (.cons (.sl tT11) .unit)),res:=.bool,fn:=fun v=>zb9 v.1 v.2.1 }
def akT:TEnv:=(vZ [])
theorem akS:runY Tryz.prog adU akU akT ao5 Tryz.f65 vp.ps vp.res=vp.fn:=by kernel_rfl
theorem adS:aB Tryz.prog G0 65 adT:=ah (aj ⟨ay,ae,ar,ae,aq⟩ Tryz.func65 rfl (by kernel_rfl))
theorem akR:TOk adT vp:=az (E:=adU) (ET:=akT) (EnvT.ofX (ax al) am ap aI an) akS rfl
def ab5:Env:=(eZ [(65,adT)] [274])
def aif:Hints:=(hZ [] [])
def ab4:PFn:=aD (runF Tryz.prog ab5 aif Tryz.f167)
def aon:TH:={ loops:=[],ro:=[2,3] }
def zcg (a0:vV4) (a1:vV4):Option Bool :=
 cond (eqV (.arr 16 (.int .i64)) a0.1 a1.1) ((zb9 a0.2.1 a1.2.1).bind fun r1 =>
 some r1) (some false)
def uz:TFn:={ ps:=(.cons tT14 (.cons tT14 .unit)),res:=.bool,fn:=fun v=>zcg v.1 v.2.1 }
def aie:TEnv:=(vZ [(65,vp)])
theorem aid:runY Tryz.prog ab5 aif aie aon Tryz.f167 uz.ps uz.res=uz.fn:=by kernel_rfl
theorem ab3:aB Tryz.prog G0 167 ab4:=ah (aj ⟨ay,(ai adS ae),ar,ae,aq⟩ Tryz.func167 rfl (by kernel_rfl))
theorem aic:TOk ab4 uz:=az (E:=ab5) (ET:=aie) (EnvT.ofX (ax (ac akR al)) am ap aI an) aid rfl
def acU:Env:=(eZ [(42,ada),(109,mD),(152,adA),(153,acW),(166,adn),(167,ab4),(168,adD)] [274])
def ajt:Hints:=(hZ [(4,[1,3]),(9,[1,4]),(14,[1,4,5])] [])
def acT:PFn:=aD (runF Tryz.prog acU ajt Tryz.f96)
def aoI:TH:={ joins:=[(8,{ keep:=[(1,(.bx 0 0))],mem:=[.box 69 tT9] }),(18,{ keep:=[(1,(.bx 0 0))],mem:=[.box 69 tT9] })],loops:=[(4,{ keep:=[(1,(.bx 0 0)),(3,(.int .i64))],mem:=[.box 69 tT9] }),(9,{ keep:=[(1,(.bx 0 0)),(4,(.int .i64))],mem:=[.box 69 tT9] }),(14,{ keep:=[(1,(.bx 0 0)),(5,(.int .i64))],mem:=[.box 69 tT9] })],ro:=[] }
def qy (y4:(Int×vV0×Unit)):Option ((Int×vV0×Unit)⊕((vV0×Unit)⊕Bool)) :=
 cond (decide (y4.1<(y4.2.1.1.length:Int))) (
(atI y4.2.1.1 y4.1).bind fun x4 =>
(zbp x4).bind fun r5 =>
 cond (!decide (r5=0)) (
 some (.inr (.inr false))) (
 some (.inl ((IntKind.wrap .i64 (y4.1+1)),y4.2.1,())))) (
 some (.inr (.inl (y4.2.1,()))))
def mC (y9:(Int×vV0×Unit)) (y14:(Int×vV0×Unit)):Option ((Int×vV0×Unit)⊕((Int×vV0×Unit)⊕((vV0×Unit)⊕Bool))) :=
(inI 8 y9.1).bind fun i9 =>
(y14.2.1.2.2.2.2.1[i9]?).bind fun x10 =>
 cond (decide (y14.1<(x10.length:Int))) (
(inI 8 y9.1).bind fun i11 =>
(y14.2.1.2.2.2.2.1[i11]?).bind fun x12 =>
(atI x12 y14.1).bind fun x13 =>
(zbi x13).bind fun r14 =>
 cond (!r14) (
 some (.inr (.inr (.inr false)))) (
 some (.inl ((IntKind.wrap .i64 (y14.1+1)),y14.2.1,())))) (
 some (.inr (.inl ((IntKind.wrap .i64 (y9.1+1)),y14.2.1,()))))
def kX (y9:(Int×vV0×Unit)):Option ((Int×vV0×Unit)⊕((vV0×Unit)⊕Bool)) :=
 cond (decide (y9.1<8)) (
(inI 8 y9.1).bind fun i7 =>
(y9.2.1.2.2.2.2.1[i7]?).bind fun x8 =>
 cond (decide ((x8.length:Int)>1000)) (
 some (.inr (.inr false))) (
 aK (mC y9) (0,y9.2.1,()))) (
 some (.inr (.inl (y9.2.1,()))))
def zbw (a0:vV0):Option Bool :=
 cond (decide ((a0.1.length:Int)>1000)) (some false) ((zbg a0.1).bind fun r1 =>
 cond (!r1) (some false) ((zbv a0.2.1).bind fun r2 =>
 cond (!r2) (some false) ((zbl a0.2.2.2.1).bind fun r3 =>
 cond (!r3) (
 some false) (
(aK (qy) (0,a0,()):Option ((vV0×Unit)⊕Bool)).bind (bK fun v6 =>
(aK (kX) (0,v6.1,()):Option ((vV0×Unit)⊕Bool)).bind (bK fun v15 =>
(zbl v15.1.2.2.1).bind fun r16 =>
 cond r16 ((zbf v15.1.1).bind fun r17 =>
(zcg v15.1.2.2.1 r17).bind fun r18 =>
 some r18) (some false)))))))
def uS:TFn:={ ps:=(.cons tT9 .unit),res:=.bool,fn:=fun v=>zbw v.1 }
def ajs:TEnv:=(vZ [(42,uZ),(109,jk),(152,vj),(153,uT),(166,vf),(167,uz),(168,vk)])
theorem ajr:runY Tryz.prog acU ajt ajs aoI Tryz.f96 uS.ps uS.res=uS.fn:=by kernel_rfl
theorem acS:aB Tryz.prog G0 96 acT:=ah (aj ⟨ay,(ai ac9 (ai f0 (ai adz (ai acV (ai adm (ai ab3 (ai adC ae))))))),ar,ae,aq⟩ Tryz.func96 rfl (by kernel_rfl))
theorem ajq:TOk acT uS:=az (E:=acU) (ET:=ajs) (EnvT.ofX (ax (ac ajR (ac jj (ac akq (ac aju (ac aj7 (ac aic (ac aku al)))))))) am ap aI an) ajr rfl
def acg:Env:=(eZ [(95,acN),(96,acT)] [274])
def aiu:Hints:=(hZ [] [])
def acf:PFn:=aD (runF Tryz.prog acg aiu Tryz.f33)
def aos:TH:={ loops:=[],ro:=[1] }
def zcc (a0:vV0):Option Bool :=
(zby a0).bind fun r1 =>
 cond r1 ((zbw a0).bind fun r2 =>
 some r2) (some false)
def uC:TFn:={ ps:=(.cons tT9 .unit),res:=.bool,fn:=fun v=>zcc v.1 }
def ait:TEnv:=(vZ [(95,uQ),(96,uS)])
theorem ais:runY Tryz.prog acg aiu ait aos Tryz.f33 uC.ps uC.res=uC.fn:=by kernel_rfl
theorem ace:aB Tryz.prog G0 33 acf:=ah (aj ⟨ay,(ai acM (ai acS ae)),ar,ae,aq⟩ Tryz.func33 rfl (by kernel_rfl))
theorem air:TOk acf uC:=az (E:=acg) (ET:=ait) (EnvT.ofX (ax (ac aji (ac ajq al))) am ap aI an) ais rfl
def acG:Env:=(eZ [] [274])
def ai7:Hints:=(hZ [] [])
def acF:PFn:=aD (runF Tryz.prog acG ai7 Tryz.f98)
def aoC:TH:=yZ
def zc2 (a0:Int):Option vV1 :=
 some ((0,a0,()),1,a0,false,([(3,([[97]]:List (List UInt8)),(0,0,[],()),1,[],())]:List vV3),())
def uM:TFn:={ ps:=tT19,res:=tT10,fn:=fun v=>zc2 v.1 }
def ai6:TEnv:={ pure:=[],look:=[],glob:=G0T,ty:=[(9,.str),(135,tT12)],raw:=[],fresh:=[] }
theorem ai5:runY Tryz.prog acG ai7 ai6 aoC Tryz.f98 uM.ps uM.res=uM.fn:=by kernel_rfl
theorem acE:aB Tryz.prog G0 98 acF:=ah (aj ⟨ay,ae,ar,ae,aq⟩ Tryz.func98 rfl (by kernel_rfl))
theorem ai4:TOk acF uM:=az (E:=acG) (ET:=ai6) (EnvT.ofX (ax al) am ap aI an) ai5 rfl
def afH:Env:=(eZ [] [274])
def ank:Hints:=(hZ [] [])
def afG:PFn:=aD (runF Tryz.prog afH ank Tryz.f226)
def apF:TH:=yZ
def za2 (a0:Int):Option Bool :=
 some (!decide (a0=a0))
def wb:TFn:={ ps:=tT19,res:=.bool,fn:=fun v=>za2 v.1 }
def anj:TEnv:=(vZ [])
theorem ani:runY Tryz.prog afH ank anj apF Tryz.f226 wb.ps wb.res=wb.fn:=by kernel_rfl
theorem afF:aB Tryz.prog G0 226 afG:=ah (aj ⟨ay,ae,ar,ae,aq⟩ Tryz.func226 rfl (by kernel_rfl))
theorem anh:TOk afG wb:=az (E:=afH) (ET:=anj) (EnvT.ofX (ax al) am ap aI an) ani rfl
def aei:Env:=(eZ [(226,afG)] [274])
def alC:Hints:=(hZ [] [])
def vF:PFn:=aD (runF Tryz.prog aei alC Tryz.f156)
def aph:TH:=yZ
def zax (a0:Int) (a1:Int):Option Int :=
(za2 a0).bind fun r1 =>
(za2 a1).bind fun r2 =>
 cond r1 (
 cond r2 (
 some 0) (
 some (-1))) (
 cond r2 (
 some 1) (
 cond (decide (a0<a1)) (
 some (-1)) (
 cond (decide (a0>a1)) (
 some 1) (
 some 0))))
def po:TFn:={ ps:=(.cons (.int .i64) tT19),res:=(.int .i64),fn:=fun v=>zax v.1 v.2.1 }
def alB:TEnv:=(vZ [(226,wb)])
theorem alA:runY Tryz.prog aei alC alB aph Tryz.f156 po.ps po.res=po.fn:=by kernel_rfl
theorem pp:aB Tryz.prog G0 156 vF:=ah (aj ⟨ay,(ai afF ae),ar,ae,aq⟩ Tryz.func156 rfl (by kernel_rfl))
theorem vE:TOk vF po:=az (E:=aei) (ET:=alB) (EnvT.ofX (ax (ac anh al)) am ap aI an) alA rfl
def ad2:Env:=(eZ [] [274])
def ak8:Hints:=(hZ [(3,[3,6,7,8])] [])
def vv:PFn:=aD (runF Tryz.prog ad2 ak8 Tryz.f154)
def ao9:TH:={ loops:=[(3,{ keep:=[(8,(.int .i64))],mem:=[] })],ro:=[] }
def iz (a0:List Int) (y3:(Int×Unit)):Option ((Int×Unit)⊕Int) :=
 cond (decide (y3.1<(a0.length:Int))) (
(atI a0 y3.1).bind fun x1 =>
 cond (!decide (x1=0)) (
 some (.inr x1)) (
 some (.inl ((IntKind.wrap .i64 (y3.1+1)),())))) (
 some (.inr 0))
def zb5 (a0:List Int):Option Int :=
 aK (iz a0) (0,())
def pm:TFn:={ ps:=(.cons (.sl (.int .i64)) .unit),res:=(.int .i64),fn:=fun v=>zb5 v.1 }
def ak7:TEnv:=(vZ [])
theorem ak6:runY Tryz.prog ad2 ak8 ak7 ao9 Tryz.f154 pm.ps pm.res=pm.fn:=by kernel_rfl
theorem pn:aB Tryz.prog G0 154 vv:=ah (aj ⟨ay,ae,ar,ae,aq⟩ Tryz.func154 rfl (by kernel_rfl))
theorem vu:TOk vv pm:=az (E:=ad2) (ET:=ak7) (EnvT.ofX (ax al) am ap aI an) ak6 rfl
def adF:Env:=(eZ [(154,vv),(156,vF)] [274])
def akA:Hints:=(hZ [] [])
def mE:PFn:=aD (runF Tryz.prog adF akA Tryz.f171)
def ao0:TH:={ loops:=[],ro:=[2,3] }
def zbe (a0:(Int×Int×Unit)) (a1:(Int×Int×Unit)):Option Int :=
(zax a0.1 a1.1).bind fun r1 =>
(zax a0.2.1 a1.2.1).bind fun r2 =>
(zb5 ([r1,r2]:List Int)).bind fun r3 =>
 some r3
def jm:TFn:={ ps:=(.cons tT11 (.cons tT11 .unit)),res:=(.int .i64),fn:=fun v=>zbe v.1 v.2.1 }
def akz:TEnv:={ pure:=[(154,pm),(156,po)],look:=[],glob:=G0T,ty:=[(3,(.int .i64))],raw:=[],fresh:=[] }
theorem aky:runY Tryz.prog adF akA akz ao0 Tryz.f171 jm.ps jm.res=jm.fn:=by kernel_rfl
theorem f6:aB Tryz.prog G0 171 mE:=ah (aj ⟨ay,(ai pn (ai pp ae)),ar,ae,aq⟩ Tryz.func171 rfl (by kernel_rfl))
theorem jl:TOk mE jm:=az (E:=adF) (ET:=akz) (EnvT.ofX (ax (ac vu (ac vE al))) am ap aI an) aky rfl
def ab9:Env:=(eZ [(171,mE)] [274])
def aim:Hints:=(hZ [] [])
def ab8:PFn:=aD (runF Tryz.prog ab9 aim Tryz.f193)
def aoq:TH:={ loops:=[],ro:=[2,3] }
def zce (a0:vV1) (a1:(Int×Int×Unit)):Option Int :=
(zbe a0.1 a1).bind fun r1 =>
 some r1
def uA:TFn:={ ps:=(.cons tT10 (.cons tT11 .unit)),res:=(.int .i64),fn:=fun v=>zce v.1 v.2.1 }
def ail:TEnv:=(vZ [(171,jm)])
theorem aik:runY Tryz.prog ab9 aim ail aoq Tryz.f193 uA.ps uA.res=uA.fn:=by kernel_rfl
theorem ab7:aB Tryz.prog G0 193 ab8:=ah (aj ⟨ay,(ai f6 ae),ar,ae,aq⟩ Tryz.func193 rfl (by kernel_rfl))
theorem aij:TOk ab8 uA:=az (E:=ab9) (ET:=ail) (EnvT.ofX (ax (ac jl al)) am ap aI an) aik rfl
def afc:Env:=(eZ [(193,ab8)] [274])
def amC:Hints:=(hZ [(3,[0,2,4,8,9,10])] [])
def afb:PFn:=aD (runF Tryz.prog afc amC Tryz.f192)
def apu:TH:={ joins:=[(8,{ keep:=[(4,(.bx 0 0)),(9,(.int .i64))],mem:=[.same] })],loops:=[(3,{ keep:=[(4,(.bx 0 0)),(9,(.int .i64)),(10,(.int .i64))],mem:=[.same] })],ro:=[4] }
def qL (a0:List vV1) (a1:(Int×Int×Unit)) (y3:(Int×Int×Unit)):Option ((Int×Int×Unit)⊕((Int×Unit)⊕(Int×Bool×Unit))) :=
 cond (decide (y3.1<y3.2.1)) (
(shrT .u64 (IntKind.wrap .u64 (IntKind.wrap .i64 (y3.1+y3.2.1))) 1).bind fun t1 =>
(atI a0 (IntKind.wrap .i64 t1)).bind fun x2 =>
(zce x2 a1).bind fun r3 =>
 cond (decide (r3<0)) (
 some (.inl ((IntKind.wrap .i64 ((IntKind.wrap .i64 t1)+1)),y3.2.1,()))) (
 some (.inl (y3.1,(IntKind.wrap .i64 t1),())))) (
 some (.inr (.inl (y3.1,()))))
def zad (a0:List vV1) (a1:(Int×Int×Unit)) (a2:Unit):Option (Int×Bool×Unit) :=
(aK (qL a0 a1) (0,(a0.length:Int),()):Option ((Int×Unit)⊕(Int×Bool×Unit))).bind (bK fun v4 =>
 cond (decide (v4.1<(a0.length:Int))) ((atI a0 v4.1).bind fun x5 =>
(zce x5 a1).bind fun r6 =>
 some (v4.1,(decide (r6=0)),())) (some (v4.1,false,())))
def vQ:TFn:={ ps:=(.cons (.sl tT10) (.cons tT11 (.cons (.fn 193) .unit))),res:=(.tup (.cons (.int .i64) (.cons .bool .unit))),fn:=fun v=>zad v.1 v.2.1 v.2.2.1 }
def amB:TEnv:=(vZ [(193,uA)])
theorem amA:runY Tryz.prog afc amC amB apu Tryz.f192 vQ.ps vQ.res=vQ.fn:=by kernel_rfl
theorem afa:aB Tryz.prog G0 192 afb:=ah (aj ⟨ay,(ai ab7 ae),ar,ae,aq⟩ Tryz.func192 rfl (by kernel_rfl))
theorem amz:TOk afb vQ:=az (E:=afc) (ET:=amB) (EnvT.ofX (ax (ac aij al)) am ap aI an) amA rfl
def acn:Env:=(eZ [(192,afb)] [274])
def aiG:Hints:=(hZ [] [])
def acm:PFn:=aD (runF Tryz.prog acn aiG Tryz.f114)
def aov:TH:={ loops:=[],ro:=[3] }
def zc9 (a0:List vV1) (a1:(Int×Int×Unit)):Option Int :=
(zad a0 a1 ()).bind fun r1 =>
 cond (!r1.2.1) (
 some (-1)) (
 some r1.1)
def uF:TFn:={ ps:=(.cons (.sl tT10) (.cons tT11 .unit)),res:=(.int .i64),fn:=fun v=>zc9 v.1 v.2.1 }
def aiF:TEnv:=(vZ [(192,vQ)])
theorem aiE:runY Tryz.prog acn aiG aiF aov Tryz.f114 uF.ps uF.res=uF.fn:=by kernel_rfl
theorem acl:aB Tryz.prog G0 114 acm:=ah (aj ⟨ay,(ai afa ae),ar,ae,aq⟩ Tryz.func114 rfl (by kernel_rfl))
theorem aiD:TOk acm uF:=az (E:=acn) (ET:=aiF) (EnvT.ofX (ax (ac amz al)) am ap aI an) aiE rfl
def abu:Env:=(eZ [(171,mE)] [274])
def ahi:Hints:=(hZ [] [])
def abt:PFn:=aD (runF Tryz.prog abu ahi Tryz.f237)
def an7:TH:={ loops:=[],ro:=[2,3] }
def zcw (a0:vV1) (a1:(Int×Int×Unit)):Option Int :=
(zbe a0.1 a1).bind fun r1 =>
 some r1
def tZ:TFn:={ ps:=(.cons tT10 (.cons tT11 .unit)),res:=(.int .i64),fn:=fun v=>zcw v.1 v.2.1 }
def ahh:TEnv:=(vZ [(171,jm)])
theorem ahg:runY Tryz.prog abu ahi ahh an7 Tryz.f237 tZ.ps tZ.res=tZ.fn:=by kernel_rfl
theorem abs:aB Tryz.prog G0 237 abt:=ah (aj ⟨ay,(ai f6 ae),ar,ae,aq⟩ Tryz.func237 rfl (by kernel_rfl))
theorem ahf:TOk abt tZ:=az (E:=abu) (ET:=ahh) (EnvT.ofX (ax (ac jl al)) am ap aI an) ahg rfl
def aes:Go.Shelf.Ren:=⟨fun | 41=>181 | n=>n,fun | 22=>22 | 23=>78 | 4=>4 | n=>n,fun | n=>n⟩
theorem yP:Go.Proofs.SlLaysE0.n41 Tryz.prog aes:={
 mixed:=by kernel_rfl
 f41:=⟨Tryz.f181.name,by decide,Tryz.func181.trans (congrArg some (by kernel_rfl))⟩
 t4:=Tryz.underlying4
 a4:=Tryz.isAgg4
 z4:=Tryz.sizeOf4
 v4:=Tryz.zeroValue4
 t22:=Tryz.underlying22
 a22:=Tryz.isAgg22
 z22:=Tryz.sizeOf22
 v22:=Tryz.zeroValue22 }
def aeu:SFn:=ko 6 78
theorem aet:cN Tryz.prog G0 181 aeu:=o9 yP rfl rfl (gG (P:=Tryz.prog) (te:=78) (M:=6) (by kernel_rfl) (by kernel_rfl) (by kernel_rfl) (by kernel_rfl) (by kernel_rfl) (by kernel_rfl) (by kernel_rfl) (by kernel_rfl)) ⟨Tryz.f181,Tryz.func181,rfl,by kernel_rfl⟩
def zas (a0:List vV1):Option (List vV1):=ex a0
def alO:TNew:=mb 78 tT10
theorem alN:TNewOk aeu alO:=pc rfl rfl rfl
def aeB:Go.Shelf.Ren:=⟨fun | 22=>238 | 29=>295 | 30=>296 | n=>n,fun | 24=>22 | 9=>78 | 0=>0 | 3=>3 | 4=>4 | n=>n,fun | n=>n⟩
theorem yR:InsL Tryz.prog aeB:={
 mixed:=by kernel_rfl
 f22:=⟨Tryz.f238.name,by decide,Tryz.func238.trans (congrArg some (by kernel_rfl))⟩
 f29:=⟨Tryz.f295.name,by decide,by kernel_rfl,by kernel_rfl,Tryz.func295.trans (congrArg some (by kernel_rfl))⟩
 t0:=Tryz.underlying0
 a0:=Tryz.isAgg0
 z0:=Tryz.sizeOf0
 v0:=Tryz.zeroValue0
 t3:=Tryz.underlying3
 a3:=Tryz.isAgg3
 z3:=Tryz.sizeOf3
 v3:=Tryz.zeroValue3
 t4:=Tryz.underlying4
 a4:=Tryz.isAgg4
 z4:=Tryz.sizeOf4
 v4:=Tryz.zeroValue4
 t24:=Tryz.underlying22
 a24:=Tryz.isAgg22
 z24:=Tryz.sizeOf22
 v24:=Tryz.zeroValue22 }
def aeD:SFn:=dM 6 78
theorem aeC:cN Tryz.prog G0 238 aeD:=lQ yR rfl rfl rfl (gG (P:=Tryz.prog) (te:=78) (M:=6) (by kernel_rfl) (by kernel_rfl) (by kernel_rfl) (by kernel_rfl) (by kernel_rfl) (by kernel_rfl) (by kernel_rfl) (by kernel_rfl)) true Tryz.isAgg78 ⟨Tryz.f238,Tryz.func238,rfl,by kernel_rfl⟩
def zap (a1:Int) (a2:List vV1) (w0:List vV1):Option (Unit×List vV1×Unit):=(insT w0 a1 a2).map fun l=>((),(l,()))
def alV:TRaw:=insR false 78 tT10
theorem alU:TRawOk aeD alV:=xz rfl rfl rfl rfl (by decide)
def ae9:Env:=(eZ [(237,abt)] [274])
def amy:Hints:=(hZ [(3,[0,2,4,8,9,10])] [])
def ae8:PFn:=aD (runF Tryz.prog ae9 amy Tryz.f192)
def apt:TH:={ joins:=[(8,{ keep:=[(4,(.bx 0 0)),(9,(.int .i64))],mem:=[.same] })],loops:=[(3,{ keep:=[(4,(.bx 0 0)),(9,(.int .i64)),(10,(.int .i64))],mem:=[.same] })],ro:=[4] }
def qK (a0:List vV1) (a1:(Int×Int×Unit)) (y3:(Int×Int×Unit)):Option ((Int×Int×Unit)⊕((Int×Unit)⊕(Int×Bool×Unit))) :=
 cond (decide (y3.1<y3.2.1)) (
(shrT .u64 (IntKind.wrap .u64 (IntKind.wrap .i64 (y3.1+y3.2.1))) 1).bind fun t1 =>
(atI a0 (IntKind.wrap .i64 t1)).bind fun x2 =>
(zcw x2 a1).bind fun r3 =>
 cond (decide (r3<0)) (
 some (.inl ((IntKind.wrap .i64 ((IntKind.wrap .i64 t1)+1)),y3.2.1,()))) (
 some (.inl (y3.1,(IntKind.wrap .i64 t1),())))) (
 some (.inr (.inl (y3.1,()))))
def zae (a0:List vV1) (a1:(Int×Int×Unit)) (a2:Unit):Option (Int×Bool×Unit) :=
(aK (qK a0 a1) (0,(a0.length:Int),()):Option ((Int×Unit)⊕(Int×Bool×Unit))).bind (bK fun v4 =>
 cond (decide (v4.1<(a0.length:Int))) ((atI a0 v4.1).bind fun x5 =>
(zcw x5 a1).bind fun r6 =>
 some (v4.1,(decide (r6=0)),())) (some (v4.1,false,())))
def vP:TFn:={ ps:=(.cons (.sl tT10) (.cons tT11 (.cons (.fn 237) .unit))),res:=(.tup (.cons (.int .i64) (.cons .bool .unit))),fn:=fun v=>zae v.1 v.2.1 v.2.2.1 }
def amx:TEnv:=(vZ [(237,tZ)])
theorem amw:runY Tryz.prog ae9 amy amx apt Tryz.f192 vP.ps vP.res=vP.fn:=by kernel_rfl
theorem ae7:aB Tryz.prog G0 192 ae8:=ah (aj ⟨ay,(ai abs ae),ar,ae,aq⟩ Tryz.func192 rfl (by kernel_rfl))
theorem amv:TOk ae8 vP:=az (E:=ae9) (ET:=amx) (EnvT.ofX (ax (ac ahf al)) am ap aI an) amw rfl
def aa0:Env:={ pure:=[(192,ae8)],raw:=[(181,aeu),(238,aeD)],glob:=G0,same:=[274],look:=[],ext:=[] }
def agD:Hints:={ seqs:=[],loops:=[],own:=[19],frz:=[(4,[3])] }
def aaZ:PFn:=aD (runF Tryz.prog aa0 agD Tryz.f169)
def anX:TH:=yZ
def zdg (a0:List vV1) (a1:vV1):Option (List vV1) :=
(zae a0 a1.1 ()).bind fun r1 =>
 cond r1.2.1 (
 some a0) (
(zas a0).bind fun n2 =>
(zap r1.1 ([a1]:List vV1) n2).bind fun q3 =>
 some q3.2.1)
def tN:TFn:={ ps:=(.cons (.sl tT10) (.cons tT10 .unit)),res:=(.sl tT10),fn:=fun v=>zdg v.1 v.2.1 }
def agC:TEnv:={ pure:=[(192,vP)],look:=[],glob:=G0T,ty:=[(78,tT10)],raw:=[(238,alV)],fresh:=[(181,alO)] }
theorem agB:runY Tryz.prog aa0 agD agC anX Tryz.f169 tN.ps tN.res=tN.fn:=by kernel_rfl
theorem aaY:aB Tryz.prog G0 169 aaZ:=ah (aj ⟨ay,(ai ae7 ae),(er aet (er aeC ar)),ae,aq⟩ Tryz.func169 rfl (by kernel_rfl))
theorem agA:TOk aaZ tN:=az (E:=aa0) (ET:=agC) (EnvT.ofX (ax (ac amv al)) am (gn (oo alU rfl rfl ap) rfl) aI (gx alN rfl rfl rfl an)) agB rfl
def abQ:Env:=(eZ [] [274])
def ahQ:Hints:=(hZ [] [])
def mA:PFn:=aD (runF Tryz.prog abQ ahQ Tryz.f173)
def aog:TH:={ loops:=[],ro:=[1] }
def zcn (a0:(Int×Int×Unit)):Option Bool :=
 cond (decide (a0.1≥0)) (cond (decide (a0.1<16)) (cond (decide (a0.2.1≥1)) (some (decide (a0.2.1≤1048576))) (some false)) (some false)) (some false)
def ji:TFn:={ ps:=(.cons tT11 .unit),res:=.bool,fn:=fun v=>zcn v.1 }
def ahP:TEnv:=(vZ [])
theorem ahO:runY Tryz.prog abQ ahQ ahP aog Tryz.f173 ji.ps ji.res=ji.fn:=by kernel_rfl
theorem fZ:aB Tryz.prog G0 173 mA:=ah (aj ⟨ay,ae,ar,ae,aq⟩ Tryz.func173 rfl (by kernel_rfl))
theorem jh:TOk mA ji:=az (E:=abQ) (ET:=ahP) (EnvT.ofX (ax al) am ap aI an) ahO rfl
def aa9:Env:=(eZ [(173,mA)] [274])
def agQ:Hints:=(hZ [] [])
def aa8:PFn:=aD (runF Tryz.prog aa9 agQ Tryz.f194)
def an0:TH:={ loops:=[],ro:=[3] }
def zdd (a0:List Int) (a1:(Int×Int×Unit)):Option Bool :=
(zcn a1).bind fun r1 =>
 cond r1 ((inI 16 a1.1).bind fun i2 =>
(a0[i2]?).bind fun x3 =>
 some (decide (a1.2.1≤x3))) (some false)
def tQ:TFn:={ ps:=(.cons (.arr 16 (.int .i64)) (.cons tT11 .unit)),res:=.bool,fn:=fun v=>zdd v.1 v.2.1 }
def agP:TEnv:=(vZ [(173,ji)])
theorem agO:runY Tryz.prog aa9 agQ agP an0 Tryz.f194 tQ.ps tQ.res=tQ.fn:=by kernel_rfl
theorem aa7:aB Tryz.prog G0 194 aa8:=ah (aj ⟨ay,(ai fZ ae),ar,ae,aq⟩ Tryz.func194 rfl (by kernel_rfl))
theorem agN:TOk aa8 tQ:=az (E:=aa9) (ET:=agP) (EnvT.ofX (ax (ac jh al)) am ap aI an) agO rfl
def afd:Env:=(eZ [(171,mE)] [274])
def amF:Hints:=(hZ [(3,[0,2,4,8,9,10])] [])
def yV:PFn:=aD (runF Tryz.prog afd amF Tryz.f195)
def apv:TH:={ joins:=[(8,{ keep:=[(4,(.bx 0 0)),(9,(.int .i64))],mem:=[.same] })],loops:=[(3,{ keep:=[(4,(.bx 0 0)),(9,(.int .i64)),(10,(.int .i64))],mem:=[.same] })],ro:=[4] }
def qM (a0:List (Int×Int×Unit)) (a1:(Int×Int×Unit)) (y3:(Int×Int×Unit)):Option ((Int×Int×Unit)⊕((Int×Unit)⊕(Int×Bool×Unit))) :=
 cond (decide (y3.1<y3.2.1)) (
(shrT .u64 (IntKind.wrap .u64 (IntKind.wrap .i64 (y3.1+y3.2.1))) 1).bind fun t1 =>
(atI a0 (IntKind.wrap .i64 t1)).bind fun x2 =>
(zbe x2 a1).bind fun r3 =>
 cond (decide (r3<0)) (
 some (.inl ((IntKind.wrap .i64 ((IntKind.wrap .i64 t1)+1)),y3.2.1,()))) (
 some (.inl (y3.1,(IntKind.wrap .i64 t1),())))) (
 some (.inr (.inl (y3.1,()))))
def zac (a0:List (Int×Int×Unit)) (a1:(Int×Int×Unit)) (a2:Unit):Option (Int×Bool×Unit) :=
(aK (qM a0 a1) (0,(a0.length:Int),()):Option ((Int×Unit)⊕(Int×Bool×Unit))).bind (bK fun v4 =>
 cond (decide (v4.1<(a0.length:Int))) ((atI a0 v4.1).bind fun x5 =>
(zbe x5 a1).bind fun r6 =>
 some (v4.1,(decide (r6=0)),())) (some (v4.1,false,())))
def sH:TFn:={ ps:=(.cons (.sl tT11) (.cons tT11 (.cons (.fn 171) .unit))),res:=(.tup (.cons (.int .i64) (.cons .bool .unit))),fn:=fun v=>zac v.1 v.2.1 v.2.2.1 }
def amE:TEnv:=(vZ [(171,jm)])
theorem amD:runY Tryz.prog afd amF amE apv Tryz.f195 sH.ps sH.res=sH.fn:=by kernel_rfl
theorem vR:aB Tryz.prog G0 195 yV:=ah (aj ⟨ay,(ai f6 ae),ar,ae,aq⟩ Tryz.func195 rfl (by kernel_rfl))
theorem aaC:TOk yV sH:=az (E:=afd) (ET:=amE) (EnvT.ofX (ax (ac jl al)) am ap aI an) amD rfl
def acu:Env:=(eZ [(194,aa8),(195,yV)] [274])
def aiR:Hints:=(hZ [] [])
def yE:PFn:=aD (runF Tryz.prog acu aiR Tryz.f115)
def aoy:TH:={ loops:=[],ro:=[2,3] }
def zc6 (a0:vV4) (a1:(Int×Int×Unit)):Option Bool :=
(zdd a0.1 a1).bind fun r1 =>
 cond r1 (
 some true) (
(zac a0.2.1 a1 ()).bind fun r2 =>
 some r2.2.1)
def sx:TFn:={ ps:=(.cons tT14 (.cons tT11 .unit)),res:=.bool,fn:=fun v=>zc6 v.1 v.2.1 }
def aiQ:TEnv:=(vZ [(194,tQ),(195,sH)])
theorem aiP:runY Tryz.prog acu aiR aiQ aoy Tryz.f115 sx.ps sx.res=sx.fn:=by kernel_rfl
theorem uI:aB Tryz.prog G0 115 yE:=ah (aj ⟨ay,(ai aa7 (ai vR ae)),ar,ae,aq⟩ Tryz.func115 rfl (by kernel_rfl))
theorem aar:TOk yE sx:=az (E:=acu) (ET:=aiQ) (EnvT.ofX (ax (ac agN (ac aaC al))) am ap aI an) aiP rfl
def aep:Go.Shelf.Ren:=⟨fun | 41=>180 | n=>n,fun | 22=>64 | 23=>72 | 4=>4 | n=>n,fun | n=>n⟩
theorem yN:Go.Proofs.SlLaysE0.n41 Tryz.prog aep:={
 mixed:=by kernel_rfl
 f41:=⟨Tryz.f180.name,by decide,Tryz.func180.trans (congrArg some (by kernel_rfl))⟩
 t4:=Tryz.underlying4
 a4:=Tryz.isAgg4
 z4:=Tryz.sizeOf4
 v4:=Tryz.zeroValue4
 t22:=Tryz.underlying64
 a22:=Tryz.isAgg64
 z22:=Tryz.sizeOf64
 v22:=Tryz.zeroValue64 }
def yO:SFn:=ko 2 72
theorem vH:cN Tryz.prog G0 180 yO:=o9 yN rfl rfl (gG (P:=Tryz.prog) (te:=72) (M:=2) (by kernel_rfl) (by kernel_rfl) (by kernel_rfl) (by kernel_rfl) (by kernel_rfl) (by kernel_rfl) (by kernel_rfl) (by kernel_rfl)) ⟨Tryz.f180,Tryz.func180,rfl,by kernel_rfl⟩
def zat (a0:List (Int×Int×Unit)):Option (List (Int×Int×Unit)):=ex a0
def aer:TNew:=mb 72 tT11
theorem aaB:TNewOk yO aer:=pc rfl rfl rfl
def aey:Go.Shelf.Ren:=⟨fun | 22=>239 | 29=>297 | 30=>298 | n=>n,fun | 24=>64 | 9=>72 | 0=>0 | 3=>3 | 4=>4 | n=>n,fun | n=>n⟩
theorem yQ:InsL Tryz.prog aey:={
 mixed:=by kernel_rfl
 f22:=⟨Tryz.f239.name,by decide,Tryz.func239.trans (congrArg some (by kernel_rfl))⟩
 f29:=⟨Tryz.f297.name,by decide,by kernel_rfl,by kernel_rfl,Tryz.func297.trans (congrArg some (by kernel_rfl))⟩
 t0:=Tryz.underlying0
 a0:=Tryz.isAgg0
 z0:=Tryz.sizeOf0
 v0:=Tryz.zeroValue0
 t3:=Tryz.underlying3
 a3:=Tryz.isAgg3
 z3:=Tryz.sizeOf3
 v3:=Tryz.zeroValue3
 t4:=Tryz.underlying4
 a4:=Tryz.isAgg4
 z4:=Tryz.sizeOf4
 v4:=Tryz.zeroValue4
 t24:=Tryz.underlying64
 a24:=Tryz.isAgg64
 z24:=Tryz.sizeOf64
 v24:=Tryz.zeroValue64 }
def aeA:SFn:=dM 2 72
theorem aez:cN Tryz.prog G0 239 aeA:=lQ yQ rfl rfl rfl (gG (P:=Tryz.prog) (te:=72) (M:=2) (by kernel_rfl) (by kernel_rfl) (by kernel_rfl) (by kernel_rfl) (by kernel_rfl) (by kernel_rfl) (by kernel_rfl) (by kernel_rfl)) true Tryz.isAgg72 ⟨Tryz.f239,Tryz.func239,rfl,by kernel_rfl⟩
def zaq (a1:Int) (a2:List (Int×Int×Unit)) (w0:List (Int×Int×Unit)):Option (Unit×List (Int×Int×Unit)×Unit):=(insT w0 a1 a2).map fun l=>((),(l,()))
def apl:TRaw:=insR false 72 tT11
theorem alT:TRawOk aeA apl:=xz rfl rfl rfl rfl (by decide)
def abx:Env:=(eZ [] [274])
def ahm:Hints:=(hZ [(3,[4,5,10,11,12])] [])
def abw:PFn:=aD (runF Tryz.prog abx ahm Tryz.f188)
def an8:TH:={ loops:=[(3,{ keep:=[(4,(.bx 1 0)),(5,(.bx 2 0)),(12,(.int .i64))],mem:=[.same,.box 66 tT18,.box 66 (.agg (.cons (.arr 16 (.int .i64)) (.cons (.own 4) .unit))),.gone,.row true 72 tT11] })],ro:=[2] }
def qs (a1:List (Int×Int×Unit)) (y3:(Int×vV7×vV7×List (Int×Int×Unit)×Unit)):Option ((Int×vV7×vV7×List (Int×Int×Unit)×Unit)⊕vV4) :=
 cond (decide (y3.1<(a1.length:Int))) (
(atI a1 y3.1).bind fun x1 =>
(inI 16 x1.1).bind fun i2 =>
(y3.2.2.1.1[i2]?).bind fun x3 =>
 cond (decide (x1.2.1≤x3)) (
 some (.inl ((IntKind.wrap .i64 (y3.1+1)),y3.2.1,y3.2.2.1,y3.2.2.2.1,()))) (
(inI 16 x1.1).bind fun i4 =>
(y3.2.2.1.1[i4]?).bind fun x5 =>
 cond (decide (x1.2.1=(IntKind.wrap .i64 (x5+1)))) (
(inI 16 x1.1).bind fun i6 =>
(y3.2.2.1.1[i6]?).bind fun x7 =>
 some (.inl ((IntKind.wrap .i64 (y3.1+1)),y3.2.1,((y3.2.2.1.1.set i6 x1.2.1),y3.2.2.1.2.1,()),y3.2.2.2.1,()))) (
 cond (decide ((y3.2.2.2.1.length:Int)=0)) ((dF (y3.2.2.2.1.length+([x1]:List (Int×Int×Unit)).length)).bind fun u8 =>
 some (.inl ((IntKind.wrap .i64 (y3.1+1)),y3.2.1,(y3.2.2.1.1,(),()),(y3.2.2.2.1++([x1]:List (Int×Int×Unit))),()))) ((inI y3.2.2.2.1.length (IntKind.wrap .i64 ((y3.2.2.2.1.length:Int)-1))).bind fun i9 =>
(y3.2.2.2.1[i9]?).bind fun x10 =>
 cond (!(eqV tT11 x10 x1)) (
(dF (y3.2.2.2.1.length+([x1]:List (Int×Int×Unit)).length)).bind fun u11 =>
 some (.inl ((IntKind.wrap .i64 (y3.1+1)),y3.2.1,(y3.2.2.1.1,(),()),(y3.2.2.2.1++([x1]:List (Int×Int×Unit))),()))) (
 some (.inl ((IntKind.wrap .i64 (y3.1+1)),y3.2.1,y3.2.2.1,y3.2.2.2.1,()))))))) (
 some (.inr (y3.2.2.1.1,y3.2.2.2.1,())))
def zcv (a0:List Int) (a1:List (Int×Int×Unit)):Option vV4 :=
 aK (qs a1) (0,([0,0,0,0,0,0,0,0,0,0,0,0,0,0,0,0],(),()),(a0,(),()),[],())
def t7:TFn:={ ps:=(.cons (.arr 16 (.int .i64)) (.cons (.sl tT11) .unit)),res:=tT14,fn:=fun v=>zcv v.1 v.2.1 }
def ahl:TEnv:={ pure:=[],look:=[],glob:=G0T,ty:=[(72,tT11)],raw:=[],fresh:=[] }
theorem ahk:runY Tryz.prog abx ahm ahl an8 Tryz.f188 t7.ps t7.res=t7.fn:=by kernel_rfl
theorem abv:aB Tryz.prog G0 188 abw:=ah (aj ⟨ay,ae,ar,ae,aq⟩ Tryz.func188 rfl (by kernel_rfl))
theorem ahj:TOk abw t7:=az (E:=abx) (ET:=ahl) (EnvT.ofX (ax al) am ap aI an) ahk rfl
def aeO:SFn:=pS aeA
theorem aeN:cN Tryz.prog G0 239 aeO:=pR aez
def zal (a1:Int) (a2:List (Int×Int×Unit)) (w0:List (Int×Int×Unit)):Option (List (Int×Int×Unit)×Unit):=(zaq a1 a2 w0).map fun q=>(q.2.1,())
def al3:TRaw:={ ps:=(.cons (.own 0) (.cons (.int .i64) (.cons (.sl tT11) .unit))),ins:=[.row false 72 tT11],res:=(.sl tT11),outs:=[.gone],fn:=fun v w=>zal v.2.1 v.2.2.1 w.1 }
theorem al2:TRawOk aeO al3:=z7 alT
def abi:Env:={ pure:=[(115,yE),(173,mA),(188,abw),(195,yV)],raw:=[(180,yO),(239,aeO)],glob:=G0,same:=[274],look:=[],ext:=[] }
def ag2:Hints:={ seqs:=[],loops:=[],own:=[24,26,29],frz:=[(4,[2,3])] }
def abh:PFn:=aD (runF Tryz.prog abi ag2 Tryz.f170)
def an3:TH:=yZ
def zda (a0:vV4) (a1:(Int×Int×Unit)):Option vV4 :=
(zcn a1).bind fun r1 =>
 cond (!r1) (some a0) ((zc6 a0 a1).bind fun r2 =>
 cond r2 (
 some a0) (
(zac a0.2.1 a1 ()).bind fun r3 =>
(zat a0.2.1).bind fun n4 =>
(zal r3.1 ([a1]:List (Int×Int×Unit)) n4).bind fun q5 =>
(zcv a0.1 q5.1).bind fun r6 =>
 some r6))
def tV:TFn:={ ps:=(.cons tT14 (.cons tT11 .unit)),res:=tT14,fn:=fun v=>zda v.1 v.2.1 }
def ag1:TEnv:={ pure:=[(115,sx),(173,ji),(188,t7),(195,sH)],look:=[],glob:=G0T,ty:=[(72,tT11)],raw:=[(239,al3)],fresh:=[(180,aer)] }
theorem ag0:runY Tryz.prog abi ag2 ag1 an3 Tryz.f170 tV.ps tV.res=tV.fn:=by kernel_rfl
theorem abg:aB Tryz.prog G0 170 abh:=ah (aj ⟨ay,(ai uI (ai fZ (ai abv (ai vR ae)))),(er vH (er aeN ar)),ae,aq⟩ Tryz.func170 rfl (by kernel_rfl))
theorem agZ:TOk abh tV:=az (E:=abi) (ET:=ag1) (EnvT.ofX (ax (ac aar (ac jh (ac ahj (ac aaC al))))) am (gn (oo al2 rfl rfl ap) rfl) aI (gx aaB rfl rfl rfl an)) ag0 rfl
def acI:Env:=(eZ [(114,acm),(169,aaZ),(170,abh)] [274])
def ajd:Hints:=(hZ [] [])
def yG:PFn:=aD (runF Tryz.prog acI ajd Tryz.f97)
def aoE:TH:={ loops:=[],ro:=[3] }
def zc0 (a0:vV0) (a1:vV1):Option vV0 :=
(zc9 a0.1 a1.1).bind fun r1 =>
 cond (decide (r1≥0)) (
 some a0) (
(zdg a0.1 a1).bind fun r2 =>
(zda a0.2.2.1 a1.1).bind fun r3 =>
 some (r2,a0.2.1,r3,a0.2.2.2.1,a0.2.2.2.2.1,()))
def sA:TFn:={ ps:=(.cons tT9 (.cons tT10 .unit)),res:=tT9,fn:=fun v=>zc0 v.1 v.2.1 }
def ajc:TEnv:=(vZ [(114,uF),(169,tN),(170,tV)])
theorem ajb:runY Tryz.prog acI ajd ajc aoE Tryz.f97 sA.ps sA.res=sA.fn:=by kernel_rfl
theorem uO:aB Tryz.prog G0 97 yG:=ah (aj ⟨ay,(ai acl (ai aaY (ai abg ae))),ar,ae,aq⟩ Tryz.func97 rfl (by kernel_rfl))
theorem aat:TOk yG sA:=az (E:=acI) (ET:=ajc) (EnvT.ofX (ax (ac aiD (ac agA (ac agZ al)))) am ap aI an) ajb rfl
def afJ:Env:=(eZ [(171,mE)] [274])
def anq:Hints:=(hZ [] [])
def we:PFn:=aD (runF Tryz.prog afJ anq Tryz.f242)
def apH:TH:={ loops:=[],ro:=[2,3] }
def za0 (a0:vV2) (a1:vV2):Option Int :=
(zbe a0.1 a1.1).bind fun r1 =>
 some r1
def px:TFn:={ ps:=(.cons tT13 (.cons tT13 .unit)),res:=(.int .i64),fn:=fun v=>za0 v.1 v.2.1 }
def anp:TEnv:=(vZ [(171,jm)])
theorem ano:runY Tryz.prog afJ anq anp apH Tryz.f242 px.ps px.res=px.fn:=by kernel_rfl
theorem py:aB Tryz.prog G0 242 we:=ah (aj ⟨ay,(ai f6 ae),ar,ae,aq⟩ Tryz.func242 rfl (by kernel_rfl))
theorem wd:TOk we px:=az (E:=afJ) (ET:=anp) (EnvT.ofX (ax (ac jl al)) am ap aI an) ano rfl
def afg:Env:=(eZ [(242,we)] [274])
def amJ:Hints:=(hZ [(3,[0,2,4,8,9,10])] [])
def aff:PFn:=aD (runF Tryz.prog afg amJ Tryz.f284)
def apw:TH:={ joins:=[(8,{ keep:=[(4,(.bx 0 0)),(9,(.int .i64))],mem:=[.same] })],loops:=[(3,{ keep:=[(4,(.bx 0 0)),(9,(.int .i64)),(10,(.int .i64))],mem:=[.same] })],ro:=[4] }
def kZ (a0:List vV2) (a1:vV2) (y3:(Int×Int×Unit)):Option ((Int×Int×Unit)⊕((Int×Unit)⊕(Int×Bool×Unit))) :=
 cond (decide (y3.1<y3.2.1)) (
(shrT .u64 (IntKind.wrap .u64 (IntKind.wrap .i64 (y3.1+y3.2.1))) 1).bind fun t1 =>
(atI a0 (IntKind.wrap .i64 t1)).bind fun x2 =>
(za0 x2 a1).bind fun r3 =>
 cond (decide (r3<0)) (
 some (.inl ((IntKind.wrap .i64 ((IntKind.wrap .i64 t1)+1)),y3.2.1,()))) (
 some (.inl (y3.1,(IntKind.wrap .i64 t1),())))) (
 some (.inr (.inl (y3.1,()))))
def zab (a0:List vV2) (a1:vV2) (a2:Unit):Option (Int×Bool×Unit) :=
(aK (kZ a0 a1) (0,(a0.length:Int),()):Option ((Int×Unit)⊕(Int×Bool×Unit))).bind (bK fun v4 =>
 cond (decide (v4.1<(a0.length:Int))) ((atI a0 v4.1).bind fun x5 =>
(za0 x5 a1).bind fun r6 =>
 some (v4.1,(decide (r6=0)),())) (some (v4.1,false,())))
def vS:TFn:={ ps:=(.cons (.sl tT13) (.cons tT13 (.cons (.fn 242) .unit))),res:=(.tup (.cons (.int .i64) (.cons .bool .unit))),fn:=fun v=>zab v.1 v.2.1 v.2.2.1 }
def amI:TEnv:=(vZ [(242,px)])
theorem amH:runY Tryz.prog afg amJ amI apw Tryz.f284 vS.ps vS.res=vS.fn:=by kernel_rfl
theorem afe:aB Tryz.prog G0 284 aff:=ah (aj ⟨ay,(ai py ae),ar,ae,aq⟩ Tryz.func284 rfl (by kernel_rfl))
theorem amG:TOk aff vS:=az (E:=afg) (ET:=amI) (EnvT.ofX (ax (ac wd al)) am ap aI an) amH rfl
def acq:Env:=(eZ [(284,aff)] [274])
def aiK:Hints:=(hZ [] [])
def acp:PFn:=aD (runF Tryz.prog acq aiK Tryz.f217)
def aow:TH:={ loops:=[],ro:=[3] }
def zc8 (a0:List vV2) (a1:(Int×Int×Unit)):Option (Int×Bool×Unit) :=
(zab a0 (a1,0,()) ()).bind fun r1 =>
 some (r1.1,r1.2.1,())
def uG:TFn:={ ps:=(.cons (.sl tT13) (.cons tT11 .unit)),res:=(.tup (.cons (.int .i64) (.cons .bool .unit))),fn:=fun v=>zc8 v.1 v.2.1 }
def aiJ:TEnv:=(vZ [(284,vS)])
theorem aiI:runY Tryz.prog acq aiK aiJ aow Tryz.f217 uG.ps uG.res=uG.fn:=by kernel_rfl
theorem aco:aB Tryz.prog G0 217 acp:=ah (aj ⟨ay,(ai afe ae),ar,ae,aq⟩ Tryz.func217 rfl (by kernel_rfl))
theorem aiH:TOk acp uG:=az (E:=acq) (ET:=aiJ) (EnvT.ofX (ax (ac amG al)) am ap aI an) aiI rfl
def abM:Env:=(eZ [(217,acp)] [274])
def ahJ:Hints:=(hZ [] [])
def yz:PFn:=aD (runF Tryz.prog abM ahJ Tryz.f145)
def aoe:TH:={ loops:=[],ro:=[3] }
def zcp (a0:List vV2) (a1:(Int×Int×Unit)):Option Int :=
(zc8 a0 a1).bind fun r1 =>
 cond r1.2.1 (
(atI a0 r1.1).bind fun x2 =>
 some x2.2.1) (
 some 0)
def so:TFn:={ ps:=(.cons (.sl tT13) (.cons tT11 .unit)),res:=(.int .i64),fn:=fun v=>zcp v.1 v.2.1 }
def ahI:TEnv:=(vZ [(217,uG)])
theorem ahH:runY Tryz.prog abM ahJ ahI aoe Tryz.f145 so.ps so.res=so.fn:=by kernel_rfl
theorem ui:aB Tryz.prog G0 145 yz:=ah (aj ⟨ay,(ai aco ae),ar,ae,aq⟩ Tryz.func145 rfl (by kernel_rfl))
theorem aam:TOk yz so:=az (E:=abM) (ET:=ahI) (EnvT.ofX (ax (ac aiH al)) am ap aI an) ahH rfl
def ab6:Env:=(eZ [(145,yz)] [274])
def aii:Hints:=(hZ [] [])
def sv:PFn:=aD (runF Tryz.prog ab6 aii Tryz.f75)
def aoo:TH:={ loops:=[],ro:=[3] }
def zcf (a0:List vV2) (a1:(Int×Int×Unit)):Option Bool :=
(zcp a0 a1).bind fun r1 =>
(remT r1 2).bind fun t2 =>
 some (decide (t2=0))
def nO:TFn:={ ps:=(.cons (.sl tT13) (.cons tT11 .unit)),res:=.bool,fn:=fun v=>zcf v.1 v.2.1 }
def aih:TEnv:=(vZ [(145,so)])
theorem aig:runY Tryz.prog ab6 aii aih aoo Tryz.f75 nO.ps nO.res=nO.fn:=by kernel_rfl
theorem mB:aB Tryz.prog G0 75 sv:=ah (aj ⟨ay,(ai ui ae),ar,ae,aq⟩ Tryz.func75 rfl (by kernel_rfl))
theorem qv:TOk sv nO:=az (E:=ab6) (ET:=aih) (EnvT.ofX (ax (ac aam al)) am ap aI an) aig rfl
def adO:Env:=(eZ [(154,vv),(156,vF),(171,mE)] [274])
def akM:Hints:=(hZ [] [])
def adN:PFn:=aD (runF Tryz.prog adO akM Tryz.f99)
def ao3:TH:={ loops:=[],ro:=[2,3] }
def zbb (a0:vV1) (a1:vV1):Option Int :=
(zax a0.2.2.1 a1.2.2.1).bind fun r1 =>
(zbe a0.1 a1.1).bind fun r2 =>
(zb5 ([r1,r2]:List Int)).bind fun r3 =>
 some r3
def vn:TFn:={ ps:=(.cons tT10 (.cons tT10 .unit)),res:=(.int .i64),fn:=fun v=>zbb v.1 v.2.1 }
def akL:TEnv:={ pure:=[(154,pm),(156,po),(171,jm)],look:=[],glob:=G0T,ty:=[(3,(.int .i64))],raw:=[],fresh:=[] }
theorem akK:runY Tryz.prog adO akM akL ao3 Tryz.f99 vn.ps vn.res=vn.fn:=by kernel_rfl
theorem adM:aB Tryz.prog G0 99 adN:=ah (aj ⟨ay,(ai pn (ai pp (ai f6 ae))),ar,ae,aq⟩ Tryz.func99 rfl (by kernel_rfl))
theorem akJ:TOk adN vn:=az (E:=adO) (ET:=akL) (EnvT.ofX (ax (ac vu (ac vE (ac jl al)))) am ap aI an) akK rfl
def aea:Env:=(eZ [(145,yz),(173,mA)] [274])
def alo:Hints:=(hZ [] [])
def yL:PFn:=aD (runF Tryz.prog aea alo Tryz.f102)
def apd:TH:={ loops:=[],ro:=[3] }
def zb1 (a0:List vV2) (a1:(Int×Int×Unit)):Option (vV2×Int×Unit) :=
(zcp a0 a1).bind fun r1 =>
(zcn a1).bind fun r2 =>
 cond (!r2) (
 some (((0,0,()),0,()),2,())) (
 cond (decide (r1≥64)) (
 some (((0,0,()),0,()),14,())) (
 some ((a1,(IntKind.wrap .i64 (r1+1)),()),0,())))
def sF:TFn:={ ps:=(.cons (.sl tT13) (.cons tT11 .unit)),res:=(.tup (.cons tT13 tT19)),fn:=fun v=>zb1 v.1 v.2.1 }
def aln:TEnv:=(vZ [(145,so),(173,ji)])
theorem alm:runY Tryz.prog aea alo aln apd Tryz.f102 sF.ps sF.res=sF.fn:=by kernel_rfl
theorem vA:aB Tryz.prog G0 102 yL:=ah (aj ⟨ay,(ai ui (ai fZ ae)),ar,ae,aq⟩ Tryz.func102 rfl (by kernel_rfl))
theorem aaz:TOk yL sF:=az (E:=aea) (ET:=aln) (EnvT.ofX (ax (ac aam (ac jh al))) am ap aI an) alm rfl
def acH:Env:=(eZ [(102,yL),(115,yE)] [274])
def aja:Hints:=(hZ [] [])
def yF:PFn:=aD (runF Tryz.prog acH aja Tryz.f100)
def aoD:TH:={ loops:=[],ro:=[2,3] }
def zc1 (a0:vV0) (a1:(Int×Int×Unit)):Option Int :=
(zc6 a0.2.2.2.1 a1).bind fun r1 =>
 cond r1 (
 some 13) (
(zb1 a0.2.1 a1).bind fun r2 =>
 some r2.2.1)
def sy:TFn:={ ps:=(.cons tT9 (.cons tT11 .unit)),res:=(.int .i64),fn:=fun v=>zc1 v.1 v.2.1 }
def ai9:TEnv:=(vZ [(102,sF),(115,sx)])
theorem ai8:runY Tryz.prog acH aja ai9 aoD Tryz.f100 sy.ps sy.res=sy.fn:=by kernel_rfl
theorem uN:aB Tryz.prog G0 100 yF:=ah (aj ⟨ay,(ai vA (ai uI ae)),ar,ae,aq⟩ Tryz.func100 rfl (by kernel_rfl))
theorem aas:TOk yF sy:=az (E:=acH) (ET:=ai9) (EnvT.ofX (ax (ac aaz (ac aar al))) am ap aI an) ai8 rfl
def ad9:Env:=(eZ [(75,sv),(99,adN),(100,yF)] [274])
def alk:Hints:=(hZ [(3,[1,2,4,6,12,13])] [])
def yK:PFn:=aD (runF Tryz.prog ad9 alk Tryz.f35)
def apc:TH:={ joins:=[(9,{ keep:=[(2,(.bx 0 0)),(4,(.bx 1 0)),(6,(.orp tT10 0))],mem:=[.same,.box 72 tT11] })],loops:=[(3,{ keep:=[(2,(.bx 0 0)),(4,(.bx 1 0)),(6,(.orp tT10 0)),(13,(.int .i64))],mem:=[.same,.box 72 tT11] })],cuts:=[(6,[(15,{ keep:=[(2,(.bx 0 0)),(4,(.bx 1 0)),(34,.bool)],mem:=[.same,.box 72 tT11] })])],ro:=[2],news:=[] }
def qH (a0:vV0) (a1:Int) (y3:(Option vV1×Int×(Int×Int×Unit)×Unit)):Option ((Option vV1×Int×(Int×Int×Unit)×Unit)⊕((Option vV1×(Int×Int×Unit)×Unit)⊕vV2)) :=
 cond (decide (y3.2.1<(a0.1.length:Int))) (
(atI a0.1 y3.2.1).bind fun x1 =>
(cond (decide (x1.2.1=a1)) ((zcf a0.2.1 x1.1).bind fun r2 =>
 some (r2,y3.2.2.1,())) (some (false,y3.2.2.1,())):Option (Bool×(Int×Int×Unit)×Unit)).bind fun v3 =>
 cond v3.1 (cond (y3.1.isNone) (some (.inl ((some x1),(IntKind.wrap .i64 (y3.2.1+1)),v3.2.1,()))) ((y3.1).bind fun x4 =>
(zbb x4 x1).bind fun r5 =>
 cond (decide (r5<0)) (
 some (.inl ((some x1),(IntKind.wrap .i64 (y3.2.1+1)),v3.2.1,()))) (
 some (.inl (y3.1,(IntKind.wrap .i64 (y3.2.1+1)),v3.2.1,()))))) (some (.inl (y3.1,(IntKind.wrap .i64 (y3.2.1+1)),v3.2.1,())))) (
 some (.inr (.inl (y3.1,y3.2.2.1,()))))
def zb2 (a0:vV0) (a1:Int):Option vV2 :=
(aK (qH a0 a1) (none,0,(0,0,()),()):Option ((Option vV1×(Int×Int×Unit)×Unit)⊕vV2)).bind (bK fun v6 =>
 cond (v6.1.isNone) (
 some ((0,0,()),11,())) (
(v6.1).bind fun x7 =>
(zc1 a0 x7.1).bind fun r8 =>
 cond (!decide (r8=0)) (
 some ((0,0,()),r8,())) (
(v6.1).bind fun x9 =>
 some (x9.1,0,()))))
def sE:TFn:={ ps:=(.cons tT9 tT19),res:=(.tup (.cons tT11 tT19)),fn:=fun v=>zb2 v.1 v.2.1 }
def alj:TEnv:=(vZ [(75,nO),(99,vn),(100,sy)])
theorem ali:runY Tryz.prog ad9 alk alj apc Tryz.f35 sE.ps sE.res=sE.fn:=by kernel_rfl
theorem vz:aB Tryz.prog G0 35 yK:=ah (aj ⟨ay,(ai mB (ai adM (ai uN ae))),ar,ae,aq⟩ Tryz.func35 rfl (by kernel_rfl))
theorem aay:TOk yK sE:=az (E:=ad9) (ET:=alj) (EnvT.ofX (ax (ac qv (ac akJ (ac aas al)))) am ap aI an) ali rfl
def abc:Env:=(eZ [] [274])
def agU:Hints:=(hZ [] [])
def abb:PFn:=aD (runF Tryz.prog abc agU Tryz.f240)
def an1:TH:={ loops:=[],cuts:=[(1,[(9,{ keep:=[(1,(.bx 0 0)),(11,.bool)],mem:=[.same] })])],ro:=[1],news:=[] }
def zdc (a0:vV3):Option Bool :=
(cond (decide (a0.1=0)) (some ((decide ((a0.2.1.length:Int)=0)),())) (some (false,())):Option (Bool×Unit)).bind fun v1 =>
 cond v1.1 (cond (eqV tT16 a0.2.2.1 (0,0,[],())) (cond (decide (a0.2.2.2.1=0)) (some (decide ((a0.2.2.2.2.1.length:Int)=0))) (some false)) (some false)) (some false)
def tT:TFn:={ ps:=(.cons tT12 .unit),res:=.bool,fn:=fun v=>zdc v.1 }
def agT:TEnv:=(vZ [])
theorem agS:runY Tryz.prog abc agU agT an1 Tryz.f240 tT.ps tT.res=tT.fn:=by kernel_rfl
theorem aba:aB Tryz.prog G0 240 abb:=ah (aj ⟨ay,ae,ar,ae,aq⟩ Tryz.func240 rfl (by kernel_rfl))
theorem agR:TOk abb tT:=az (E:=abc) (ET:=agT) (EnvT.ofX (ax al) am ap aI an) agS rfl
def ael:PFn:=nB
theorem aek:aB Tryz.prog G0 375 ael:=oZ (g3:=0) (g4:=1) ⟨Tryz.f375,Tryz.func375,rfl,by kernel_rfl⟩ (by kernel_rfl) (by kernel_rfl) (fun s w hT=>Tryz.utf8_DecodeRuneInString s w hT)
def zav (a0:List UInt8):Option (Int×Int×Unit):=xV a0
def alI:TFn:=kh
theorem alH:TOk ael alI:=tC
def ack:Env:=(eZ [(375,ael)] [274])
def aiC:Hints:=(hZ [(3,[0,4,10])] [])
def yD:PFn:=aD (runF Tryz.prog ack aiC Tryz.f366)
def aou:TH:={ joins:=[(9,{ keep:=[(4,(.own 1)),(10,(.it 0))],mem:=[.iter,.row true 21 (.int .i32)] })],loops:=[(3,{ keep:=[(4,(.own 1)),(10,(.it 0))],mem:=[.iter,.row true 21 (.int .i32)] })],ro:=[] }
def aiz (a0:List UInt8) (y3:(Nat×List Int×Unit)):Option ((Nat×List Int×Unit)⊕(List Int×Bool×Unit)) :=
 cond (decide (y3.1<a0.length)) ((cond (decide (((Utf8.decode ⟨a0.toArray⟩ y3.1).1:Int)=65533)) (
(subI a0 (y3.1:Int) (a0.length:Int)).bind fun s1 =>
(zav s1).bind fun r2 =>
 cond (decide (r2.2.1≤1)) (
 some (.inr (.inr ([],false,())))) (
 some (.inl ((y3.1+(Utf8.decode ⟨a0.toArray⟩ y3.1).2),y3.2.1,())))) (
 some (.inl ((y3.1+(Utf8.decode ⟨a0.toArray⟩ y3.1).2),y3.2.1,()))):Option ((Nat×List Int×Unit)⊕((Nat×List Int×Unit)⊕(List Int×Bool×Unit)))).bind (bK fun v3 =>
(dF (v3.2.1.length+([((Utf8.decode ⟨a0.toArray⟩ y3.1).1:Int)]:List Int).length)).bind fun u4 =>
 some (.inl (v3.1,(v3.2.1++([((Utf8.decode ⟨a0.toArray⟩ y3.1).1:Int)]:List Int)),())))) (some (.inr (y3.2.1,true,())))
def zca (a0:List UInt8):Option (List Int×Bool×Unit) :=
 aK (aiz a0) (0,[],())
def sw:TFn:={ ps:=(.cons .str .unit),res:=(.tup (.cons (.sl (.int .i32)) (.cons .bool .unit))),fn:=fun v=>zca v.1 }
def aiB:TEnv:={ pure:=[(375,alI)],look:=[],glob:=G0T,ty:=[(21,(.int .i32))],raw:=[],fresh:=[] }
theorem aiA:runY Tryz.prog ack aiC aiB aou Tryz.f366 sw.ps sw.res=sw.fn:=by kernel_rfl
theorem uE:aB Tryz.prog G0 366 yD:=ah (aj ⟨ay,(ai aek ae),ar,ae,aq⟩ Tryz.func366 rfl (by kernel_rfl))
theorem aaq:TOk yD sw:=az (E:=ack) (ET:=aiB) (EnvT.ofX (ax (ac alH al)) am ap aI an) aiA rfl
def acA:Env:=(eZ [] [274])
def aiZ:Hints:=(hZ [] [])
def acz:PFn:=aD (runF Tryz.prog acA aiZ Tryz.f367)
def aoA:TH:=yZ
def zc4 (a0:Int):Option Bool :=
 cond (decide (a0<32)) (
 cond (decide (a0<32)) (
 some false) (
 some (!decide (a0=65533)))) (
 cond (decide (a0≥127)) (cond (decide (a0<160)) (
 some false) (
 some (!decide (a0=65533)))) (some (!decide (a0=65533))))
def uK:TFn:={ ps:=(.cons (.int .i32) .unit),res:=.bool,fn:=fun v=>zc4 v.1 }
def aiY:TEnv:=(vZ [])
theorem aiX:runY Tryz.prog acA aiZ aiY aoA Tryz.f367 uK.ps uK.res=uK.fn:=by kernel_rfl
theorem acy:aB Tryz.prog G0 367 acz:=ah (aj ⟨ay,ae,ar,ae,aq⟩ Tryz.func367 rfl (by kernel_rfl))
theorem aiW:TOk acz uK:=az (E:=acA) (ET:=aiY) (EnvT.ofX (ax al) am ap aI an) aiX rfl
def ad5:Env:=(eZ [(366,yD),(367,acz)] [274])
def ald:Hints:=(hZ [(5,[24,25,26])] [])
def ad4:PFn:=aD (runF Tryz.prog ad5 ald Tryz.f345)
def apa:TH:={ loops:=[(5,{ keep:=[(26,(.int .i64))],mem:=[] })],ro:=[] }
def ala (r1:(List Int×Bool×Unit)) (y5:(Int×Unit)):Option ((Int×Unit)⊕Bool) :=
 cond (decide (y5.1<(r1.1.length:Int))) (
(atI r1.1 y5.1).bind fun x2 =>
(zc4 x2).bind fun r3 =>
 cond (!r3) (
 some (.inr false)) (
 some (.inl ((IntKind.wrap .i64 (y5.1+1)),())))) (
 some (.inr true))
def zb4 (a0:List UInt8):Option Bool :=
(zca a0).bind fun r1 =>
 cond (!r1.2.1) (some false) (cond (decide ((r1.1.length:Int)=0)) (some false) (cond (decide ((r1.1.length:Int)>24)) (
 some false) (
 aK (ala r1) (0,()))))
def vx:TFn:={ ps:=(.cons .str .unit),res:=.bool,fn:=fun v=>zb4 v.1 }
def alc:TEnv:=(vZ [(366,sw),(367,uK)])
theorem alb:runY Tryz.prog ad5 ald alc apa Tryz.f345 vx.ps vx.res=vx.fn:=by kernel_rfl
theorem ad3:aB Tryz.prog G0 345 ad4:=ah (aj ⟨ay,(ai uE (ai acy ae)),ar,ae,aq⟩ Tryz.func345 rfl (by kernel_rfl))
theorem ak9:TOk ad4 vx:=az (E:=ad5) (ET:=alc) (EnvT.ofX (ax (ac aaq (ac aiW al))) am ap aI an) alb rfl
def afy:Env:=(eZ [(345,ad4)] [274])
def am7:Hints:=(hZ [] [])
def afx:PFn:=aD (runF Tryz.prog afy am7 Tryz.f344)
def apC:TH:=yZ
def za5 (a0:List UInt8):Option Bool :=
(zb4 a0).bind fun r1 =>
 some (!r1)
def vY:TFn:={ ps:=(.cons .str .unit),res:=.bool,fn:=fun v=>za5 v.1 }
def am6:TEnv:=(vZ [(345,vx)])
theorem am5:runY Tryz.prog afy am7 am6 apC Tryz.f344 vY.ps vY.res=vY.fn:=by kernel_rfl
theorem afw:aB Tryz.prog G0 344 afx:=ah (aj ⟨ay,(ai ad3 ae),ar,ae,aq⟩ Tryz.func344 rfl (by kernel_rfl))
theorem am4:TOk afx vY:=az (E:=afy) (ET:=am6) (EnvT.ofX (ax (ac ak9 al)) am ap aI an) am5 rfl
def aeR:Env:=(eZ [(344,afx)] [274])
def al8:Hints:=(hZ [(2,[0,1,7,8])] [])
def aeQ:PFn:=aD (runF Tryz.prog aeR al8 Tryz.f214)
def apm:TH:={ loops:=[(2,{ keep:=[(8,(.int .i64))],mem:=[] })],ro:=[] }
def al5 (a0:List (List UInt8)) (y2:(Int×Unit)):Option ((Int×Unit)⊕Int) :=
 cond (decide (y2.1<(a0.length:Int))) (
(atI a0 y2.1).bind fun x1 =>
(za5 x1).bind fun r2 =>
 cond r2 (
 some (.inr y2.1)) (
 some (.inl ((IntKind.wrap .i64 (y2.1+1)),())))) (
 some (.inr (-1)))
def zak (a0:List (List UInt8)) (a1:Unit):Option Int :=
 aK (al5 a0) (0,())
def vJ:TFn:={ ps:=(.cons (.sl .str) (.cons (.fn 344) .unit)),res:=(.int .i64),fn:=fun v=>zak v.1 v.2.1 }
def al7:TEnv:=(vZ [(344,vY)])
theorem al6:runY Tryz.prog aeR al8 al7 apm Tryz.f214 vJ.ps vJ.res=vJ.fn:=by kernel_rfl
theorem aeP:aB Tryz.prog G0 214 aeQ:=ah (aj ⟨ay,(ai afw ae),ar,ae,aq⟩ Tryz.func214 rfl (by kernel_rfl))
theorem al4:TOk aeQ vJ:=az (E:=aeR) (ET:=al7) (EnvT.ofX (ax (ac am4 al)) am ap aI an) al6 rfl
def aeU:Env:=(eZ [(214,aeQ)] [274])
def amc:Hints:=(hZ [] [])
def aeT:PFn:=aD (runF Tryz.prog aeU amc Tryz.f141)
def apn:TH:=yZ
def zaj (a0:List (List UInt8)) (a1:Unit):Option Bool :=
(zak a0 a1).bind fun r1 =>
 some (decide (r1≥0))
def vK:TFn:={ ps:=(.cons (.sl .str) (.cons (.fn 344) .unit)),res:=.bool,fn:=fun v=>zaj v.1 v.2.1 }
def amb:TEnv:=(vZ [(214,vJ)])
theorem ama:runY Tryz.prog aeU amc amb apn Tryz.f141 vK.ps vK.res=vK.fn:=by kernel_rfl
theorem aeS:aB Tryz.prog G0 141 aeT:=ah (aj ⟨ay,(ai aeP ae),ar,ae,aq⟩ Tryz.func141 rfl (by kernel_rfl))
theorem al9:TOk aeT vK:=az (E:=aeU) (ET:=amb) (EnvT.ofX (ax (ac al4 al)) am ap aI an) ama rfl
def acd:Env:=(eZ [(141,aeT)] [274])
def aiq:Hints:=(hZ [] [])
def acb:PFn:=aD (runF Tryz.prog acd aiq Tryz.f299)
def aor:TH:=yZ
def zcd (a0:List (List UInt8)):Option Int :=
 cond (decide ((a0.length:Int)=0)) (
 some 8) (
 cond (decide ((a0.length:Int)>8)) (
 some 9) (
(zaj a0 ()).bind fun r1 =>
 cond r1 (
 some 8) (
 some 0)))
def uB:TFn:={ ps:=(.cons (.sl .str) .unit),res:=(.int .i64),fn:=fun v=>zcd v.1 }
def aip:TEnv:=(vZ [(141,vK)])
theorem aio:runY Tryz.prog acd aiq aip aor Tryz.f299 uB.ps uB.res=uB.fn:=by kernel_rfl
theorem aca:aB Tryz.prog G0 299 acb:=ah (aj ⟨ay,(ai aeS ae),ar,ae,aq⟩ Tryz.func299 rfl (by kernel_rfl))
theorem ain:TOk acb uB:=az (E:=acd) (ET:=aip) (EnvT.ofX (ax (ac al9 al)) am ap aI an) aio rfl
def ac8:Env:=(eZ [(366,yD)] [274])
def ajQ:Hints:=(hZ [] [])
def ac7:PFn:=aD (runF Tryz.prog ac8 ajQ Tryz.f346)
def aoO:TH:={ loops:=[],ro:=[1] }
def zbq (a0:(Int×Int×List UInt8×Unit)):Option Bool :=
 cond (decide (a0.1=1)) (
 cond (decide (a0.2.2.1=[])) (cond (decide (a0.2.1≥(-2147483647))) (some (decide (a0.2.1≤2147483647))) (some false)) (some false)) (
 cond (decide (a0.1=2)) (
(zca a0.2.2.1).bind fun r1 =>
 cond r1.2.1 (cond (decide (a0.2.1=0)) (some (decide ((a0.2.2.1.length:Int)≤64))) (some false)) (some false)) (
 cond (decide (a0.1=3)) (
 cond (decide (a0.2.2.1=[])) (cond (decide (a0.2.1=0)) (some true) (some (decide (a0.2.1=1)))) (some false)) (
 some false)))
def uY:TFn:={ ps:=(.cons tT16 .unit),res:=.bool,fn:=fun v=>zbq v.1 }
def ajP:TEnv:=(vZ [(366,sw)])
theorem ajO:runY Tryz.prog ac8 ajQ ajP aoO Tryz.f346 uY.ps uY.res=uY.fn:=by kernel_rfl
theorem ac6:aB Tryz.prog G0 346 ac7:=ah (aj ⟨ay,(ai uE ae),ar,ae,aq⟩ Tryz.func346 rfl (by kernel_rfl))
theorem ajN:TOk ac7 uY:=az (E:=ac8) (ET:=ajP) (EnvT.ofX (ax (ac aaq al)) am ap aI an) ajO rfl
def acD:Env:=(eZ [(346,ac7)] [274])
def ai3:Hints:=(hZ [] [])
def acC:PFn:=aD (runF Tryz.prog acD ai3 Tryz.f300)
def aoB:TH:={ loops:=[],ro:=[1] }
def zc3 (a0:vV3):Option Bool :=
 cond (decide (a0.1=3)) (some (eqV tT16 a0.2.2.1 (0,0,[],()))) (cond (decide (a0.1=5)) (
 some (eqV tT16 a0.2.2.1 (0,0,[],()))) (
(zbq a0.2.2.1).bind fun r1 =>
 some r1))
def uL:TFn:={ ps:=(.cons tT12 .unit),res:=.bool,fn:=fun v=>zc3 v.1 }
def ai2:TEnv:=(vZ [(346,uY)])
theorem ai1:runY Tryz.prog acD ai3 ai2 aoB Tryz.f300 uL.ps uL.res=uL.fn:=by kernel_rfl
theorem acB:aB Tryz.prog G0 300 acC:=ah (aj ⟨ay,(ai ac6 ae),ar,ae,aq⟩ Tryz.func300 rfl (by kernel_rfl))
theorem ai0:TOk acC uL:=az (E:=acD) (ET:=ai2) (EnvT.ofX (ax (ac ajN al)) am ap aI an) ai1 rfl
def abP:Env:=(eZ [] [274])
def ahN:Hints:=(hZ [] [])
def abO:PFn:=aD (runF Tryz.prog abP ahN Tryz.f301)
def aof:TH:={ loops:=[],ro:=[1] }
def zco (a0:vV3):Option Bool :=
 cond (decide (a0.1=3)) (
 cond (!decide (a0.2.2.2.1=0)) (cond (decide (a0.2.2.2.1≥(-2147483647))) (some (decide (a0.2.2.2.1≤2147483647))) (some false)) (some false)) (
 some (decide (a0.2.2.2.1=0)))
def uj:TFn:={ ps:=(.cons tT12 .unit),res:=.bool,fn:=fun v=>zco v.1 }
def ahM:TEnv:=(vZ [])
theorem ahL:runY Tryz.prog abP ahN ahM aof Tryz.f301 uj.ps uj.res=uj.fn:=by kernel_rfl
theorem abN:aB Tryz.prog G0 301 abO:=ah (aj ⟨ay,ae,ar,ae,aq⟩ Tryz.func301 rfl (by kernel_rfl))
theorem ahK:TOk abO uj:=az (E:=abP) (ET:=ahM) (EnvT.ofX (ax al) am ap aI an) ahL rfl
def acx:Env:=(eZ [(154,vv),(156,vF),(171,mE)] [274])
def aiV:Hints:=(hZ [] [])
def acw:PFn:=aD (runF Tryz.prog acx aiV Tryz.f347)
def aoz:TH:={ loops:=[],ro:=[2,3] }
def zc5 (a0:vV2) (a1:vV2):Option Int :=
(zbe a0.1 a1.1).bind fun r1 =>
(zax a0.2.1 a1.2.1).bind fun r2 =>
(zb5 ([r1,r2]:List Int)).bind fun r3 =>
 some r3
def uJ:TFn:={ ps:=(.cons tT13 (.cons tT13 .unit)),res:=(.int .i64),fn:=fun v=>zc5 v.1 v.2.1 }
def aiU:TEnv:={ pure:=[(154,pm),(156,po),(171,jm)],look:=[],glob:=G0T,ty:=[(3,(.int .i64))],raw:=[],fresh:=[] }
theorem aiT:runY Tryz.prog acx aiV aiU aoz Tryz.f347 uJ.ps uJ.res=uJ.fn:=by kernel_rfl
theorem acv:aB Tryz.prog G0 347 acw:=ah (aj ⟨ay,(ai pn (ai pp (ai f6 ae))),ar,ae,aq⟩ Tryz.func347 rfl (by kernel_rfl))
theorem aiS:TOk acw uJ:=az (E:=acx) (ET:=aiU) (EnvT.ofX (ax (ac vu (ac vE (ac jl al)))) am ap aI an) aiT rfl
def aa6:Env:=(eZ [(173,mA),(347,acw)] [274])
def agM:Hints:=(hZ [(2,[0,5,6,7])] [])
def aa5:PFn:=aD (runF Tryz.prog aa6 agM Tryz.f302)
def anZ:TH:={ loops:=[(2,{ keep:=[(7,(.int .i64))],mem:=[] })],cuts:=[(4,[(9,{ keep:=[(4,(.bx 0 0)),(20,.bool)],mem:=[.box 146 tT13] }),(5,{ keep:=[(4,(.bx 0 0)),(25,.bool)],mem:=[.box 146 tT13] })])],ro:=[],news:=[] }
def agJ (a0:List vV2) (y2:(Int×Unit)):Option ((Int×Unit)⊕Bool) :=
 cond (decide (y2.1<(a0.length:Int))) (
(atI a0 y2.1).bind fun x1 =>
((zcn x1.1).bind fun r2 =>
 cond (!r2) (some (true,x1,())) (some ((decide (x1.2.1<0)),x1,())):Option (Bool×vV2×Unit)).bind fun v3 =>
(cond v3.1 (some (true,v3.2.1,())) (some ((decide (v3.2.1.2.1≥16)),v3.2.1,())):Option (Bool×vV2×Unit)).bind fun v4 =>
 cond v4.1 (some (.inr false)) (cond (decide (y2.1>0)) ((atI a0 (IntKind.wrap .i64 (y2.1-1))).bind fun x5 =>
(zc5 x5 v4.2.1).bind fun r6 =>
 cond (decide (r6≥0)) (
 some (.inr false)) (
 some (.inl ((IntKind.wrap .i64 (y2.1+1)),())))) (some (.inl ((IntKind.wrap .i64 (y2.1+1)),()))))) (
 some (.inr true))
def zde (a0:List vV2):Option Bool :=
 aK (agJ a0) (0,())
def tP:TFn:={ ps:=(.cons (.sl tT13) .unit),res:=.bool,fn:=fun v=>zde v.1 }
def agL:TEnv:=(vZ [(173,ji),(347,uJ)])
theorem agK:runY Tryz.prog aa6 agM agL anZ Tryz.f302 tP.ps tP.res=tP.fn:=by kernel_rfl
theorem aa4:aB Tryz.prog G0 302 aa5:=ah (aj ⟨ay,(ai fZ (ai acv ae)),ar,ae,aq⟩ Tryz.func302 rfl (by kernel_rfl))
theorem agI:TOk aa5 tP:=az (E:=aa6) (ET:=agL) (EnvT.ofX (ax (ac jh (ac aiS al))) am ap aI an) agK rfl
def act:Env:=(eZ [(299,acb),(300,acC),(301,abO),(302,aa5)] [274])
def aiO:Hints:=(hZ [] [])
def acs:PFn:=aD (runF Tryz.prog act aiO Tryz.f241)
def aox:TH:={ joins:=[(10,{ keep:=[(1,(.bx 0 0)),(32,.bool)],mem:=[.same] })],loops:=[],cuts:=[(6,[(8,{ keep:=[(1,(.bx 0 0)),(26,.bool)],mem:=[.same] }),(5,{ keep:=[(1,(.bx 0 0)),(31,.bool)],mem:=[.same] })]),(9,[(8,{ keep:=[(1,(.bx 0 0)),(46,.bool)],mem:=[.same] })])],ro:=[1],news:=[] }
def zc7 (a0:vV3):Option Int :=
 cond (decide (a0.1<1)) (some 18) (cond (decide (a0.1>5)) (
 some 18) (
(zcd a0.2.1).bind fun r1 =>
 cond (!decide (r1=0)) (
 some r1) (
(cond (decide (a0.1=1)) (some (true,())) (some ((decide (a0.1=4)),())):Option (Bool×Unit)).bind fun v2 =>
(cond v2.1 (some (true,())) (some ((decide (a0.1=5)),())):Option (Bool×Unit)).bind fun v3 =>
((zc3 a0).bind fun r4 =>
 cond (!r4) (
 some (.inl ((!r4),()))) (
(zco a0).bind fun r5 =>
 cond (!r5) (
 some (.inl ((!r5),()))) (
(cond (!v3.1) (some ((decide ((a0.2.2.2.2.1.length:Int)>0)),())) (some (false,())):Option (Bool×Unit)).bind fun v6 =>
 some (.inl (v6.1,())))):Option ((Bool×Unit)⊕Int)).bind (bK fun v7 =>
 cond v7.1 (
 some 2) (
 cond (decide ((a0.2.2.2.2.1.length:Int)>256)) (
 some 7) (
(zde a0.2.2.2.2.1).bind fun r8 =>
 cond (!r8) (
 some 2) (
 some 0)))))))
def uH:TFn:={ ps:=(.cons tT12 .unit),res:=(.int .i64),fn:=fun v=>zc7 v.1 }
def aiN:TEnv:=(vZ [(299,uB),(300,uL),(301,uj),(302,tP)])
theorem aiM:runY Tryz.prog act aiO aiN aox Tryz.f241 uH.ps uH.res=uH.fn:=by kernel_rfl
theorem acr:aB Tryz.prog G0 241 acs:=ah (aj ⟨ay,(ai aca (ai acB (ai abN (ai aa4 ae)))),ar,ae,aq⟩ Tryz.func241 rfl (by kernel_rfl))
theorem aiL:TOk acs uH:=az (E:=act) (ET:=aiN) (EnvT.ofX (ax (ac ain (ac ai0 (ac ahK (ac agI al))))) am ap aI an) aiM rfl
def abF:Env:=(eZ [(173,mA),(240,abb),(241,acs)] [274])
def ahy:Hints:=(hZ [(10,[1,38,39,40])] [])
def yy:PFn:=aD (runF Tryz.prog abF ahy Tryz.f174)
def aob:TH:={ joins:=[(4,{ keep:=[(1,(.bx 0 0)),(6,.bool)],mem:=[.same] }),(13,{ keep:=[(1,(.bx 0 0)),(4,(.bx 1 0))],mem:=[.same,.box 135 tT12] })],loops:=[(10,{ keep:=[(1,(.bx 0 0)),(40,(.int .i64))],mem:=[.same] })],cuts:=[(3,[(8,{ keep:=[(1,(.bx 0 0)),(26,.bool)],mem:=[.same] })])],ro:=[1],news:=[] }
def abE (a0:vV1) (y10:(Int×Unit)):Option ((Int×Unit)⊕Int) :=
 cond (decide (y10.1<(a0.2.2.2.2.1.length:Int))) (
(atI a0.2.2.2.2.1 y10.1).bind fun x4 =>
(cond a0.2.2.2.1 ((zdc x4).bind fun r5 =>
 cond r5 (
 some (.inr (.inl ((IntKind.wrap .i64 (y10.1+1)),())))) (
 some (.inl (x4,())))) (some (.inl (x4,()))):Option ((vV3×Unit)⊕((Int×Unit)⊕Int))).bind (bK fun v6 =>
(zc7 v6.1).bind fun r7 =>
 cond (!decide (r7=0)) (
 some (.inr r7)) (
 some (.inl ((IntKind.wrap .i64 (y10.1+1)),()))))) (
 some (.inr 0))
def zcs (a0:vV1):Option Int :=
((zcn a0.1).bind fun r1 =>
 cond (!r1) (
 some (.inl ((!r1),()))) (
 cond (decide (a0.2.1<0)) (some (.inl (true,()))) (cond (decide (a0.2.1≥8)) (
 some (.inl ((decide (a0.2.1≥8)),()))) (
(cond (decide (a0.2.2.1<1)) (some (true,())) (some ((decide (a0.2.2.1>1099511627776)),())):Option (Bool×Unit)).bind fun v2 =>
 some (.inl (v2.1,()))))):Option ((Bool×Unit)⊕Int)).bind (bK fun v3 =>
 cond v3.1 (
 some 2) (
 cond (decide ((a0.2.2.2.2.1.length:Int)=0)) (
 some 11) (
 cond (decide ((a0.2.2.2.2.1.length:Int)>16)) (
 some 7) (
 aK (abE a0) (0,())))))
def sm:TFn:={ ps:=(.cons tT10 .unit),res:=(.int .i64),fn:=fun v=>zcs v.1 }
def ahx:TEnv:=(vZ [(173,ji),(240,tT),(241,uH)])
theorem ahw:runY Tryz.prog abF ahy ahx aob Tryz.f174 sm.ps sm.res=sm.fn:=by kernel_rfl
theorem uf:aB Tryz.prog G0 174 yy:=ah (aj ⟨ay,(ai fZ (ai aba (ai acr ae))),ar,ae,aq⟩ Tryz.func174 rfl (by kernel_rfl))
theorem aal:TOk yy sm:=az (E:=abF) (ET:=ahx) (EnvT.ofX (ax (ac jh (ac agR (ac aiL al)))) am ap aI an) ahw rfl
def adI:Env:=(eZ [] [274])
def akE:Hints:=(hZ [] [])
def adH:PFn:=aD (runF Tryz.prog adI akE Tryz.f175)
def ao1:TH:=yZ
def zbd (a0:Int):Option Bool :=
 cond (decide (a0≥0)) (some (decide (a0<8))) (some false)
def vl:TFn:={ ps:=tT19,res:=.bool,fn:=fun v=>zbd v.1 }
def akD:TEnv:=(vZ [])
theorem akC:runY Tryz.prog adI akE akD ao1 Tryz.f175 vl.ps vl.res=vl.fn:=by kernel_rfl
theorem adG:aB Tryz.prog G0 175 adH:=ah (aj ⟨ay,ae,ar,ae,aq⟩ Tryz.func175 rfl (by kernel_rfl))
theorem akB:TOk adH vl:=az (E:=adI) (ET:=akD) (EnvT.ofX (ax al) am ap aI an) akC rfl
def aeb:Env:=(eZ [(173,mA),(242,we)] [274])
def alr:Hints:=(hZ [(2,[0,5,6,7])] [])
def yM:PFn:=aD (runF Tryz.prog aeb alr Tryz.f176)
def ape:TH:={ loops:=[(2,{ keep:=[(7,(.int .i64))],mem:=[] })],cuts:=[(4,[(9,{ keep:=[(4,(.bx 0 0)),(20,.bool)],mem:=[.box 82 tT13] }),(5,{ keep:=[(4,(.bx 0 0)),(25,.bool)],mem:=[.box 82 tT13] })])],ro:=[],news:=[] }
def nR (a0:List vV2) (y2:(Int×Unit)):Option ((Int×Unit)⊕Bool) :=
 cond (decide (y2.1<(a0.length:Int))) (
(atI a0 y2.1).bind fun x1 =>
((zcn x1.1).bind fun r2 =>
 cond (!r2) (some (true,x1,())) (some ((decide (x1.2.1<1)),x1,())):Option (Bool×vV2×Unit)).bind fun v3 =>
(cond v3.1 (some (true,v3.2.1,())) (some ((decide (v3.2.1.2.1>64)),v3.2.1,())):Option (Bool×vV2×Unit)).bind fun v4 =>
 cond v4.1 (some (.inr false)) (cond (decide (y2.1>0)) ((atI a0 (IntKind.wrap .i64 (y2.1-1))).bind fun x5 =>
(za0 x5 v4.2.1).bind fun r6 =>
 cond (decide (r6≥0)) (
 some (.inr false)) (
 some (.inl ((IntKind.wrap .i64 (y2.1+1)),())))) (some (.inl ((IntKind.wrap .i64 (y2.1+1)),()))))) (
 some (.inr true))
def zb0 (a0:List vV2):Option Bool :=
 aK (nR a0) (0,())
def sG:TFn:={ ps:=(.cons (.sl tT13) .unit),res:=.bool,fn:=fun v=>zb0 v.1 }
def alq:TEnv:=(vZ [(173,ji),(242,px)])
theorem alp:runY Tryz.prog aeb alr alq ape Tryz.f176 sG.ps sG.res=sG.fn:=by kernel_rfl
theorem vB:aB Tryz.prog G0 176 yM:=ah (aj ⟨ay,(ai fZ (ai py ae)),ar,ae,aq⟩ Tryz.func176 rfl (by kernel_rfl))
theorem aaA:TOk yM sG:=az (E:=aeb) (ET:=alq) (EnvT.ofX (ax (ac jh (ac wd al))) am ap aI an) alp rfl
def aeh:Env:=(eZ [(174,yy)] [274])
def alz:Hints:=(hZ [] [])
def aeg:PFn:=aD (runF Tryz.prog aeh alz Tryz.f243)
def apg:TH:={ loops:=[],ro:=[1] }
def zay (a0:vV1):Option Bool :=
(zcs a0).bind fun r1 =>
 some (!decide (r1=0))
def vD:TFn:={ ps:=(.cons tT10 .unit),res:=.bool,fn:=fun v=>zay v.1 }
def aly:TEnv:=(vZ [(174,sm)])
theorem alx:runY Tryz.prog aeh alz aly apg Tryz.f243 vD.ps vD.res=vD.fn:=by kernel_rfl
theorem aef:aB Tryz.prog G0 243 aeg:=ah (aj ⟨ay,(ai uf ae),ar,ae,aq⟩ Tryz.func243 rfl (by kernel_rfl))
theorem alw:TOk aeg vD:=az (E:=aeh) (ET:=aly) (EnvT.ofX (ax (ac aal al)) am ap aI an) alx rfl
def aee:Env:=(eZ [(173,mA)] [274])
def alv:Hints:=(hZ [] [])
def aed:PFn:=aD (runF Tryz.prog aee alv Tryz.f244)
def apf:TH:={ loops:=[],ro:=[1] }
def zaz (a0:(Int×Int×Unit)):Option Bool :=
(zcn a0).bind fun r1 =>
 some (!r1)
def vC:TFn:={ ps:=(.cons tT11 .unit),res:=.bool,fn:=fun v=>zaz v.1 }
def alu:TEnv:=(vZ [(173,ji)])
theorem alt:runY Tryz.prog aee alv alu apf Tryz.f244 vC.ps vC.res=vC.fn:=by kernel_rfl
theorem aec:aB Tryz.prog G0 244 aed:=ah (aj ⟨ay,(ai fZ ae),ar,ae,aq⟩ Tryz.func244 rfl (by kernel_rfl))
theorem als:TOk aed vC:=az (E:=aee) (ET:=alu) (EnvT.ofX (ax (ac jh al)) am ap aI an) alt rfl
def abA:Env:=(eZ [(171,mE)] [274])
def ahr:Hints:=(hZ [(2,[0,5,6,7])] [])
def abz:PFn:=aD (runF Tryz.prog abA ahr Tryz.f245)
def an9:TH:={ loops:=[(2,{ keep:=[(7,(.int .i64))],mem:=[] })],ro:=[] }
def aho (a0:List vV1) (y2:(Int×Unit)):Option ((Int×Unit)⊕Bool) :=
 cond (decide (y2.1<(a0.length:Int))) (
(atI a0 y2.1).bind fun x1 =>
 cond (decide (y2.1>0)) ((atI a0 (IntKind.wrap .i64 (y2.1-1))).bind fun x2 =>
(zbe x2.1 x1.1).bind fun r3 =>
 cond (decide (r3≥0)) (
 some (.inr false)) (
 some (.inl ((IntKind.wrap .i64 (y2.1+1)),())))) (some (.inl ((IntKind.wrap .i64 (y2.1+1)),())))) (
 some (.inr true))
def zcu (a0:List vV1):Option Bool :=
 aK (aho a0) (0,())
def t8:TFn:={ ps:=(.cons (.sl tT10) .unit),res:=.bool,fn:=fun v=>zcu v.1 }
def ahq:TEnv:=(vZ [(171,jm)])
theorem ahp:runY Tryz.prog abA ahr ahq an9 Tryz.f245 t8.ps t8.res=t8.fn:=by kernel_rfl
theorem aby:aB Tryz.prog G0 245 abz:=ah (aj ⟨ay,(ai f6 ae),ar,ae,aq⟩ Tryz.func245 rfl (by kernel_rfl))
theorem ahn:TOk abz t8:=az (E:=abA) (ET:=ahq) (EnvT.ofX (ax (ac jl al)) am ap aI an) ahp rfl
def ae0:Env:=(eZ [(243,aeg)] [274])
def amm:Hints:=(hZ [(2,[0,1,7,8])] [])
def aeZ:PFn:=aD (runF Tryz.prog ae0 amm Tryz.f303)
def apq:TH:={ loops:=[(2,{ keep:=[(8,(.int .i64))],mem:=[] })],ro:=[] }
def amj (a0:List vV1) (y2:(Int×Unit)):Option ((Int×Unit)⊕Int) :=
 cond (decide (y2.1<(a0.length:Int))) (
(atI a0 y2.1).bind fun x1 =>
(zay x1).bind fun r2 =>
 cond r2 (
 some (.inr y2.1)) (
 some (.inl ((IntKind.wrap .i64 (y2.1+1)),())))) (
 some (.inr (-1)))
def zah (a0:List vV1) (a1:Unit):Option Int :=
 aK (amj a0) (0,())
def vM:TFn:={ ps:=(.cons (.sl tT10) (.cons (.fn 243) .unit)),res:=(.int .i64),fn:=fun v=>zah v.1 v.2.1 }
def aml:TEnv:=(vZ [(243,vD)])
theorem amk:runY Tryz.prog ae0 amm aml apq Tryz.f303 vM.ps vM.res=vM.fn:=by kernel_rfl
theorem aeY:aB Tryz.prog G0 303 aeZ:=ah (aj ⟨ay,(ai aef ae),ar,ae,aq⟩ Tryz.func303 rfl (by kernel_rfl))
theorem ami:TOk aeZ vM:=az (E:=ae0) (ET:=aml) (EnvT.ofX (ax (ac alw al)) am ap aI an) amk rfl
def ae6:Env:=(eZ [(303,aeZ)] [274])
def amu:Hints:=(hZ [] [])
def ae5:PFn:=aD (runF Tryz.prog ae6 amu Tryz.f246)
def aps:TH:=yZ
def zaf (a0:List vV1) (a1:Unit):Option Bool :=
(zah a0 a1).bind fun r1 =>
 some (decide (r1≥0))
def vO:TFn:={ ps:=(.cons (.sl tT10) (.cons (.fn 243) .unit)),res:=.bool,fn:=fun v=>zaf v.1 v.2.1 }
def amt:TEnv:=(vZ [(303,vM)])
theorem ams:runY Tryz.prog ae6 amu amt aps Tryz.f246 vO.ps vO.res=vO.fn:=by kernel_rfl
theorem ae4:aB Tryz.prog G0 246 ae5:=ah (aj ⟨ay,(ai aeY ae),ar,ae,aq⟩ Tryz.func246 rfl (by kernel_rfl))
theorem amr:TOk ae5 vO:=az (E:=ae6) (ET:=amt) (EnvT.ofX (ax (ac ami al)) am ap aI an) ams rfl
def aeX:Env:=(eZ [(244,aed)] [274])
def amh:Hints:=(hZ [(2,[0,1,7,8])] [])
def aeW:PFn:=aD (runF Tryz.prog aeX amh Tryz.f259)
def apo:TH:={ loops:=[(2,{ keep:=[(8,(.int .i64))],mem:=[] })],ro:=[] }
def ame (a0:List (Int×Int×Unit)) (y2:(Int×Unit)):Option ((Int×Unit)⊕Int) :=
 cond (decide (y2.1<(a0.length:Int))) (
(atI a0 y2.1).bind fun x1 =>
(zaz x1).bind fun r2 =>
 cond r2 (
 some (.inr y2.1)) (
 some (.inl ((IntKind.wrap .i64 (y2.1+1)),())))) (
 some (.inr (-1)))
def zai (a0:List (Int×Int×Unit)) (a1:Unit):Option Int :=
 aK (ame a0) (0,())
def vL:TFn:={ ps:=(.cons (.sl tT11) (.cons (.fn 244) .unit)),res:=(.int .i64),fn:=fun v=>zai v.1 v.2.1 }
def amg:TEnv:=(vZ [(244,vC)])
theorem amf:runY Tryz.prog aeX amh amg apo Tryz.f259 vL.ps vL.res=vL.fn:=by kernel_rfl
theorem aeV:aB Tryz.prog G0 259 aeW:=ah (aj ⟨ay,(ai aec ae),ar,ae,aq⟩ Tryz.func259 rfl (by kernel_rfl))
theorem amd:TOk aeW vL:=az (E:=aeX) (ET:=amg) (EnvT.ofX (ax (ac als al)) am ap aI an) amf rfl
def ae3:Env:=(eZ [(259,aeW)] [274])
def amq:Hints:=(hZ [] [])
def ae2:PFn:=aD (runF Tryz.prog ae3 amq Tryz.f247)
def apr:TH:=yZ
def zag (a0:List (Int×Int×Unit)) (a1:Unit):Option Bool :=
(zai a0 a1).bind fun r1 =>
 some (decide (r1≥0))
def vN:TFn:={ ps:=(.cons (.sl tT11) (.cons (.fn 244) .unit)),res:=.bool,fn:=fun v=>zag v.1 v.2.1 }
def amp:TEnv:=(vZ [(259,vL)])
theorem amo:runY Tryz.prog ae3 amq amp apr Tryz.f247 vN.ps vN.res=vN.fn:=by kernel_rfl
theorem ae1:aB Tryz.prog G0 247 ae2:=ah (aj ⟨ay,(ai aeV ae),ar,ae,aq⟩ Tryz.func247 rfl (by kernel_rfl))
theorem amn:TOk ae2 vN:=az (E:=ae3) (ET:=amp) (EnvT.ofX (ax (ac amd al)) am ap aI an) amo rfl
def afE:Env:=(eZ [(176,yM),(245,abz),(246,ae5),(247,ae2)] [274])
def ang:Hints:=(hZ [] [])
def afD:PFn:=aD (runF Tryz.prog afE ang Tryz.f177)
def apE:TH:={ loops:=[],cuts:=[(3,[(9,{ keep:=[(1,(.bx 0 0)),(13,.bool)],mem:=[.same] }),(7,{ keep:=[(1,(.bx 0 0)),(20,.bool)],mem:=[.same] })])],ro:=[1],news:=[] }
def za3 (a0:(List vV1×List vV2×List (Int×Int×Unit)×Unit)):Option Bool :=
(cond (decide ((a0.1.length:Int)≤1000)) ((zcu a0.1).bind fun r1 =>
 some (r1,())) (some (false,())):Option (Bool×Unit)).bind fun v2 =>
(cond v2.1 ((zaf a0.1 ()).bind fun r3 =>
 some ((!r3),())) (some (false,())):Option (Bool×Unit)).bind fun v4 =>
 cond v4.1 ((zb0 a0.2.1).bind fun r5 =>
 cond r5 ((zag a0.2.2.1 ()).bind fun r6 =>
 some (!r6)) (some false)) (some false)
def wa:TFn:={ ps:=(.cons (.agg (.cons (.sl tT10) (.cons (.sl tT13) (.cons (.sl tT11) .unit)))) .unit),res:=.bool,fn:=fun v=>za3 v.1 }
def anf:TEnv:=(vZ [(176,sG),(245,t8),(246,vO),(247,vN)])
theorem ane:runY Tryz.prog afE ang anf apE Tryz.f177 wa.ps wa.res=wa.fn:=by kernel_rfl
theorem afC:aB Tryz.prog G0 177 afD:=ah (aj ⟨ay,(ai vB (ai aby (ai ae4 (ai ae1 ae)))),ar,ae,aq⟩ Tryz.func177 rfl (by kernel_rfl))
theorem anc:TOk afD wa:=az (E:=afE) (ET:=anf) (EnvT.ofX (ax (ac aaA (ac ahn (ac amr (ac amn al))))) am ap aI an) ane rfl
def afs:Env:=(eZ [(174,yy),(175,adH),(176,yM),(177,afD)] [274])
def amZ:Hints:=(hZ [] [])
def afr:PFn:=aD (runF Tryz.prog afs amZ Tryz.f103)
def apA:TH:={ loops:=[],ro:=[1] }
def za7 (a0:vV5):Option Bool :=
 cond (decide (a0.1=1)) (
(zcs a0.2.1).bind fun r1 =>
 some (decide (r1=0))) (
 cond (decide (a0.1=2)) (
(zbd a0.2.2.1).bind fun r2 =>
 cond r2 ((zb0 ([a0.2.2.2.1]:List vV2)).bind fun r3 =>
 cond r3 (cond (decide (a0.2.2.2.2.1≥0)) (some (decide (a0.2.2.2.2.1≤2))) (some false)) (some false)) (some false)) (
 cond (decide (a0.1=3)) (
(za3 a0.2.2.2.2.2.1).bind fun r4 =>
 some r4) (
 cond (decide (a0.1=4)) (
 none) (
 some false))))
def vW:TFn:={ ps:=(.cons tT15 .unit),res:=.bool,fn:=fun v=>za7 v.1 }
def amY:TEnv:={ pure:=[(174,sm),(175,vl),(176,sG),(177,wa)],look:=[],glob:=G0T,ty:=[(82,tT13)],raw:=[],fresh:=[] }
theorem amX:runY Tryz.prog afs amZ amY apA Tryz.f103 vW.ps vW.res=vW.fn:=by kernel_rfl
theorem afq:aB Tryz.prog G0 103 afr:=ah (aj ⟨ay,(ai uf (ai adG (ai vB (ai afC ae)))),ar,ae,aq⟩ Tryz.func103 rfl (by kernel_rfl))
theorem amW:TOk afr vW:=az (E:=afs) (ET:=amY) (EnvT.ofX (ax (ac aal (ac akB (ac aaA (ac anc al))))) am ap aI an) amX rfl
def ab2:Env:=(eZ [(102,yL),(103,afr)] [274])
def aib:Hints:=(hZ [] [])
def yC:PFn:=aD (runF Tryz.prog ab2 aib Tryz.f39)
def aom:TH:={ loops:=[],ro:=[4,6] }
def zch (a0:vV0) (a1:Int) (a2:(Int×Int×Unit)) (a3:Int):Option (vV5×Int×Unit) :=
(zb1 a0.2.1 a2).bind fun r1 =>
 cond (!decide (r1.2.1=0)) (
 some ((0,((0,0,()),0,0,false,[],()),0,((0,0,()),0,()),0,([],[],[],()),([],[],([0,0,0,0,0,0,0,0,0,0,0,0,0,0,0,0],[],()),([0,0,0,0,0,0,0,0,0,0,0,0,0,0,0,0],[],()),[[],[],[],[],[],[],[],[]],()),()),r1.2.1,())) (
(za7 (2,((0,0,()),0,0,false,[],()),a1,r1.1,a3,([],[],[],()),([],[],([0,0,0,0,0,0,0,0,0,0,0,0,0,0,0,0],[],()),([0,0,0,0,0,0,0,0,0,0,0,0,0,0,0,0],[],()),[[],[],[],[],[],[],[],[]],()),())).bind fun r2 =>
 cond (!r2) (
 some ((0,((0,0,()),0,0,false,[],()),0,((0,0,()),0,()),0,([],[],[],()),([],[],([0,0,0,0,0,0,0,0,0,0,0,0,0,0,0,0],[],()),([0,0,0,0,0,0,0,0,0,0,0,0,0,0,0,0],[],()),[[],[],[],[],[],[],[],[]],()),()),2,())) (
 some ((2,((0,0,()),0,0,false,[],()),a1,r1.1,a3,([],[],[],()),([],[],([0,0,0,0,0,0,0,0,0,0,0,0,0,0,0,0],[],()),([0,0,0,0,0,0,0,0,0,0,0,0,0,0,0,0],[],()),[[],[],[],[],[],[],[],[]],()),()),0,())))
def ss:TFn:={ ps:=(.cons tT9 (.cons (.int .i64) (.cons tT11 tT19))),res:=(.tup (.cons tT15 tT19)),fn:=fun v=>zch v.1 v.2.1 v.2.2.1 v.2.2.2.1 }
def aia:TEnv:=(vZ [(102,sF),(103,vW)])
theorem ah9:runY Tryz.prog ab2 aib aia aom Tryz.f39 ss.ps ss.res=ss.fn:=by kernel_rfl
theorem uw:aB Tryz.prog G0 39 yC:=ah (aj ⟨ay,(ai vA (ai afq ae)),ar,ae,aq⟩ Tryz.func39 rfl (by kernel_rfl))
theorem aap:TOk yC ss:=az (E:=ab2) (ET:=aia) (EnvT.ofX (ax (ac aaz (ac amW al))) am ap aI an) ah9 rfl
def adX:Env:=(eZ [(242,we)] [274])
def akY:Hints:=(hZ [(2,[0,1,5])] [34,38,42,57,68])
def adW:PFn:=aD (runF Tryz.prog adX akY Tryz.f179)
def ao6:TH:={ joins:=[(3,{ keep:=[(5,(.own 0))],mem:=[.row true 82 tT13] }),(10,{ keep:=[(5,(.own 0)),(6,(.int .i64))],mem:=[.row true 82 tT13] })],loops:=[(2,{ keep:=[(0,(.sl tT13)),(1,(.sl tT13)),(5,(.own 0))],mem:=[.row true 82 tT13] })],ro:=[] }
def eT (y2:(List vV2×List vV2×List vV2×Unit)):Option ((List vV2×List vV2×List vV2×Unit)⊕List vV2) :=
(cond (decide ((y2.1.length:Int)>0)) (some (.inl (y2.2.2.1,()))) (cond (decide ((y2.2.1.length:Int)>0)) (
 some (.inl (y2.2.2.1,()))) (
 some (.inr (.inr y2.2.2.1)))):Option ((List vV2×Unit)⊕((List vV2×List vV2×List vV2×Unit)⊕List vV2))).bind (bK fun v1 =>
(cond (decide ((y2.1.length:Int)=0)) (
 some (.inl (1,v1.1,()))) (
 cond (decide ((y2.2.1.length:Int)>0)) (
(atI y2.1 0).bind fun x2 =>
(atI y2.2.1 0).bind fun x3 =>
(za0 x2 x3).bind fun r4 =>
 some (.inl (r4,v1.1,()))) (
 some (.inl ((-1),v1.1,())))):Option ((Int×List vV2×Unit)⊕((List vV2×List vV2×List vV2×Unit)⊕List vV2))).bind (bK fun v5 =>
 cond (decide (v5.1<0)) (
(atI y2.1 0).bind fun x6 =>
(dF (v5.2.1.length+([x6]:List vV2).length)).bind fun u7 =>
(subI y2.1 1 (y2.1.length:Int)).bind fun s8 =>
 some (.inl (s8,y2.2.1,(v5.2.1++([x6]:List vV2)),()))) (
 cond (decide (v5.1>0)) (
(atI y2.2.1 0).bind fun x9 =>
(dF (v5.2.1.length+([x9]:List vV2).length)).bind fun u10 =>
(subI y2.2.1 1 (y2.2.1.length:Int)).bind fun s11 =>
 some (.inl (y2.1,s11,(v5.2.1++([x9]:List vV2)),()))) (
(atI y2.1 0).bind fun x12 =>
(atI y2.1 0).bind fun x13 =>
(atI y2.2.1 0).bind fun x14 =>
(dF (v5.2.1.length+([(x12.1,(max x13.2.1 x14.2.1),())]:List vV2).length)).bind fun u15 =>
(subI y2.1 1 (y2.1.length:Int)).bind fun s16 =>
(subI y2.2.1 1 (y2.2.1.length:Int)).bind fun s17 =>
 some (.inl (s16,s17,(v5.2.1++([(x12.1,(max x13.2.1 x14.2.1),())]:List vV2)),()))))))
def zb8 (a0:List vV2) (a1:List vV2):Option (List vV2) :=
 aK (eT) (a0,a1,[],())
def vq:TFn:={ ps:=(.cons (.sl tT13) (.cons (.sl tT13) .unit)),res:=(.sl tT13),fn:=fun v=>zb8 v.1 v.2.1 }
def akX:TEnv:={ pure:=[(242,px)],look:=[],glob:=G0T,ty:=[(82,tT13)],raw:=[],fresh:=[] }
theorem akW:runY Tryz.prog adX akY akX ao6 Tryz.f179 vq.ps vq.res=vq.fn:=by kernel_rfl
theorem adV:aB Tryz.prog G0 179 adW:=ah (aj ⟨ay,(ai py ae),ar,ae,aq⟩ Tryz.func179 rfl (by kernel_rfl))
theorem akV:TOk adW vq:=az (E:=adX) (ET:=akX) (EnvT.ofX (ax (ac wd al)) am ap aI an) akW rfl
def afp:Env:=(eZ [(179,adW)] [274])
def amV:Hints:=(hZ [] [])
def afo:PFn:=aD (runF Tryz.prog afp amV Tryz.f104)
def apz:TH:=yZ
def za8 (a0:vV0) (a1:List vV2):Option vV0 :=
(zb8 a0.2.1 a1).bind fun r1 =>
 some (a0.1,r1,a0.2.2.1,a0.2.2.2.1,a0.2.2.2.2.1,())
def vV:TFn:={ ps:=(.cons tT9 (.cons (.sl tT13) .unit)),res:=tT9,fn:=fun v=>za8 v.1 v.2.1 }
def amU:TEnv:=(vZ [(179,vq)])
theorem amT:runY Tryz.prog afp amV amU apz Tryz.f104 vV.ps vV.res=vV.fn:=by kernel_rfl
theorem afn:aB Tryz.prog G0 104 afo:=ah (aj ⟨ay,(ai adV ae),ar,ae,aq⟩ Tryz.func104 rfl (by kernel_rfl))
theorem amS:TOk afo vV:=az (E:=afp) (ET:=amU) (EnvT.ofX (ax (ac akV al)) am ap aI an) amT rfl
def adL:Env:={ pure:=[],raw:=[(180,yO)],glob:=G0,same:=[274],look:=[],ext:=[] }
def akI:Hints:={ seqs:=[],loops:=[(6,[0,3,5])],own:=[14],frz:=[(3,[3])] }
def adK:PFn:=aD (runF Tryz.prog adL akI Tryz.f105)
def ao2:TH:={ loops:=[(6,{ keep:=[(3,(.bx 0 0)),(5,(.int .i64))],mem:=[.box 86 tT15] })],ro:=[] }
def aaw (a0:List (Int×Int×Unit)) (y6:(Int×vV5×Unit)):Option ((Int×vV5×Unit)⊕List (Int×Int×Unit)) :=
 cond (decide (y6.1≥0)) (
(atI a0 y6.1).bind fun x3 =>
 cond (eqV tT11 x3 y6.2.1.2.2.2.1.1) (
(subI a0 0 y6.1).bind fun s4 =>
(zat s4).bind fun n5 =>
 some (.inr n5)) (
 some (.inl ((IntKind.wrap .i64 (y6.1-1)),y6.2.1,())))) (
 some (.inr a0))
def zbc (a0:List (Int×Int×Unit)) (a1:vV5):Option (List (Int×Int×Unit)) :=
 cond (decide (a1.2.2.2.2.1=1)) (
(zat a0).bind fun n1 =>
(dF (n1.length+([a1.2.2.2.1.1]:List (Int×Int×Unit)).length)).bind fun u2 =>
 some (n1++([a1.2.2.2.1.1]:List (Int×Int×Unit)))) (
 cond (decide (a1.2.2.2.2.1=2)) (
 aK (aaw a0) ((IntKind.wrap .i64 ((a0.length:Int)-1)),a1,())) (
 some a0))
def vm:TFn:={ ps:=(.cons (.sl tT11) (.cons tT15 .unit)),res:=(.sl tT11),fn:=fun v=>zbc v.1 v.2.1 }
def akH:TEnv:={ pure:=[],look:=[],glob:=G0T,ty:=[(72,tT11)],raw:=[],fresh:=[(180,aer)] }
theorem akG:runY Tryz.prog adL akI akH ao2 Tryz.f105 vm.ps vm.res=vm.fn:=by kernel_rfl
theorem adJ:aB Tryz.prog G0 105 adK:=ah (aj ⟨ay,ae,(er vH ar),ae,aq⟩ Tryz.func105 rfl (by kernel_rfl))
theorem akF:TOk adK vm:=az (E:=adL) (ET:=akH) (EnvT.ofX (ax al) am (gn ap rfl) aI (gx aaB rfl rfl rfl an)) akG rfl
def aeE:Go.Shelf.Ren:=⟨fun | 41=>182 | n=>n,fun | 22=>39 | 23=>82 | 4=>4 | n=>n,fun | n=>n⟩
theorem yS:Go.Proofs.SlLaysE0.n41 Tryz.prog aeE:={
 mixed:=by kernel_rfl
 f41:=⟨Tryz.f182.name,by decide,Tryz.func182.trans (congrArg some (by kernel_rfl))⟩
 t4:=Tryz.underlying4
 a4:=Tryz.isAgg4
 z4:=Tryz.sizeOf4
 v4:=Tryz.zeroValue4
 t22:=Tryz.underlying39
 a22:=Tryz.isAgg39
 z22:=Tryz.sizeOf39
 v22:=Tryz.zeroValue39 }
def aeG:PFn:=(iK 3)
theorem aeF:aB Tryz.prog G0 182 aeG:=clone_lays yS 3 ⟨Tryz.f182,Tryz.func182,rfl,by kernel_rfl⟩ (by kernel_rfl) (by kernel_rfl) (by kernel_rfl) (by kernel_rfl) (by kernel_rfl) (by decide) (fun w=>Tryz.sizeOf82 w)
def zao (a0:List vV2):Option (List vV2):=ex a0
def alX:TFn:=eP tT13
theorem alW:TOk aeG alX:=kl rfl rfl rfl
def aeK:Go.Shelf.Ren:=⟨fun | 41=>181 | n=>n,fun | 22=>22 | 23=>78 | 4=>4 | n=>n,fun | n=>n⟩
theorem yU:Go.Proofs.SlLaysE0.n41 Tryz.prog aeK:={
 mixed:=by kernel_rfl
 f41:=⟨Tryz.f181.name,by decide,Tryz.func181.trans (congrArg some (by kernel_rfl))⟩
 t4:=Tryz.underlying4
 a4:=Tryz.isAgg4
 z4:=Tryz.sizeOf4
 v4:=Tryz.zeroValue4
 t22:=Tryz.underlying22
 a22:=Tryz.isAgg22
 z22:=Tryz.sizeOf22
 v22:=Tryz.zeroValue22 }
def aeM:PFn:=(iK 6)
theorem aeL:aB Tryz.prog G0 181 aeM:=clone_lays yU 6 ⟨Tryz.f181,Tryz.func181,rfl,by kernel_rfl⟩ (by kernel_rfl) (by kernel_rfl) (by kernel_rfl) (by kernel_rfl) (by kernel_rfl) (by decide) (fun w=>Tryz.sizeOf78 w)
def zam (a0:List vV1):Option (List vV1):=ex a0
def al1:TFn:=eP tT10
theorem al0:TOk aeM al1:=kl rfl rfl rfl
def aeH:Go.Shelf.Ren:=⟨fun | 41=>180 | n=>n,fun | 22=>64 | 23=>72 | 4=>4 | n=>n,fun | n=>n⟩
theorem yT:Go.Proofs.SlLaysE0.n41 Tryz.prog aeH:={
 mixed:=by kernel_rfl
 f41:=⟨Tryz.f180.name,by decide,Tryz.func180.trans (congrArg some (by kernel_rfl))⟩
 t4:=Tryz.underlying4
 a4:=Tryz.isAgg4
 z4:=Tryz.sizeOf4
 v4:=Tryz.zeroValue4
 t22:=Tryz.underlying64
 a22:=Tryz.isAgg64
 z22:=Tryz.sizeOf64
 v22:=Tryz.zeroValue64 }
def aeJ:PFn:=(iK 2)
theorem aeI:aB Tryz.prog G0 180 aeJ:=clone_lays yT 2 ⟨Tryz.f180,Tryz.func180,rfl,by kernel_rfl⟩ (by kernel_rfl) (by kernel_rfl) (by kernel_rfl) (by kernel_rfl) (by kernel_rfl) (by decide) (fun w=>Tryz.sizeOf72 w)
def zan (a0:List (Int×Int×Unit)):Option (List (Int×Int×Unit)):=ex a0
def alZ:TFn:=eP tT11
theorem alY:TOk aeJ alZ:=kl rfl rfl rfl
def ac2:Env:=(eZ [(180,aeJ),(181,aeM),(182,aeG)] [274])
def ajI:Hints:=(hZ [(6,[1,2,26,27])] [])
def ac1:PFn:=aD (runF Tryz.prog ac2 ajI Tryz.f107)
def aoM:TH:={ loops:=[(6,{ keep:=[(1,(.bx 0 0)),(2,(.bx 1 0)),(27,(.int .i64))],mem:=[.box 69 tT9,.box 69 (.agg (.cons .nilsl (.cons .nilsl (.cons tT18 (.cons tT18 (.cons (.arr 8 .nilsl) .unit))))))] })],ro:=[] }
def ajF (a0:vV0) (y6:(Int×vV0×(Unit×Unit×vV7×vV7×List Unit×Unit)×Unit)):Option ((Int×vV0×(Unit×Unit×vV7×vV7×List Unit×Unit)×Unit)⊕vV0) :=
 cond (decide (y6.1<8)) (
(atI a0.2.2.2.2.1 y6.1).bind fun x5 =>
(zan x5).bind fun r6 =>
(inI 8 y6.1).bind fun i7 =>
(y6.2.1.2.2.2.2.1[i7]?).bind fun x8 =>
 some (.inl ((IntKind.wrap .i64 (y6.1+1)),(y6.2.1.1,y6.2.1.2.1,y6.2.1.2.2.1,y6.2.1.2.2.2.1,(y6.2.1.2.2.2.2.1.set i7 r6),()),y6.2.2.1,()))) (
 some (.inr y6.2.1))
def zbs (a0:vV0):Option vV0 :=
(zam a0.1).bind fun r1 =>
(zao a0.2.1).bind fun r2 =>
(zan a0.2.2.1.2.1).bind fun r3 =>
(zan a0.2.2.2.1.2.1).bind fun r4 =>
 aK (ajF a0) (0,(r1,r2,(a0.2.2.1.1,r3,()),(a0.2.2.2.1.1,r4,()),a0.2.2.2.2.1,()),((),(),([0,0,0,0,0,0,0,0,0,0,0,0,0,0,0,0],(),()),([0,0,0,0,0,0,0,0,0,0,0,0,0,0,0,0],(),()),[(),(),(),(),(),(),(),()],()),())
def uW:TFn:={ ps:=(.cons tT9 .unit),res:=tT9,fn:=fun v=>zbs v.1 }
def ajH:TEnv:=(vZ [(180,alZ),(181,al1),(182,alX)])
theorem ajG:runY Tryz.prog ac2 ajI ajH aoM Tryz.f107 uW.ps uW.res=uW.fn:=by kernel_rfl
theorem ac0:aB Tryz.prog G0 107 ac1:=ah (aj ⟨ay,(ai aeI (ai aeL (ai aeF ae))),ar,ae,aq⟩ Tryz.func107 rfl (by kernel_rfl))
theorem ajE:TOk ac1 uW:=az (E:=ac2) (ET:=ajH) (EnvT.ofX (ax (ac alY (ac al0 (ac alW al)))) am ap aI an) ajG rfl
def acZ:Env:=(eZ [(97,yG),(104,afo),(105,adK),(107,ac1)] [274])
def ajD:Hints:=(hZ [] [])
def yI:PFn:=aD (runF Tryz.prog acZ ajD Tryz.f40)
def aoL:TH:={ loops:=[],ro:=[3] }
def zbt (a0:vV0) (a1:vV5):Option vV0 :=
 cond (decide (a1.1=1)) (
(zc0 a0 a1.2.1).bind fun r1 =>
(inI 8 a1.2.1.2.1).bind fun i2 =>
(r1.2.2.2.2.1[i2]?).bind fun x3 =>
 some (r1.1,r1.2.1,r1.2.2.1,r1.2.2.2.1,(r1.2.2.2.2.1.set i2 []),())) (
 cond (decide (a1.1=2)) (
(za8 a0 ([a1.2.2.2.1]:List vV2)).bind fun r4 =>
(inI 8 a1.2.2.1).bind fun i5 =>
(r4.2.2.2.2.1[i5]?).bind fun x6 =>
(zbc x6 a1).bind fun r7 =>
(inI 8 a1.2.2.1).bind fun i8 =>
(r4.2.2.2.2.1[i8]?).bind fun x9 =>
 some (r4.1,r4.2.1,r4.2.2.1,r4.2.2.2.1,(r4.2.2.2.2.1.set i8 r7),())) (
 cond (decide (a1.1=3)) (
 none) (
 cond (decide (a1.1=4)) (
(zbs a1.2.2.2.2.2.2.1).bind fun r10 =>
 some r10) (
 some a0))))
def sC:TFn:={ ps:=(.cons tT9 (.cons tT15 .unit)),res:=tT9,fn:=fun v=>zbt v.1 v.2.1 }
def ajC:TEnv:={ pure:=[(97,sA),(104,vV),(105,vm),(107,uW)],look:=[],glob:=G0T,ty:=[(82,tT13)],raw:=[],fresh:=[] }
theorem ajB:runY Tryz.prog acZ ajD ajC aoL Tryz.f40 sC.ps sC.res=sC.fn:=by kernel_rfl
theorem uV:aB Tryz.prog G0 40 yI:=ah (aj ⟨ay,(ai uO (ai afn (ai adJ (ai ac0 ae)))),ar,ae,aq⟩ Tryz.func40 rfl (by kernel_rfl))
theorem aav:TOk yI sC:=az (E:=acZ) (ET:=ajC) (EnvT.ofX (ax (ac aat (ac amS (ac akF (ac ajE al))))) am ap aI an) ajB rfl
def ab1:Env:=(eZ [(75,sv),(100,yF)] [274])
def ah8:Hints:=(hZ [(5,[2,4,6,7])] [])
def yB:PFn:=aD (runF Tryz.prog ab1 ah8 Tryz.f44)
def aol:TH:={ loops:=[(5,{ keep:=[(2,(.bx 0 0)),(4,(.bx 1 0)),(7,(.int .i64))],mem:=[.box 69 tT9,.box 72 tT11] })],ro:=[] }
def ut (x2:List (Int×Int×Unit)) (y5:(Int×vV0×(Int×Int×Unit)×Unit)):Option ((Int×vV0×(Int×Int×Unit)×Unit)⊕vV2) :=
 cond (decide (y5.1≥0)) (
(atI x2 y5.1).bind fun x3 =>
(zcf y5.2.1.2.1 x3).bind fun r4 =>
 cond r4 (
 some (.inl ((IntKind.wrap .i64 (y5.1-1)),y5.2.1,y5.2.2.1,()))) (
(atI x2 y5.1).bind fun x5 =>
(zc1 y5.2.1 x5).bind fun r6 =>
 cond (!decide (r6=0)) (
 some (.inr ((0,0,()),r6,()))) (
(atI x2 y5.1).bind fun x7 =>
 some (.inr (x7,0,()))))) (
 some (.inr ((0,0,()),11,())))
def zci (a0:vV0) (a1:Int):Option vV2 :=
 cond (decide (a1<0)) (some ((0,0,()),2,())) (cond (decide (a1≥8)) (
 some ((0,0,()),2,())) (
(inI 8 a1).bind fun i1 =>
(a0.2.2.2.2.1[i1]?).bind fun x2 =>
 aK (ut x2) ((IntKind.wrap .i64 ((x2.length:Int)-1)),a0,(0,0,()),())))
def sr:TFn:={ ps:=(.cons tT9 tT19),res:=(.tup (.cons tT11 tT19)),fn:=fun v=>zci v.1 v.2.1 }
def ah7:TEnv:=(vZ [(75,nO),(100,sy)])
theorem ah6:runY Tryz.prog ab1 ah8 ah7 aol Tryz.f44 sr.ps sr.res=sr.fn:=by kernel_rfl
theorem uu:aB Tryz.prog G0 44 yB:=ah (aj ⟨ay,(ai mB (ai uN ae)),ar,ae,aq⟩ Tryz.func44 rfl (by kernel_rfl))
theorem aao:TOk yB sr:=az (E:=ab1) (ET:=ah7) (EnvT.ofX (ax (ac qv (ac aas al))) am ap aI an) ah6 rfl
def adf:Env:=(eZ [(35,yK),(39,yC),(40,yI),(44,yB),(97,yG),(98,acF)] [274])
def ajY:Hints:=(hZ [] [])
def ade:PFn:=aD (runF Tryz.prog adf ajY Tryz.f34)
def aoQ:TH:={ loops:=[],cuts:=[(7,[(7,{ keep:=[(2,(.bx 1 0)),(7,(.bx 4 0)),(46,.bool)],mem:=[.gone,.box 72 tT11,.gone,.gone,.box 72 tT11,.gone] }),(4,{ keep:=[(2,(.bx 1 0)),(7,(.bx 4 0)),(50,.bool)],mem:=[.gone,.box 72 tT11,.gone,.gone,.box 72 tT11,.gone] })])],ro:=[],news:=[] }
def zbo:Option Bool :=
(zc2 1).bind fun r1 =>
(zc0 ([],[],([0,0,0,0,0,0,0,0,0,0,0,0,0,0,0,0],[],()),([0,0,0,0,0,0,0,0,0,0,0,0,0,0,0,0],[],()),[[],[],[],[],[],[],[],[]],()) r1).bind fun r2 =>
(zc2 2).bind fun r3 =>
(zc0 r2 r3).bind fun r4 =>
(zb2 r4 1).bind fun r5 =>
(zch r4 1 r5.1 1).bind fun r6 =>
(zbt r4 r6.1).bind fun r7 =>
(zci r7 1).bind fun r8 =>
(zb2 r4 0).bind fun r9 =>
(cond (decide (r5.2.1=0)) (some ((decide (r5.1.2.1=2)),r5.1,r8.1,())) (some (false,r5.1,r8.1,())):Option (Bool×(Int×Int×Unit)×(Int×Int×Unit)×Unit)).bind fun v10 =>
(cond v10.1 (some ((decide (r6.2.1=0)),v10.2.1,v10.2.2.1,())) (some (false,v10.2.1,v10.2.2.1,())):Option (Bool×(Int×Int×Unit)×(Int×Int×Unit)×Unit)).bind fun v11 =>
 cond v11.1 (cond (decide (r8.2.1=0)) (cond (eqV tT11 v11.2.2.1 v11.2.1) (some (decide (r9.2.1=11))) (some false)) (some false)) (some false)
def u9:TFn:={ ps:=.unit,res:=.bool,fn:=fun v=>zbo  }
def ajX:TEnv:=(vZ [(35,sE),(39,ss),(40,sC),(44,sr),(97,sA),(98,uM)])
theorem ajW:runY Tryz.prog adf ajY ajX aoQ Tryz.f34 u9.ps u9.res=u9.fn:=by kernel_rfl
theorem adc:aB Tryz.prog G0 34 ade:=ah (aj ⟨ay,(ai vz (ai uw (ai uV (ai uu (ai uO (ai acE ae)))))),ar,ae,aq⟩ Tryz.func34 rfl (by kernel_rfl))
theorem ajV:TOk ade u9:=az (E:=adf) (ET:=ajX) (EnvT.ofX (ax (ac aay (ac aap (ac aav (ac aao (ac aat (ac ai4 al))))))) am ap aI an) ajW rfl
def ad1:Env:=(eZ [] [274])
def ak5:Hints:=(hZ [(2,[0,3,5])] [])
def ad0:PFn:=aD (runF Tryz.prog ad1 ak5 Tryz.f36)
def ao8:TH:={ loops:=[(2,{ keep:=[(3,(.bx 0 0)),(5,(.int .i64))],mem:=[.same] })],ro:=[3] }
def qG (a0:List vV1) (a1:(Int×Int×Unit)) (y2:(Int×Unit)):Option ((Int×Unit)⊕Int) :=
 cond (decide (y2.1<(a0.length:Int))) (
(atI a0 y2.1).bind fun x1 =>
 cond (eqV tT11 x1.1 a1) (
 some (.inr y2.1)) (
 some (.inl ((IntKind.wrap .i64 (y2.1+1)),())))) (
 some (.inr (-1)))
def zb6 (a0:List vV1) (a1:(Int×Int×Unit)):Option Int :=
 aK (qG a0 a1) (0,())
def vt:TFn:={ ps:=(.cons (.sl tT10) (.cons tT11 .unit)),res:=(.int .i64),fn:=fun v=>zb6 v.1 v.2.1 }
def ak4:TEnv:=(vZ [])
theorem ak3:runY Tryz.prog ad1 ak5 ak4 ao8 Tryz.f36 vt.ps vt.res=vt.fn:=by kernel_rfl
theorem adZ:aB Tryz.prog G0 36 ad0:=ah (aj ⟨ay,ae,ar,ae,aq⟩ Tryz.func36 rfl (by kernel_rfl))
theorem ak2:TOk ad0 vt:=az (E:=ad1) (ET:=ak4) (EnvT.ofX (ax al) am ap aI an) ak3 rfl
def abR:Env:=(eZ [] [274])
def ahT:Hints:=(hZ [(2,[0,3,5])] [])
def yA:PFn:=aD (runF Tryz.prog abR ahT Tryz.f48)
def aoh:TH:={ loops:=[(2,{ keep:=[(3,(.bx 0 0)),(5,(.int .i64))],mem:=[.same] })],ro:=[3] }
def nN (a0:List vV2) (a1:(Int×Int×Unit)) (y2:(Int×Unit)):Option ((Int×Unit)⊕Int) :=
 cond (decide (y2.1<(a0.length:Int))) (
(atI a0 y2.1).bind fun x1 =>
 cond (eqV tT11 x1.1 a1) (
(atI a0 y2.1).bind fun x2 =>
 some (.inr x2.2.1)) (
 some (.inl ((IntKind.wrap .i64 (y2.1+1)),())))) (
 some (.inr 0))
def zcm (a0:List vV2) (a1:(Int×Int×Unit)):Option Int :=
 aK (nN a0 a1) (0,())
def sq:TFn:={ ps:=(.cons (.sl tT13) (.cons tT11 .unit)),res:=(.int .i64),fn:=fun v=>zcm v.1 v.2.1 }
def ahS:TEnv:=(vZ [])
theorem ahR:runY Tryz.prog abR ahT ahS aoh Tryz.f48 sq.ps sq.res=sq.fn:=by kernel_rfl
theorem un:aB Tryz.prog G0 48 yA:=ah (aj ⟨ay,ae,ar,ae,aq⟩ Tryz.func48 rfl (by kernel_rfl))
theorem aan:TOk yA sq:=az (E:=abR) (ET:=ahS) (EnvT.ofX (ax al) am ap aI an) ahR rfl
def ab0:Env:=(eZ [(48,yA)] [274])
def ah5:Hints:=(hZ [] [])
def abZ:PFn:=aD (runF Tryz.prog ab0 ah5 Tryz.f37)
def aok:TH:={ loops:=[],ro:=[3] }
def zcj (a0:List vV2) (a1:(Int×Int×Unit)):Option Bool :=
(zcm a0 a1).bind fun r1 =>
(remT r1 2).bind fun t2 =>
 some (decide (t2=0))
def ur:TFn:={ ps:=(.cons (.sl tT13) (.cons tT11 .unit)),res:=.bool,fn:=fun v=>zcj v.1 v.2.1 }
def ah4:TEnv:=(vZ [(48,sq)])
theorem ah3:runY Tryz.prog ab0 ah5 ah4 aok Tryz.f37 ur.ps ur.res=ur.fn:=by kernel_rfl
theorem abY:aB Tryz.prog G0 37 abZ:=ah (aj ⟨ay,(ai un ae),ar,ae,aq⟩ Tryz.func37 rfl (by kernel_rfl))
theorem ah2:TOk abZ ur:=az (E:=ab0) (ET:=ah4) (EnvT.ofX (ax (ac aan al)) am ap aI an) ah3 rfl
def dw (a0:vV1) (a1:vV1):Option Int :=
 cond (decide (a0.2.2.1<a1.2.2.1)) (
 some (-1)) (
 cond (decide (a0.2.2.1>a1.2.2.1)) (
 some 1) (
(za1 a0.1 a1.1).bind fun r1 =>
 some r1))
def bu (a0:vV0) (a1:Int) (r7:Int) (y10:(Int×(Int×Int×Unit)×Unit)):Option ((Int×(Int×Int×Unit)×Unit)⊕(((Int×Int×Unit)×Unit)⊕Bool)) :=
 cond (decide (y10.1<(a0.1.length:Int))) (
((atI a0.1 y10.1).bind fun x10 =>
 cond (decide (x10.2.1=a1)) ((atI a0.1 y10.1).bind fun x11 =>
(zcj a0.2.1 x11.1).bind fun r12 =>
 some (r12,y10.2.1,())) (some (false,y10.2.1,())):Option (Bool×(Int×Int×Unit)×Unit)).bind fun v13 =>
 cond v13.1 ((atI a0.1 y10.1).bind fun x14 =>
(atI a0.1 r7).bind fun x15 =>
(dw x14 x15).bind fun r16 =>
 cond (decide (r16>0)) (
 some (.inr (.inr false))) (
 some (.inl ((IntKind.wrap .i64 (y10.1+1)),v13.2.1,())))) (some (.inl ((IntKind.wrap .i64 (y10.1+1)),v13.2.1,())))) (
 some (.inr (.inl (y10.2.1,()))))
def dL (a0:vV0) (a1:Int):Option Bool :=
(zcc a0).bind fun r1 =>
 cond (!r1) ((zbo).bind fun r2 =>
 some r2) (cond (decide (a1<0)) ((zbo).bind fun r3 =>
 some r3) (cond (decide (a1≥8)) (
(zbo).bind fun r4 =>
 some r4) (
(zb2 a0 a1).bind fun r5 =>
 cond (!decide (r5.2.1=0)) (
(zbo).bind fun r6 =>
 some r6) (
(zb6 a0.1 r5.1).bind fun r7 =>
 cond (decide (r7<0)) (some false) ((atI a0.1 r7).bind fun x8 =>
 cond (!decide (x8.2.1=a1)) (some false) ((zcj a0.2.1 r5.1).bind fun r9 =>
 cond (!r9) (
 some false) (
(aK (bu a0 a1 r7) (0,r5.1,()):Option (((Int×Int×Unit)×Unit)⊕Bool)).bind (bK fun v17 =>
(zch a0 a1 v17.1 1).bind fun r18 =>
(zbt a0 r18.1).bind fun r19 =>
(zb2 r19 a1).bind fun r20 =>
 cond (!decide (r20.2.1=0)) (
(zbo).bind fun r21 =>
 some r21) (
(zb6 a0.1 r20.1).bind fun r22 =>
 cond (decide (r22≥0)) ((atI a0.1 r22).bind fun x23 =>
(atI a0.1 r7).bind fun x24 =>
(dw x23 x24).bind fun r25 =>
 cond (decide (r25<0)) ((zbo).bind fun r26 =>
 some r26) (some false)) (some false))))))))))
def cT:TFn:={ ps:=(.cons tT9 tT19),res:=.bool,fn:=fun v=>dL v.1 v.2.1 }
def dv (a0:vV0) (y3:(Int×Int×Unit)):Option ((Int×Int×Unit)⊕Int) :=
 cond (decide (y3.2.1<(a0.1.length:Int))) (
(atI a0.1 y3.2.1).bind fun x1 =>
 some (.inl ((max y3.1 x1.2.2.1),(IntKind.wrap .i64 (y3.2.1+1)),()))) (
 some (.inr y3.1))
def hC (a0:vV0):Option Int :=
 aK (dv a0) (0,0,())
def bJ (a0:vV0) (y4:(Int×vV1×Unit)):Option ((Int×vV1×Unit)⊕((vV1×Unit)⊕Bool)) :=
 cond (decide (y4.1<(a0.2.1.length:Int))) (
(atI a0.2.1 y4.1).bind fun x9 =>
 cond (eqV tT11 x9.1 y4.2.1.1) (
(zbo).bind fun r10 =>
 some (.inr (.inr r10))) (
 some (.inl ((IntKind.wrap .i64 (y4.1+1)),y4.2.1,())))) (
 some (.inr (.inl (y4.2.1,()))))
def cE (a0:vV0) (a1:vV1):Option Bool :=
((zcc a0).bind fun r1 =>
 cond (!r1) (some (true,a1,())) ((zbx a1).bind fun r2 =>
 some ((!r2),a1,())):Option (Bool×vV1×Unit)).bind fun v3 =>
 cond v3.1 ((zbo).bind fun r4 =>
 some r4) ((zbp v3.2.1).bind fun r5 =>
 cond (!decide (r5=0)) ((zbo).bind fun r6 =>
 some r6) ((zb6 a0.1 v3.2.1.1).bind fun r7 =>
 cond (decide (r7≥0)) (
(zbo).bind fun r8 =>
 some r8) (
(aK (bJ a0) (0,v3.2.1,()):Option ((vV1×Unit)⊕Bool)).bind (bK fun v11 =>
(hC a0).bind fun r12 =>
 cond (decide (r12≥1099511627776)) (
(zbo).bind fun r13 =>
 some r13) (
(zbt a0 (1,(v11.1.1,v11.1.2.1,(IntKind.wrap .i64 (r12+1)),v11.1.2.2.2.1,v11.1.2.2.2.2.1,()),0,((0,0,()),0,()),0,([],[],[],()),([],[],([0,0,0,0,0,0,0,0,0,0,0,0,0,0,0,0],[],()),([0,0,0,0,0,0,0,0,0,0,0,0,0,0,0,0],[],()),[[],[],[],[],[],[],[],[]],()),())).bind fun r14 =>
(zb2 (r14.1,r14.2.1,r14.2.2.1,([0,0,0,0,0,0,0,0,0,0,0,0,0,0,0,0],[],()),r14.2.2.2.2.1,()) v11.1.2.1).bind fun r15 =>
(zci (r14.1,r14.2.1,r14.2.2.1,([0,0,0,0,0,0,0,0,0,0,0,0,0,0,0,0],[],()),r14.2.2.2.2.1,()) v11.1.2.1).bind fun r16 =>
 cond (decide (r15.2.1=0)) (cond (eqV tT11 r15.1 v11.1.1) (cond (decide (r16.2.1=11)) ((zbo).bind fun r17 =>
 some r17) (some false)) (some false)) (some false))))))
def cm:TFn:={ ps:=(.cons tT9 (.cons tT10 .unit)),res:=.bool,fn:=fun v=>cE v.1 v.2.1 }
def afB:Env:=(eZ [(75,sv)] [274])
def anb:Hints:=(hZ [(3,[1,5,13,14,15]),(7,[1,5,13,14,15,25,26,27]),(10,[1,5,13,14,15,25,26,27,32,33,34])] [])
def afA:SFn:=runF Tryz.prog afB anb Tryz.f74
def apD:TH:={ loops:=[(3,{ keep:=[(5,(.mp 0)),(15,(.int .i64))],mem:=[.map tT13 .bool] }),(7,{ keep:=[(5,(.mp 0)),(27,(.int .i64))],mem:=[.map tT13 .bool,.gone] }),(10,{ keep:=[(5,(.mp 0)),(34,(.int .i64))],mem:=[.map tT13 .bool,.gone,.gone] })],ro:=[] }
def mF (y7:vV8) (x3:vV3) (y10:vV8):Option (vV8⊕(vV8⊕(vV8⊕(List (vV2×Bool))))) :=
 cond (decide (y10.1<(x3.2.2.2.2.1.length:Int))) (
(atI x3.2.2.2.2.1 y10.1).bind fun x4 =>
 some (.inl ((IntKind.wrap .i64 (y10.1+1)),(putK tT13 x4 true y10.2.1),()))) (
 some (.inr (.inl ((IntKind.wrap .i64 (y7.1+1)),y10.2.1,()))))
def qQ (y3:vV8) (x1:vV1) (y7:vV8):Option (vV8⊕(vV8⊕(List (vV2×Bool)))) :=
 cond (decide (y7.1<(x1.2.2.2.2.1.length:Int))) (
(atI x1.2.2.2.2.1 y7.1).bind fun x3 =>
 aK (mF y7 x3) (0,y7.2.1,())) (
 some (.inr (.inl ((IntKind.wrap .i64 (y3.1+1)),y7.2.1,()))))
def qR (a0:List vV1) (a1:List vV2) (y3:vV8):Option (vV8⊕(List (vV2×Bool))) :=
 cond (decide (y3.1<(a0.length:Int))) (
(atI a0 y3.1).bind fun x1 =>
(zcf a1 x1.1).bind fun r2 =>
 cond (!r2) (
 some (.inl ((IntKind.wrap .i64 (y3.1+1)),y3.2.1,()))) (
 aK (qQ y3 x1) (0,y3.2.1,()))) (
 some (.inr y3.2.1))
def za4 (a0:List vV1) (a1:List vV2):Option (List (vV2×Bool)) :=
 aK (qR a0 a1) (0,[],())
def yW:TNew:={ ps:=(.cons (.sl tT10) (.cons (.sl tT13) .unit)),e:=143,t:=(.sl (.cons tT13 .bool)),fn:=fun v=>za4 v.1 v.2.1,mp:=true }
def ana:TEnv:={ pure:=[(75,nO)],look:=[],glob:=G0T,ty:=[(4,.bool),(146,tT13)],raw:=[],fresh:=[] }
theorem am9:anC Tryz.prog afB anb ana apD Tryz.f74 yW.ps tT13 .bool=yW.fn:=by kernel_rfl
theorem afz:cN Tryz.prog G0 74 afA:=aj ⟨ay,(ai mB ae),ar,ae,aq⟩ Tryz.func74 rfl (by kernel_rfl)
theorem am8:TNewOk afA yW:=zN (E:=afB) (ET:=ana) (EnvT.ofX (ax (ac qv al)) am ap aI an) am9
def abf:Env:={ pure:=[(75,sv)],raw:=[(74,afA)],glob:=G0,same:=[274],look:=[],ext:=[] }
def agY:Hints:=(hZ [(4,[1,5,6,15,16,17]),(8,[1,5,6,8,15,16,17,27,28,29])] [])
def abe:PFn:=aD (runF Tryz.prog abf agY Tryz.f19)
def an2:TH:={ loops:=[(4,{ keep:=[(5,(.mp 0)),(6,(.own 4)),(17,(.int .i64))],mem:=[.map tT13 .bool,.gone,.gone,.gone,.row true 148 tT17] }),(8,{ keep:=[(5,(.mp 0)),(6,(.own 4)),(8,(.bx 5 0)),(29,(.int .i64))],mem:=[.map tT13 .bool,.gone,.gone,.gone,.row true 148 tT17,.box 78 tT10] })],ro:=[] }
def qp (y4:(Int×List (vV2×Bool)×List vV6×Unit)) (x2:vV1) (y8:(Int×List (vV2×Bool)×List vV6×vV1×Unit)):Option ((Int×List (vV2×Bool)×List vV6×vV1×Unit)⊕((Int×List (vV2×Bool)×List vV6×Unit)⊕List vV6)) :=
 cond (decide (y8.1<(x2.2.2.2.2.1.length:Int))) (
(atI x2.2.2.2.2.1 y8.1).bind fun x4 =>
 cond (decide (x4.1=1)) (cond (!((getK tT13 false (y8.2.2.2.1.1,y8.1,()) y8.2.1).1)) (
(dF (y8.2.2.1.length+([((y8.2.2.2.1.1,y8.1,()),x4,y8.2.2.2.1.2.2.1,())]:List vV6).length)).bind fun u5 =>
 some (.inl ((IntKind.wrap .i64 (y8.1+1)),y8.2.1,(y8.2.2.1++([((y8.2.2.2.1.1,y8.1,()),x4,y8.2.2.2.1.2.2.1,())]:List vV6)),y8.2.2.2.1,()))) (
 some (.inl ((IntKind.wrap .i64 (y8.1+1)),y8.2.1,y8.2.2.1,y8.2.2.2.1,())))) (cond (decide (x4.1=2)) (cond (!((getK tT13 false (y8.2.2.2.1.1,y8.1,()) y8.2.1).1)) (
(dF (y8.2.2.1.length+([((y8.2.2.2.1.1,y8.1,()),x4,y8.2.2.2.1.2.2.1,())]:List vV6).length)).bind fun u6 =>
 some (.inl ((IntKind.wrap .i64 (y8.1+1)),y8.2.1,(y8.2.2.1++([((y8.2.2.2.1.1,y8.1,()),x4,y8.2.2.2.1.2.2.1,())]:List vV6)),y8.2.2.2.1,()))) (
 some (.inl ((IntKind.wrap .i64 (y8.1+1)),y8.2.1,y8.2.2.1,y8.2.2.2.1,())))) (cond (decide (x4.1=3)) (cond (!((getK tT13 false (y8.2.2.2.1.1,y8.1,()) y8.2.1).1)) (
(dF (y8.2.2.1.length+([((y8.2.2.2.1.1,y8.1,()),x4,y8.2.2.2.1.2.2.1,())]:List vV6).length)).bind fun u7 =>
 some (.inl ((IntKind.wrap .i64 (y8.1+1)),y8.2.1,(y8.2.2.1++([((y8.2.2.2.1.1,y8.1,()),x4,y8.2.2.2.1.2.2.1,())]:List vV6)),y8.2.2.2.1,()))) (
 some (.inl ((IntKind.wrap .i64 (y8.1+1)),y8.2.1,y8.2.2.1,y8.2.2.2.1,())))) (some (.inl ((IntKind.wrap .i64 (y8.1+1)),y8.2.1,y8.2.2.1,y8.2.2.2.1,())))))) (
 some (.inr (.inl ((IntKind.wrap .i64 (y4.1+1)),y8.2.1,y8.2.2.1,()))))
def qq (a0:List vV1) (a1:List vV2) (y4:(Int×List (vV2×Bool)×List vV6×Unit)):Option ((Int×List (vV2×Bool)×List vV6×Unit)⊕List vV6) :=
 cond (decide (y4.1<(a0.length:Int))) (
(atI a0 y4.1).bind fun x2 =>
(zcf a1 x2.1).bind fun r3 =>
 cond (!r3) (
 some (.inl ((IntKind.wrap .i64 (y4.1+1)),y4.2.1,y4.2.2.1,()))) (
 aK (qp y4 x2) (0,y4.2.1,y4.2.2.1,x2,()))) (
 some (.inr y4.2.2.1))
def zdb (a0:List vV1) (a1:List vV2):Option (List vV6) :=
(za4 a0 a1).bind fun n1 =>
 aK (qq a0 a1) (0,n1,[],())
def tU:TFn:={ ps:=(.cons (.sl tT10) (.cons (.sl tT13) .unit)),res:=(.sl tT17),fn:=fun v=>zdb v.1 v.2.1 }
def agX:TEnv:={ pure:=[(75,nO)],look:=[],glob:=G0T,ty:=[(148,tT17)],raw:=[],fresh:=[(74,yW)] }
theorem agW:runY Tryz.prog abf agY agX an2 Tryz.f19 tU.ps tU.res=tU.fn:=by kernel_rfl
theorem abd:aB Tryz.prog G0 19 abe:=ah (aj ⟨ay,(ai mB ae),(er afz ar),ae,aq⟩ Tryz.func19 rfl (by kernel_rfl))
theorem agV:TOk abe tU:=az (E:=abf) (ET:=agX) (EnvT.ofX (ax (ac qv al)) am (gn ap rfl) aI (gx am8 rfl rfl rfl an)) agW rfl
def adR:Env:=(eZ [(19,abe)] [274])
def akQ:Hints:=(hZ [] [])
def adQ:PFn:=aD (runF Tryz.prog adR akQ Tryz.f50)
def ao4:TH:={ loops:=[],ro:=[1] }
def zba (a0:vV0):Option (List vV6) :=
(zdb a0.1 a0.2.1).bind fun r1 =>
 some r1
def vo:TFn:={ ps:=(.cons tT9 .unit),res:=(.sl tT17),fn:=fun v=>zba v.1 }
def akP:TEnv:=(vZ [(19,tU)])
theorem akO:runY Tryz.prog adR akQ akP ao4 Tryz.f50 vo.ps vo.res=vo.fn:=by kernel_rfl
theorem adP:aB Tryz.prog G0 50 adQ:=ah (aj ⟨ay,(ai abd ae),ar,ae,aq⟩ Tryz.func50 rfl (by kernel_rfl))
theorem akN:TOk adQ vo:=az (E:=adR) (ET:=akP) (EnvT.ofX (ax (ac agV al)) am ap aI an) akO rfl
def aeo:Env:=(eZ [] [274])
def alM:Hints:=(hZ [(4,[0,1,12,13])] [])
def aen:PFn:=aD (runF Tryz.prog aeo alM Tryz.f196)
def apj:TH:={ loops:=[(4,{ keep:=[(13,(.int .i64))],mem:=[] })],ro:=[] }
def qI (a0:List (List UInt8)) (a1:List (List UInt8)) (y4:(Int×Unit)):Option ((Int×Unit)⊕Bool) :=
 cond (decide (y4.1<(a0.length:Int))) (
(atI a0 y4.1).bind fun x1 =>
(atI a1 y4.1).bind fun x2 =>
 cond (!decide (x1=x2)) (
 some (.inr false)) (
 some (.inl ((IntKind.wrap .i64 (y4.1+1)),())))) (
 some (.inr true))
def zau (a0:List (List UInt8)) (a1:List (List UInt8)):Option Bool :=
 cond (!decide ((a0.length:Int)=(a1.length:Int))) (
 some false) (
 aK (qI a0 a1) (0,()))
def vG:TFn:={ ps:=(.cons (.sl .str) (.cons (.sl .str) .unit)),res:=.bool,fn:=fun v=>zau v.1 v.2.1 }
def alL:TEnv:=(vZ [])
theorem alK:runY Tryz.prog aeo alM alL apj Tryz.f196 vG.ps vG.res=vG.fn:=by kernel_rfl
theorem aem:aB Tryz.prog G0 196 aen:=ah (aj ⟨ay,ae,ar,ae,aq⟩ Tryz.func196 rfl (by kernel_rfl))
theorem alJ:TOk aen vG:=az (E:=aeo) (ET:=alL) (EnvT.ofX (ax al) am ap aI an) alK rfl
def aex:Env:=(eZ [] [274])
def alS:Hints:=(hZ [(4,[0,1,12,13])] [])
def aew:PFn:=aD (runF Tryz.prog aex alS Tryz.f197)
def apk:TH:={ loops:=[(4,{ keep:=[(13,(.int .i64))],mem:=[] })],ro:=[] }
def qJ (a0:List vV2) (a1:List vV2) (y4:(Int×Unit)):Option ((Int×Unit)⊕Bool) :=
 cond (decide (y4.1<(a0.length:Int))) (
(atI a0 y4.1).bind fun x1 =>
(atI a1 y4.1).bind fun x2 =>
 cond (!(eqV tT13 x1 x2)) (
 some (.inr false)) (
 some (.inl ((IntKind.wrap .i64 (y4.1+1)),())))) (
 some (.inr true))
def zar (a0:List vV2) (a1:List vV2):Option Bool :=
 cond (!decide ((a0.length:Int)=(a1.length:Int))) (
 some false) (
 aK (qJ a0 a1) (0,()))
def vI:TFn:={ ps:=(.cons (.sl tT13) (.cons (.sl tT13) .unit)),res:=.bool,fn:=fun v=>zar v.1 v.2.1 }
def alR:TEnv:=(vZ [])
theorem alQ:runY Tryz.prog aex alS alR apk Tryz.f197 vI.ps vI.res=vI.fn:=by kernel_rfl
theorem aev:aB Tryz.prog G0 197 aew:=ah (aj ⟨ay,ae,ar,ae,aq⟩ Tryz.func197 rfl (by kernel_rfl))
theorem alP:TOk aew vI:=az (E:=aex) (ET:=alR) (EnvT.ofX (ax al) am ap aI an) alQ rfl
def aa3:Env:=(eZ [(196,aen),(197,aew)] [274])
def agH:Hints:=(hZ [] [])
def aa2:PFn:=aD (runF Tryz.prog aa3 agH Tryz.f118)
def anY:TH:={ loops:=[],cuts:=[(1,[(12,{ keep:=[(2,(.bx 0 0)),(3,(.bx 1 0)),(16,.bool)],mem:=[.same,.same] }),(7,{ keep:=[(2,(.bx 0 0)),(3,(.bx 1 0)),(23,.bool)],mem:=[.same,.same] })])],ro:=[2,3],news:=[] }
def zdf (a0:vV3) (a1:vV3):Option Bool :=
(cond (decide (a0.1=a1.1)) (some ((eqV tT16 a0.2.2.1 a1.2.2.1),())) (some (false,())):Option (Bool×Unit)).bind fun v1 =>
(cond v1.1 (some ((decide (a0.2.2.2.1=a1.2.2.2.1)),())) (some (false,())):Option (Bool×Unit)).bind fun v2 =>
 cond v2.1 ((zau a0.2.1 a1.2.1).bind fun r3 =>
 cond r3 ((zar a0.2.2.2.2.1 a1.2.2.2.2.1).bind fun r4 =>
 some r4) (some false)) (some false)
def tO:TFn:={ ps:=(.cons tT12 (.cons tT12 .unit)),res:=.bool,fn:=fun v=>zdf v.1 v.2.1 }
def agG:TEnv:=(vZ [(196,vG),(197,vI)])
theorem agF:runY Tryz.prog aa3 agH agG anY Tryz.f118 tO.ps tO.res=tO.fn:=by kernel_rfl
theorem aa1:aB Tryz.prog G0 118 aa2:=ah (aj ⟨ay,(ai aem (ai aev ae)),ar,ae,aq⟩ Tryz.func118 rfl (by kernel_rfl))
theorem agE:TOk aa2 tO:=az (E:=aa3) (ET:=agG) (EnvT.ofX (ax (ac alJ (ac alP al))) am ap aI an) agF rfl
def acL:Env:=(eZ [(118,aa2)] [274])
def ajh:Hints:=(hZ [] [])
def acK:PFn:=aD (runF Tryz.prog acL ajh Tryz.f117)
def aoF:TH:={ loops:=[],ro:=[2,3] }
def zbz (a0:vV6) (a1:vV6):Option Bool :=
 cond (eqV tT13 a0.1 a1.1) (cond (decide (a0.2.2.1=a1.2.2.1)) ((zdf a0.2.1 a1.2.1).bind fun r1 =>
 some r1) (some false)) (some false)
def uP:TFn:={ ps:=(.cons tT17 (.cons tT17 .unit)),res:=.bool,fn:=fun v=>zbz v.1 v.2.1 }
def ajg:TEnv:=(vZ [(118,tO)])
theorem ajf:runY Tryz.prog acL ajh ajg aoF Tryz.f117 uP.ps uP.res=uP.fn:=by kernel_rfl
theorem acJ:aB Tryz.prog G0 117 acK:=ah (aj ⟨ay,(ai aa1 ae),ar,ae,aq⟩ Tryz.func117 rfl (by kernel_rfl))
theorem aje:TOk acK uP:=az (E:=acL) (ET:=ajg) (EnvT.ofX (ax (ac agE al)) am ap aI an) ajf rfl
def afj:Env:=(eZ [(117,acK)] [274])
def amN:Hints:=(hZ [(4,[1,2,15,16,17])] [])
def afi:PFn:=aD (runF Tryz.prog afj amN Tryz.f116)
def apx:TH:={ loops:=[(4,{ keep:=[(17,(.int .i64))],mem:=[] })],ro:=[] }
def qN (a0:List vV6) (a1:List vV6) (y4:(Int×Unit)):Option ((Int×Unit)⊕Bool) :=
 cond (decide (y4.1<(a0.length:Int))) (
(atI a0 y4.1).bind fun x1 =>
(atI a1 y4.1).bind fun x2 =>
(zbz x1 x2).bind fun r3 =>
 cond (!r3) (
 some (.inr false)) (
 some (.inl ((IntKind.wrap .i64 (y4.1+1)),())))) (
 some (.inr true))
def zaa (a0:List vV6) (a1:List vV6) (a2:Unit):Option Bool :=
 cond (!decide ((a0.length:Int)=(a1.length:Int))) (
 some false) (
 aK (qN a0 a1) (0,()))
def vT:TFn:={ ps:=(.cons (.sl tT17) (.cons (.sl tT17) (.cons (.fn 117) .unit))),res:=.bool,fn:=fun v=>zaa v.1 v.2.1 v.2.2.1 }
def amM:TEnv:=(vZ [(117,uP)])
theorem amL:runY Tryz.prog afj amN amM apx Tryz.f116 vT.ps vT.res=vT.fn:=by kernel_rfl
theorem afh:aB Tryz.prog G0 116 afi:=ah (aj ⟨ay,(ai acJ ae),ar,ae,aq⟩ Tryz.func116 rfl (by kernel_rfl))
theorem amK:TOk afi vT:=az (E:=afj) (ET:=amM) (EnvT.ofX (ax (ac aje al)) am ap aI an) amL rfl
def abD:Env:=(eZ [(116,afi)] [274])
def ahv:Hints:=(hZ [] [])
def abC:PFn:=aD (runF Tryz.prog abD ahv Tryz.f49)
def aoa:TH:=yZ
def zct (a0:List vV6) (a1:List vV6):Option Bool :=
(zaa a0 a1 ()).bind fun r1 =>
 some r1
def ud:TFn:={ ps:=(.cons (.sl tT17) (.cons (.sl tT17) .unit)),res:=.bool,fn:=fun v=>zct v.1 v.2.1 }
def ahu:TEnv:=(vZ [(116,vT)])
theorem aht:runY Tryz.prog abD ahv ahu aoa Tryz.f49 ud.ps ud.res=ud.fn:=by kernel_rfl
theorem abB:aB Tryz.prog G0 49 abC:=ah (aj ⟨ay,(ai afh ae),ar,ae,aq⟩ Tryz.func49 rfl (by kernel_rfl))
theorem ahs:TOk abC ud:=az (E:=abD) (ET:=ahu) (EnvT.ofX (ax (ac amK al)) am ap aI an) aht rfl
def aej:Env:=(eZ [(33,acf),(34,ade),(35,yK),(36,ad0),(37,abZ),(39,yC),(40,yI),(44,yB),(48,yA),(49,abC),(50,adQ)] [274])
def alF:Hints:=(hZ [(11,[1,2,5,9,10])] [])
def alG:PFn:=aD (runF Tryz.prog aej alF Tryz.f9)
def api:TH:={ joins:=[(16,{ keep:=[(2,(.bx 0 0)),(5,(.bx 1 0)),(9,(.bx 3 0))],mem:=[.box 69 tT9,.box 72 tT11,.gone,.box 69 tT9] })],loops:=[(11,{ keep:=[(2,(.bx 0 0)),(5,(.bx 1 0)),(9,(.bx 3 0)),(10,(.int .i64))],mem:=[.box 69 tT9,.box 72 tT11,.gone,.box 69 tT9] })],cuts:=[(21,[(7,{ keep:=[(2,(.bx 0 0)),(16,(.bx 6 0)),(139,.bool)],mem:=[.box 69 tT9,.gone,.gone,.gone,.gone,.gone,.box 69 tT9] }),(7,{ keep:=[(2,(.bx 0 0)),(16,(.bx 6 0)),(146,.bool)],mem:=[.box 69 tT9,.gone,.gone,.gone,.gone,.gone,.box 69 tT9] })])],ro:=[],news:=[] }
def jn (y11:(Int×vV0×(Int×Int×Unit)×vV0×Unit)):Option ((Int×vV0×(Int×Int×Unit)×vV0×Unit)⊕((vV0×(Int×Int×Unit)×vV0×Unit)⊕Bool)) :=
 cond (decide (y11.1<(y11.2.1.1.length:Int))) (
(atI y11.2.1.1 y11.1).bind fun x14 =>
 cond (!(eqV tT11 x14.1 y11.2.2.1)) ((zcj y11.2.2.2.1.2.1 x14.1).bind fun r15 =>
(zcj y11.2.1.2.1 x14.1).bind fun r16 =>
 cond (!(r15==r16)) (
 some (.inr (.inr false))) (
 some (.inl ((IntKind.wrap .i64 (y11.1+1)),y11.2.1,y11.2.2.1,y11.2.2.2.1,())))) (some (.inl ((IntKind.wrap .i64 (y11.1+1)),y11.2.1,y11.2.2.1,y11.2.2.2.1,())))) (
 some (.inr (.inl (y11.2.1,y11.2.2.1,y11.2.2.2.1,()))))
def zaw (a0:vV0) (a1:Int):Option Bool :=
(zcc a0).bind fun r1 =>
 cond (!r1) ((zbo).bind fun r2 =>
 some r2) (cond (decide (a1<0)) ((zbo).bind fun r3 =>
 some r3) (cond (decide (a1≥8)) ((zbo).bind fun r4 =>
 some r4) ((inI 8 a1).bind fun i5 =>
(a0.2.2.2.2.1[i5]?).bind fun x6 =>
 cond (decide ((x6.length:Int)≥40)) (
(zbo).bind fun r7 =>
 some r7) (
(zb2 a0 a1).bind fun r8 =>
 cond (!decide (r8.2.1=0)) (
 cond (eqV tT11 r8.1 (0,0,())) ((zbo).bind fun r9 =>
 some r9) (some false)) (
(zch a0 a1 r8.1 1).bind fun r10 =>
(zbt a0 r10.1).bind fun r11 =>
 cond (!decide (r10.2.1=0)) (some false) ((zcj r11.2.1 r8.1).bind fun r12 =>
 cond r12 (some false) ((zb6 a0.1 r8.1).bind fun r13 =>
 cond (decide (r13<0)) (
 some false) (
(aK (jn) (0,a0,r8.1,r11,()):Option ((vV0×(Int×Int×Unit)×vV0×Unit)⊕Bool)).bind (bK fun v17 =>
(zci v17.2.2.1 a1).bind fun r18 =>
 cond (!decide (r18.2.1=0)) (
 cond (decide (r18.2.1=14)) ((zcm v17.2.2.1.2.1 v17.2.1).bind fun r19 =>
 cond (decide (r19=64)) ((zbo).bind fun r20 =>
 some r20) (some false)) (some false)) (
(zch v17.2.2.1 a1 r18.1 2).bind fun r21 =>
(zbt v17.2.2.1 r21.1).bind fun r22 =>
(cond (eqV tT11 r18.1 v17.2.1) (some ((decide (r21.2.1=0)),v17.1,r22,())) (some (false,v17.1,r22,())):Option (Bool×vV0×vV0×Unit)).bind fun v23 =>
(cond v23.1 ((zba v23.2.2.1).bind fun r24 =>
(zba v23.2.1).bind fun r25 =>
(zct r24 r25).bind fun r26 =>
 some (r26,v23.2.1,v23.2.2.1,())) (some (false,v23.2.1,v23.2.2.1,())):Option (Bool×vV0×vV0×Unit)).bind fun v27 =>
 cond v27.1 ((inI 8 a1).bind fun i28 =>
(v27.2.2.1.2.2.2.2.1[i28]?).bind fun x29 =>
(inI 8 a1).bind fun i30 =>
(v27.2.1.2.2.2.2.1[i30]?).bind fun x31 =>
 cond (decide ((x29.length:Int)=(x31.length:Int))) ((zbo).bind fun r32 =>
 some r32) (some false)) (some false)))))))))))
def pr:TFn:={ ps:=(.cons tT9 tT19),res:=.bool,fn:=fun v=>zaw v.1 v.2.1 }
def alE:TEnv:=(vZ [(33,uC),(34,u9),(35,sE),(36,vt),(37,ur),(39,ss),(40,sC),(44,sr),(48,sq),(49,ud),(50,vo)])
theorem alD:runY Tryz.prog aej alF alE api Tryz.f9 pr.ps pr.res=pr.fn:=by kernel_rfl
theorem zaw_Fok:aB Tryz.prog G0 9 alG:=ah (aj ⟨ay,(ai ace (ai adc (ai vz (ai adZ (ai abY (ai uw (ai uV (ai uu (ai un (ai abB (ai adP ae))))))))))),ar,ae,aq⟩ Tryz.func9 rfl (by kernel_rfl))
theorem zaw_ok:TOk alG pr:=az (E:=aej) (ET:=alE) (EnvT.ofX (ax (ac air (ac ajV (ac aay (ac ak2 (ac ah2 (ac aap (ac aav (ac aao (ac aan (ac ahs (ac akN al)))))))))))) am ap aI an) alD rfl
end
end Go.Proofs.YtnbgkhdcidbkaaaGreatDoor.Y
