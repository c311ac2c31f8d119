import Derived.Test.YtnbgkhdcidbkaaaGreatDoorS
import Derived.Test.YtnbgkhdcidbkaaaGreatDoorT32
import GoSem.PinnedTables
set_option linter.unusedVariables false
set_option maxRecDepth 100000
namespace Go.Proofs.YtnbgkhdcidbkaaaGreatDoor.Y
open Go.EM Go.TY Go.Proofs
theorem zb.{u,v}{A:Type u}{B:Type v} (a:A) (f:A→Option B):(some a).bind f=f a:=rfl
theorem zg.{u}{A:Type u}{l:List A}{i:Nat} (h:i<l.length):l[i]? = some l[i]:=List.getElem?_eq_getElem h
theorem zl.{u}{A:Type u}{a:A}{l:List A}:(a::l).length=l.length+1:=rfl
theorem zf {p:Prop} [Decidable p] (h:¬p):decide p=false:=decide_eq_false h
theorem zn.{u}{c:Prop}{h:Decidable c} (hc:¬c) {A:Sort u}{t e:A}:ite c t e=e:=if_neg hc
theorem zp.{u}{c:Prop}{h:Decidable c} (hc:c) {A:Sort u}{t e:A}:ite c t e=t:=if_pos hc
theorem zm.{u}{A:Type u}{l:List A}{n:Nat} (h:n<l.length):l[n]∈l:=List.getElem_mem h
theorem zt {p:Prop} [Decidable p] (h:p):decide p=true:=decide_eq_true h
noncomputable section
def gC:List Int:=Go.Pinned.utf8FirstZ.map fun (n:Nat)=>(n:Int)
def e9:List (Int×Int×Unit):=[(128,191,()),(160,191,()),(128,159,()),(144,191,()),(128,143,()),(0,0,()),(0,0,()),(0,0,()),(0,0,()),(0,0,()),(0,0,()),(0,0,()),(0,0,()),(0,0,()),(0,0,()),(0,0,())]
def G0:List (Nat×AVal):=[(0,.rptr (gC.map (AVal.int .u8))),(1,.rptr (e9.flatMap fun p=>[AVal.int .u8 p.1,AVal.int .u8 p.2.1]))]
def G0T:List (Nat×TV):=[(0,⟨.rp (.arr 256 (.int .u8)) 0,gC⟩),(1,⟨.rp (.arr 16 (.agg (.cons (.int .u8) (.cons (.int .u8) .unit)))) 0,e9⟩)]
theorem aQ:jW G0 G0T:=ob rfl rfl (abR (by kernel_rfl)) (ob rfl rfl (xO (by kernel_rfl)) abQ)
theorem ay:∀ f,memN f [274]=true→Same Tryz.prog f:=by
 intro f h
 by_cases e274:f=274
 · subst e274; exact ⟨Tryz.f274,Tryz.func274,by kernel_rfl,by kernel_rfl,by kernel_rfl,by kernel_rfl⟩
 simp_all [memN]
def eZ (l:List (Nat×PFn)) (s:List Nat):Env:={ pure:=l,raw:=[],glob:=G0,same:=s,look:=[],ext:=[] }
def vZ (l:List (Nat×TFn)):TEnv:={ pure:=l,look:=[],glob:=G0T,ty:=[],raw:=[],fresh:=[] }
def hZ (l:List (Nat×List Nat)) (o:List Nat):Hints:={ seqs:=[],loops:=l,own:=o }
def yZ:TH:={ joins:=[],loops:=[],cuts:=[],ro:=[],news:=[] }
abbrev vV0:=(List (List UInt8)×Int×List (Int×Int×List UInt8×Unit)×Int×Unit)
abbrev vV1:=(Int×List (List UInt8)×(Int×Int×List UInt8×Unit)×Int×List ((Int×Int×Unit)×Int×Unit)×Unit)
abbrev vV2:=((Int×Int×Unit)×Int×Unit)
abbrev vV3:=(Int×Int×List UInt8×Unit)
abbrev vV4:=((Int×Int×Unit)×Int×Int×Bool×List vV1×Unit)
abbrev vV5:=(List (List UInt8)×Int×Unit)
abbrev vV6:=(vV2×vV1×Int×Unit)
abbrev vV7:=(List (List UInt8)×List vV0×Int×Unit)
abbrev vV8:=(Int×vV0×vV0×Unit)
abbrev vV9:=(List (List UInt8)×List (List UInt8)×Unit)
abbrev vV10:=(Int×List (vV2×Bool)×Unit)
abbrev tT11:Ty:=(.agg (.cons (.sl .str) (.cons (.int .i64) (.cons (.sl (.agg (.cons (.int .i64) (.cons (.int .i64) (.cons .str .unit))))) (.cons (.int .i64) .unit)))))
abbrev tT12:Ty:=(.agg (.cons (.int .i64) (.cons (.sl .str) (.cons (.agg (.cons (.int .i64) (.cons (.int .i64) (.cons .str .unit)))) (.cons (.int .i64) (.cons (.sl (.agg (.cons (.agg (.cons (.int .i64) (.cons (.int .i64) .unit))) (.cons (.int .i64) .unit)))) .unit))))))
abbrev tT13:Ty:=(.agg (.cons (.agg (.cons (.int .i64) (.cons (.int .i64) .unit))) (.cons (.int .i64) .unit)))
abbrev tT14:Ty:=(.agg (.cons (.int .i64) (.cons (.int .i64) (.cons .str .unit))))
abbrev tT15:Ty:=(.cons (.int .i64) .unit)
abbrev tT16:Ty:=(.agg (.cons (.agg (.cons (.int .i64) tT15)) (.cons (.int .i64) (.cons (.int .i64) (.cons .bool (.cons (.sl tT12) .unit))))))
abbrev tT17:Ty:=(.agg (.cons (.sl .str) (.cons (.sl tT11) tT15)))
abbrev tT18:Ty:=(.agg (.cons tT13 (.cons tT12 tT15)))
abbrev tT19:Ty:=(.agg (.cons (.int .i64) (.cons tT11 (.cons tT11 .unit))))
abbrev tT20:Ty:=(.agg (.cons (.sl .str) tT15))
abbrev tT21:Ty:=(.cons (.sl .str) .unit)
def af7:Env:=(eZ [] [274])
def alO:Hints:=(hZ [] [])
def acS:PFn:=aH (runF Tryz.prog af7 alO Tryz.f172)
def arl:TH:=yZ
def zcc (a0:Int) (a1:Int):Option Int :=
 cond (decide (a0<a1)) (
 some (-1)) (
 cond (decide (a0>a1)) (
 some 1) (
 some 0))
def wL:TFn:={ ps:=(.cons (.int .i64) tT15),res:=(.int .i64),fn:=fun v=>zcc v.1 v.2.1 }
def alN:TEnv:=(vZ [])
theorem alM:runY Tryz.prog af7 alO alN arl Tryz.f172 wL.ps wL.res=wL.fn:=by kernel_rfl
theorem yQ:aB Tryz.prog G0 172 acS:=ai (ak ⟨ay,ae,ap,ae,an⟩ Tryz.func172 rfl (by kernel_rfl))
theorem aeJ:TOk acS wL:=aC (E:=af7) (ET:=alN) (EnvT.ofX (az al) am au aQ ar) alM rfl
def ai0:Env:=(eZ [(172,acS)] [274])
def apK:Hints:=(hZ [] [])
def aak:PFn:=aH (runF Tryz.prog ai0 apK Tryz.f101)
def asj:TH:={ loops:=[],ro:=[2,3] }
def za8 (a0:(Int×Int×Unit)) (a1:(Int×Int×Unit)):Option Int :=
 cond (!decide (a0.1=a1.1)) (
(zcc a0.1 a1.1).bind fun r1 =>
 some r1) (
(zcc a0.2.1 a1.2.1).bind fun r2 =>
 some r2)
def sN:TFn:={ ps:=(.cons (.agg (.cons (.int .i64) tT15)) (.cons (.agg (.cons (.int .i64) tT15)) .unit)),res:=(.int .i64),fn:=fun v=>za8 v.1 v.2.1 }
def apJ:TEnv:=(vZ [(172,wL)])
theorem apI:runY Tryz.prog ai0 apK apJ asj Tryz.f101 sN.ps sN.res=sN.fn:=by kernel_rfl
theorem sO:aB Tryz.prog G0 101 aak:=ai (ak ⟨ay,(aj yQ ae),ap,ae,an⟩ Tryz.func101 rfl (by kernel_rfl))
theorem aaj:TOk aak sN:=aC (E:=ai0) (ET:=apJ) (EnvT.ofX (az (ah aeJ al)) am au aQ ar) apI rfl
def agr:Env:=(eZ [(101,aak)] [274])
def amf:Hints:=(hZ [(2,[0,3])] [])
def agq:PFn:=aH (runF Tryz.prog agr amf Tryz.f152)
def art:TH:={ loops:=[(2,{ keep:=[(3,(.int .i64))],mem:=[] })],ro:=[] }
def uR (a0:List vV4) (y2:(Int×Unit)):Option ((Int×Unit)⊕Bool) :=
 cond (decide (y2.1<(a0.length:Int))) (
(atI a0 (IntKind.wrap .i64 (y2.1-1))).bind fun x1 =>
(atI a0 y2.1).bind fun x2 =>
(za8 x1.1 x2.1).bind fun r3 =>
 cond (!decide (r3=(-1))) (
 some (.inr false)) (
 some (.inl ((IntKind.wrap .i64 (y2.1+1)),())))) (
 some (.inr true))
def zbx (a0:List vV4):Option Bool :=
 aJ (uR a0) (1,())
def yX:TFn:={ ps:=(.cons (.sl tT16) .unit),res:=.bool,fn:=fun v=>zbx v.1 }
def ame:TEnv:=(vZ [(101,sN)])
theorem amd:runY Tryz.prog agr amf ame art Tryz.f152 yX.ps yX.res=yX.fn:=by kernel_rfl
theorem agp:aB Tryz.prog G0 152 agq:=ai (ak ⟨ay,(aj sO ae),ap,ae,an⟩ Tryz.func152 rfl (by kernel_rfl))
theorem amc:TOk agq yX:=aC (E:=agr) (ET:=ame) (EnvT.ofX (az (ah aaj al)) am au aQ ar) amd rfl
def agW:Env:=(eZ [] [274])
def amW:Hints:=(hZ [(4,[0,3])] [])
def acW:PFn:=aH (runF Tryz.prog agW amW Tryz.f15)
def arF:TH:={ loops:=[(4,{ keep:=[(3,(.int .i64))],mem:=[] })],ro:=[] }
def uU (a0:List (List UInt8)) (y4:(Int×Unit)):Option ((Int×Unit)⊕Bool) :=
 cond (decide (y4.1<(a0.length:Int))) (
(atI a0 y4.1).bind fun x1 =>
 cond (decide ((x1.length:Int)>120)) (
 some (.inr false)) (
 some (.inl ((IntKind.wrap .i64 (y4.1+1)),())))) (
 some (.inr true))
def zbl (a0:List (List UInt8)):Option Bool :=
 cond (decide ((a0.length:Int)>12)) (
 some false) (
 aJ (uU a0) (0,()))
def wP:TFn:={ ps:=tT21,res:=.bool,fn:=fun v=>zbl v.1 }
def amV:TEnv:=(vZ [])
theorem amU:runY Tryz.prog agW amW amV arF Tryz.f15 wP.ps wP.res=wP.fn:=by kernel_rfl
theorem zw:aB Tryz.prog G0 15 acW:=ai (ak ⟨ay,ae,ap,ae,an⟩ Tryz.func15 rfl (by kernel_rfl))
theorem aeN:TOk acW wP:=aC (E:=agW) (ET:=amV) (EnvT.ofX (az al) am au aQ ar) amU rfl
def agx:Env:=(eZ [(15,acW)] [274])
def amn:Hints:=(hZ [] [])
def agw:PFn:=aH (runF Tryz.prog agx amn Tryz.f108)
def arv:TH:={ loops:=[],ro:=[1] }
def zbv (a0:vV1):Option Bool :=
(zbl a0.2.1).bind fun r1 =>
 cond r1 (cond (decide ((a0.2.2.1.2.2.1.length:Int)≤200)) (some (decide ((a0.2.2.2.2.1.length:Int)≤300))) (some false)) (some false)
def zc:TFn:={ ps:=(.cons tT12 .unit),res:=.bool,fn:=fun v=>zbv v.1 }
def amm:TEnv:=(vZ [(15,wP)])
theorem aml:runY Tryz.prog agx amn amm arv Tryz.f108 zc.ps zc.res=zc.fn:=by kernel_rfl
theorem agv:aB Tryz.prog G0 108 agw:=ai (ak ⟨ay,(aj zw ae),ap,ae,an⟩ Tryz.func108 rfl (by kernel_rfl))
theorem amk:TOk agw zc:=aC (E:=agx) (ET:=amm) (EnvT.ofX (az (ah aeN al)) am au aQ ar) aml rfl
def ahy:Env:=(eZ [(108,agw)] [274])
def anS:Hints:=(hZ [(4,[1,3])] [])
def ahx:PFn:=aH (runF Tryz.prog ahy anS Tryz.f41)
def arU:TH:={ loops:=[(4,{ keep:=[(1,(.bx 0 0)),(3,(.int .i64))],mem:=[.same] })],ro:=[1] }
def uZ (a0:vV4) (y4:(Int×Unit)):Option ((Int×Unit)⊕Bool) :=
 cond (decide (y4.1<(a0.2.2.2.2.1.length:Int))) (
(atI a0.2.2.2.2.1 y4.1).bind fun x1 =>
(zbv x1).bind fun r2 =>
 cond (!r2) (
 some (.inr false)) (
 some (.inl ((IntKind.wrap .i64 (y4.1+1)),())))) (
 some (.inr true))
def zb6 (a0:vV4):Option Bool :=
 cond (decide ((a0.2.2.2.2.1.length:Int)>20)) (
 some false) (
 aJ (uZ a0) (0,()))
def zO:TFn:={ ps:=(.cons tT16 .unit),res:=.bool,fn:=fun v=>zb6 v.1 }
def anR:TEnv:=(vZ [(108,zc)])
theorem anQ:runY Tryz.prog ahy anS anR arU Tryz.f41 zO.ps zO.res=zO.fn:=by kernel_rfl
theorem ahw:aB Tryz.prog G0 41 ahx:=ai (ak ⟨ay,(aj agv ae),ap,ae,an⟩ Tryz.func41 rfl (by kernel_rfl))
theorem anP:TOk ahx zO:=aC (E:=ahy) (ET:=anR) (EnvT.ofX (az (ah amk al)) am au aQ ar) anQ rfl
def ahI:Env:=(eZ [] [274])
def an7:Hints:=(hZ [] [])
def zT:PFn:=aH (runF Tryz.prog ahI an7 Tryz.f109)
def arY:TH:={ loops:=[],ro:=[1] }
def zb2 (a0:(Int×Int×Unit)):Option Bool :=
 cond (decide (a0.1≥0)) (cond (decide (a0.1≤15)) (cond (decide (a0.2.1≥1)) (some (decide (a0.2.1≤1048576))) (some false)) (some false)) (some false)
def sH:TFn:={ ps:=(.cons (.agg (.cons (.int .i64) tT15)) .unit),res:=.bool,fn:=fun v=>zb2 v.1 }
def an6:TEnv:=(vZ [])
theorem an5:runY Tryz.prog ahI an7 an6 arY Tryz.f109 sH.ps sH.res=sH.fn:=by kernel_rfl
theorem sI:aB Tryz.prog G0 109 zT:=ai (ak ⟨ay,ae,ap,ae,an⟩ Tryz.func109 rfl (by kernel_rfl))
theorem zS:TOk zT sH:=aC (E:=ahI) (ET:=an6) (EnvT.ofX (az al) am au aQ ar) an5 rfl
def af3:Env:=(eZ [] [274])
def alH:Hints:=(hZ [(17,[0,4,5,6,7])] [])
def af2:PFn:=aH (runF Tryz.prog af3 alH Tryz.f216)
def arj:TH:={ joins:=[(14,{ keep:=[(4,(.int .i64)),(5,(.int .i64)),(6,(.int .i64))],mem:=[] }),(9,{ keep:=[(18,.bool)],mem:=[] }),(22,{ keep:=[(4,(.int .i64))],mem:=[] }),(24,{ keep:=[],mem:=[] })],loops:=[(17,{ keep:=[(4,(.int .i64)),(7,(.int .i64))],mem:=[] })],ro:=[] }
def f9 (a0:List UInt8) (v3:(Int×Int×Int×Unit)) (y17:(Int×Int×Unit)):Option ((Int×Int×Unit)⊕((Int×Unit)⊕(Int×Int×Unit))) :=
 cond (decide (y17.2.1<v3.2.1)) (
(atI a0 y17.2.1).bind fun b4 =>
 cond (decide ((b4.toNat:Int)<128)) (some (.inr (.inr (0,0,())))) ((atI a0 y17.2.1).bind fun b5 =>
 cond (decide ((b5.toNat:Int)>191)) (
 some (.inr (.inr (0,0,())))) (
(atI a0 y17.2.1).bind fun b6 =>
 some (.inl ((IntKind.wrap .i64 ((IntKind.wrap .i64 ((IntKind.wrap .i64 (64*y17.1))+(IntKind.wrap .i64 (b6.toNat:Int))))-128)),(IntKind.wrap .i64 (y17.2.1+1)),()))))) (
 some (.inr (.inl (y17.1,()))))
def zce (a0:List UInt8):Option (Int×Int×Unit) :=
 cond (decide ((a0.length:Int)=0)) (
 some (0,0,())) (
(atI a0 0).bind fun b1 =>
(cond (decide ((IntKind.wrap .i64 (b1.toNat:Int))<128)) (
 some (.inr ((IntKind.wrap .i64 (b1.toNat:Int)),1,()))) (
(cond (decide ((IntKind.wrap .i64 (b1.toNat:Int))≥194)) (some (.inl ((decide ((IntKind.wrap .i64 (b1.toNat:Int))<224)),()))) (some (.inl (false,()))):Option ((Bool×Unit)⊕((Int×Int×Int×Unit)⊕(Int×Int×Unit)))).bind (be fun v2 =>
 cond v2.1 (
 some (.inl ((IntKind.wrap .i64 ((IntKind.wrap .i64 (b1.toNat:Int))-192)),2,128,()))) (
 cond (decide ((IntKind.wrap .i64 (b1.toNat:Int))≥224)) (cond (decide ((IntKind.wrap .i64 (b1.toNat:Int))<240)) (
 some (.inl ((IntKind.wrap .i64 ((IntKind.wrap .i64 (b1.toNat:Int))-224)),3,2048,()))) (
 cond (decide ((IntKind.wrap .i64 (b1.toNat:Int))≥240)) (cond (decide ((IntKind.wrap .i64 (b1.toNat:Int))<245)) (
 some (.inl ((IntKind.wrap .i64 ((IntKind.wrap .i64 (b1.toNat:Int))-240)),4,65536,()))) (
 some (.inr (0,0,())))) (some (.inr (0,0,()))))) (cond (decide ((IntKind.wrap .i64 (b1.toNat:Int))≥240)) (cond (decide ((IntKind.wrap .i64 (b1.toNat:Int))<245)) (
 some (.inl ((IntKind.wrap .i64 ((IntKind.wrap .i64 (b1.toNat:Int))-240)),4,65536,()))) (
 some (.inr (0,0,())))) (some (.inr (0,0,()))))))):Option ((Int×Int×Int×Unit)⊕(Int×Int×Unit))).bind (be fun v3 =>
 cond (decide ((a0.length:Int)<v3.2.1)) (
 some (0,0,())) (
(aJ (f9 a0 v3) (v3.1,1,()):Option ((Int×Unit)⊕(Int×Int×Unit))).bind (be fun v7 =>
(cond (decide (v7.1<v3.2.2.1)) (some (.inr (0,0,()))) (cond (decide (v7.1>1114111)) (some (.inr (0,0,()))) (cond (decide (v7.1≥55296)) (cond (decide (v7.1≤57343)) (
 some (.inr (0,0,()))) (
 some (.inl ()))) (some (.inl ())))):Option (Unit⊕(Int×Int×Unit))).bind (be fun v8 =>
 some (v7.1,v3.2.1,()))))))
def yO:TFn:={ ps:=(.cons .str .unit),res:=(.tup (.cons (.int .i64) tT15)),fn:=fun v=>zce v.1 }
def alG:TEnv:=(vZ [])
theorem alF:runY Tryz.prog af3 alH alG arj Tryz.f216 yO.ps yO.res=yO.fn:=by kernel_rfl
theorem af1:aB Tryz.prog G0 216 af2:=ai (ak ⟨ay,ae,ap,ae,an⟩ Tryz.func216 rfl (by kernel_rfl))
theorem alE:TOk af2 yO:=aC (E:=af3) (ET:=alG) (EnvT.ofX (az al) am au aQ ar) alF rfl
def ahJ:Env:=(eZ [(216,af2)] [274])
def aoa:Hints:=(hZ [(3,[0,4,5])] [])
def zV:PFn:=aH (runF Tryz.prog ahJ aoa Tryz.f144)
def arZ:TH:={ loops:=[(3,{ keep:=[(4,(.own 0)),(5,(.int .i64))],mem:=[.row true 3 (.int .i64)] })],ro:=[] }
def mZ (a0:List UInt8) (y3:(Int×List Int×Unit)):Option ((Int×List Int×Unit)⊕(List Int×Bool×Unit)) :=
 cond (decide (y3.1<(a0.length:Int))) (
(subI a0 y3.1 (a0.length:Int)).bind fun s1 =>
(zce s1).bind fun r2 =>
 cond (decide (r2.2.1=0)) (
 some (.inr ([],false,()))) (
(dN (y3.2.1.length+([r2.1]:List Int).length)).bind fun u3 =>
 some (.inl ((IntKind.wrap .i64 (y3.1+r2.2.1)),(y3.2.1++([r2.1]:List Int)),())))) (
 some (.inr (y3.2.1,true,())))
def zb1 (a0:List UInt8):Option (List Int×Bool×Unit) :=
 aJ (mZ a0) (0,[],())
def sJ:TFn:={ ps:=(.cons .str .unit),res:=(.tup (.cons (.sl (.int .i64)) (.cons .bool .unit))),fn:=fun v=>zb1 v.1 }
def an9:TEnv:={ pure:=[(216,yO)],look:=[],glob:=G0T,ty:=[(3,(.int .i64))],raw:=[],fresh:=[] }
theorem an8:runY Tryz.prog ahJ aoa an9 arZ Tryz.f144 sJ.ps sJ.res=sJ.fn:=by kernel_rfl
theorem sK:aB Tryz.prog G0 144 zV:=ai (ak ⟨ay,(aj af1 ae),ap,ae,an⟩ Tryz.func144 rfl (by kernel_rfl))
theorem zU:TOk zV sJ:=aC (E:=ahJ) (ET:=an9) (EnvT.ofX (az (ah alE al)) am au aQ ar) an8 rfl
def afE:Env:=(eZ [] [274])
def ak2:Hints:=(hZ [] [])
def afD:PFn:=aH (runF Tryz.prog afE ak2 Tryz.f306)
def aq6:TH:=yZ
def zcp (a0:Int):Option Bool :=
 cond (decide (a0≥32)) (cond (decide (a0<127)) (some (!decide (a0=65533))) (cond (decide (a0>159)) (some (!decide (a0=65533))) (some false))) (some false)
def yD:TFn:={ ps:=tT15,res:=.bool,fn:=fun v=>zcp v.1 }
def ak1:TEnv:=(vZ [])
theorem ak0:runY Tryz.prog afE ak2 ak1 aq6 Tryz.f306 yD.ps yD.res=yD.fn:=by kernel_rfl
theorem afC:aB Tryz.prog G0 306 afD:=ai (ak ⟨ay,ae,ap,ae,an⟩ Tryz.func306 rfl (by kernel_rfl))
theorem akZ:TOk afD yD:=aC (E:=afE) (ET:=ak1) (EnvT.ofX (az al) am au aQ ar) ak0 rfl
def ahH:Env:=(eZ [(144,zV),(306,afD)] [274])
def an4:Hints:=(hZ [(3,[3,4,5])] [])
def ahG:PFn:=aH (runF Tryz.prog ahH an4 Tryz.f253)
def arX:TH:={ joins:=[(7,{ keep:=[],mem:=[] })],loops:=[(3,{ keep:=[(5,(.int .i64))],mem:=[] })],ro:=[] }
def qp (r1:(List Int×Bool×Unit)) (y3:(Int×Unit)):Option ((Int×Unit)⊕(Unit⊕Bool)) :=
 cond (decide (y3.1<(r1.1.length:Int))) (
(atI r1.1 y3.1).bind fun x2 =>
(zcp x2).bind fun r3 =>
 cond (!r3) (
 some (.inr (.inr false))) (
 some (.inl ((IntKind.wrap .i64 (y3.1+1)),())))) (
 some (.inr (.inl ())))
def zb3 (a0:List UInt8):Option Bool :=
(zb1 a0).bind fun r1 =>
(aJ (qp r1) (0,()):Option (Unit⊕Bool)).bind (be fun v4 =>
 cond r1.2.1 (cond (decide ((r1.1.length:Int)≥1)) (some (decide ((r1.1.length:Int)≤24))) (some false)) (some false))
def zR:TFn:={ ps:=(.cons .str .unit),res:=.bool,fn:=fun v=>zb3 v.1 }
def an3:TEnv:=(vZ [(144,sJ),(306,yD)])
theorem an2:runY Tryz.prog ahH an4 an3 arX Tryz.f253 zR.ps zR.res=zR.fn:=by kernel_rfl
theorem ahF:aB Tryz.prog G0 253 ahG:=ai (ak ⟨ay,(aj sK (aj afC ae)),ap,ae,an⟩ Tryz.func253 rfl (by kernel_rfl))
theorem an1:TOk ahG zR:=aC (E:=ahH) (ET:=an3) (EnvT.ofX (az (ah zU (ah akZ al))) am au aQ ar) an2 rfl
def ahM:Env:=(eZ [(253,ahG)] [274])
def aoe:Hints:=(hZ [(6,[0,3])] [])
def ahL:PFn:=aH (runF Tryz.prog ahM aoe Tryz.f183)
def ar0:TH:={ loops:=[(6,{ keep:=[(3,(.int .i64))],mem:=[] })],ro:=[] }
def vd (a0:List (List UInt8)) (y6:(Int×Unit)):Option ((Int×Unit)⊕Int) :=
 cond (decide (y6.1<(a0.length:Int))) (
(atI a0 y6.1).bind fun x1 =>
(zb3 x1).bind fun r2 =>
 cond (!r2) (
 some (.inr 8)) (
 some (.inl ((IntKind.wrap .i64 (y6.1+1)),())))) (
 some (.inr 0))
def zb0 (a0:List (List UInt8)):Option Int :=
 cond (decide ((a0.length:Int)=0)) (
 some 8) (
 cond (decide ((a0.length:Int)>8)) (
 some 9) (
 aJ (vd a0) (0,())))
def zW:TFn:={ ps:=tT21,res:=(.int .i64),fn:=fun v=>zb0 v.1 }
def aod:TEnv:=(vZ [(253,zR)])
theorem aoc:runY Tryz.prog ahM aoe aod ar0 Tryz.f183 zW.ps zW.res=zW.fn:=by kernel_rfl
theorem ahK:aB Tryz.prog G0 183 ahL:=ai (ak ⟨ay,(aj ahF ae),ap,ae,an⟩ Tryz.func183 rfl (by kernel_rfl))
theorem aob:TOk ahL zW:=aC (E:=ahM) (ET:=aod) (EnvT.ofX (az (ah an1 al)) am au aQ ar) aoc rfl
def agI:Env:=(eZ [(144,zV)] [274])
def amA:Hints:=(hZ [] [])
def agH:PFn:=aH (runF Tryz.prog agI amA Tryz.f184)
def arz:TH:={ loops:=[],ro:=[1] }
def zbr (a0:vV3):Option Bool :=
 cond (decide (a0.1=1)) (
 cond (decide (a0.2.2.1=[])) (cond (decide (a0.2.1≥(-2147483647))) (some (decide (a0.2.1≤2147483647))) (some false)) (some false)) (
 cond (decide (a0.1=2)) (
(zb1 a0.2.2.1).bind fun r1 =>
 cond (decide (a0.2.1=0)) (cond r1.2.1 (some (decide ((a0.2.2.1.length:Int)≤64))) (some false)) (some false)) (
 cond (decide (a0.1=3)) (cond (decide (a0.2.2.1=[])) (cond (decide (a0.2.1≥0)) (some (decide (a0.2.1≤1))) (some false)) (some false)) (some false)))
def zj:TFn:={ ps:=(.cons tT14 .unit),res:=.bool,fn:=fun v=>zbr v.1 }
def amz:TEnv:=(vZ [(144,sJ)])
theorem amy:runY Tryz.prog agI amA amz arz Tryz.f184 zj.ps zj.res=zj.fn:=by kernel_rfl
theorem agG:aB Tryz.prog G0 184 agH:=ai (ak ⟨ay,(aj sK ae),ap,ae,an⟩ Tryz.func184 rfl (by kernel_rfl))
theorem amx:TOk agH zj:=aC (E:=agI) (ET:=amz) (EnvT.ofX (az (ah zU al)) am au aQ ar) amy rfl
def ahp:Env:=(eZ [(101,aak),(172,acS)] [274])
def anG:Hints:=(hZ [] [])
def aho:PFn:=aH (runF Tryz.prog ahp anG Tryz.f254)
def arR:TH:={ loops:=[],ro:=[2,3] }
def zb9 (a0:vV2) (a1:vV2):Option Int :=
(za8 a0.1 a1.1).bind fun r1 =>
 cond (!decide (r1=0)) (
(za8 a0.1 a1.1).bind fun r2 =>
 some r2) (
(zcc a0.2.1 a1.2.1).bind fun r3 =>
 some r3)
def zL:TFn:={ ps:=(.cons tT13 (.cons tT13 .unit)),res:=(.int .i64),fn:=fun v=>zb9 v.1 v.2.1 }
def anF:TEnv:=(vZ [(101,sN),(172,wL)])
theorem anE:runY Tryz.prog ahp anG anF arR Tryz.f254 zL.ps zL.res=zL.fn:=by kernel_rfl
theorem ahn:aB Tryz.prog G0 254 aho:=ai (ak ⟨ay,(aj sO (aj yQ ae)),ap,ae,an⟩ Tryz.func254 rfl (by kernel_rfl))
theorem anD:TOk aho zL:=aC (E:=ahp) (ET:=anF) (EnvT.ofX (az (ah aaj (ah aeJ al))) am au aQ ar) anE rfl
def af6:Env:=(eZ [(109,zT),(254,aho)] [274])
def alL:Hints:=(hZ [(2,[0,3])] [])
def af5:PFn:=aH (runF Tryz.prog af6 alL Tryz.f185)
def ark:TH:={ loops:=[(2,{ keep:=[(3,(.int .i64))],mem:=[] })],ro:=[] }
def uP (a0:List vV2) (y2:(Int×Unit)):Option ((Int×Unit)⊕Bool) :=
 cond (decide (y2.1<(a0.length:Int))) (
(atI a0 y2.1).bind fun x1 =>
(zb2 x1.1).bind fun r2 =>
 cond (!r2) (some (.inr false)) ((atI a0 y2.1).bind fun x3 =>
 cond (decide (x3.2.1<0)) (some (.inr false)) ((atI a0 y2.1).bind fun x4 =>
 cond (decide (x4.2.1>15)) (
 some (.inr false)) (
 cond (decide (y2.1>0)) ((atI a0 (IntKind.wrap .i64 (y2.1-1))).bind fun x5 =>
(atI a0 y2.1).bind fun x6 =>
(zb9 x5 x6).bind fun r7 =>
 cond (!decide (r7=(-1))) (
 some (.inr false)) (
 some (.inl ((IntKind.wrap .i64 (y2.1+1)),())))) (some (.inl ((IntKind.wrap .i64 (y2.1+1)),()))))))) (
 some (.inr true))
def zcd (a0:List vV2):Option Bool :=
 aJ (uP a0) (0,())
def yP:TFn:={ ps:=(.cons (.sl tT13) .unit),res:=.bool,fn:=fun v=>zcd v.1 }
def alK:TEnv:=(vZ [(109,sH),(254,zL)])
theorem alJ:runY Tryz.prog af6 alL alK ark Tryz.f185 yP.ps yP.res=yP.fn:=by kernel_rfl
theorem af4:aB Tryz.prog G0 185 af5:=ai (ak ⟨ay,(aj sI (aj ahn ae)),ap,ae,an⟩ Tryz.func185 rfl (by kernel_rfl))
theorem alI:TOk af5 yP:=aC (E:=af6) (ET:=alK) (EnvT.ofX (az (ah zS (ah anD al))) am au aQ ar) alJ rfl
def agl:Env:=(eZ [(183,ahL),(184,agH),(185,af5)] [274])
def al7:Hints:=(hZ [] [])
def agk:PFn:=aH (runF Tryz.prog agl al7 Tryz.f110)
def arq:TH:={ joins:=[(9,{ keep:=[(1,(.bx 0 0))],mem:=[.same,.gone] }),(11,{ keep:=[(1,(.bx 0 0))],mem:=[.same,.gone] }),(13,{ keep:=[(1,(.bx 0 0))],mem:=[.same,.gone] }),(15,{ keep:=[(1,(.bx 0 0))],mem:=[.same,.gone] })],loops:=[],cuts:=[(11,[(8,{ keep:=[(1,(.bx 0 0)),(55,.bool)],mem:=[.same,.gone] })])],ro:=[1],news:=[] }
def zbz (a0:vV1):Option Int :=
 cond (decide (a0.1<1)) (some 18) (cond (decide (a0.1>5)) (
 some 18) (
(zb0 a0.2.1).bind fun r1 =>
 cond (!decide (r1=0)) (
 some r1) (
(cond (decide (a0.1=3)) (cond (!(eqV tT14 a0.2.2.1 (0,0,[],()))) (
 some (.inr 2)) (
 some (.inl ()))) (cond (decide (a0.1=5)) (cond (!(eqV tT14 a0.2.2.1 (0,0,[],()))) (
 some (.inr 2)) (
 some (.inl ()))) (some (.inl ()))):Option (Unit⊕Int)).bind (be fun v2 =>
(cond (!decide (a0.1=3)) (cond (!decide (a0.1=5)) ((zbr a0.2.2.1).bind fun r3 =>
 cond (!r3) (
 some (.inr 2)) (
 some (.inl ()))) (some (.inl ()))) (some (.inl ())):Option (Unit⊕Int)).bind (be fun v4 =>
((cond (!decide (a0.1=3)) (some ((!decide (a0.2.2.2.1=0)),())) (some (false,())):Option (Bool×Unit)).bind fun v5 =>
 cond v5.1 (some (.inr 2)) (cond (decide (a0.1=3)) (cond (decide (a0.2.2.2.1=0)) (some (.inr 2)) (cond (decide (a0.2.2.2.1>2147483647)) (some (.inr 2)) (cond (decide (a0.2.2.2.1<(-2147483647))) (
 some (.inr 2)) (
 some (.inl ()))))) (some (.inl ()))):Option (Unit⊕Int)).bind (be fun v6 =>
(cond (decide (a0.1=2)) (cond (decide ((a0.2.2.2.2.1.length:Int)>0)) (
 some (.inr 2)) (
 some (.inl ()))) (cond (decide (a0.1=3)) (cond (decide ((a0.2.2.2.2.1.length:Int)>0)) (
 some (.inr 2)) (
 some (.inl ()))) (some (.inl ()))):Option (Unit⊕Int)).bind (be fun v7 =>
 cond (decide ((a0.2.2.2.2.1.length:Int)>256)) (
 some 7) (
(zcd a0.2.2.2.2.1).bind fun r8 =>
 cond (!r8) (
 some 2) (
 some 0)))))))))
def yV:TFn:={ ps:=(.cons tT12 .unit),res:=(.int .i64),fn:=fun v=>zbz v.1 }
def al6:TEnv:=(vZ [(183,zW),(184,zj),(185,yP)])
theorem al5:runY Tryz.prog agl al7 al6 arq Tryz.f110 yV.ps yV.res=yV.fn:=by kernel_rfl
theorem agj:aB Tryz.prog G0 110 agk:=ai (ak ⟨ay,(aj ahK (aj agG (aj af4 ae))),ap,ae,an⟩ Tryz.func110 rfl (by kernel_rfl))
theorem al4:TOk agk yV:=aC (E:=agl) (ET:=al6) (EnvT.ofX (az (ah aob (ah amx (ah alI al)))) am au aQ ar) al5 rfl
def aga:Env:=(eZ [] [274])
def alS:Hints:=(hZ [] [])
def af9:PFn:=aH (runF Tryz.prog aga alS Tryz.f111)
def arm:TH:={ loops:=[],cuts:=[(2,[(9,{ keep:=[(1,(.bx 0 0)),(3,(.bx 1 0)),(13,.bool)],mem:=[.same,.box 132 tT14] })])],ro:=[1],news:=[] }
def zcb (a0:vV1):Option Bool :=
(cond (decide (a0.1=0)) (some ((decide ((a0.2.1.length:Int)=0)),(0,0,[],()),())) (some (false,(0,0,[],()),())):Option (Bool×vV3×Unit)).bind fun v1 =>
 cond v1.1 (cond (eqV tT14 a0.2.2.1 v1.2.1) (cond (decide (a0.2.2.2.1=0)) (some (decide ((a0.2.2.2.2.1.length:Int)=0))) (some false)) (some false)) (some false)
def yR:TFn:={ ps:=(.cons tT12 .unit),res:=.bool,fn:=fun v=>zcb v.1 }
def alR:TEnv:=(vZ [])
theorem alQ:runY Tryz.prog aga alS alR arm Tryz.f111 yR.ps yR.res=yR.fn:=by kernel_rfl
theorem af8:aB Tryz.prog G0 111 af9:=ai (ak ⟨ay,ae,ap,ae,an⟩ Tryz.func111 rfl (by kernel_rfl))
theorem alP:TOk af9 yR:=aC (E:=aga) (ET:=alR) (EnvT.ofX (az al) am au aQ ar) alQ rfl
def ahB:Env:=(eZ [(109,zT),(110,agk),(111,af9)] [274])
def anW:Hints:=(hZ [(8,[1,3])] [])
def ahA:PFn:=aH (runF Tryz.prog ahB anW Tryz.f42)
def arV:TH:={ loops:=[(8,{ keep:=[(1,(.bx 0 0)),(3,(.int .i64))],mem:=[.same] })],cuts:=[(1,[(9,{ keep:=[(1,(.bx 0 0)),(13,.bool)],mem:=[.same] })])],ro:=[1],news:=[] }
def qo (a0:vV4) (y8:(Int×Unit)):Option ((Int×Unit)⊕Int) :=
 cond (decide (y8.1<(a0.2.2.2.2.1.length:Int))) (
(atI a0.2.2.2.2.1 y8.1).bind fun x3 =>
(zbz x3).bind fun r4 =>
 cond (!decide (r4=0)) (cond a0.2.2.2.1 ((atI a0.2.2.2.2.1 y8.1).bind fun x5 =>
(zcb x5).bind fun r6 =>
 cond (!r6) (
 some (.inr r4)) (
 some (.inl ((IntKind.wrap .i64 (y8.1+1)),())))) (some (.inr r4))) (some (.inl ((IntKind.wrap .i64 (y8.1+1)),())))) (
 some (.inr 0))
def zb5 (a0:vV4):Option Int :=
((zb2 a0.1).bind fun r1 =>
 cond (!r1) (some (true,())) (some ((decide (a0.2.1<0)),())):Option (Bool×Unit)).bind fun v2 =>
 cond v2.1 (some 2) (cond (decide (a0.2.1>7)) (some 2) (cond (decide (a0.2.2.1<1)) (some 2) (cond (decide (a0.2.2.1>1099511627776)) (
 some 2) (
 cond (decide ((a0.2.2.2.2.1.length:Int)=0)) (
 some 11) (
 cond (decide ((a0.2.2.2.2.1.length:Int)>16)) (
 some 7) (
 aJ (qo a0) (0,())))))))
def zP:TFn:={ ps:=(.cons tT16 .unit),res:=(.int .i64),fn:=fun v=>zb5 v.1 }
def anV:TEnv:=(vZ [(109,sH),(110,yV),(111,yR)])
theorem anU:runY Tryz.prog ahB anW anV arV Tryz.f42 zP.ps zP.res=zP.fn:=by kernel_rfl
theorem ahz:aB Tryz.prog G0 42 ahA:=ai (ak ⟨ay,(aj sI (aj agj (aj af8 ae))),ap,ae,an⟩ Tryz.func42 rfl (by kernel_rfl))
theorem anT:TOk ahA zP:=aC (E:=ahB) (ET:=anV) (EnvT.ofX (az (ah zS (ah al4 (ah alP al)))) am au aQ ar) anU rfl
def agd:Env:=(eZ [(41,ahx),(42,ahA),(152,agq)] [274])
def alW:Hints:=(hZ [(4,[0,5])] [])
def agc:PFn:=aH (runF Tryz.prog agd alW Tryz.f82)
def arn:TH:={ loops:=[(4,{ keep:=[(5,(.int .i64))],mem:=[] })],ro:=[] }
def uQ (a0:List vV4) (y4:(Int×Unit)):Option ((Int×Unit)⊕Bool) :=
 cond (decide (y4.1<(a0.length:Int))) (
(atI a0 y4.1).bind fun x2 =>
(zb6 x2).bind fun r3 =>
 cond (!r3) (some (.inr false)) ((atI a0 y4.1).bind fun x4 =>
(zb5 x4).bind fun r5 =>
 cond (!decide (r5=0)) (
 some (.inr false)) (
 some (.inl ((IntKind.wrap .i64 (y4.1+1)),()))))) (
 some (.inr true))
def zca (a0:List vV4) (a1:Int):Option Bool :=
 cond (decide ((a0.length:Int)>a1)) (some false) ((zbx a0).bind fun r1 =>
 cond (!r1) (
 some false) (
 aJ (uQ a0) (0,())))
def yS:TFn:={ ps:=(.cons (.sl tT16) tT15),res:=.bool,fn:=fun v=>zca v.1 v.2.1 }
def alV:TEnv:=(vZ [(41,zO),(42,zP),(152,yX)])
theorem alU:runY Tryz.prog agd alW alV arn Tryz.f82 yS.ps yS.res=yS.fn:=by kernel_rfl
theorem agb:aB Tryz.prog G0 82 agc:=ai (ak ⟨ay,(aj ahw (aj ahz (aj agp ae))),ap,ae,an⟩ Tryz.func82 rfl (by kernel_rfl))
theorem alT:TOk agc yS:=aC (E:=agd) (ET:=alV) (EnvT.ofX (az (ah anP (ah anT (ah amc al)))) am au aQ ar) alU rfl
def afp:Env:=(eZ [(109,zT)] [274])
def akD:Hints:=(hZ [] [])
def afo:PFn:=aH (runF Tryz.prog afp akD Tryz.f224)
def aqZ:TH:={ loops:=[],ro:=[1] }
def zcw (a0:vV2):Option Bool :=
(zb2 a0.1).bind fun r1 =>
 cond r1 (cond (decide (a0.2.1≥1)) (some (decide (a0.2.1≤64))) (some false)) (some false)
def yr:TFn:={ ps:=(.cons tT13 .unit),res:=.bool,fn:=fun v=>zcw v.1 }
def akC:TEnv:=(vZ [(109,sH)])
theorem akB:runY Tryz.prog afp akD akC aqZ Tryz.f224 yr.ps yr.res=yr.fn:=by kernel_rfl
theorem afn:aB Tryz.prog G0 224 afo:=ai (ak ⟨ay,(aj sI ae),ap,ae,an⟩ Tryz.func224 rfl (by kernel_rfl))
theorem akA:TOk afo yr:=aC (E:=afp) (ET:=akC) (EnvT.ofX (az (ah zS al)) am au aQ ar) akB rfl
def agV:Env:=(eZ [(101,aak),(224,afo)] [274])
def amT:Hints:=(hZ [(2,[0,3])] [])
def agU:PFn:=aH (runF Tryz.prog agV amT Tryz.f153)
def arE:TH:={ loops:=[(2,{ keep:=[(3,(.int .i64))],mem:=[] })],ro:=[] }
def uT (a0:List vV2) (y2:(Int×Unit)):Option ((Int×Unit)⊕Bool) :=
 cond (decide (y2.1<(a0.length:Int))) (
(atI a0 y2.1).bind fun x1 =>
(zcw x1).bind fun r2 =>
 cond (!r2) (some (.inr false)) (cond (decide (y2.1>0)) ((atI a0 (IntKind.wrap .i64 (y2.1-1))).bind fun x3 =>
(atI a0 y2.1).bind fun x4 =>
(za8 x3.1 x4.1).bind fun r5 =>
 cond (!decide (r5=(-1))) (
 some (.inr false)) (
 some (.inl ((IntKind.wrap .i64 (y2.1+1)),())))) (some (.inl ((IntKind.wrap .i64 (y2.1+1)),()))))) (
 some (.inr true))
def zbm (a0:List vV2):Option Bool :=
 aJ (uT a0) (0,())
def zu:TFn:={ ps:=(.cons (.sl tT13) .unit),res:=.bool,fn:=fun v=>zbm v.1 }
def amS:TEnv:=(vZ [(101,sN),(224,yr)])
theorem amR:runY Tryz.prog agV amT amS arE Tryz.f153 zu.ps zu.res=zu.fn:=by kernel_rfl
theorem agT:aB Tryz.prog G0 153 agU:=ai (ak ⟨ay,(aj sO (aj afn ae)),ap,ae,an⟩ Tryz.func153 rfl (by kernel_rfl))
theorem amQ:TOk agU zu:=aC (E:=agV) (ET:=amS) (EnvT.ofX (az (ah aaj (ah akA al))) am au aQ ar) amR rfl
def af0:Env:=(eZ [(153,agU)] [274])
def alD:Hints:=(hZ [] [])
def afZ:PFn:=aH (runF Tryz.prog af0 alD Tryz.f83)
def ari:TH:=yZ
def zcf (a0:List vV2):Option Bool :=
 cond (decide ((a0.length:Int)≤100)) ((zbm a0).bind fun r1 =>
 some r1) (some false)
def yN:TFn:={ ps:=(.cons (.sl tT13) .unit),res:=.bool,fn:=fun v=>zcf v.1 }
def alC:TEnv:=(vZ [(153,zu)])
theorem alB:runY Tryz.prog af0 alD alC ari Tryz.f83 yN.ps yN.res=yN.fn:=by kernel_rfl
theorem afY:aB Tryz.prog G0 83 afZ:=ai (ak ⟨ay,(aj agT ae),ap,ae,an⟩ Tryz.func83 rfl (by kernel_rfl))
theorem alA:TOk afZ yN:=aC (E:=af0) (ET:=alC) (EnvT.ofX (az (ah amQ al)) am au aQ ar) alB rfl
def ahs:Env:=(eZ [(82,agc),(83,afZ)] [274])
def anK:Hints:=(hZ [] [])
def ahr:PFn:=aH (runF Tryz.prog ahs anK Tryz.f29)
def arS:TH:=yZ
def zb8 (a0:List vV4) (a1:List vV2):Option Bool :=
(zca a0 20).bind fun r1 =>
 cond r1 ((zcf a1).bind fun r2 =>
 some r2) (some false)
def zM:TFn:={ ps:=(.cons (.sl tT16) (.cons (.sl tT13) .unit)),res:=.bool,fn:=fun v=>zb8 v.1 v.2.1 }
def anJ:TEnv:=(vZ [(82,yS),(83,yN)])
theorem anI:runY Tryz.prog ahs anK anJ arS Tryz.f29 zM.ps zM.res=zM.fn:=by kernel_rfl
theorem ahq:aB Tryz.prog G0 29 ahr:=ai (ak ⟨ay,(aj agb (aj afY ae)),ap,ae,an⟩ Tryz.func29 rfl (by kernel_rfl))
theorem anH:TOk ahr zM:=aC (E:=ahs) (ET:=anJ) (EnvT.ofX (az (ah alT (ah alA al))) am au aQ ar) anI rfl
def afL:Env:=(eZ [(29,ahr)] [274])
def ald:Hints:=(hZ [(4,[0,1,5])] [])
def afK:PFn:=aH (runF Tryz.prog afL ald Tryz.f14)
def aq9:TH:={ loops:=[(4,{ keep:=[(5,(.int .i64))],mem:=[] })],ro:=[] }
def uL (a0:List vV4) (a1:List (List vV2×Unit)) (y4:(Int×Unit)):Option ((Int×Unit)⊕Bool) :=
 cond (decide (y4.1<(a1.length:Int))) (
(atI a1 y4.1).bind fun x1 =>
(zb8 a0 x1.1).bind fun r2 =>
 cond (!r2) (
 some (.inr false)) (
 some (.inl ((IntKind.wrap .i64 (y4.1+1)),())))) (
 some (.inr true))
def zcm (a0:List vV4) (a1:List (List vV2×Unit)):Option Bool :=
 cond (decide ((a1.length:Int)>6)) (
 some false) (
 aJ (uL a0 a1) (0,()))
def yH:TFn:={ ps:=(.cons (.sl tT16) (.cons (.sl (.agg (.cons (.sl tT13) .unit))) .unit)),res:=.bool,fn:=fun v=>zcm v.1 v.2.1 }
def alc:TEnv:=(vZ [(29,zM)])
theorem alb:runY Tryz.prog afL ald alc aq9 Tryz.f14 yH.ps yH.res=yH.fn:=by kernel_rfl
theorem afJ:aB Tryz.prog G0 14 afK:=ai (ak ⟨ay,(aj ahq ae),ap,ae,an⟩ Tryz.func14 rfl (by kernel_rfl))
theorem ala:TOk afK yH:=aC (E:=afL) (ET:=alc) (EnvT.ofX (az (ah anH al)) am au aQ ar) alb rfl
def ajc:Env:=(eZ [] [274])
def aqb:Hints:=(hZ [] [])
def ajb:PFn:=aH (runF Tryz.prog ajc aqb Tryz.f328)
def asr:TH:=yZ
def za0 (a0:List UInt8):Option Int :=
(atI a0 0).bind fun b1 =>
(atI a0 1).bind fun b2 =>
(shlT .u64 (IntKind.wrap .u64 (b2.toNat:Int)) 8).bind fun t3 =>
(atI a0 2).bind fun b4 =>
(shlT .u64 (IntKind.wrap .u64 (b4.toNat:Int)) 16).bind fun t5 =>
(atI a0 3).bind fun b6 =>
(shlT .u64 (IntKind.wrap .u64 (b6.toNat:Int)) 24).bind fun t7 =>
(atI a0 4).bind fun b8 =>
(shlT .u64 (IntKind.wrap .u64 (b8.toNat:Int)) 32).bind fun t9 =>
(atI a0 5).bind fun b10 =>
(shlT .u64 (IntKind.wrap .u64 (b10.toNat:Int)) 40).bind fun t11 =>
(atI a0 6).bind fun b12 =>
(shlT .u64 (IntKind.wrap .u64 (b12.toNat:Int)) 48).bind fun t13 =>
(atI a0 7).bind fun b14 =>
(shlT .u64 (IntKind.wrap .u64 (b14.toNat:Int)) 56).bind fun t15 =>
 some (IntKind.wrap .u64 ((BitVec.ofInt (IntKind.bits .u64) (IntKind.wrap .u64 ((BitVec.ofInt (IntKind.bits .u64) (IntKind.wrap .u64 ((BitVec.ofInt (IntKind.bits .u64) (IntKind.wrap .u64 ((BitVec.ofInt (IntKind.bits .u64) (IntKind.wrap .u64 ((BitVec.ofInt (IntKind.bits .u64) (IntKind.wrap .u64 ((BitVec.ofInt (IntKind.bits .u64) (IntKind.wrap .u64 ((BitVec.ofInt (IntKind.bits .u64) (IntKind.wrap .u64 (b1.toNat:Int)) ||| BitVec.ofInt (IntKind.bits .u64) t3).toNat)) ||| BitVec.ofInt (IntKind.bits .u64) t5).toNat)) ||| BitVec.ofInt (IntKind.bits .u64) t7).toNat)) ||| BitVec.ofInt (IntKind.bits .u64) t9).toNat)) ||| BitVec.ofInt (IntKind.bits .u64) t11).toNat)) ||| BitVec.ofInt (IntKind.bits .u64) t13).toNat)) ||| BitVec.ofInt (IntKind.bits .u64) t15).toNat))
def aap:TFn:={ ps:=(.cons .str .unit),res:=(.int .u64),fn:=fun v=>za0 v.1 }
def aqa:TEnv:=(vZ [])
theorem ap9:runY Tryz.prog ajc aqb aqa asr Tryz.f328 aap.ps aap.res=aap.fn:=by kernel_rfl
theorem aja:aB Tryz.prog G0 328 ajb:=ai (ak ⟨ay,ae,ap,ae,an⟩ Tryz.func328 rfl (by kernel_rfl))
theorem ap8:TOk ajb aap:=aC (E:=ajc) (ET:=aqa) (EnvT.ofX (az al) am au aQ ar) ap9 rfl
def ai9:Env:=(eZ [(328,ajb)] [274])
def ap7:Hints:=(hZ [(1,[0]),(9,[0])] [])
def adq:PFn:=aH (runF Tryz.prog ai9 ap7 Tryz.f281)
def asq:TH:={ joins:=[(11,{ keep:=[(0,.str),(3,(.int .u8))],mem:=[] })],loops:=[(1,{ keep:=[(0,.str)],mem:=[] }),(9,{ keep:=[(0,.str)],mem:=[] })],cuts:=[(21,[(10,{ keep:=[(6,(.bx 0 0)),(108,.bool)],mem:=[.box 367 (.agg (.cons (.int .u8) (.cons (.int .u8) .unit)))] })]),(25,[(10,{ keep:=[(6,(.bx 0 0)),(139,.bool)],mem:=[.box 367 (.agg (.cons (.int .u8) (.cons (.int .u8) .unit)))] }),(7,{ keep:=[(146,.bool)],mem:=[.gone] }),(5,{ keep:=[(151,.bool)],mem:=[.gone] })])],ro:=[],news:=[] }
def iv (y9:(List UInt8×Unit)):Option ((List UInt8×Unit)⊕((List UInt8×Int×Unit)⊕((List UInt8×Unit)⊕Bool))) :=
 cond (decide ((y9.1.length:Int)>32)) ((za0 y9.1).bind fun r9 =>
(subI y9.1 8 (y9.1.length:Int)).bind fun s10 =>
(za0 s10).bind fun r11 =>
(subI y9.1 16 (y9.1.length:Int)).bind fun s12 =>
(za0 s12).bind fun r13 =>
(subI y9.1 24 (y9.1.length:Int)).bind fun s14 =>
(za0 s14).bind fun r15 =>
 cond (decide ((IntKind.wrap .u64 ((BitVec.ofInt (IntKind.bits .u64) (IntKind.wrap .u64 ((BitVec.ofInt (IntKind.bits .u64) (IntKind.wrap .u64 ((BitVec.ofInt (IntKind.bits .u64) r9 ||| BitVec.ofInt (IntKind.bits .u64) r11).toNat)) ||| BitVec.ofInt (IntKind.bits .u64) (IntKind.wrap .u64 ((BitVec.ofInt (IntKind.bits .u64) r13 ||| BitVec.ofInt (IntKind.bits .u64) r15).toNat))).toNat)) &&& BitVec.ofInt (IntKind.bits .u64) 9259542123273814144).toNat))=0)) (
(subI y9.1 32 (y9.1.length:Int)).bind fun s16 =>
 some (.inl (s16,()))) (
 some (.inr (.inr (.inl (y9.1,())))))) (some (.inr (.inr (.inl (y9.1,())))))
def iw (y1:(List UInt8×Unit)):Option ((List UInt8×Unit)⊕Bool) :=
 cond (decide ((y1.1.length:Int)>0)) (
(atI y1.1 0).bind fun b1 =>
(cond (decide ((b1.toNat:Int)<128)) (
(subI y1.1 1 (y1.1.length:Int)).bind fun s2 =>
 cond (decide ((s2.length:Int)>8)) ((za0 s2).bind fun r3 =>
 cond (decide ((IntKind.wrap .u64 ((BitVec.ofInt (IntKind.bits .u64) r3 &&& BitVec.ofInt (IntKind.bits .u64) 9259542123273814144).toNat))=0)) (
(subI s2 8 (s2.length:Int)).bind fun s4 =>
 cond (decide ((s4.length:Int)>16)) ((za0 s4).bind fun r5 =>
(subI s4 8 (s4.length:Int)).bind fun s6 =>
(za0 s6).bind fun r7 =>
 cond (decide ((IntKind.wrap .u64 ((BitVec.ofInt (IntKind.bits .u64) (IntKind.wrap .u64 ((BitVec.ofInt (IntKind.bits .u64) r5 ||| BitVec.ofInt (IntKind.bits .u64) r7).toNat)) &&& BitVec.ofInt (IntKind.bits .u64) 9259542123273814144).toNat))=0)) (
(subI s4 16 (s4.length:Int)).bind fun s8 =>
 aJ (iv) (s8,())) (
 some (.inr (.inl (s4,()))))) (some (.inr (.inl (s4,()))))) (
 some (.inr (.inl (s2,()))))) (some (.inr (.inl (s2,()))))) (
 some (.inl (y1.1,(b1.toNat:Int),()))):Option ((List UInt8×Int×Unit)⊕((List UInt8×Unit)⊕Bool))).bind (be fun v17 =>
(atI gC v17.2.1).bind fun x18 =>
(shrT .u8 x18 4).bind fun t19 =>
(atI e9 t19).bind fun x20 =>
 cond (decide ((IntKind.wrap .i64 (IntKind.wrap .u8 ((BitVec.ofInt (IntKind.bits .u8) x18 &&& BitVec.ofInt (IntKind.bits .u8) 7).toNat)))=2)) (
 cond (decide ((v17.1.length:Int)<2)) (some (.inr false)) ((atI v17.1 1).bind fun b21 =>
 cond (decide ((b21.toNat:Int)<x20.1)) (some (.inr false)) ((atI v17.1 1).bind fun b22 =>
 cond (decide (x20.2.1<(b22.toNat:Int))) (
 some (.inr false)) (
(subI v17.1 2 (v17.1.length:Int)).bind fun s23 =>
 some (.inl (s23,())))))) (
 cond (decide ((IntKind.wrap .i64 (IntKind.wrap .u8 ((BitVec.ofInt (IntKind.bits .u8) x18 &&& BitVec.ofInt (IntKind.bits .u8) 7).toNat)))=3)) (
(cond (decide ((v17.1.length:Int)<3)) (some (true,x20,())) ((atI v17.1 1).bind fun b24 =>
 some ((decide ((b24.toNat:Int)<x20.1)),x20,())):Option (Bool×(Int×Int×Unit)×Unit)).bind fun v25 =>
 cond v25.1 (some (.inr false)) ((atI v17.1 1).bind fun b26 =>
 cond (decide (v25.2.1.2.1<(b26.toNat:Int))) (some (.inr false)) ((atI v17.1 2).bind fun b27 =>
 cond (decide ((b27.toNat:Int)<128)) (some (.inr false)) ((atI v17.1 2).bind fun b28 =>
 cond (decide (191<(b28.toNat:Int))) (
 some (.inr false)) (
(subI v17.1 3 (v17.1.length:Int)).bind fun s29 =>
 some (.inl (s29,()))))))) (
 cond (decide ((IntKind.wrap .i64 (IntKind.wrap .u8 ((BitVec.ofInt (IntKind.bits .u8) x18 &&& BitVec.ofInt (IntKind.bits .u8) 7).toNat)))=4)) (
(cond (decide ((v17.1.length:Int)<4)) (some (true,x20,())) ((atI v17.1 1).bind fun b30 =>
 some ((decide ((b30.toNat:Int)<x20.1)),x20,())):Option (Bool×(Int×Int×Unit)×Unit)).bind fun v31 =>
(cond v31.1 (some (true,())) ((atI v17.1 1).bind fun b32 =>
 some ((decide (v31.2.1.2.1<(b32.toNat:Int))),())):Option (Bool×Unit)).bind fun v33 =>
(cond v33.1 (some (true,())) ((atI v17.1 2).bind fun b34 =>
 some ((decide ((b34.toNat:Int)<128)),())):Option (Bool×Unit)).bind fun v35 =>
 cond v35.1 (some (.inr false)) ((atI v17.1 2).bind fun b36 =>
 cond (decide (191<(b36.toNat:Int))) (some (.inr false)) ((atI v17.1 3).bind fun b37 =>
 cond (decide ((b37.toNat:Int)<128)) (some (.inr false)) ((atI v17.1 3).bind fun b38 =>
 cond (decide (191<(b38.toNat:Int))) (
 some (.inr false)) (
(subI v17.1 4 (v17.1.length:Int)).bind fun s39 =>
 some (.inl (s39,()))))))) (
 some (.inr false)))))) (
 some (.inr true))
def za1 (a0:List UInt8):Option Bool :=
 aJ (iw) (a0,())
def wT:TFn:={ ps:=(.cons .str .unit),res:=.bool,fn:=fun v=>za1 v.1 }
def ap6:TEnv:=(vZ [(328,aap)])
theorem ap5:runY Tryz.prog ai9 ap7 ap6 asq Tryz.f281 wT.ps wT.res=wT.fn:=by kernel_rfl
theorem aao:aB Tryz.prog G0 281 adq:=ai (ak ⟨ay,(aj aja ae),ap,ae,an⟩ Tryz.func281 rfl (by kernel_rfl))
theorem aeT:TOk adq wT:=aC (E:=ai9) (ET:=ap6) (EnvT.ofX (az (ah ap8 al)) am au aQ ar) ap5 rfl
def ahZ:Env:=(eZ [] [274])
def aoC:Hints:=(hZ [(2,[2,4])] [])
def ahY:PFn:=aH (runF Tryz.prog ahZ aoC Tryz.f282)
def ar6:TH:={ loops:=[(2,{ keep:=[(2,(.int .i64)),(4,(.it 0))],mem:=[.iter] })],ro:=[] }
def qr (a0:List UInt8) (y2:(Int×Nat×Unit)):Option ((Int×Nat×Unit)⊕Int) :=
 cond (decide (y2.2.1<a0.length)) (some (.inl ((IntKind.wrap .i64 (y2.1+1)),(y2.2.1+(Utf8.decode ⟨a0.toArray⟩ y2.2.1).2),()))) (some (.inr y2.1))
def zau (a0:List UInt8):Option Int :=
 aJ (qr a0) (0,0,())
def z6:TFn:={ ps:=(.cons .str .unit),res:=(.int .i64),fn:=fun v=>zau v.1 }
def aoB:TEnv:=(vZ [])
theorem aoA:runY Tryz.prog ahZ aoC aoB ar6 Tryz.f282 z6.ps z6.res=z6.fn:=by kernel_rfl
theorem ahX:aB Tryz.prog G0 282 ahY:=ai (ak ⟨ay,ae,ap,ae,an⟩ Tryz.func282 rfl (by kernel_rfl))
theorem aoz:TOk ahY z6:=aC (E:=ahZ) (ET:=aoB) (EnvT.ofX (az al) am au aQ ar) aoA rfl
def ag0:Env:=(eZ [] [274])
def am3:Hints:=(hZ [] [])
def agZ:PFn:=aH (runF Tryz.prog ag0 am3 Tryz.f283)
def arH:TH:=yZ
def zbj (a0:Int):Option Bool :=
 cond (decide (a0=42)) (some true) (cond (decide (a0=63)) (some true) (some (decide (a0=92))))
def zz:TFn:={ ps:=(.cons (.int .i32) .unit),res:=.bool,fn:=fun v=>zbj v.1 }
def am2:TEnv:=(vZ [])
theorem am1:runY Tryz.prog ag0 am3 am2 arH Tryz.f283 zz.ps zz.res=zz.fn:=by kernel_rfl
theorem agY:aB Tryz.prog G0 283 agZ:=ai (ak ⟨ay,ae,ap,ae,an⟩ Tryz.func283 rfl (by kernel_rfl))
theorem am0:TOk agZ zz:=aC (E:=ag0) (ET:=am2) (EnvT.ofX (az al) am au aQ ar) am1 rfl
def afX:Env:=(eZ [(281,adq),(282,ahY),(283,agZ)] [274])
def alz:Hints:=(hZ [(6,[4,5,17])] [])
def acR:PFn:=aH (runF Tryz.prog afX alz Tryz.f215)
def arh:TH:={ joins:=[(18,{ keep:=[(4,(.own 1)),(5,.bool)],mem:=[.gone,.row true 336 (.agg (.cons (.int .i64) (.cons (.int .i32) .unit)))] }),(10,{ keep:=[(4,(.own 1)),(17,(.it 0)),(25,.bool)],mem:=[.iter,.row true 336 (.agg (.cons (.int .i64) (.cons (.int .i32) .unit)))] })],loops:=[(6,{ keep:=[(4,(.own 1)),(5,.bool),(17,(.it 0))],mem:=[.iter,.row true 336 (.agg (.cons (.int .i64) (.cons (.int .i32) .unit)))] })],ro:=[] }
def fT (a0:List UInt8) (y6:(Bool×Nat×List (Int×Int×Unit)×Unit)):Option ((Bool×Nat×List (Int×Int×Unit)×Unit)⊕((Bool×List (Int×Int×Unit)×Unit)⊕(List (Int×Int×Unit)×Bool×Unit))) :=
 cond (decide (y6.2.1<a0.length)) ((cond y6.1 ((zbj ((Utf8.decode ⟨a0.toArray⟩ y6.2.1).1:Int)).bind fun r3 =>
 some (.inl ((!r3),(y6.2.1+(Utf8.decode ⟨a0.toArray⟩ y6.2.1).2),y6.2.2.1,()))) (some (.inl (false,(y6.2.1+(Utf8.decode ⟨a0.toArray⟩ y6.2.1).2),y6.2.2.1,()))):Option ((Bool×Nat×List (Int×Int×Unit)×Unit)⊕((Bool×Nat×List (Int×Int×Unit)×Unit)⊕((Bool×List (Int×Int×Unit)×Unit)⊕(List (Int×Int×Unit)×Bool×Unit))))).bind (be fun v4 =>
 cond v4.1 (
 some (.inr (.inr ([],false,())))) (
 cond y6.1 ((dN (v4.2.2.1.length+([(0,((Utf8.decode ⟨a0.toArray⟩ y6.2.1).1:Int),())]:List (Int×Int×Unit)).length)).bind fun u5 =>
 some (.inl (false,v4.2.1,(v4.2.2.1++([(0,((Utf8.decode ⟨a0.toArray⟩ y6.2.1).1:Int),())]:List (Int×Int×Unit))),()))) ((zbj ((Utf8.decode ⟨a0.toArray⟩ y6.2.1).1:Int)).bind fun r6 =>
 cond (!r6) (
(dN (v4.2.2.1.length+([(0,((Utf8.decode ⟨a0.toArray⟩ y6.2.1).1:Int),())]:List (Int×Int×Unit)).length)).bind fun u7 =>
 some (.inl (false,v4.2.1,(v4.2.2.1++([(0,((Utf8.decode ⟨a0.toArray⟩ y6.2.1).1:Int),())]:List (Int×Int×Unit))),()))) (
 cond (decide (((Utf8.decode ⟨a0.toArray⟩ y6.2.1).1:Int)=92)) (
 some (.inl (true,v4.2.1,v4.2.2.1,()))) (
 cond (decide (((Utf8.decode ⟨a0.toArray⟩ y6.2.1).1:Int)=63)) (
(dN (v4.2.2.1.length+([(1,0,())]:List (Int×Int×Unit)).length)).bind fun u8 =>
 some (.inl (y6.1,v4.2.1,(v4.2.2.1++([(1,0,())]:List (Int×Int×Unit))),()))) (
(dN (v4.2.2.1.length+([(2,0,())]:List (Int×Int×Unit)).length)).bind fun u9 =>
 some (.inl (y6.1,v4.2.1,(v4.2.2.1++([(2,0,())]:List (Int×Int×Unit))),()))))))))) (some (.inr (.inl (y6.1,y6.2.2.1,()))))
def zcg (a0:List UInt8):Option (List (Int×Int×Unit)×Bool×Unit) :=
(za1 a0).bind fun r1 =>
 cond (!r1) (some ([],false,())) ((zau a0).bind fun r2 =>
 cond (decide (r2>64)) (
 some ([],false,())) (
(aJ (fT a0) (false,0,[],()):Option ((Bool×List (Int×Int×Unit)×Unit)⊕(List (Int×Int×Unit)×Bool×Unit))).bind (be fun v10 =>
 cond v10.1 (
 some ([],false,())) (
 some (v10.2.1,true,())))))
def wK:TFn:={ ps:=(.cons .str .unit),res:=(.tup (.cons (.sl (.agg (.cons (.int .i64) (.cons (.int .i32) .unit)))) (.cons .bool .unit))),fn:=fun v=>zcg v.1 }
def aly:TEnv:={ pure:=[(281,wT),(282,z6),(283,zz)],look:=[],glob:=G0T,ty:=[(336,(.agg (.cons (.int .i64) (.cons (.int .i32) .unit))))],raw:=[],fresh:=[] }
theorem alx:runY Tryz.prog afX alz aly arh Tryz.f215 wK.ps wK.res=wK.fn:=by kernel_rfl
theorem yM:aB Tryz.prog G0 215 acR:=ai (ak ⟨ay,(aj aao (aj ahX (aj agY ae))),ap,ae,an⟩ Tryz.func215 rfl (by kernel_rfl))
theorem aeI:TOk acR wK:=aC (E:=afX) (ET:=aly) (EnvT.ofX (az (ah aeT (ah aoz (ah am0 al)))) am au aQ ar) alx rfl
def afO:Env:=(eZ [(215,acR)] [274])
def alh:Hints:=(hZ [] [])
def afN:PFn:=aH (runF Tryz.prog afO alh Tryz.f143)
def ara:TH:=yZ
def zcl (a0:List UInt8):Option Bool :=
(zcg a0).bind fun r1 =>
 some r1.2.1
def yI:TFn:={ ps:=(.cons .str .unit),res:=.bool,fn:=fun v=>zcl v.1 }
def alg:TEnv:=(vZ [(215,wK)])
theorem alf:runY Tryz.prog afO alh alg ara Tryz.f143 yI.ps yI.res=yI.fn:=by kernel_rfl
theorem afM:aB Tryz.prog G0 143 afN:=ai (ak ⟨ay,(aj yM ae),ap,ae,an⟩ Tryz.func143 rfl (by kernel_rfl))
theorem ale:TOk afN yI:=aC (E:=afO) (ET:=alg) (EnvT.ofX (az (ah aeI al)) am au aQ ar) alf rfl
def aiZ:Env:=(eZ [(143,afN)] [274])
def apH:Hints:=(hZ [] [])
def aiY:PFn:=aH (runF Tryz.prog aiZ apH Tryz.f142)
def asi:TH:=yZ
def za9 (a0:List UInt8):Option Bool :=
 cond (decide (a0=[])) (some true) ((zcl a0).bind fun r1 =>
 some (!r1))
def aai:TFn:={ ps:=(.cons .str .unit),res:=.bool,fn:=fun v=>za9 v.1 }
def apG:TEnv:=(vZ [(143,yI)])
theorem apF:runY Tryz.prog aiZ apH apG asi Tryz.f142 aai.ps aai.res=aai.fn:=by kernel_rfl
theorem aiX:aB Tryz.prog G0 142 aiY:=ai (ak ⟨ay,(aj afM ae),ap,ae,an⟩ Tryz.func142 rfl (by kernel_rfl))
theorem apE:TOk aiY aai:=aC (E:=aiZ) (ET:=apG) (EnvT.ofX (az (ah ale al)) am au aQ ar) apF rfl
def aix:Env:=(eZ [(142,aiY)] [274])
def ao9:Hints:=(hZ [(2,[0,1,7,8])] [])
def aiw:PFn:=aH (runF Tryz.prog aix ao9 Tryz.f214)
def asb:TH:={ loops:=[(2,{ keep:=[(8,(.int .i64))],mem:=[] })],ro:=[] }
def qs (a0:List (List UInt8)) (y2:(Int×Unit)):Option ((Int×Unit)⊕Int) :=
 cond (decide (y2.1<(a0.length:Int))) (
(atI a0 y2.1).bind fun x1 =>
(za9 x1).bind fun r2 =>
 cond r2 (
 some (.inr y2.1)) (
 some (.inl ((IntKind.wrap .i64 (y2.1+1)),())))) (
 some (.inr (-1)))
def zai (a0:List (List UInt8)) (a1:Unit):Option Int :=
 aJ (qs a0) (0,())
def aac:TFn:={ ps:=(.cons (.sl .str) (.cons (.fn 142) .unit)),res:=(.int .i64),fn:=fun v=>zai v.1 v.2.1 }
def ao8:TEnv:=(vZ [(142,aai)])
theorem ao7:runY Tryz.prog aix ao9 ao8 asb Tryz.f214 aac.ps aac.res=aac.fn:=by kernel_rfl
theorem aiv:aB Tryz.prog G0 214 aiw:=ai (ak ⟨ay,(aj aiX ae),ap,ae,an⟩ Tryz.func214 rfl (by kernel_rfl))
theorem ao6:TOk aiw aac:=aC (E:=aix) (ET:=ao8) (EnvT.ofX (az (ah apE al)) am au aQ ar) ao7 rfl
def aiA:Env:=(eZ [(214,aiw)] [274])
def apd:Hints:=(hZ [] [])
def aiz:PFn:=aH (runF Tryz.prog aiA apd Tryz.f141)
def asc:TH:=yZ
def zah (a0:List (List UInt8)) (a1:Unit):Option Bool :=
(zai a0 a1).bind fun r1 =>
 some (decide (r1≥0))
def aad:TFn:={ ps:=(.cons (.sl .str) (.cons (.fn 142) .unit)),res:=.bool,fn:=fun v=>zah v.1 v.2.1 }
def apc:TEnv:=(vZ [(214,aac)])
theorem apb:runY Tryz.prog aiA apd apc asc Tryz.f141 aad.ps aad.res=aad.fn:=by kernel_rfl
theorem aiy:aB Tryz.prog G0 141 aiz:=ai (ak ⟨ay,(aj aiv ae),ap,ae,an⟩ Tryz.func141 rfl (by kernel_rfl))
theorem apa:TOk aiz aad:=aC (E:=aiA) (ET:=apc) (EnvT.ofX (az (ah ao6 al)) am au aQ ar) apb rfl
def agF:Env:=(eZ [(141,aiz)] [274])
def amw:Hints:=(hZ [] [])
def acU:PFn:=aH (runF Tryz.prog agF amw Tryz.f71)
def ary:TH:=yZ
def zbs (a0:List (List UInt8)):Option Int :=
 cond (decide ((a0.length:Int)=0)) (
 some 8) (
 cond (decide ((a0.length:Int)>8)) (
 some 9) (
(zah a0 ()).bind fun r1 =>
 cond r1 (
 some 8) (
 some 0)))
def wN:TFn:={ ps:=tT21,res:=(.int .i64),fn:=fun v=>zbs v.1 }
def amv:TEnv:=(vZ [(141,aad)])
theorem amu:runY Tryz.prog agF amw amv ary Tryz.f71 wN.ps wN.res=wN.fn:=by kernel_rfl
theorem zi:aB Tryz.prog G0 71 acU:=ai (ak ⟨ay,(aj aiy ae),ap,ae,an⟩ Tryz.func71 rfl (by kernel_rfl))
theorem aeL:TOk acU wN:=aC (E:=agF) (ET:=amv) (EnvT.ofX (az (ah apa al)) am au aQ ar) amu rfl
def ah3:Go.Shelf.Ren:=⟨fun | 41=>72 | n=>n,fun | 22=>24 | 23=>9 | 4=>4 | n=>n,fun | n=>n⟩
theorem ac9:Go.Proofs.SlLaysE0.n41 Tryz.prog ah3:={
 mixed:=by kernel_rfl
 f41:=⟨Tryz.f72.name,by decide,Tryz.func72.trans (congrArg some (by kernel_rfl))⟩
 t4:=Tryz.underlying4
 a4:=Tryz.isAgg4
 z4:=Tryz.sizeOf4
 v4:=Tryz.zeroValue4
 t22:=Tryz.underlying24
 a22:=Tryz.isAgg24
 z22:=Tryz.sizeOf24
 v22:=Tryz.zeroValue24 }
def wS:PFn:=(j9 1)
theorem oL:aB Tryz.prog G0 72 wS:=clone_lays ac9 1 ⟨Tryz.f72,Tryz.func72,rfl,by kernel_rfl⟩ (by kernel_rfl) (by kernel_rfl) (by kernel_rfl) (by kernel_rfl) (by kernel_rfl) (by decide) (fun w=>Tryz.sizeOf9 w)
def zas (a0:List (List UInt8)):Option (List (List UInt8)):=eR a0
def z8:TFn:=fM .str
theorem vf:TOk wS z8:=mm rfl rfl rfl
def afu:Env:=(eZ [(71,acU),(72,wS)] [274])
def akN:Hints:=(hZ [] [])
def acP:SFn:=runF Tryz.prog afu akN Tryz.f17
def aq2:TH:=yZ
def zct (a0:List (List UInt8)):Option (List vV7×Int×Unit) :=
(zbs a0).bind fun r1 =>
 cond (!decide (r1=0)) (
 some ([],r1,())) (
(zas a0).bind fun r2 =>
 some ([(r2,[],0,())],0,()))
def yy:TNew:={ ps:=tT21,e:=139,t:=(.cons (.sl tT17) tT15),fn:=fun v=>zct v.1,pair:=true }
def akM:TEnv:=(vZ [(71,wN),(72,z8)])
theorem akL:aqt Tryz.prog afu akN akM aq2 Tryz.f17 yy.ps 139 tT17 tT15=yy.fn:=by kernel_rfl
theorem yx:bL Tryz.prog G0 17 acP:=ak ⟨ay,(aj zi (aj oL ae)),ap,ae,an⟩ Tryz.func17 rfl (by kernel_rfl)
theorem aeG:TNewOk acP yy:=ad1 (E:=afu) (ET:=akM) (EnvT.ofX (az (ah aeL (ah vf al))) am au aQ ar) akL
def ahg:Env:=(eZ [] [274])
def ant:Hints:=(hZ [] [])
def ac3:PFn:=aH (runF Tryz.prog ahg ant Tryz.f226)
def arO:TH:=yZ
def zbc (a0:Int):Option Bool :=
 some (!decide (a0=a0))
def zI:TFn:={ ps:=tT15,res:=.bool,fn:=fun v=>zbc v.1 }
def ans:TEnv:=(vZ [])
theorem anr:runY Tryz.prog ahg ant ans arO Tryz.f226 zI.ps zI.res=zI.fn:=by kernel_rfl
theorem ahf:aB Tryz.prog G0 226 ac3:=ai (ak ⟨ay,ae,ap,ae,an⟩ Tryz.func226 rfl (by kernel_rfl))
theorem anq:TOk ac3 zI:=aC (E:=ahg) (ET:=ans) (EnvT.ofX (az al) am au aQ ar) anr rfl
def ai3:Env:=(eZ [(226,ac3)] [274])
def apS:Hints:=(hZ [] [])
def sR:PFn:=aH (runF Tryz.prog ai3 apS Tryz.f156)
def asl:TH:=yZ
def za5 (a0:Int) (a1:Int):Option Int :=
(zbc a0).bind fun r1 =>
(zbc a1).bind fun r2 =>
 cond r1 (
 cond r2 (
 some 0) (
 some (-1))) (
 cond r2 (
 some 1) (
 cond (decide (a0<a1)) (
 some (-1)) (
 cond (decide (a0>a1)) (
 some 1) (
 some 0))))
def qt:TFn:={ ps:=(.cons (.int .i64) tT15),res:=(.int .i64),fn:=fun v=>za5 v.1 v.2.1 }
def apR:TEnv:=(vZ [(226,zI)])
theorem apQ:runY Tryz.prog ai3 apS apR asl Tryz.f156 qt.ps qt.res=qt.fn:=by kernel_rfl
theorem oM:aB Tryz.prog G0 156 sR:=ai (ak ⟨ay,(aj ahf ae),ap,ae,an⟩ Tryz.func156 rfl (by kernel_rfl))
theorem vh:TOk sR qt:=aC (E:=ai3) (ET:=apR) (EnvT.ofX (az (ah anq al)) am au aQ ar) apQ rfl
def afP:Env:=(eZ [] [274])
def alk:Hints:=(hZ [(3,[3,6,7,8])] [])
def sG:PFn:=aH (runF Tryz.prog afP alk Tryz.f154)
def arb:TH:={ loops:=[(3,{ keep:=[(8,(.int .i64))],mem:=[] })],ro:=[] }
def fS (a0:List Int) (y3:(Int×Unit)):Option ((Int×Unit)⊕Int) :=
 cond (decide (y3.1<(a0.length:Int))) (
(atI a0 y3.1).bind fun x1 =>
 cond (!decide (x1=0)) (
 some (.inr x1)) (
 some (.inl ((IntKind.wrap .i64 (y3.1+1)),())))) (
 some (.inr 0))
def zck (a0:List Int):Option Int :=
 aJ (fS a0) (0,())
def ql:TFn:={ ps:=(.cons (.sl (.int .i64)) .unit),res:=(.int .i64),fn:=fun v=>zck v.1 }
def alj:TEnv:=(vZ [])
theorem ali:runY Tryz.prog afP alk alj arb Tryz.f154 ql.ps ql.res=ql.fn:=by kernel_rfl
theorem oJ:aB Tryz.prog G0 154 sG:=ai (ak ⟨ay,ae,ap,ae,an⟩ Tryz.func154 rfl (by kernel_rfl))
theorem uM:TOk sG ql:=aC (E:=afP) (ET:=alj) (EnvT.ofX (az al) am au aQ ar) ali rfl
def ahE:Env:=(eZ [(154,sG),(156,sR)] [274])
def an0:Hints:=(hZ [] [])
def ahD:PFn:=aH (runF Tryz.prog ahE an0 Tryz.f171)
def arW:TH:={ loops:=[],ro:=[2,3] }
def zb4 (a0:(Int×Int×Unit)) (a1:(Int×Int×Unit)):Option Int :=
(za5 a0.1 a1.1).bind fun r1 =>
(za5 a0.2.1 a1.2.1).bind fun r2 =>
(zck ([r1,r2]:List Int)).bind fun r3 =>
 some r3
def zQ:TFn:={ ps:=(.cons (.agg (.cons (.int .i64) tT15)) (.cons (.agg (.cons (.int .i64) tT15)) .unit)),res:=(.int .i64),fn:=fun v=>zb4 v.1 v.2.1 }
def anZ:TEnv:={ pure:=[(154,ql),(156,qt)],look:=[],glob:=G0T,ty:=[(3,(.int .i64))],raw:=[],fresh:=[] }
theorem anY:runY Tryz.prog ahE an0 anZ arW Tryz.f171 zQ.ps zQ.res=zQ.fn:=by kernel_rfl
theorem ahC:aB Tryz.prog G0 171 ahD:=ai (ak ⟨ay,(aj oJ (aj oM ae)),ap,ae,an⟩ Tryz.func171 rfl (by kernel_rfl))
theorem anX:TOk ahD zQ:=aC (E:=ahE) (ET:=anZ) (EnvT.ofX (az (ah uM (ah vh al))) am au aQ ar) anY rfl
def ahj:Env:=(eZ [(171,ahD)] [274])
def anx:Hints:=(hZ [] [])
def ahi:PFn:=aH (runF Tryz.prog ahj anx Tryz.f242)
def arP:TH:={ loops:=[],ro:=[2,3] }
def zbb (a0:vV2) (a1:vV2):Option Int :=
(zb4 a0.1 a1.1).bind fun r1 =>
 some r1
def zJ:TFn:={ ps:=(.cons tT13 (.cons tT13 .unit)),res:=(.int .i64),fn:=fun v=>zbb v.1 v.2.1 }
def anw:TEnv:=(vZ [(171,zQ)])
theorem anv:runY Tryz.prog ahj anx anw arP Tryz.f242 zJ.ps zJ.res=zJ.fn:=by kernel_rfl
theorem ahh:aB Tryz.prog G0 242 ahi:=ai (ak ⟨ay,(aj ahC ae),ap,ae,an⟩ Tryz.func242 rfl (by kernel_rfl))
theorem anu:TOk ahi zJ:=aC (E:=ahj) (ET:=anw) (EnvT.ofX (az (ah anX al)) am au aQ ar) anv rfl
def aiN:Env:=(eZ [(242,ahi)] [274])
def apr:Hints:=(hZ [(3,[0,2,4,8,9,10])] [])
def aiM:PFn:=aH (runF Tryz.prog aiN apr Tryz.f284)
def ase:TH:={ joins:=[(8,{ keep:=[(4,(.bx 0 0)),(9,(.int .i64))],mem:=[.same] })],loops:=[(3,{ keep:=[(4,(.bx 0 0)),(9,(.int .i64)),(10,(.int .i64))],mem:=[.same] })],ro:=[4] }
def nc (a0:List vV2) (a1:vV2) (y3:(Int×Int×Unit)):Option ((Int×Int×Unit)⊕((Int×Unit)⊕(Int×Bool×Unit))) :=
 cond (decide (y3.1<y3.2.1)) (
(shrT .u64 (IntKind.wrap .u64 (IntKind.wrap .i64 (y3.1+y3.2.1))) 1).bind fun t1 =>
(atI a0 (IntKind.wrap .i64 t1)).bind fun x2 =>
(zbb x2 a1).bind fun r3 =>
 cond (decide (r3<0)) (
 some (.inl ((IntKind.wrap .i64 ((IntKind.wrap .i64 t1)+1)),y3.2.1,()))) (
 some (.inl (y3.1,(IntKind.wrap .i64 t1),())))) (
 some (.inr (.inl (y3.1,()))))
def zad (a0:List vV2) (a1:vV2) (a2:Unit):Option (Int×Bool×Unit) :=
(aJ (nc a0 a1) (0,(a0.length:Int),()):Option ((Int×Unit)⊕(Int×Bool×Unit))).bind (be fun v4 =>
 cond (decide (v4.1<(a0.length:Int))) ((atI a0 v4.1).bind fun x5 =>
(zbb x5 a1).bind fun r6 =>
 some (v4.1,(decide (r6=0)),())) (some (v4.1,false,())))
def aae:TFn:={ ps:=(.cons (.sl tT13) (.cons tT13 (.cons (.fn 242) .unit))),res:=(.tup (.cons (.int .i64) (.cons .bool .unit))),fn:=fun v=>zad v.1 v.2.1 v.2.2.1 }
def apq:TEnv:=(vZ [(242,zJ)])
theorem apo:runY Tryz.prog aiN apr apq ase Tryz.f284 aae.ps aae.res=aae.fn:=by kernel_rfl
theorem aiL:aB Tryz.prog G0 284 aiM:=ai (ak ⟨ay,(aj ahh ae),ap,ae,an⟩ Tryz.func284 rfl (by kernel_rfl))
theorem apn:TOk aiM aae:=aC (E:=aiN) (ET:=apq) (EnvT.ofX (az (ah anu al)) am au aQ ar) apo rfl
def afm:Env:=(eZ [(284,aiM)] [274])
def akz:Hints:=(hZ [] [])
def afl:PFn:=aH (runF Tryz.prog afm akz Tryz.f217)
def aqY:TH:={ loops:=[],ro:=[3] }
def zcx (a0:List vV2) (a1:(Int×Int×Unit)):Option (Int×Bool×Unit) :=
(zad a0 (a1,0,()) ()).bind fun r1 =>
 some (r1.1,r1.2.1,())
def yq:TFn:={ ps:=(.cons (.sl tT13) (.cons (.agg (.cons (.int .i64) tT15)) .unit)),res:=(.tup (.cons (.int .i64) (.cons .bool .unit))),fn:=fun v=>zcx v.1 v.2.1 }
def aky:TEnv:=(vZ [(284,aae)])
theorem akx:runY Tryz.prog afm akz aky aqY Tryz.f217 yq.ps yq.res=yq.fn:=by kernel_rfl
theorem afk:aB Tryz.prog G0 217 afl:=ai (ak ⟨ay,(aj aiL ae),ap,ae,an⟩ Tryz.func217 rfl (by kernel_rfl))
theorem akw:TOk afl yq:=aC (E:=afm) (ET:=aky) (EnvT.ofX (az (ah apn al)) am au aQ ar) akx rfl
def afs:Env:=(eZ [(217,afl)] [274])
def akH:Hints:=(hZ [] [])
def afr:PFn:=aH (runF Tryz.prog afs akH Tryz.f145)
def aq0:TH:={ loops:=[],ro:=[3] }
def zcv (a0:List vV2) (a1:(Int×Int×Unit)):Option Int :=
(zcx a0 a1).bind fun r1 =>
 cond r1.2.1 (
(atI a0 r1.1).bind fun x2 =>
 some x2.2.1) (
 some 0)
def yu:TFn:={ ps:=(.cons (.sl tT13) (.cons (.agg (.cons (.int .i64) tT15)) .unit)),res:=(.int .i64),fn:=fun v=>zcv v.1 v.2.1 }
def akG:TEnv:=(vZ [(217,yq)])
theorem akF:runY Tryz.prog afs akH akG aq0 Tryz.f145 yu.ps yu.res=yu.fn:=by kernel_rfl
theorem afq:aB Tryz.prog G0 145 afr:=ai (ak ⟨ay,(aj afk ae),ap,ae,an⟩ Tryz.func145 rfl (by kernel_rfl))
theorem akE:TOk afr yu:=aC (E:=afs) (ET:=akG) (EnvT.ofX (az (ah akw al)) am au aQ ar) akF rfl
def afQ:Env:=(eZ [(145,afr)] [274])
def alo:Hints:=(hZ [] [])
def acQ:PFn:=aH (runF Tryz.prog afQ alo Tryz.f75)
def arc:TH:={ loops:=[],ro:=[3] }
def zcj (a0:List vV2) (a1:(Int×Int×Unit)):Option Bool :=
(zcv a0 a1).bind fun r1 =>
(remT r1 2).bind fun t2 =>
 some (decide (t2=0))
def wJ:TFn:={ ps:=(.cons (.sl tT13) (.cons (.agg (.cons (.int .i64) tT15)) .unit)),res:=.bool,fn:=fun v=>zcj v.1 v.2.1 }
def aln:TEnv:=(vZ [(145,yu)])
theorem alm:runY Tryz.prog afQ alo aln arc Tryz.f75 wJ.ps wJ.res=wJ.fn:=by kernel_rfl
theorem yJ:aB Tryz.prog G0 75 acQ:=ai (ak ⟨ay,(aj afq ae),ap,ae,an⟩ Tryz.func75 rfl (by kernel_rfl))
theorem aeH:TOk acQ wJ:=aC (E:=afQ) (ET:=aln) (EnvT.ofX (az (ah akE al)) am au aQ ar) alm rfl
def ag9:Env:=(eZ [(75,acQ)] [274])
def ang:Hints:=(hZ [(3,[1,5,13,14,15]),(7,[1,5,13,14,15,25,26,27]),(10,[1,5,13,14,15,25,26,27,32,33,34])] [])
def ag8:SFn:=runF Tryz.prog ag9 ang Tryz.f74
def arK:TH:={ loops:=[(3,{ keep:=[(5,(.mp 0)),(15,(.int .i64))],mem:=[.map tT13 .bool] }),(7,{ keep:=[(5,(.mp 0)),(27,(.int .i64))],mem:=[.map tT13 .bool,.gone] }),(10,{ keep:=[(5,(.mp 0)),(34,(.int .i64))],mem:=[.map tT13 .bool,.gone,.gone] })],ro:=[] }
def oK (y7:vV10) (x3:vV1) (y10:vV10):Option (vV10⊕(vV10⊕(vV10⊕(List (vV2×Bool))))) :=
 cond (decide (y10.1<(x3.2.2.2.2.1.length:Int))) (
(atI x3.2.2.2.2.1 y10.1).bind fun x4 =>
 some (.inl ((IntKind.wrap .i64 (y10.1+1)),(putK tT13 x4 true y10.2.1),()))) (
 some (.inr (.inl ((IntKind.wrap .i64 (y7.1+1)),y10.2.1,()))))
def uW (y3:vV10) (x1:vV4) (y7:vV10):Option (vV10⊕(vV10⊕(List (vV2×Bool)))) :=
 cond (decide (y7.1<(x1.2.2.2.2.1.length:Int))) (
(atI x1.2.2.2.2.1 y7.1).bind fun x3 =>
 aJ (oK y7 x3) (0,y7.2.1,())) (
 some (.inr (.inl ((IntKind.wrap .i64 (y3.1+1)),y7.2.1,()))))
def uX (a0:List vV4) (a1:List vV2) (y3:vV10):Option (vV10⊕(List (vV2×Bool))) :=
 cond (decide (y3.1<(a0.length:Int))) (
(atI a0 y3.1).bind fun x1 =>
(zcj a1 x1.1).bind fun r2 =>
 cond (!r2) (
 some (.inl ((IntKind.wrap .i64 (y3.1+1)),y3.2.1,()))) (
 aJ (uW y3 x1) (0,y3.2.1,()))) (
 some (.inr y3.2.1))
def zbg (a0:List vV4) (a1:List vV2):Option (List (vV2×Bool)) :=
 aJ (uX a0 a1) (0,[],())
def acY:TNew:={ ps:=(.cons (.sl tT16) (.cons (.sl tT13) .unit)),e:=143,t:=(.sl (.cons tT13 .bool)),fn:=fun v=>zbg v.1 v.2.1,mp:=true }
def anf:TEnv:={ pure:=[(75,wJ)],look:=[],glob:=G0T,ty:=[(4,.bool),(146,tT13)],raw:=[],fresh:=[] }
theorem ane:aqu Tryz.prog ag9 ang anf arK Tryz.f74 acY.ps tT13 .bool=acY.fn:=by kernel_rfl
theorem ag7:bL Tryz.prog G0 74 ag8:=ak ⟨ay,(aj yJ ae),ap,ae,an⟩ Tryz.func74 rfl (by kernel_rfl)
theorem anc:TNewOk ag8 acY:=ad2 (E:=ag9) (ET:=anf) (EnvT.ofX (az (ah aeH al)) am au aQ ar) ane
def afj:Env:={ pure:=[(75,acQ)],raw:=[(74,ag8)],glob:=G0,same:=[274],look:=[],ext:=[] }
def akv:Hints:=(hZ [(4,[1,5,6,15,16,17]),(8,[1,5,6,8,15,16,17,27,28,29])] [])
def acN:PFn:=aH (runF Tryz.prog afj akv Tryz.f19)
def aqX:TH:={ loops:=[(4,{ keep:=[(5,(.mp 0)),(6,(.own 4)),(17,(.int .i64))],mem:=[.map tT13 .bool,.gone,.gone,.gone,.row true 148 tT18] }),(8,{ keep:=[(5,(.mp 0)),(6,(.own 4)),(8,(.bx 5 0)),(29,(.int .i64))],mem:=[.map tT13 .bool,.gone,.gone,.gone,.row true 148 tT18,.box 78 tT16] })],ro:=[] }
def uH (y4:(Int×List (vV2×Bool)×List vV6×Unit)) (x2:vV4) (y8:(Int×List (vV2×Bool)×List vV6×vV4×Unit)):Option ((Int×List (vV2×Bool)×List vV6×vV4×Unit)⊕((Int×List (vV2×Bool)×List vV6×Unit)⊕List vV6)) :=
 cond (decide (y8.1<(x2.2.2.2.2.1.length:Int))) (
(atI x2.2.2.2.2.1 y8.1).bind fun x4 =>
 cond (decide (x4.1=1)) (cond (!((getK tT13 false (y8.2.2.2.1.1,y8.1,()) y8.2.1).1)) (
(dN (y8.2.2.1.length+([((y8.2.2.2.1.1,y8.1,()),x4,y8.2.2.2.1.2.2.1,())]:List vV6).length)).bind fun u5 =>
 some (.inl ((IntKind.wrap .i64 (y8.1+1)),y8.2.1,(y8.2.2.1++([((y8.2.2.2.1.1,y8.1,()),x4,y8.2.2.2.1.2.2.1,())]:List vV6)),y8.2.2.2.1,()))) (
 some (.inl ((IntKind.wrap .i64 (y8.1+1)),y8.2.1,y8.2.2.1,y8.2.2.2.1,())))) (cond (decide (x4.1=2)) (cond (!((getK tT13 false (y8.2.2.2.1.1,y8.1,()) y8.2.1).1)) (
(dN (y8.2.2.1.length+([((y8.2.2.2.1.1,y8.1,()),x4,y8.2.2.2.1.2.2.1,())]:List vV6).length)).bind fun u6 =>
 some (.inl ((IntKind.wrap .i64 (y8.1+1)),y8.2.1,(y8.2.2.1++([((y8.2.2.2.1.1,y8.1,()),x4,y8.2.2.2.1.2.2.1,())]:List vV6)),y8.2.2.2.1,()))) (
 some (.inl ((IntKind.wrap .i64 (y8.1+1)),y8.2.1,y8.2.2.1,y8.2.2.2.1,())))) (cond (decide (x4.1=3)) (cond (!((getK tT13 false (y8.2.2.2.1.1,y8.1,()) y8.2.1).1)) (
(dN (y8.2.2.1.length+([((y8.2.2.2.1.1,y8.1,()),x4,y8.2.2.2.1.2.2.1,())]:List vV6).length)).bind fun u7 =>
 some (.inl ((IntKind.wrap .i64 (y8.1+1)),y8.2.1,(y8.2.2.1++([((y8.2.2.2.1.1,y8.1,()),x4,y8.2.2.2.1.2.2.1,())]:List vV6)),y8.2.2.2.1,()))) (
 some (.inl ((IntKind.wrap .i64 (y8.1+1)),y8.2.1,y8.2.2.1,y8.2.2.2.1,())))) (some (.inl ((IntKind.wrap .i64 (y8.1+1)),y8.2.1,y8.2.2.1,y8.2.2.2.1,())))))) (
 some (.inr (.inl ((IntKind.wrap .i64 (y4.1+1)),y8.2.1,y8.2.2.1,()))))
def uI (a0:List vV4) (a1:List vV2) (y4:(Int×List (vV2×Bool)×List vV6×Unit)):Option ((Int×List (vV2×Bool)×List vV6×Unit)⊕List vV6) :=
 cond (decide (y4.1<(a0.length:Int))) (
(atI a0 y4.1).bind fun x2 =>
(zcj a1 x2.1).bind fun r3 =>
 cond (!r3) (
 some (.inl ((IntKind.wrap .i64 (y4.1+1)),y4.2.1,y4.2.2.1,()))) (
 aJ (uH y4 x2) (0,y4.2.1,y4.2.2.1,x2,()))) (
 some (.inr y4.2.2.1))
def zcy (a0:List vV4) (a1:List vV2):Option (List vV6) :=
(zbg a0 a1).bind fun n1 =>
 aJ (uI a0 a1) (0,n1,[],())
def wH:TFn:={ ps:=(.cons (.sl tT16) (.cons (.sl tT13) .unit)),res:=(.sl tT18),fn:=fun v=>zcy v.1 v.2.1 }
def aku:TEnv:={ pure:=[(75,wJ)],look:=[],glob:=G0T,ty:=[(148,tT18)],raw:=[],fresh:=[(74,acY)] }
theorem akt:runY Tryz.prog afj akv aku aqX Tryz.f19 wH.ps wH.res=wH.fn:=by kernel_rfl
theorem yp:aB Tryz.prog G0 19 acN:=ai (ak ⟨ay,(aj yJ ae),(bv ag7 ap),ae,an⟩ Tryz.func19 rfl (by kernel_rfl))
theorem aeE:TOk acN wH:=aC (E:=afj) (ET:=aku) (EnvT.ofX (az (ah aeH al)) am (iG au rfl) aQ (iN anc rfl rfl rfl ar)) akt rfl
def age:Env:=(eZ [] [274])
def alZ:Hints:=(hZ [] [])
def acT:PFn:=aH (runF Tryz.prog age alZ Tryz.f124)
def aro:TH:={ joins:=[(6,{ keep:=[(6,.bool)],mem:=[] })],loops:=[],ro:=[] }
def zc1 (a0:Int):Option Int :=
 cond (decide (a0=1)) (
 some 1) (
(cond (decide (a0=2)) (
 some (.inl ((decide (a0=2)),()))) (
 some (.inl ((decide (a0=4)),()))):Option ((Bool×Unit)⊕Int)).bind (be fun v1 =>
 cond v1.1 (
 some 2) (
 cond (decide (a0=3)) (
 some 3) (
 some 0))))
def wM:TFn:={ ps:=tT15,res:=(.int .i64),fn:=fun v=>zc1 v.1 }
def alY:TEnv:=(vZ [])
theorem alX:runY Tryz.prog age alZ alY aro Tryz.f124 wM.ps wM.res=wM.fn:=by kernel_rfl
theorem yT:aB Tryz.prog G0 124 acT:=ai (ak ⟨ay,ae,ap,ae,an⟩ Tryz.func124 rfl (by kernel_rfl))
theorem aeK:TOk acT wM:=aC (E:=age) (ET:=alY) (EnvT.ofX (az al) am au aQ ar) alX rfl
def ai8:Env:=(eZ [] [274])
def ap4:Hints:=(hZ [] [])
def adp:PFn:=aH (runF Tryz.prog ai8 ap4 Tryz.f330)
def aso:TH:=yZ
def za2 (a0:List UInt8):Option Bool :=
 some (!decide (a0=a0))
def aan:TFn:={ ps:=(.cons .str .unit),res:=.bool,fn:=fun v=>za2 v.1 }
def ap3:TEnv:=(vZ [])
theorem ap2:runY Tryz.prog ai8 ap4 ap3 aso Tryz.f330 aan.ps aan.res=aan.fn:=by kernel_rfl
theorem ai7:aB Tryz.prog G0 330 adp:=ai (ak ⟨ay,ae,ap,ae,an⟩ Tryz.func330 rfl (by kernel_rfl))
theorem ap1:TOk adp aan:=aC (E:=ai8) (ET:=ap3) (EnvT.ofX (az al) am au aQ ar) ap2 rfl
def ahW:Env:=(eZ [(330,adp)] [274])
def aoy:Hints:=(hZ [] [])
def ac8:PFn:=aH (runF Tryz.prog ahW aoy Tryz.f287)
def ar5:TH:=yZ
def zav (a0:List UInt8) (a1:List UInt8):Option Int :=
(za2 a0).bind fun r1 =>
(za2 a1).bind fun r2 =>
 cond r1 (
 cond r2 (
 some 0) (
 some (-1))) (
 cond r2 (
 some 1) (
 cond (Op.bytesLess a0 a1) (
 some (-1)) (
 cond (!(Op.bytesLess a0 a1||decide (a0=a1))) (
 some 1) (
 some 0))))
def zZ:TFn:={ ps:=(.cons .str (.cons .str .unit)),res:=(.int .i64),fn:=fun v=>zav v.1 v.2.1 }
def aox:TEnv:=(vZ [(330,aan)])
theorem aow:runY Tryz.prog ahW aoy aox ar5 Tryz.f287 zZ.ps zZ.res=zZ.fn:=by kernel_rfl
theorem ahV:aB Tryz.prog G0 287 ac8:=ai (ak ⟨ay,(aj ai7 ae),ap,ae,an⟩ Tryz.func287 rfl (by kernel_rfl))
theorem aov:TOk ac8 zZ:=aC (E:=ahW) (ET:=aox) (EnvT.ofX (az (ah ap1 al)) am au aQ ar) aow rfl
def ah5:Env:=(eZ [(287,ac8)] [274])
def aoK:Hints:=(hZ [(2,[0,1,9,10,11])] [])
def adb:PFn:=aH (runF Tryz.prog ah5 aoK Tryz.f225)
def ar8:TH:={ joins:=[(11,{ keep:=[],mem:=[] })],loops:=[(2,{ keep:=[(11,(.int .i64))],mem:=[] })],ro:=[] }
def iu (a0:List (List UInt8)) (a1:List (List UInt8)) (y2:(Int×Unit)):Option ((Int×Unit)⊕(Unit⊕Int)) :=
 cond (decide (y2.1<(a0.length:Int))) (
(atI a0 y2.1).bind fun x1 =>
 cond (decide (y2.1≥(a1.length:Int))) (
 some (.inr (.inr 1))) (
(atI a1 y2.1).bind fun x2 =>
(zav x1 x2).bind fun r3 =>
 cond (!decide (r3=0)) (
 some (.inr (.inr r3))) (
 some (.inl ((IntKind.wrap .i64 (y2.1+1)),()))))) (
 some (.inr (.inl ())))
def zar (a0:List (List UInt8)) (a1:List (List UInt8)):Option Int :=
(aJ (iu a0 a1) (0,()):Option (Unit⊕Int)).bind (be fun v4 =>
 cond (decide ((a0.length:Int)<(a1.length:Int))) (
 some (-1)) (
 some 0))
def aaa:TFn:={ ps:=(.cons (.sl .str) tT21),res:=(.int .i64),fn:=fun v=>zar v.1 v.2.1 }
def aoJ:TEnv:=(vZ [(287,zZ)])
theorem aoI:runY Tryz.prog ah5 aoK aoJ ar8 Tryz.f225 aaa.ps aaa.res=aaa.fn:=by kernel_rfl
theorem ah4:aB Tryz.prog G0 225 adb:=ai (ak ⟨ay,(aj ahV ae),ap,ae,an⟩ Tryz.func225 rfl (by kernel_rfl))
theorem aoH:TOk adb aaa:=aC (E:=ah5) (ET:=aoJ) (EnvT.ofX (az (ah aov al)) am au aQ ar) aoI rfl
def agX:Env:=(eZ [(225,adb)] [274])
def amZ:Hints:=(hZ [] [])
def zy:PFn:=aH (runF Tryz.prog agX amZ Tryz.f155)
def arG:TH:=yZ
def zbk (a0:List (List UInt8)) (a1:List (List UInt8)):Option Int :=
(zar a0 a1).bind fun r1 =>
 some r1
def wQ:TFn:={ ps:=(.cons (.sl .str) tT21),res:=(.int .i64),fn:=fun v=>zbk v.1 v.2.1 }
def amY:TEnv:=(vZ [(225,aaa)])
theorem amX:runY Tryz.prog agX amZ amY arG Tryz.f155 wQ.ps wQ.res=wQ.fn:=by kernel_rfl
theorem zx:aB Tryz.prog G0 155 zy:=ai (ak ⟨ay,(aj ah4 ae),ap,ae,an⟩ Tryz.func155 rfl (by kernel_rfl))
theorem aeO:TOk zy wQ:=aC (E:=agX) (ET:=amY) (EnvT.ofX (az (ah aoH al)) am au aQ ar) amX rfl
def ahb:Env:=(eZ [(154,sG),(155,zy),(156,sR)] [274])
def anj:Hints:=(hZ [] [])
def zD:PFn:=aH (runF Tryz.prog ahb anj Tryz.f126)
def arL:TH:={ loops:=[],ro:=[2,3] }
def zbf (a0:vV5) (a1:vV5):Option Int :=
(zbk a0.1 a1.1).bind fun r1 =>
(za5 a0.2.1 a1.2.1).bind fun r2 =>
(zck ([r1,r2]:List Int)).bind fun r3 =>
 some r3
def zC:TFn:={ ps:=(.cons tT20 (.cons tT20 .unit)),res:=(.int .i64),fn:=fun v=>zbf v.1 v.2.1 }
def ani:TEnv:={ pure:=[(154,ql),(155,wQ),(156,qt)],look:=[],glob:=G0T,ty:=[(3,(.int .i64))],raw:=[],fresh:=[] }
theorem anh:runY Tryz.prog ahb anj ani arL Tryz.f126 zC.ps zC.res=zC.fn:=by kernel_rfl
theorem aha:aB Tryz.prog G0 126 zD:=ai (ak ⟨ay,(aj oJ (aj zx (aj oM ae))),ap,ae,an⟩ Tryz.func126 rfl (by kernel_rfl))
theorem aeP:TOk zD zC:=aC (E:=ahb) (ET:=ani) (EnvT.ofX (az (ah uM (ah aeO (ah vh al)))) am au aQ ar) anh rfl
theorem ac2 : @aB ⟨True⟩ Tryz.prog G0 226 ac3:=by
 letI:Drawn:=⟨True⟩
 exact ai (ak ⟨ay,ae,ap,ae,an⟩ Tryz.func226 rfl (by kernel_rfl))
theorem vi : @aB ⟨True⟩ Tryz.prog G0 156 sR:=by
 letI:Drawn:=⟨True⟩
 exact ai (ak ⟨ay,(aj ac2 ae),ap,ae,an⟩ Tryz.func156 rfl (by kernel_rfl))
theorem uN : @aB ⟨True⟩ Tryz.prog G0 154 sG:=by
 letI:Drawn:=⟨True⟩
 exact ai (ak ⟨ay,ae,ap,ae,an⟩ Tryz.func154 rfl (by kernel_rfl))
theorem ado : @aB ⟨True⟩ Tryz.prog G0 330 adp:=by
 letI:Drawn:=⟨True⟩
 exact ai (ak ⟨ay,ae,ap,ae,an⟩ Tryz.func330 rfl (by kernel_rfl))
theorem ac7 : @aB ⟨True⟩ Tryz.prog G0 287 ac8:=by
 letI:Drawn:=⟨True⟩
 exact ai (ak ⟨ay,(aj ado ae),ap,ae,an⟩ Tryz.func287 rfl (by kernel_rfl))
theorem ada : @aB ⟨True⟩ Tryz.prog G0 225 adb:=by
 letI:Drawn:=⟨True⟩
 exact ai (ak ⟨ay,(aj ac7 ae),ap,ae,an⟩ Tryz.func225 rfl (by kernel_rfl))
theorem acX : @aB ⟨True⟩ Tryz.prog G0 155 zy:=by
 letI:Drawn:=⟨True⟩
 exact ai (ak ⟨ay,(aj ada ae),ap,ae,an⟩ Tryz.func155 rfl (by kernel_rfl))
theorem acZ : @aB ⟨True⟩ Tryz.prog G0 126 zD:=by
 letI:Drawn:=⟨True⟩
 exact ai (ak ⟨ay,(aj uN (aj acX (aj vi ae))),ap,ae,an⟩ Tryz.func126 rfl (by kernel_rfl))
def aiB:Go.Shelf.Ren:=⟨fun | 6=>125 | 14=>200 | 15=>201 | 20=>260 | 21=>261 | 22=>262 | 23=>263 | 24=>264 | 25=>265 | 26=>266 | 27=>267 | 28=>268 | 29=>269 | 46=>315 | 47=>316 | 48=>317 | 49=>318 | 50=>319 | 57=>351 | n=>n,fun | 0=>0 | 3=>3 | 4=>4 | 5=>5 | 9=>9 | 22=>104 | 24=>109 | 25=>199 | 39=>230 | 45=>314 | 46=>315 | 50=>161 | 53=>321 | 55=>323 | 66=>354 | 70=>358 | 76=>378 | 77=>283 | n=>n,fun | n=>n⟩
theorem adj:Go.Proofs.SlLaysF0.n6 Tryz.prog aiB:={
 mixed:=by kernel_rfl
 f6:=⟨Tryz.f125.name,by decide,Tryz.func125.trans (congrArg some (by kernel_rfl))⟩
 f14:=⟨Tryz.f200.name,by decide,Tryz.func200.trans (congrArg some (by kernel_rfl))⟩
 f15:=Tryz.func201.trans (congrArg some (by kernel_rfl))
 f20:=⟨Tryz.f260.name,by decide,Tryz.func260.trans (congrArg some (by kernel_rfl))⟩
 f21:=⟨Tryz.f261.name,by decide,Tryz.func261.trans (congrArg some (by kernel_rfl))⟩
 f22:=⟨Tryz.f262.name,by decide,Tryz.func262.trans (congrArg some (by kernel_rfl))⟩
 f23:=⟨Tryz.f263.name,by decide,Tryz.func263.trans (congrArg some (by kernel_rfl))⟩
 f24:=⟨Tryz.f264.name,by decide,Tryz.func264.trans (congrArg some (by kernel_rfl))⟩
 f25:=⟨Tryz.f265.name,by decide,Tryz.func265.trans (congrArg some (by kernel_rfl))⟩
 f26:=⟨Tryz.f266.name,by decide,Tryz.func266.trans (congrArg some (by kernel_rfl))⟩
 f27:=⟨Tryz.f267.name,by decide,Tryz.func267.trans (congrArg some (by kernel_rfl))⟩
 f28:=Tryz.func268.trans (congrArg some (by kernel_rfl))
 f29:=Tryz.func269.trans (congrArg some (by kernel_rfl))
 f46:=⟨Tryz.f315.name,by decide,Tryz.func315.trans (congrArg some (by kernel_rfl))⟩
 f47:=Tryz.func316.trans (congrArg some (by kernel_rfl))
 f48:=Tryz.func317.trans (congrArg some (by kernel_rfl))
 f49:=⟨Tryz.f318.name,by decide,Tryz.func318.trans (congrArg some (by kernel_rfl))⟩
 f50:=⟨Tryz.f319.name,by decide,Tryz.func319.trans (congrArg some (by kernel_rfl))⟩
 f57:=⟨Tryz.f351.name,by decide,Tryz.func351.trans (congrArg some (by kernel_rfl))⟩
 t0:=Tryz.underlying0
 a0:=Tryz.isAgg0
 z0:=Tryz.sizeOf0
 v0:=Tryz.zeroValue0
 t3:=Tryz.underlying3
 a3:=Tryz.isAgg3
 z3:=Tryz.sizeOf3
 v3:=Tryz.zeroValue3
 t4:=Tryz.underlying4
 a4:=Tryz.isAgg4
 z4:=Tryz.sizeOf4
 v4:=Tryz.zeroValue4
 t5:=Tryz.underlying5
 a5:=Tryz.isAgg5
 z5:=Tryz.sizeOf5
 v5:=Tryz.zeroValue5
 t9:=Tryz.underlying9
 a9:=Tryz.isAgg9
 z9:=Tryz.sizeOf9
 v9:=Tryz.zeroValue9
 t22:=Tryz.underlying104
 a22:=Tryz.isAgg104
 z22:=Tryz.sizeOf104
 v22:=Tryz.zeroValue104
 t25:=Tryz.underlying199
 a25:=Tryz.isAgg199
 z25:=Tryz.sizeOf199
 v25:=Tryz.zeroValue199
 t39:=Tryz.underlying230
 a39:=Tryz.isAgg230
 z39:=Tryz.sizeOf230
 v39:=Tryz.zeroValue230
 t45:=Tryz.underlying314
 a45:=Tryz.isAgg314
 z45:=Tryz.sizeOf314
 v45:=Tryz.zeroValue314
 t46:=Tryz.underlying315
 a46:=Tryz.isAgg315
 z46:=Tryz.sizeOf315
 v46:=Tryz.zeroValue315
 t50:=Tryz.underlying161
 a50:=Tryz.isAgg161
 z50:=Tryz.sizeOf161
 v50:=Tryz.zeroValue161
 t53:=Tryz.underlying321
 a53:=Tryz.isAgg321
 z53:=Tryz.sizeOf321
 v53:=Tryz.zeroValue321
 t55:=Tryz.underlying323
 a55:=Tryz.isAgg323
 z55:=Tryz.sizeOf323
 v55:=Tryz.zeroValue323
 t66:=Tryz.underlying354
 a66:=Tryz.isAgg354
 z66:=Tryz.sizeOf354
 v66:=Tryz.zeroValue354
 t70:=Tryz.underlying358
 a70:=Tryz.isAgg358
 z70:=Tryz.sizeOf358
 v70:=Tryz.zeroValue358
 t76:=Tryz.underlying378
 a76:=Tryz.isAgg378
 z76:=Tryz.sizeOf378
 v76:=Tryz.zeroValue378
 t77:=Tryz.underlying283
 a77:=Tryz.isAgg283
 z77:=Tryz.sizeOf283
 v77:=Tryz.zeroValue283 }
def aiD:SFn:=oT zD 126 2 109
theorem aiC:bL Tryz.prog G0 125 aiD:=kY (M:=2) (g:=126) adj (by decide) (fun w=>Tryz.isAgg109 w) (fun w=>Tryz.sizeOf109 w) acZ ⟨Tryz.f125,Tryz.func125,rfl,by kernel_rfl⟩
def zag (w0:List vV5):Option (Unit×List vV5×Unit):=(mL (fun x y=>zbf x y) w0).map fun l=>((),(l,()))
def apf:TRaw:=aaC false 126 109 tT20 (fun x y=>zbf x y)
theorem ape:TRawOk aiD apf:=vo rfl rfl rfl rfl aeP
def ahm:Env:=(eZ [(126,zD)] [274])
def anC:Hints:=(hZ [] [])
def ahl:PFn:=aH (runF Tryz.prog ahm anC Tryz.f128)
def arQ:TH:={ loops:=[],ro:=[2,3] }
def zba (a0:vV5) (a1:vV5):Option Bool :=
(zbf a0 a1).bind fun r1 =>
 some (decide (r1=0))
def zK:TFn:={ ps:=(.cons tT20 (.cons tT20 .unit)),res:=.bool,fn:=fun v=>zba v.1 v.2.1 }
def anB:TEnv:=(vZ [(126,zC)])
theorem anA:runY Tryz.prog ahm anC anB arQ Tryz.f128 zK.ps zK.res=zK.fn:=by kernel_rfl
theorem ahk:aB Tryz.prog G0 128 ahl:=ai (ak ⟨ay,(aj aha ae),ap,ae,an⟩ Tryz.func128 rfl (by kernel_rfl))
theorem anz:TOk ahl zK:=aC (E:=ahm) (ET:=anB) (EnvT.ofX (az (ah aeP al)) am au aQ ar) anA rfl
def aiK:Env:=(eZ [(128,ahl)] [274])
def apm:Hints:=(hZ [(4,[0,1,5]),(9,[0,1,5,6,7])] [])
def aiJ:SFn:=pI (runF Tryz.prog aiK apm Tryz.f127)
def asd:TH:={ joins:=[(14,{ keep:=[(0,(.own 0)),(5,(.int .i64))],mem:=[.row false 109 tT20] })],loops:=[(4,{ keep:=[(0,(.own 0)),(5,(.int .i64))],mem:=[.row false 109 tT20] }),(9,{ keep:=[(0,(.own 0)),(5,(.int .i64)),(6,(.vw 0)),(7,(.int .i64))],mem:=[.row false 109 tT20] })],ro:=[] }
def nb (y9:(Int×(Nat×Nat)×Int×List vV5×Unit)):Option ((Int×(Nat×Nat)×Int×List vV5×Unit)⊕((Int×List vV5×Unit)⊕((Int×List vV5×Unit)⊕(List vV5)))) :=
 cond (decide (y9.2.2.1<(y9.2.1.2:Int))) (
 cond y9.2.2.2.1.isEmpty (none) ((inI y9.2.1.2 y9.2.2.1).bind fun i7 =>
(y9.2.2.2.1[(y9.2.1.1+i7)]?).bind fun x8 =>
 cond y9.2.2.2.1.isEmpty (none) ((inI y9.2.1.2 (IntKind.wrap .i64 (y9.2.2.1-1))).bind fun i9 =>
(y9.2.2.2.1[(y9.2.1.1+i9)]?).bind fun x10 =>
(zba x8 x10).bind fun r11 =>
 cond (!r11) (
 cond y9.2.2.2.1.isEmpty (none) ((inI y9.2.1.2 y9.2.2.1).bind fun i12 =>
(y9.2.2.2.1[(y9.2.1.1+i12)]?).bind fun x13 =>
(inI y9.2.2.2.1.length y9.1).bind fun i14 =>
(y9.2.2.2.1[i14]?).bind fun x15 =>
 some (.inl ((IntKind.wrap .i64 (y9.1+1)),y9.2.1,(IntKind.wrap .i64 (y9.2.2.1+1)),(y9.2.2.2.1.set i14 x13),())))) (
 some (.inl (y9.1,y9.2.1,(IntKind.wrap .i64 (y9.2.2.1+1)),y9.2.2.2.1,())))))) (
 some (.inr (.inl (y9.1,y9.2.2.2.1,()))))
def kL (y4:(Int×List vV5×Unit)):Option ((Int×List vV5×Unit)⊕(List vV5)) :=
 cond (decide (y4.1<(y4.2.1.length:Int))) (
(inI y4.2.1.length y4.1).bind fun i1 =>
(y4.2.1[i1]?).bind fun x2 =>
(inI y4.2.1.length (IntKind.wrap .i64 (y4.1-1))).bind fun i3 =>
(y4.2.1[i3]?).bind fun x4 =>
(zba x2 x4).bind fun r5 =>
 cond r5 (
 cond y4.2.1.isEmpty (none) ((kR (y4.2.1.length) y4.1 (y4.2.1.length:Int)).bind fun p6 =>
(aJ (nb) (y4.1,p6,1,y4.2.1,()):Option ((Int×List vV5×Unit)⊕((Int×List vV5×Unit)⊕(List vV5)))).bind (be fun v16 =>
 cond v16.2.1.isEmpty (none) ((kR (v16.2.1.length) v16.1 (v16.2.1.length:Int)).bind fun p17 =>
 cond v16.2.1.isEmpty (none) ((if p17.1+p17.2≤v16.2.1.length then some () else none).bind fun u18 =>
 cond (v16.2.1.take p17.1++List.replicate p17.2 ([],0,())++v16.2.1.drop (p17.1+p17.2)).isEmpty (none) ((kR ((v16.2.1.take p17.1++List.replicate p17.2 ([],0,())++v16.2.1.drop (p17.1+p17.2)).length) 0 v16.1).bind fun p19 =>
(cond (v16.2.1.take p17.1++List.replicate p17.2 ([],0,())++v16.2.1.drop (p17.1+p17.2)).isEmpty none (if p19.1+p19.2≤(v16.2.1.take p17.1++List.replicate p17.2 ([],0,())++v16.2.1.drop (p17.1+p17.2)).length then some (((v16.2.1.take p17.1++List.replicate p17.2 ([],0,())++v16.2.1.drop (p17.1+p17.2)).drop p19.1).take p19.2) else none)).map .inr)))))) (
 some (.inl ((IntKind.wrap .i64 (y4.1+1)),y4.2.1,())))) (
 some (.inr y4.2.1))
def aiH (w0:List vV5):Option (List vV5) :=
 cond (decide ((w0.length:Int)<2)) (
 some w0) (
 aJ (kL) (1,w0,()))
def zae (w0:List vV5):Option (List vV5×Unit):=(aiH w0).map fun l=>(l,())
def apl:TRaw:={ ps:=(.cons (.own 0) (.cons (.fn 128) .unit)),ins:=[.row false 109 tT20],res:=(.sl tT20),outs:=[.gone],fn:=fun v w=>zae w.1 }
def apk:TEnv:=(vZ [(128,zK)])
theorem apj:aej Tryz.prog aiK apm apk asd Tryz.f127 (.cons (.own 0) (.cons (.fn 128) .unit)) false 109 tT20=fun _ w=>aiH w:=by kernel_rfl
theorem aiI:bL Tryz.prog G0 127 aiJ:=lX (ak ⟨ay,(aj ahk ae),ap,ae,an⟩ Tryz.func127 rfl (by kernel_rfl))
theorem api:TRawOk aiJ apl:=vU (E:=aiK) (ET:=apk) (EnvT.ofX (az (ah anz al)) am au aQ ar) apj
def agA:Env:={ pure:=[(72,wS),(124,acT)],raw:=[(125,aiD),(127,aiJ)],glob:=G0,same:=[274],look:=[],ext:=[] }
def amr:Hints:=(hZ [(3,[3,6,7,8])] [])
def agz:PFn:=aH (runF Tryz.prog agA amr Tryz.f55)
def arw:TH:={ joins:=[(7,{ keep:=[(3,(.own 1))],mem:=[.gone,.row true 109 tT20] })],loops:=[(3,{ keep:=[(3,(.own 1)),(8,(.int .i64))],mem:=[.gone,.row true 109 tT20] })],ro:=[] }
def uS (a0:List vV6) (y3:(Int×List vV5×Unit)):Option ((Int×List vV5×Unit)⊕((List vV5×Unit)⊕List vV5)) :=
 cond (decide (y3.1<(a0.length:Int))) (
(atI a0 y3.1).bind fun x1 =>
(zas x1.2.1.2.1).bind fun r2 =>
(zc1 x1.2.1.1).bind fun r3 =>
(dN (y3.2.1.length+([(r2,r3,())]:List vV5).length)).bind fun u4 =>
 some (.inl ((IntKind.wrap .i64 (y3.1+1)),(y3.2.1++([(r2,r3,())]:List vV5)),()))) (
 some (.inr (.inl (y3.2.1,()))))
def zbu (a0:List vV6):Option (List vV5) :=
(aJ (uS a0) (0,[],()):Option ((List vV5×Unit)⊕List vV5)).bind (be fun v5 =>
(zag v5.1).bind fun q6 =>
(zae q6.2.1).bind fun q7 =>
 some q7.1)
def zd:TFn:={ ps:=(.cons (.sl tT18) .unit),res:=(.sl tT20),fn:=fun v=>zbu v.1 }
def amq:TEnv:={ pure:=[(72,z8),(124,wM)],look:=[],glob:=G0T,ty:=[(109,tT20)],raw:=[(125,apf),(127,apl)],fresh:=[] }
theorem amp:runY Tryz.prog agA amr amq arw Tryz.f55 zd.ps zd.res=zd.fn:=by kernel_rfl
theorem agy:aB Tryz.prog G0 55 agz:=ai (ak ⟨ay,(aj oL (aj yT ae)),(bv aiC (bv aiI ap)),ae,an⟩ Tryz.func55 rfl (by kernel_rfl))
theorem amo:TOk agz zd:=aC (E:=agA) (ET:=amq) (EnvT.ofX (az (ah vf (ah aeK al))) am (ci ape rfl rfl (ci api rfl rfl au)) aQ ar) amp rfl
def afB:Env:=(eZ [] [274])
def akY:Hints:=(hZ [(3,[0,1,5,6,7,8]),(14,[0,5])] [])
def afA:PFn:=aH (runF Tryz.prog afB akY Tryz.f331)
def aq5:TH:={ joins:=[(14,{ keep:=[(5,(.int .i64))],mem:=[] }),(12,{ keep:=[(6,(.int .i64)),(7,(.int .i64))],mem:=[] }),(5,{ keep:=[(13,.bool)],mem:=[] }),(16,{ keep:=[(5,(.int .i64))],mem:=[] })],loops:=[(3,{ keep:=[(5,(.int .i64)),(6,(.int .i64)),(7,(.int .i64)),(8,(.int .i64))],mem:=[] }),(14,{ keep:=[(5,(.int .i64))],mem:=[] })],ro:=[] }
def dY (a0:List (Int×Int×Unit)) (a1:List Int) (y3:(Int×Int×Int×Int×Unit)):Option ((Int×Int×Int×Int×Unit)⊕((Int×Unit)⊕Bool)) :=
 cond (decide (y3.2.2.2.1<(a1.length:Int))) (
((cond (decide (y3.1<(a0.length:Int))) ((atI a0 y3.1).bind fun x1 =>
 some (.inl ((decide (x1.1=2)),()))) (some (.inl (false,()))):Option ((Bool×Unit)⊕((Int×Int×Unit)⊕((Int×Int×Int×Int×Unit)⊕((Int×Unit)⊕Bool))))).bind (be fun v2 =>
 cond v2.1 (
 some (.inr (.inl ((IntKind.wrap .i64 (y3.1+1)),y3.1,y3.2.2.2.1,y3.2.2.2.1,())))) (
 cond (decide (y3.1<(a0.length:Int))) ((atI a0 y3.1).bind fun x3 =>
 cond (decide (x3.1=1)) (some (.inr (.inl ((IntKind.wrap .i64 (y3.1+1)),y3.2.1,y3.2.2.1,(IntKind.wrap .i64 (y3.2.2.2.1+1)),())))) ((atI a0 y3.1).bind fun x4 =>
(atI a1 y3.2.2.2.1).bind fun x5 =>
 cond (decide (x4.2.1=x5)) (
 some (.inr (.inl ((IntKind.wrap .i64 (y3.1+1)),y3.2.1,y3.2.2.1,(IntKind.wrap .i64 (y3.2.2.2.1+1)),())))) (
 cond (decide (y3.2.1<0)) (
 some (.inr (.inr (.inr false)))) (
 some (.inl (y3.2.1,y3.2.2.1,())))))) (cond (decide (y3.2.1<0)) (
 some (.inr (.inr (.inr false)))) (
 some (.inl (y3.2.1,y3.2.2.1,())))))):Option ((Int×Int×Unit)⊕((Int×Int×Int×Int×Unit)⊕((Int×Unit)⊕Bool)))).bind (be fun v6 =>
 some (.inl ((IntKind.wrap .i64 (v6.1+1)),v6.1,(IntKind.wrap .i64 (v6.2.1+1)),(IntKind.wrap .i64 (v6.2.1+1)),())))) (
 some (.inr (.inl (y3.1,()))))
def jq (a0:List (Int×Int×Unit)) (y14:(Int×Unit)):Option ((Int×Unit)⊕((Int×Unit)⊕Bool)) :=
 cond (decide (y14.1<(a0.length:Int))) ((atI a0 y14.1).bind fun x8 =>
 cond (decide (x8.1=2)) (
 some (.inl ((IntKind.wrap .i64 (y14.1+1)),()))) (
 some (.inr (.inl (y14.1,()))))) (some (.inr (.inl (y14.1,()))))
def zcq (a0:List (Int×Int×Unit)) (a1:List Int):Option Bool :=
(aJ (dY a0 a1) (0,(-1),0,0,()):Option ((Int×Unit)⊕Bool)).bind (be fun v7 =>
(aJ (jq a0) (v7.1,()):Option ((Int×Unit)⊕Bool)).bind (be fun v9 =>
 some (decide (v9.1=(a0.length:Int)))))
def yC:TFn:={ ps:=(.cons (.sl (.agg (.cons (.int .i64) (.cons (.int .i32) .unit)))) (.cons (.sl (.int .i32)) .unit)),res:=.bool,fn:=fun v=>zcq v.1 v.2.1 }
def akX:TEnv:=(vZ [])
theorem akW:runY Tryz.prog afB akY akX aq5 Tryz.f331 yC.ps yC.res=yC.fn:=by kernel_rfl
theorem afz:aB Tryz.prog G0 331 afA:=ai (ak ⟨ay,ae,ap,ae,an⟩ Tryz.func331 rfl (by kernel_rfl))
theorem akV:TOk afA yC:=aC (E:=afB) (ET:=akX) (EnvT.ofX (az al) am au aQ ar) akW rfl
def afT:Env:={ pure:=[(215,acR),(281,adq)],raw:=[],glob:=G0,same:=[274],look:=[(331,afA)],ext:=[] }
def als:Hints:=(hZ [] [20])
def afS:PFn:=aH (runF Tryz.prog afT als Tryz.f289)
def ard:TH:=yZ
def zci (a0:List UInt8) (a1:List UInt8):Option Bool :=
(zcg a0).bind fun r1 =>
 cond r1.2.1 ((za1 a1).bind fun r2 =>
 cond r2 ((zcq r1.1 (qM a1)).bind fun r3 =>
 some r3) (some false)) (some false)
def yK:TFn:={ ps:=(.cons .str (.cons .str .unit)),res:=.bool,fn:=fun v=>zci v.1 v.2.1 }
def alr:TEnv:={ pure:=[(215,wK),(281,wT)],look:=[(331,yC)],glob:=G0T,ty:=[],raw:=[],fresh:=[] }
theorem alq:runY Tryz.prog afT als alr ard Tryz.f289 yK.ps yK.res=yK.fn:=by kernel_rfl
theorem afR:aB Tryz.prog G0 289 afS:=ai (ak ⟨ay,(aj yM (aj aao ae)),ap,(aj afz ae),an⟩ Tryz.func289 rfl (by kernel_rfl))
theorem alp:TOk afS yK:=aC (E:=afT) (ET:=alr) (EnvT.ofX (az (ah aeI (ah aeT al))) (jI akV rfl am) au aQ ar) alq rfl
def zh (F:PFn):Env:=(eZ [(289,afS),(228,F)] [274])
def agC:Hints:=(hZ [(1,[0,1]),(4,[0,1,15,16])] [])
def o7 (F:PFn):PFn:=aH (runF Tryz.prog (zh F) agC Tryz.f228)
def arx:TH:={ joins:=[(13,{ keep:=[(1,(.sl .str))],mem:=[] }),(10,{ keep:=[],mem:=[] })],loops:=[(1,{ keep:=[(0,(.sl .str)),(1,(.sl .str))],mem:=[] }),(4,{ keep:=[(16,(.int .i64))],mem:=[] })],ro:=[] }
def kI (y1:vV9) (rec:(List (List UInt8)×List (List UInt8)×Unit→Option Bool)) (y4:(Int×Unit)):Option ((Int×Unit)⊕(Unit⊕(vV9⊕((List (List UInt8)×Unit)⊕Bool)))) :=
 cond (decide (y4.1<(IntKind.wrap .i64 ((y1.2.1.length:Int)+1)))) (
(subI y1.1 1 (y1.1.length:Int)).bind fun s2 =>
(subI y1.2.1 y4.1 (y1.2.1.length:Int)).bind fun s3 =>
(rec (s2,s3,())).bind fun r4 =>
 cond r4 (
 some (.inr (.inr (.inr (.inr true))))) (
 some (.inl ((IntKind.wrap .i64 (y4.1+1)),())))) (
 some (.inr (.inr (.inr (.inr false)))))
def kJ (rec:(List (List UInt8)×List (List UInt8)×Unit→Option Bool)) (y1:vV9):Option (vV9⊕((List (List UInt8)×Unit)⊕Bool)) :=
 cond (decide ((y1.1.length:Int)>0)) (
((atI y1.1 0).bind fun x1 =>
 cond (decide (x1=[42,42])) (
 aJ (kI y1 rec) (0,())) (
 some (.inl ())):Option (Unit⊕(vV9⊕((List (List UInt8)×Unit)⊕Bool)))).bind (be fun v5 =>
 cond (decide ((y1.2.1.length:Int)=0)) (some (.inr (.inr false))) ((atI y1.1 0).bind fun x6 =>
(atI y1.2.1 0).bind fun x7 =>
(zci x6 x7).bind fun r8 =>
 cond (!r8) (
 some (.inr (.inr false))) (
(subI y1.1 1 (y1.1.length:Int)).bind fun s9 =>
(subI y1.2.1 1 (y1.2.1.length:Int)).bind fun s10 =>
 some (.inl (s9,s10,())))))) (
 some (.inr (.inl (y1.2.1,()))))
def bP (rec:(vV9→Option Bool)) (a0:List (List UInt8)) (a1:List (List UInt8)):Option Bool :=
(aJ (kJ rec) (a0,a1,()):Option ((List (List UInt8)×Unit)⊕Bool)).bind (be fun v11 =>
 some (decide ((v11.1.length:Int)=0)))
def gj:(vV9→Option Bool):=fixT fun rec v=>bP rec v.1 v.2.1
def zbt (a0:List (List UInt8)) (a1:List (List UInt8)):Option Bool:=gj (a0,a1,())
def ze:TFn:={ ps:=(.cons (.sl .str) tT21),res:=.bool,fn:=fixT fun (rec:(vV9→Option Bool)) v=>bP rec v.1 v.2.1 }
def agE:PFn:=fixF o7 ze
def agB (rec:(vV9→Option Bool)):TEnv:=(vZ [(289,yK),(228,{ ps:=(.cons (.sl .str) tT21),res:=.bool,fn:=rec })])
theorem amt (F:PFn) (rec:(vV9→Option Bool)):runY Tryz.prog (zh F) agC (agB rec) arx Tryz.f228 ze.ps ze.res=fun v=>bP rec v.1 v.2.1:=by kernel_rfl
theorem agD:aB Tryz.prog G0 228 agE:=aaW ⟨Tryz.f228,Tryz.func228,rfl,by kernel_rfl⟩ fun F hF=>ai (ak (P:=Tryz.prog) (E:=zh F) (h:=agC) (f:=228) (fn:=Tryz.f228) ⟨ay,(aj afR (aj hF ae)),ap,ae,an⟩ Tryz.func228 rfl (by kernel_rfl))
theorem ams:TOk agE ze:=aql rfl fun F rec hF=>aC (E:=zh F) (ET:=agB rec) (EnvT.ofX (E:=zh F) (ET:=agB rec) (az (ah alp (ah hF al))) am au aQ ar) (amt F rec) rfl
def agS:Env:=(eZ [(71,acU),(228,agE)] [274])
def amP:Hints:=(hZ [] [])
def agR:PFn:=aH (runF Tryz.prog agS amP Tryz.f162)
def arD:TH:=yZ
def zbn (a0:List (List UInt8)) (a1:List (List UInt8)):Option Bool :=
(zbs a0).bind fun r1 =>
 cond (decide (r1=0)) ((zbt a0 a1).bind fun r2 =>
 some r2) (some false)
def zr:TFn:={ ps:=(.cons (.sl .str) tT21),res:=.bool,fn:=fun v=>zbn v.1 v.2.1 }
def amO:TEnv:=(vZ [(71,wN),(228,ze)])
theorem amN:runY Tryz.prog agS amP amO arD Tryz.f162 zr.ps zr.res=zr.fn:=by kernel_rfl
theorem agQ:aB Tryz.prog G0 162 agR:=ai (ak ⟨ay,(aj zi (aj agD ae)),ap,ae,an⟩ Tryz.func162 rfl (by kernel_rfl))
theorem amM:TOk agR zr:=aC (E:=agS) (ET:=amO) (EnvT.ofX (az (ah aeL (ah ams al))) am au aQ ar) amN rfl
def ag6:Env:=(eZ [(55,agz),(162,agR)] [274])
def anb:Hints:=(hZ [(3,[1,5,9,10,11])] [])
def ag5:PFn:=aH (runF Tryz.prog ag6 anb Tryz.f93)
def arJ:TH:={ loops:=[(3,{ keep:=[(5,(.own 1)),(11,(.int .i64))],mem:=[.gone,.row true 109 tT20] })],ro:=[] }
def uV (a1:List (List UInt8)) (r1:List vV5) (y3:(Int×List vV5×Unit)):Option ((Int×List vV5×Unit)⊕List vV5) :=
 cond (decide (y3.1<(r1.length:Int))) (
(atI r1 y3.1).bind fun x2 =>
(zbn a1 x2.1).bind fun r3 =>
 cond r3 (
(dN (y3.2.1.length+([x2]:List vV5).length)).bind fun u4 =>
 some (.inl ((IntKind.wrap .i64 (y3.1+1)),(y3.2.1++([x2]:List vV5)),()))) (
 some (.inl ((IntKind.wrap .i64 (y3.1+1)),y3.2.1,())))) (
 some (.inr y3.2.1))
def zbh (a0:List vV6) (a1:List (List UInt8)):Option (List vV5) :=
(zbu a0).bind fun r1 =>
 aJ (uV a1 r1) (0,[],())
def zB:TFn:={ ps:=(.cons (.sl tT18) tT21),res:=(.sl tT20),fn:=fun v=>zbh v.1 v.2.1 }
def ana:TEnv:={ pure:=[(55,zd),(162,zr)],look:=[],glob:=G0T,ty:=[(109,tT20)],raw:=[],fresh:=[] }
theorem am9:runY Tryz.prog ag6 anb ana arJ Tryz.f93 zB.ps zB.res=zB.fn:=by kernel_rfl
theorem ag4:aB Tryz.prog G0 93 ag5:=ai (ak ⟨ay,(aj agy (aj agQ ae)),ap,ae,an⟩ Tryz.func93 rfl (by kernel_rfl))
theorem am8:TOk ag5 zB:=aC (E:=ag6) (ET:=ana) (EnvT.ofX (az (ah amo (ah amM al))) am au aQ ar) am9 rfl
def ah2:Env:=(eZ [] [274])
def aoG:Hints:=(hZ [(4,[0,1,12,13])] [])
def ah1:PFn:=aH (runF Tryz.prog ah2 aoG Tryz.f196)
def ar7:TH:={ loops:=[(4,{ keep:=[(13,(.int .i64))],mem:=[] })],ro:=[] }
def ve (a0:List (List UInt8)) (a1:List (List UInt8)) (y4:(Int×Unit)):Option ((Int×Unit)⊕Bool) :=
 cond (decide (y4.1<(a0.length:Int))) (
(atI a0 y4.1).bind fun x1 =>
(atI a1 y4.1).bind fun x2 =>
 cond (!decide (x1=x2)) (
 some (.inr false)) (
 some (.inl ((IntKind.wrap .i64 (y4.1+1)),())))) (
 some (.inr true))
def zat (a0:List (List UInt8)) (a1:List (List UInt8)):Option Bool :=
 cond (!decide ((a0.length:Int)=(a1.length:Int))) (
 some false) (
 aJ (ve a0 a1) (0,()))
def z7:TFn:={ ps:=(.cons (.sl .str) tT21),res:=.bool,fn:=fun v=>zat v.1 v.2.1 }
def aoF:TEnv:=(vZ [])
theorem aoE:runY Tryz.prog ah2 aoG aoF ar7 Tryz.f196 z7.ps z7.res=z7.fn:=by kernel_rfl
theorem ah0:aB Tryz.prog G0 196 ah1:=ai (ak ⟨ay,ae,ap,ae,an⟩ Tryz.func196 rfl (by kernel_rfl))
theorem aoD:TOk ah1 z7:=aC (E:=ah2) (ET:=aoF) (EnvT.ofX (az al) am au aQ ar) aoE rfl
def aft:Env:=(eZ [(196,ah1)] [274])
def akK:Hints:=(hZ [] [])
def acO:PFn:=aH (runF Tryz.prog aft akK Tryz.f160)
def aq1:TH:=yZ
def zcu (a0:List (List UInt8)) (a1:List (List UInt8)):Option Bool :=
(zat a0 a1).bind fun r1 =>
 some r1
def wI:TFn:={ ps:=(.cons (.sl .str) tT21),res:=.bool,fn:=fun v=>zcu v.1 v.2.1 }
def akJ:TEnv:=(vZ [(196,z7)])
theorem akI:runY Tryz.prog aft akK akJ aq1 Tryz.f160 wI.ps wI.res=wI.fn:=by kernel_rfl
theorem yw:aB Tryz.prog G0 160 acO:=ai (ak ⟨ay,(aj ah0 ae),ap,ae,an⟩ Tryz.func160 rfl (by kernel_rfl))
theorem aeF:TOk acO wI:=aC (E:=aft) (ET:=akJ) (EnvT.ofX (az (ah aoD al)) am au aQ ar) akI rfl
def afi:Env:=(eZ [(124,acT),(160,acO)] [274])
def aks:Hints:=(hZ [(3,[1,2,7,10,11,12])] [])
def yn:PFn:=aH (runF Tryz.prog afi aks Tryz.f229)
def aqW:TH:={ loops:=[(3,{ keep:=[(7,(.own 1)),(12,(.int .i64))],mem:=[.gone,.row true 148 tT18] })],ro:=[] }
def uG (a0:List vV6) (a1:List (List UInt8)) (a2:Int) (y3:(Int×List vV6×Unit)):Option ((Int×List vV6×Unit)⊕List vV6) :=
 cond (decide (y3.1<(a0.length:Int))) (
(atI a0 y3.1).bind fun x1 =>
(zc1 x1.2.1.1).bind fun r2 =>
 cond (decide (r2=a2)) ((zcu x1.2.1.2.1 a1).bind fun r3 =>
 cond r3 (
(dN (y3.2.1.length+([x1]:List vV6).length)).bind fun u4 =>
 some (.inl ((IntKind.wrap .i64 (y3.1+1)),(y3.2.1++([x1]:List vV6)),()))) (
 some (.inl ((IntKind.wrap .i64 (y3.1+1)),y3.2.1,())))) (some (.inl ((IntKind.wrap .i64 (y3.1+1)),y3.2.1,())))) (
 some (.inr y3.2.1))
def zcz (a0:List vV6) (a1:List (List UInt8)) (a2:Int):Option (List vV6) :=
 aJ (uG a0 a1 a2) (0,[],())
def sA:TFn:={ ps:=(.cons (.sl tT18) (.cons (.sl .str) tT15)),res:=(.sl tT18),fn:=fun v=>zcz v.1 v.2.1 v.2.2.1 }
def akr:TEnv:={ pure:=[(124,wM),(160,wI)],look:=[],glob:=G0T,ty:=[(148,tT18)],raw:=[],fresh:=[] }
theorem akq:runY Tryz.prog afi aks akr aqW Tryz.f229 sA.ps sA.res=sA.fn:=by kernel_rfl
theorem sB:aB Tryz.prog G0 229 yn:=ai (ak ⟨ay,(aj yT (aj yw ae)),ap,ae,an⟩ Tryz.func229 rfl (by kernel_rfl))
theorem ym:TOk yn sA:=aC (E:=afi) (ET:=akr) (EnvT.ofX (az (ah aeK (ah aeF al))) am au aQ ar) akq rfl
def adm:PFn:=cmpF
theorem ai2:aB Tryz.prog G0 291 adm:=rY ⟨Tryz.f291,Tryz.func291,rfl,by kernel_rfl⟩ Tryz.strings_Compare
def za6 (a0:List UInt8) (a1:List UInt8):Option Int:=cmpT a0 a1
def apP:TFn:=acj
theorem apO:TOk adm apP:=aj8
def ahe:Env:=(eZ [(154,sG),(156,sR),(291,adm)] [274])
def anp:Hints:=(hZ [] [])
def zH:PFn:=aH (runF Tryz.prog ahe anp Tryz.f231)
def arN:TH:={ loops:=[],ro:=[2,3] }
def zbd (a0:vV3) (a1:vV3):Option Int :=
(za5 a0.1 a1.1).bind fun r1 =>
(za5 a0.2.1 a1.2.1).bind fun r2 =>
(za6 a0.2.2.1 a1.2.2.1).bind fun r3 =>
(zck ([r1,r2,r3]:List Int)).bind fun r4 =>
 some r4
def zG:TFn:={ ps:=(.cons tT14 (.cons tT14 .unit)),res:=(.int .i64),fn:=fun v=>zbd v.1 v.2.1 }
def ano:TEnv:={ pure:=[(154,ql),(156,qt),(291,apP)],look:=[],glob:=G0T,ty:=[(3,(.int .i64))],raw:=[],fresh:=[] }
theorem ann:runY Tryz.prog ahe anp ano arN Tryz.f231 zG.ps zG.res=zG.fn:=by kernel_rfl
theorem ahd:aB Tryz.prog G0 231 zH:=ai (ak ⟨ay,(aj oJ (aj oM (aj ai2 ae))),ap,ae,an⟩ Tryz.func231 rfl (by kernel_rfl))
theorem aeR:TOk zH zG:=aC (E:=ahe) (ET:=ano) (EnvT.ofX (az (ah uM (ah vh (ah apO al)))) am au aQ ar) ann rfl
theorem adl : @aB ⟨True⟩ Tryz.prog G0 291 adm:=by
 letI:Drawn:=⟨True⟩
 exact rY ⟨Tryz.f291,Tryz.func291,rfl,by kernel_rfl⟩ Tryz.strings_Compare
theorem ac1 : @aB ⟨True⟩ Tryz.prog G0 231 zH:=by
 letI:Drawn:=⟨True⟩
 exact ai (ak ⟨ay,(aj uN (aj vi (aj adl ae))),ap,ae,an⟩ Tryz.func231 rfl (by kernel_rfl))
def aiE:Go.Shelf.Ren:=⟨fun | 6=>230 | 14=>290 | 15=>201 | 20=>332 | 21=>333 | 22=>334 | 23=>335 | 24=>336 | 25=>337 | 26=>338 | 27=>339 | 28=>268 | 29=>269 | 46=>359 | 47=>316 | 48=>317 | 49=>360 | 50=>361 | 57=>374 | n=>n,fun | 0=>0 | 3=>3 | 4=>4 | 5=>5 | 9=>9 | 22=>123 | 24=>132 | 25=>296 | 39=>230 | 45=>314 | 46=>315 | 50=>161 | 53=>321 | 55=>323 | 66=>354 | 70=>358 | 76=>378 | 77=>283 | n=>n,fun | n=>n⟩
theorem adk:Go.Proofs.SlLaysF0.n6 Tryz.prog aiE:={
 mixed:=by kernel_rfl
 f6:=⟨Tryz.f230.name,by decide,Tryz.func230.trans (congrArg some (by kernel_rfl))⟩
 f14:=⟨Tryz.f290.name,by decide,Tryz.func290.trans (congrArg some (by kernel_rfl))⟩
 f15:=Tryz.func201.trans (congrArg some (by kernel_rfl))
 f20:=⟨Tryz.f332.name,by decide,Tryz.func332.trans (congrArg some (by kernel_rfl))⟩
 f21:=⟨Tryz.f333.name,by decide,Tryz.func333.trans (congrArg some (by kernel_rfl))⟩
 f22:=⟨Tryz.f334.name,by decide,Tryz.func334.trans (congrArg some (by kernel_rfl))⟩
 f23:=⟨Tryz.f335.name,by decide,Tryz.func335.trans (congrArg some (by kernel_rfl))⟩
 f24:=⟨Tryz.f336.name,by decide,Tryz.func336.trans (congrArg some (by kernel_rfl))⟩
 f25:=⟨Tryz.f337.name,by decide,Tryz.func337.trans (congrArg some (by kernel_rfl))⟩
 f26:=⟨Tryz.f338.name,by decide,Tryz.func338.trans (congrArg some (by kernel_rfl))⟩
 f27:=⟨Tryz.f339.name,by decide,Tryz.func339.trans (congrArg some (by kernel_rfl))⟩
 f28:=Tryz.func268.trans (congrArg some (by kernel_rfl))
 f29:=Tryz.func269.trans (congrArg some (by kernel_rfl))
 f46:=⟨Tryz.f359.name,by decide,Tryz.func359.trans (congrArg some (by kernel_rfl))⟩
 f47:=Tryz.func316.trans (congrArg some (by kernel_rfl))
 f48:=Tryz.func317.trans (congrArg some (by kernel_rfl))
 f49:=⟨Tryz.f360.name,by decide,Tryz.func360.trans (congrArg some (by kernel_rfl))⟩
 f50:=⟨Tryz.f361.name,by decide,Tryz.func361.trans (congrArg some (by kernel_rfl))⟩
 f57:=⟨Tryz.f374.name,by decide,Tryz.func374.trans (congrArg some (by kernel_rfl))⟩
 t0:=Tryz.underlying0
 a0:=Tryz.isAgg0
 z0:=Tryz.sizeOf0
 v0:=Tryz.zeroValue0
 t3:=Tryz.underlying3
 a3:=Tryz.isAgg3
 z3:=Tryz.sizeOf3
 v3:=Tryz.zeroValue3
 t4:=Tryz.underlying4
 a4:=Tryz.isAgg4
 z4:=Tryz.sizeOf4
 v4:=Tryz.zeroValue4
 t5:=Tryz.underlying5
 a5:=Tryz.isAgg5
 z5:=Tryz.sizeOf5
 v5:=Tryz.zeroValue5
 t9:=Tryz.underlying9
 a9:=Tryz.isAgg9
 z9:=Tryz.sizeOf9
 v9:=Tryz.zeroValue9
 t22:=Tryz.underlying123
 a22:=Tryz.isAgg123
 z22:=Tryz.sizeOf123
 v22:=Tryz.zeroValue123
 t25:=Tryz.underlying296
 a25:=Tryz.isAgg296
 z25:=Tryz.sizeOf296
 v25:=Tryz.zeroValue296
 t39:=Tryz.underlying230
 a39:=Tryz.isAgg230
 z39:=Tryz.sizeOf230
 v39:=Tryz.zeroValue230
 t45:=Tryz.underlying314
 a45:=Tryz.isAgg314
 z45:=Tryz.sizeOf314
 v45:=Tryz.zeroValue314
 t46:=Tryz.underlying315
 a46:=Tryz.isAgg315
 z46:=Tryz.sizeOf315
 v46:=Tryz.zeroValue315
 t50:=Tryz.underlying161
 a50:=Tryz.isAgg161
 z50:=Tryz.sizeOf161
 v50:=Tryz.zeroValue161
 t53:=Tryz.underlying321
 a53:=Tryz.isAgg321
 z53:=Tryz.sizeOf321
 v53:=Tryz.zeroValue321
 t55:=Tryz.underlying323
 a55:=Tryz.isAgg323
 z55:=Tryz.sizeOf323
 v55:=Tryz.zeroValue323
 t66:=Tryz.underlying354
 a66:=Tryz.isAgg354
 z66:=Tryz.sizeOf354
 v66:=Tryz.zeroValue354
 t70:=Tryz.underlying358
 a70:=Tryz.isAgg358
 z70:=Tryz.sizeOf358
 v70:=Tryz.zeroValue358
 t76:=Tryz.underlying378
 a76:=Tryz.isAgg378
 z76:=Tryz.sizeOf378
 v76:=Tryz.zeroValue378
 t77:=Tryz.underlying283
 a77:=Tryz.isAgg283
 z77:=Tryz.sizeOf283
 v77:=Tryz.zeroValue283 }
def aiG:SFn:=oT zH 231 3 132
theorem aiF:bL Tryz.prog G0 230 aiG:=kY (M:=3) (g:=231) adk (by decide) (fun w=>Tryz.isAgg132 w) (fun w=>Tryz.sizeOf132 w) ac1 ⟨Tryz.f230,Tryz.func230,rfl,by kernel_rfl⟩
def zaf (w0:List vV3):Option (Unit×List vV3×Unit):=(mL (fun x y=>zbd x y) w0).map fun l=>((),(l,()))
def aph:TRaw:=aaC false 231 132 tT14 (fun x y=>zbd x y)
theorem apg:TRawOk aiG aph:=vo rfl rfl rfl rfl aeR
def ail:Env:=(eZ [] [274])
def aoZ:Hints:=(hZ [(4,[0,3]),(9,[0,3,4,5])] [])
def aik:SFn:=pI (runF Tryz.prog ail aoZ Tryz.f232)
def asa:TH:={ joins:=[(14,{ keep:=[(0,(.own 0)),(3,(.int .i64))],mem:=[.row false 132 tT14] })],loops:=[(4,{ keep:=[(0,(.own 0)),(3,(.int .i64))],mem:=[.row false 132 tT14] }),(9,{ keep:=[(0,(.own 0)),(3,(.int .i64)),(4,(.vw 0)),(5,(.int .i64))],mem:=[.row false 132 tT14] })],ro:=[] }
def na (y9:(Int×(Nat×Nat)×Int×List vV3×Unit)):Option ((Int×(Nat×Nat)×Int×List vV3×Unit)⊕((Int×List vV3×Unit)⊕((Int×List vV3×Unit)⊕(List vV3)))) :=
 cond (decide (y9.2.2.1<(y9.2.1.2:Int))) (
 cond y9.2.2.2.1.isEmpty (none) ((inI y9.2.1.2 y9.2.2.1).bind fun i6 =>
(y9.2.2.2.1[(y9.2.1.1+i6)]?).bind fun x7 =>
 cond y9.2.2.2.1.isEmpty (none) ((inI y9.2.1.2 (IntKind.wrap .i64 (y9.2.2.1-1))).bind fun i8 =>
(y9.2.2.2.1[(y9.2.1.1+i8)]?).bind fun x9 =>
 cond (!(eqV tT14 x7 x9)) (
 cond y9.2.2.2.1.isEmpty (none) ((inI y9.2.1.2 y9.2.2.1).bind fun i10 =>
(y9.2.2.2.1[(y9.2.1.1+i10)]?).bind fun x11 =>
(inI y9.2.2.2.1.length y9.1).bind fun i12 =>
(y9.2.2.2.1[i12]?).bind fun x13 =>
 some (.inl ((IntKind.wrap .i64 (y9.1+1)),y9.2.1,(IntKind.wrap .i64 (y9.2.2.1+1)),(y9.2.2.2.1.set i12 x11),())))) (
 some (.inl (y9.1,y9.2.1,(IntKind.wrap .i64 (y9.2.2.1+1)),y9.2.2.2.1,())))))) (
 some (.inr (.inl (y9.1,y9.2.2.2.1,()))))
def kK (y4:(Int×List vV3×Unit)):Option ((Int×List vV3×Unit)⊕(List vV3)) :=
 cond (decide (y4.1<(y4.2.1.length:Int))) (
(inI y4.2.1.length y4.1).bind fun i1 =>
(y4.2.1[i1]?).bind fun x2 =>
(inI y4.2.1.length (IntKind.wrap .i64 (y4.1-1))).bind fun i3 =>
(y4.2.1[i3]?).bind fun x4 =>
 cond (eqV tT14 x2 x4) (
 cond y4.2.1.isEmpty (none) ((kR (y4.2.1.length) y4.1 (y4.2.1.length:Int)).bind fun p5 =>
(aJ (na) (y4.1,p5,1,y4.2.1,()):Option ((Int×List vV3×Unit)⊕((Int×List vV3×Unit)⊕(List vV3)))).bind (be fun v14 =>
 cond v14.2.1.isEmpty (none) ((kR (v14.2.1.length) v14.1 (v14.2.1.length:Int)).bind fun p15 =>
 cond v14.2.1.isEmpty (none) ((if p15.1+p15.2≤v14.2.1.length then some () else none).bind fun u16 =>
 cond (v14.2.1.take p15.1++List.replicate p15.2 (0,0,[],())++v14.2.1.drop (p15.1+p15.2)).isEmpty (none) ((kR ((v14.2.1.take p15.1++List.replicate p15.2 (0,0,[],())++v14.2.1.drop (p15.1+p15.2)).length) 0 v14.1).bind fun p17 =>
(cond (v14.2.1.take p15.1++List.replicate p15.2 (0,0,[],())++v14.2.1.drop (p15.1+p15.2)).isEmpty none (if p17.1+p17.2≤(v14.2.1.take p15.1++List.replicate p15.2 (0,0,[],())++v14.2.1.drop (p15.1+p15.2)).length then some (((v14.2.1.take p15.1++List.replicate p15.2 (0,0,[],())++v14.2.1.drop (p15.1+p15.2)).drop p17.1).take p17.2) else none)).map .inr)))))) (
 some (.inl ((IntKind.wrap .i64 (y4.1+1)),y4.2.1,())))) (
 some (.inr y4.2.1))
def aii (w0:List vV3):Option (List vV3) :=
 cond (decide ((w0.length:Int)<2)) (
 some w0) (
 aJ (kK) (1,w0,()))
def zam (w0:List vV3):Option (List vV3×Unit):=(aii w0).map fun l=>(l,())
def aoY:TRaw:={ ps:=(.cons (.own 0) .unit),ins:=[.row false 132 tT14],res:=(.sl tT14),outs:=[.gone],fn:=fun v w=>zam w.1 }
def aoX:TEnv:=(vZ [])
theorem aoW:aej Tryz.prog ail aoZ aoX asa Tryz.f232 (.cons (.own 0) .unit) false 132 tT14=fun _ w=>aii w:=by kernel_rfl
theorem aij:bL Tryz.prog G0 232 aik:=lX (ak ⟨ay,ae,ap,ae,an⟩ Tryz.func232 rfl (by kernel_rfl))
theorem aoV:TRawOk aik aoY:=vU (E:=ail) (ET:=aoX) (EnvT.ofX (az al) am au aQ ar) aoW
def afW:Env:={ pure:=[(229,yn)],raw:=[(230,aiG),(232,aik)],glob:=G0,same:=[274],look:=[],ext:=[] }
def alw:Hints:=(hZ [(3,[5,10,11,12])] [])
def afV:PFn:=aH (runF Tryz.prog afW alw Tryz.f163)
def arf:TH:={ joins:=[(7,{ keep:=[(5,(.own 1))],mem:=[.gone,.row true 132 tT14] })],loops:=[(3,{ keep:=[(5,(.own 1)),(12,(.int .i64))],mem:=[.gone,.row true 132 tT14] })],ro:=[] }
def uO (r1:List vV6) (y3:(Int×List vV3×Unit)):Option ((Int×List vV3×Unit)⊕((List vV3×Unit)⊕List vV3)) :=
 cond (decide (y3.1<(r1.length:Int))) (
(atI r1 y3.1).bind fun x2 =>
(dN (y3.2.1.length+([x2.2.1.2.2.1]:List vV3).length)).bind fun u3 =>
 some (.inl ((IntKind.wrap .i64 (y3.1+1)),(y3.2.1++([x2.2.1.2.2.1]:List vV3)),()))) (
 some (.inr (.inl (y3.2.1,()))))
def zch (a0:List vV6) (a1:List (List UInt8)):Option (List vV3) :=
((zcz a0 a1 1).bind fun r1 =>
 aJ (uO r1) (0,[],()):Option ((List vV3×Unit)⊕List vV3)).bind (be fun v4 =>
(zaf v4.1).bind fun q5 =>
(zam q5.2.1).bind fun q6 =>
 some q6.1)
def yL:TFn:={ ps:=(.cons (.sl tT18) tT21),res:=(.sl tT14),fn:=fun v=>zch v.1 v.2.1 }
def alv:TEnv:={ pure:=[(229,sA)],look:=[],glob:=G0T,ty:=[(132,tT14)],raw:=[(230,aph),(232,aoY)],fresh:=[] }
theorem alu:runY Tryz.prog afW alw alv arf Tryz.f163 yL.ps yL.res=yL.fn:=by kernel_rfl
theorem afU:aB Tryz.prog G0 163 afV:=ai (ak ⟨ay,(aj sB ae),(bv aiF (bv aij ap)),ae,an⟩ Tryz.func163 rfl (by kernel_rfl))
theorem alt:TOk afV yL:=aC (E:=afW) (ET:=alv) (EnvT.ofX (az (ah ym al)) am (ci apg rfl rfl (ci aoV rfl rfl au)) aQ ar) alu rfl
def aic:Go.Shelf.Ren:=⟨fun | 22=>234 | 29=>292 | 30=>293 | n=>n,fun | 24=>123 | 9=>132 | 0=>0 | 3=>3 | 4=>4 | n=>n,fun | n=>n⟩
theorem ade:InsL Tryz.prog aic:={
 mixed:=by kernel_rfl
 f22:=⟨Tryz.f234.name,by decide,Tryz.func234.trans (congrArg some (by kernel_rfl))⟩
 f29:=⟨Tryz.f292.name,by decide,by kernel_rfl,by kernel_rfl,Tryz.func292.trans (congrArg some (by kernel_rfl))⟩
 t0:=Tryz.underlying0
 a0:=Tryz.isAgg0
 z0:=Tryz.sizeOf0
 v0:=Tryz.zeroValue0
 t3:=Tryz.underlying3
 a3:=Tryz.isAgg3
 z3:=Tryz.sizeOf3
 v3:=Tryz.zeroValue3
 t4:=Tryz.underlying4
 a4:=Tryz.isAgg4
 z4:=Tryz.sizeOf4
 v4:=Tryz.zeroValue4
 t24:=Tryz.underlying123
 a24:=Tryz.isAgg123
 z24:=Tryz.sizeOf123
 v24:=Tryz.zeroValue123 }
def aie:SFn:=ey 3 132
theorem aid:bL Tryz.prog G0 234 aie:=nX ade rfl rfl rfl (iZ (P:=Tryz.prog) (te:=132) (M:=3) (by kernel_rfl) (by kernel_rfl) (by kernel_rfl) (by kernel_rfl) (by kernel_rfl) (by kernel_rfl) (by kernel_rfl) (by kernel_rfl)) true Tryz.isAgg132 ⟨Tryz.f234,Tryz.func234,rfl,by kernel_rfl⟩
def zao (a1:Int) (a2:List vV3) (w0:List vV3):Option (Unit×List vV3×Unit):=(insT w0 a1 a2).map fun l=>((),(l,()))
def aoS:TRaw:=insR false 132 tT14
theorem aoR:TRawOk aie aoS:=abJ rfl rfl rfl rfl (by decide)
def aiQ:Env:=(eZ [(231,zH)] [274])
def apv:Hints:=(hZ [(3,[0,2,4,8,9,10])] [])
def aiP:PFn:=aH (runF Tryz.prog aiQ apv Tryz.f233)
def asf:TH:={ joins:=[(8,{ keep:=[(4,(.bx 0 0)),(9,(.int .i64))],mem:=[.same] })],loops:=[(3,{ keep:=[(4,(.bx 0 0)),(9,(.int .i64)),(10,(.int .i64))],mem:=[.same] })],ro:=[4] }
def nd (a0:List vV3) (a1:vV3) (y3:(Int×Int×Unit)):Option ((Int×Int×Unit)⊕((Int×Unit)⊕(Int×Bool×Unit))) :=
 cond (decide (y3.1<y3.2.1)) (
(shrT .u64 (IntKind.wrap .u64 (IntKind.wrap .i64 (y3.1+y3.2.1))) 1).bind fun t1 =>
(atI a0 (IntKind.wrap .i64 t1)).bind fun x2 =>
(zbd x2 a1).bind fun r3 =>
 cond (decide (r3<0)) (
 some (.inl ((IntKind.wrap .i64 ((IntKind.wrap .i64 t1)+1)),y3.2.1,()))) (
 some (.inl (y3.1,(IntKind.wrap .i64 t1),())))) (
 some (.inr (.inl (y3.1,()))))
def zac (a0:List vV3) (a1:vV3) (a2:Unit):Option (Int×Bool×Unit) :=
(aJ (nd a0 a1) (0,(a0.length:Int),()):Option ((Int×Unit)⊕(Int×Bool×Unit))).bind (be fun v4 =>
 cond (decide (v4.1<(a0.length:Int))) ((atI a0 v4.1).bind fun x5 =>
(zbd x5 a1).bind fun r6 =>
 some (v4.1,(decide (r6=0)),())) (some (v4.1,false,())))
def aaf:TFn:={ ps:=(.cons (.sl tT14) (.cons tT14 (.cons (.fn 231) .unit))),res:=(.tup (.cons (.int .i64) (.cons .bool .unit))),fn:=fun v=>zac v.1 v.2.1 v.2.2.1 }
def apu:TEnv:=(vZ [(231,zG)])
theorem apt:runY Tryz.prog aiQ apv apu asf Tryz.f233 aaf.ps aaf.res=aaf.fn:=by kernel_rfl
theorem aiO:aB Tryz.prog G0 233 aiP:=ai (ak ⟨ay,(aj ahd ae),ap,ae,an⟩ Tryz.func233 rfl (by kernel_rfl))
theorem aps:TOk aiP aaf:=aC (E:=aiQ) (ET:=apu) (EnvT.ofX (az (ah aeR al)) am au aQ ar) apt rfl
def ahv:Env:={ pure:=[(229,yn)],raw:=[(234,aie)],glob:=G0,same:=[274],look:=[(233,aiP)],ext:=[] }
def anO:Hints:=(hZ [(3,[5,12,13,14])] [])
def ahu:PFn:=aH (runF Tryz.prog ahv anO Tryz.f164)
def arT:TH:={ loops:=[(3,{ keep:=[(5,(.own 1)),(14,(.int .i64))],mem:=[.gone,.row false 132 tT14] })],ro:=[] }
def uY (r1:List vV6) (y3:(Int×List vV3×Unit)):Option ((Int×List vV3×Unit)⊕List vV3) :=
 cond (decide (y3.1<(r1.length:Int))) (
(atI r1 y3.1).bind fun x2 =>
(zac y3.2.1 x2.2.1.2.2.1 ()).bind fun r3 =>
 cond (!r3.2.1) (
(zao r3.1 ([x2.2.1.2.2.1]:List vV3) y3.2.1).bind fun q4 =>
 some (.inl ((IntKind.wrap .i64 (y3.1+1)),q4.2.1,()))) (
 some (.inl ((IntKind.wrap .i64 (y3.1+1)),y3.2.1,())))) (
 some (.inr y3.2.1))
def zb7 (a0:List vV6) (a1:List (List UInt8)):Option (List vV3) :=
(zcz a0 a1 2).bind fun r1 =>
 aJ (uY r1) (0,[],())
def zN:TFn:={ ps:=(.cons (.sl tT18) tT21),res:=(.sl tT14),fn:=fun v=>zb7 v.1 v.2.1 }
def anN:TEnv:={ pure:=[(229,sA)],look:=[(233,aaf)],glob:=G0T,ty:=[(132,tT14)],raw:=[(234,aoS)],fresh:=[] }
theorem anM:runY Tryz.prog ahv anO anN arT Tryz.f164 zN.ps zN.res=zN.fn:=by kernel_rfl
theorem aht:aB Tryz.prog G0 164 ahu:=ai (ak ⟨ay,(aj sB ae),(bv aid ap),(aj aiO ae),an⟩ Tryz.func164 rfl (by kernel_rfl))
theorem anL:TOk ahu zN:=aC (E:=ahv) (ET:=anN) (EnvT.ofX (az (ah ym al)) (jI aps rfl am) (ci aoR rfl rfl au) aQ ar) anM rfl
def afy:Env:=(eZ [(229,yn)] [274])
def akU:Hints:=(hZ [(3,[5,10,11,12])] [])
def afx:PFn:=aH (runF Tryz.prog afy akU Tryz.f165)
def aq4:TH:={ loops:=[(3,{ keep:=[(5,(.int .i64)),(12,(.int .i64))],mem:=[] })],ro:=[] }
def uJ (r1:List vV6) (y3:(Int×Int×Unit)):Option ((Int×Int×Unit)⊕Int) :=
 cond (decide (y3.2.1<(r1.length:Int))) (
(atI r1 y3.2.1).bind fun x2 =>
 some (.inl ((IntKind.wrap .i64 (y3.1+x2.2.1.2.2.2.1)),(IntKind.wrap .i64 (y3.2.1+1)),()))) (
 some (.inr y3.1))
def zcr (a0:List vV6) (a1:List (List UInt8)):Option Int :=
(zcz a0 a1 3).bind fun r1 =>
 aJ (uJ r1) (0,0,())
def yB:TFn:={ ps:=(.cons (.sl tT18) tT21),res:=(.int .i64),fn:=fun v=>zcr v.1 v.2.1 }
def akT:TEnv:=(vZ [(229,sA)])
theorem akS:runY Tryz.prog afy akU akT aq4 Tryz.f165 yB.ps yB.res=yB.fn:=by kernel_rfl
theorem afw:aB Tryz.prog G0 165 afx:=ai (ak ⟨ay,(aj sB ae),ap,ae,an⟩ Tryz.func165 rfl (by kernel_rfl))
theorem akR:TOk afx yB:=aC (E:=afy) (ET:=akT) (EnvT.ofX (az (ah ym al)) am au aQ ar) akS rfl
def agi:Env:=(eZ [(72,wS),(163,afV),(164,ahu),(165,afx)] [274])
def al3:Hints:=(hZ [] [])
def agh:PFn:=aH (runF Tryz.prog agi al3 Tryz.f94)
def arp:TH:=yZ
def zc0 (a0:List vV6) (a1:List (List UInt8)) (a2:Int):Option vV0 :=
(zas a1).bind fun r1 =>
 cond (decide (a2=1)) (
(zch a0 a1).bind fun r2 =>
 some (r1,a2,r2,0,())) (
 cond (decide (a2=2)) (
(zb7 a0 a1).bind fun r3 =>
 some (r1,a2,r3,0,())) (
 cond (decide (a2=3)) (
(zcr a0 a1).bind fun r4 =>
 some (r1,a2,[],r4,())) (
 some (r1,a2,[],0,()))))
def yU:TFn:={ ps:=(.cons (.sl tT18) (.cons (.sl .str) tT15)),res:=tT11,fn:=fun v=>zc0 v.1 v.2.1 v.2.2.1 }
def al2:TEnv:=(vZ [(72,z8),(163,yL),(164,zN),(165,yB)])
theorem al1:runY Tryz.prog agi al3 al2 arp Tryz.f94 yU.ps yU.res=yU.fn:=by kernel_rfl
theorem agf:aB Tryz.prog G0 94 agh:=ai (ak ⟨ay,(aj oL (aj afU (aj aht (aj afw ae)))),ap,ae,an⟩ Tryz.func94 rfl (by kernel_rfl))
theorem al0:TOk agh yU:=aC (E:=agi) (ET:=al2) (EnvT.ofX (az (ah vf (ah alt (ah anL (ah akR al))))) am au aQ ar) al1 rfl
def afI:Env:=(eZ [(93,ag5),(94,agh)] [274])
def ak9:Hints:=(hZ [(3,[0,5,10,11,12])] [])
def yG:PFn:=aH (runF Tryz.prog afI ak9 Tryz.f32)
def aq8:TH:={ loops:=[(3,{ keep:=[(5,(.own 1)),(12,(.int .i64))],mem:=[.gone,.row true 125 tT11] })],ro:=[] }
def uK (a0:List vV6) (r1:List vV5) (y3:(Int×List vV0×Unit)):Option ((Int×List vV0×Unit)⊕List vV0) :=
 cond (decide (y3.1<(r1.length:Int))) (
(atI r1 y3.1).bind fun x2 =>
(zc0 a0 x2.1 x2.2.1).bind fun r3 =>
(dN (y3.2.1.length+([r3]:List vV0).length)).bind fun u4 =>
 some (.inl ((IntKind.wrap .i64 (y3.1+1)),(y3.2.1++([r3]:List vV0)),()))) (
 some (.inr y3.2.1))
def zcn (a0:List vV6) (a1:List (List UInt8)):Option (List vV0) :=
(zbh a0 a1).bind fun r1 =>
 aJ (uK a0 r1) (0,[],())
def sE:TFn:={ ps:=(.cons (.sl tT18) tT21),res:=(.sl tT11),fn:=fun v=>zcn v.1 v.2.1 }
def ak8:TEnv:={ pure:=[(93,zB),(94,yU)],look:=[],glob:=G0T,ty:=[(125,tT11)],raw:=[],fresh:=[] }
theorem ak7:runY Tryz.prog afI ak9 ak8 aq8 Tryz.f32 sE.ps sE.res=sE.fn:=by kernel_rfl
theorem sF:aB Tryz.prog G0 32 yG:=ai (ak ⟨ay,(aj ag4 (aj agf ae)),ap,ae,an⟩ Tryz.func32 rfl (by kernel_rfl))
theorem yF:TOk yG sE:=aC (E:=afI) (ET:=ak8) (EnvT.ofX (az (ah am8 (ah al0 al))) am au aQ ar) ak7 rfl
def ai1:Env:=(eZ [(154,sG),(155,zy),(156,sR)] [274])
def apN:Hints:=(hZ [] [])
def aam:PFn:=aH (runF Tryz.prog ai1 apN Tryz.f86)
def ask:TH:={ loops:=[],ro:=[2,3] }
def za7 (a0:vV0) (a1:vV0):Option Int :=
(zbk a0.1 a1.1).bind fun r1 =>
(za5 a0.2.1 a1.2.1).bind fun r2 =>
(zck ([r1,r2]:List Int)).bind fun r3 =>
 some r3
def sP:TFn:={ ps:=(.cons tT11 (.cons tT11 .unit)),res:=(.int .i64),fn:=fun v=>za7 v.1 v.2.1 }
def apM:TEnv:={ pure:=[(154,ql),(155,wQ),(156,qt)],look:=[],glob:=G0T,ty:=[(3,(.int .i64))],raw:=[],fresh:=[] }
theorem apL:runY Tryz.prog ai1 apN apM ask Tryz.f86 sP.ps sP.res=sP.fn:=by kernel_rfl
theorem sQ:aB Tryz.prog G0 86 aam:=ai (ak ⟨ay,(aj oJ (aj zx (aj oM ae))),ap,ae,an⟩ Tryz.func86 rfl (by kernel_rfl))
theorem aal:TOk aam sP:=aC (E:=ai1) (ET:=apM) (EnvT.ofX (az (ah uM (ah aeO (ah vh al)))) am au aQ ar) apL rfl
def ah9:Go.Shelf.Ren:=⟨fun | 41=>159 | n=>n,fun | 22=>123 | 23=>132 | 4=>4 | n=>n,fun | n=>n⟩
theorem adc:Go.Proofs.SlLaysE0.n41 Tryz.prog ah9:={
 mixed:=by kernel_rfl
 f41:=⟨Tryz.f159.name,by decide,Tryz.func159.trans (congrArg some (by kernel_rfl))⟩
 t4:=Tryz.underlying4
 a4:=Tryz.isAgg4
 z4:=Tryz.sizeOf4
 v4:=Tryz.zeroValue4
 t22:=Tryz.underlying123
 a22:=Tryz.isAgg123
 z22:=Tryz.sizeOf123
 v22:=Tryz.zeroValue123 }
def aib:PFn:=(j9 3)
theorem aia:aB Tryz.prog G0 159 aib:=clone_lays adc 3 ⟨Tryz.f159,Tryz.func159,rfl,by kernel_rfl⟩ (by kernel_rfl) (by kernel_rfl) (by kernel_rfl) (by kernel_rfl) (by kernel_rfl) (by decide) (fun w=>Tryz.sizeOf132 w)
def zap (a0:List vV3):Option (List vV3):=eR a0
def aoQ:TFn:=fM tT14
theorem aoP:TOk aib aoQ:=mm rfl rfl rfl
def ahc:Env:=(eZ [(72,wS),(159,aib)] [274])
def anm:Hints:=(hZ [] [])
def ac0:PFn:=aH (runF Tryz.prog ahc anm Tryz.f89)
def arM:TH:=yZ
def zbe (a0:vV0):Option vV0 :=
(zas a0.1).bind fun r1 =>
(zap a0.2.2.1).bind fun r2 =>
 some (r1,a0.2.1,r2,a0.2.2.2.1,())
def wR:TFn:={ ps:=(.cons tT11 .unit),res:=tT11,fn:=fun v=>zbe v.1 }
def anl:TEnv:=(vZ [(72,z8),(159,aoQ)])
theorem ank:runY Tryz.prog ahc anm anl arM Tryz.f89 wR.ps wR.res=wR.fn:=by kernel_rfl
theorem zF:aB Tryz.prog G0 89 ac0:=ai (ak ⟨ay,(aj oL (aj aia ae)),ap,ae,an⟩ Tryz.func89 rfl (by kernel_rfl))
theorem aeQ:TOk ac0 wR:=aC (E:=ahc) (ET:=anl) (EnvT.ofX (az (ah vf (ah aoP al))) am au aQ ar) ank rfl
def ah8:Env:=(eZ [] [274])
def aoO:Hints:=(hZ [(4,[0,1,12,13])] [])
def ah7:PFn:=aH (runF Tryz.prog ah8 aoO Tryz.f161)
def ar9:TH:={ loops:=[(4,{ keep:=[(13,(.int .i64))],mem:=[] })],ro:=[] }
def vg (a0:List vV3) (a1:List vV3) (y4:(Int×Unit)):Option ((Int×Unit)⊕Bool) :=
 cond (decide (y4.1<(a0.length:Int))) (
(atI a0 y4.1).bind fun x1 =>
(atI a1 y4.1).bind fun x2 =>
 cond (!(eqV tT14 x1 x2)) (
 some (.inr false)) (
 some (.inl ((IntKind.wrap .i64 (y4.1+1)),())))) (
 some (.inr true))
def zaq (a0:List vV3) (a1:List vV3):Option Bool :=
 cond (!decide ((a0.length:Int)=(a1.length:Int))) (
 some false) (
 aJ (vg a0 a1) (0,()))
def aab:TFn:={ ps:=(.cons (.sl tT14) (.cons (.sl tT14) .unit)),res:=.bool,fn:=fun v=>zaq v.1 v.2.1 }
def aoN:TEnv:=(vZ [])
theorem aoM:runY Tryz.prog ah8 aoO aoN ar9 Tryz.f161 aab.ps aab.res=aab.fn:=by kernel_rfl
theorem ah6:aB Tryz.prog G0 161 ah7:=ai (ak ⟨ay,ae,ap,ae,an⟩ Tryz.func161 rfl (by kernel_rfl))
theorem aoL:TOk ah7 aab:=aC (E:=ah8) (ET:=aoN) (EnvT.ofX (az al) am au aQ ar) aoM rfl
def afH:Env:=(eZ [(160,acO),(161,ah7)] [274])
def ak6:Hints:=(hZ [] [])
def afG:PFn:=aH (runF Tryz.prog afH ak6 Tryz.f92)
def aq7:TH:={ loops:=[],cuts:=[(1,[(12,{ keep:=[(2,(.bx 0 0)),(3,(.bx 1 0)),(16,.bool)],mem:=[.same,.same] })])],ro:=[2,3],news:=[] }
def zco (a0:vV0) (a1:vV0):Option Bool :=
(cond (decide (a0.2.1=a1.2.1)) (some ((decide (a0.2.2.2.1=a1.2.2.2.1)),())) (some (false,())):Option (Bool×Unit)).bind fun v1 =>
 cond v1.1 ((zcu a0.1 a1.1).bind fun r2 =>
 cond r2 ((zaq a0.2.2.1 a1.2.2.1).bind fun r3 =>
 some r3) (some false)) (some false)
def yE:TFn:={ ps:=(.cons tT11 (.cons tT11 .unit)),res:=.bool,fn:=fun v=>zco v.1 v.2.1 }
def ak5:TEnv:=(vZ [(160,wI),(161,aab)])
theorem ak4:runY Tryz.prog afH ak6 ak5 aq7 Tryz.f92 yE.ps yE.res=yE.fn:=by kernel_rfl
theorem afF:aB Tryz.prog G0 92 afG:=ai (ak ⟨ay,(aj yw (aj ah6 ae)),ap,ae,an⟩ Tryz.func92 rfl (by kernel_rfl))
theorem ak3:TOk afG yE:=aC (E:=afH) (ET:=ak5) (EnvT.ofX (az (ah aeF (ah aoL al))) am au aQ ar) ak4 rfl
def aiW:Env:=(eZ [(92,afG)] [274])
def apD:Hints:=(hZ [(4,[1,2,15,16,17])] [])
def aiV:PFn:=aH (runF Tryz.prog aiW apD Tryz.f91)
def ash:TH:={ loops:=[(4,{ keep:=[(17,(.int .i64))],mem:=[] })],ro:=[] }
def kM (a0:List vV0) (a1:List vV0) (y4:(Int×Unit)):Option ((Int×Unit)⊕Bool) :=
 cond (decide (y4.1<(a0.length:Int))) (
(atI a0 y4.1).bind fun x1 =>
(atI a1 y4.1).bind fun x2 =>
(zco x1 x2).bind fun r3 =>
 cond (!r3) (
 some (.inr false)) (
 some (.inl ((IntKind.wrap .i64 (y4.1+1)),())))) (
 some (.inr true))
def zaa (a0:List vV0) (a1:List vV0) (a2:Unit):Option Bool :=
 cond (!decide ((a0.length:Int)=(a1.length:Int))) (
 some false) (
 aJ (kM a0 a1) (0,()))
def aah:TFn:={ ps:=(.cons (.sl tT11) (.cons (.sl tT11) (.cons (.fn 92) .unit))),res:=.bool,fn:=fun v=>zaa v.1 v.2.1 v.2.2.1 }
def apC:TEnv:=(vZ [(92,yE)])
theorem apB:runY Tryz.prog aiW apD apC ash Tryz.f91 aah.ps aah.res=aah.fn:=by kernel_rfl
theorem aiU:aB Tryz.prog G0 91 aiV:=ai (ak ⟨ay,(aj afF ae),ap,ae,an⟩ Tryz.func91 rfl (by kernel_rfl))
theorem apA:TOk aiV aah:=aC (E:=aiW) (ET:=apC) (EnvT.ofX (az (ah ak3 al)) am au aQ ar) apB rfl
def afv:Env:=(eZ [(91,aiV)] [274])
def akQ:Hints:=(hZ [] [])
def yA:PFn:=aH (runF Tryz.prog afv akQ Tryz.f31)
def aq3:TH:=yZ
def zcs (a0:List vV0) (a1:List vV0):Option Bool :=
(zaa a0 a1 ()).bind fun r1 =>
 some r1
def sC:TFn:={ ps:=(.cons (.sl tT11) (.cons (.sl tT11) .unit)),res:=.bool,fn:=fun v=>zcs v.1 v.2.1 }
def akP:TEnv:=(vZ [(91,aah)])
theorem akO:runY Tryz.prog afv akQ akP aq3 Tryz.f31 sC.ps sC.res=sC.fn:=by kernel_rfl
theorem sD:aB Tryz.prog G0 31 yA:=ai (ak ⟨ay,(aj aiU ae),ap,ae,an⟩ Tryz.func31 rfl (by kernel_rfl))
theorem yz:TOk yA sC:=aC (E:=afv) (ET:=akP) (EnvT.ofX (az (ah apA al)) am au aQ ar) akO rfl
def agP:Env:=(eZ [(31,yA)] [274])
def amL:Hints:=(hZ [] [])
def acV:PFn:=aH (runF Tryz.prog agP amL Tryz.f87)
def arC:TH:={ loops:=[],ro:=[2,3] }
def zbo (a0:vV0) (a1:vV0):Option Bool :=
(zcs ([a0]:List vV0) ([a1]:List vV0)).bind fun r1 =>
 some r1
def wO:TFn:={ ps:=(.cons tT11 (.cons tT11 .unit)),res:=.bool,fn:=fun v=>zbo v.1 v.2.1 }
def amK:TEnv:={ pure:=[(31,sC)],look:=[],glob:=G0T,ty:=[(125,tT11)],raw:=[],fresh:=[] }
theorem amJ:runY Tryz.prog agP amL amK arC Tryz.f87 wO.ps wO.res=wO.fn:=by kernel_rfl
theorem zq:aB Tryz.prog G0 87 acV:=ai (ak ⟨ay,(aj sD ae),ap,ae,an⟩ Tryz.func87 rfl (by kernel_rfl))
theorem aeM:TOk acV wO:=aC (E:=agP) (ET:=amK) (EnvT.ofX (az (ah yz al)) am au aQ ar) amJ rfl
def ago:Env:=(eZ [(86,aam),(87,acV),(89,ac0)] [274])
def amb:Hints:=(hZ [(2,[0,1,5])] [41,45,60,73])
def agn:PFn:=aH (runF Tryz.prog ago amb Tryz.f76)
def ars:TH:={ joins:=[(3,{ keep:=[(5,(.own 0))],mem:=[.row true 127 tT19] }),(11,{ keep:=[(5,(.own 0)),(6,(.int .i64))],mem:=[.row true 127 tT19] }),(10,{ keep:=[(5,(.own 0))],mem:=[.row true 127 tT19] })],loops:=[(2,{ keep:=[(0,(.sl tT11)),(1,(.sl tT11)),(5,(.own 0))],mem:=[.row true 127 tT19] })],ro:=[] }
def ir (y2:(List vV0×List vV0×List vV8×Unit)):Option ((List vV0×List vV0×List vV8×Unit)⊕List vV8) :=
(cond (decide ((y2.1.length:Int)>0)) (some (.inl (y2.2.2.1,()))) (cond (decide ((y2.2.1.length:Int)>0)) (
 some (.inl (y2.2.2.1,()))) (
 some (.inr (.inr y2.2.2.1)))):Option ((List vV8×Unit)⊕((List vV0×List vV0×List vV8×Unit)⊕List vV8))).bind (be fun v1 =>
(cond (decide ((y2.2.1.length:Int)=0)) (
 some (.inl ((-1),v1.1,()))) (
 cond (decide ((y2.1.length:Int)>0)) (
(atI y2.1 0).bind fun x2 =>
(atI y2.2.1 0).bind fun x3 =>
(za7 x2 x3).bind fun r4 =>
 some (.inl (r4,v1.1,()))) (
 some (.inl (1,v1.1,())))):Option ((Int×List vV8×Unit)⊕((List vV0×List vV0×List vV8×Unit)⊕List vV8))).bind (be fun v5 =>
 cond (decide (v5.1<0)) (
(atI y2.1 0).bind fun x6 =>
(zbe x6).bind fun r7 =>
(dN (v5.2.1.length+([(2,r7,([],0,[],0,()),())]:List vV8).length)).bind fun u8 =>
(subI y2.1 1 (y2.1.length:Int)).bind fun s9 =>
 some (.inl (s9,y2.2.1,(v5.2.1++([(2,r7,([],0,[],0,()),())]:List vV8)),()))) (
 cond (decide (v5.1>0)) (
(atI y2.2.1 0).bind fun x10 =>
(zbe x10).bind fun r11 =>
(dN (v5.2.1.length+([(1,([],0,[],0,()),r11,())]:List vV8).length)).bind fun u12 =>
(subI y2.2.1 1 (y2.2.1.length:Int)).bind fun s13 =>
 some (.inl (y2.1,s13,(v5.2.1++([(1,([],0,[],0,()),r11,())]:List vV8)),()))) (
((atI y2.1 0).bind fun x14 =>
(atI y2.2.1 0).bind fun x15 =>
(zbo x14 x15).bind fun r16 =>
 cond (!r16) (
(atI y2.1 0).bind fun x17 =>
(zbe x17).bind fun r18 =>
(atI y2.2.1 0).bind fun x19 =>
(zbe x19).bind fun r20 =>
(dN (v5.2.1.length+([(3,r18,r20,())]:List vV8).length)).bind fun u21 =>
 some (.inl ((v5.2.1++([(3,r18,r20,())]:List vV8)),()))) (
 some (.inl (v5.2.1,()))):Option ((List vV8×Unit)⊕((List vV0×List vV0×List vV8×Unit)⊕List vV8))).bind (be fun v22 =>
(subI y2.1 1 (y2.1.length:Int)).bind fun s23 =>
(subI y2.2.1 1 (y2.2.1.length:Int)).bind fun s24 =>
 some (.inl (s23,s24,v22.1,())))))))
def zby (a0:List vV0) (a1:List vV0):Option (List vV8) :=
 aJ (ir) (a0,a1,[],())
def yW:TFn:={ ps:=(.cons (.sl tT11) (.cons (.sl tT11) .unit)),res:=(.sl tT19),fn:=fun v=>zby v.1 v.2.1 }
def ama:TEnv:={ pure:=[(86,sP),(87,wO),(89,wR)],look:=[],glob:=G0T,ty:=[(127,tT19)],raw:=[],fresh:=[] }
theorem al9:runY Tryz.prog ago amb ama ars Tryz.f76 yW.ps yW.res=yW.fn:=by kernel_rfl
theorem agm:aB Tryz.prog G0 76 agn:=ai (ak ⟨ay,(aj sQ (aj zq (aj zF ae))),ap,ae,an⟩ Tryz.func76 rfl (by kernel_rfl))
theorem al8:TOk agn yW:=aC (E:=ago) (ET:=ama) (EnvT.ofX (az (ah aal (ah aeM (ah aeQ al)))) am au aQ ar) al9 rfl
def ahN:Env:=(eZ [(32,yG),(76,agn)] [274])
def aoh:Hints:=(hZ [] [8])
def ac4:SFn:=runF Tryz.prog ahN aoh Tryz.f21
def ar1:TH:=yZ
def zaz (a1:List vV6) (w0:vV7):Option (List vV8×vV7×Unit) :=
(zcn a1 w0.1).bind fun r1 =>
(zby w0.2.1 r1).bind fun r2 =>
 some (r2,(w0.1,r1,(IntKind.wrap .i64 (w0.2.2.1+1)),()),())
def qq:TRaw:={ ps:=(.cons (.bx 0 0) (.cons (.sl tT18) .unit)),ins:=[.box 139 tT17],res:=(.sl tT19),outs:=[.box 139 tT17],fn:=fun v w=>zaz v.2.1 w.1 }
def aog:TEnv:=(vZ [(32,sE),(76,yW)])
theorem aof:rawY Tryz.prog ahN aoh aog ar1 [(0,0)] Tryz.f21 qq.ps qq.ins qq.res qq.outs=qq.fn:=by kernel_rfl
theorem zX:bL Tryz.prog G0 21 ac4:=ak ⟨ay,(aj sF (aj agm ae)),ap,ae,an⟩ Tryz.func21 rfl (by kernel_rfl)
theorem aeS:TRawOk ac4 qq:=o6 (E:=ahN) (ET:=aog) (EnvT.ofX (az (ah yF (ah al8 al))) am au aQ ar) aof
def ahR:Env:=(eZ [] [274])
def aoq:Hints:=(hZ [] [4])
def ac6:SFn:=runF Tryz.prog ahR aoq Tryz.f28
def ar3:TH:=yZ
def zax (w0:vV7):Option (Int×vV7×Unit) :=
 some (w0.2.2.1,w0,())
def sM:TRaw:={ ps:=(.cons (.bx 0 0) .unit),ins:=[.box 139 tT17],res:=(.int .i64),outs:=[.box 139 tT17],fn:=fun v w=>zax w.1 }
def aoo:TEnv:=(vZ [])
theorem aon:rawY Tryz.prog ahR aoq aoo ar3 [(0,0)] Tryz.f28 sM.ps sM.ins sM.res sM.outs=sM.fn:=by kernel_rfl
theorem ahQ:bL Tryz.prog G0 28 ac6:=ak ⟨ay,ae,ap,ae,an⟩ Tryz.func28 rfl (by kernel_rfl)
theorem aom:TRawOk ac6 sM:=o6 (E:=ahR) (ET:=aoo) (EnvT.ofX (az al) am au aQ ar) aon
theorem fx:∀ xs st p,ac6 xs st=some p→p.2=st:=fun xs st p hp=>jx (by kernel_rfl) hp
def agO:Env:={ pure:=[(19,acN)],raw:=[(17,acP),(21,ac4),(28,ac6)],glob:=G0,same:=[274],look:=[],ext:=[],quiet:=[28] }
def amI:Hints:=(hZ [] [])
def agN:PFn:=aH (runF Tryz.prog agO amI Tryz.f16)
def arB:TH:={ loops:=[],cuts:=[(4,[(7,{ keep:=[(1,(.bx 0 0)),(30,.bool)],mem:=[.box 139 tT17] })])],ro:=[],news:=[] }
def zbp:Option Bool :=
(zct ([[97]]:List (List UInt8))).bind fun p1 =>
 cond p1.1.isEmpty (
(zcy ([((0,1,()),0,1,false,([(3,([[97]]:List (List UInt8)),(0,0,[],()),1,[],())]:List vV1),())]:List vV4) []).bind fun r9 =>
 none) (
((p1.1.head? : Option vV7)).bind fun x2 =>
(zcy ([((0,1,()),0,1,false,([(3,([[97]]:List (List UInt8)),(0,0,[],()),1,[],())]:List vV1),())]:List vV4) []).bind fun r3 =>
(zaz r3 x2).bind fun q4 =>
(zaz r3 q4.2.1).bind fun q5 =>
(cond (decide (p1.2.1=0)) (some ((decide ((q4.1.length:Int)=1)),q5.2.1,())) (some (false,q5.2.1,())):Option (Bool×vV7×Unit)).bind fun v6 =>
 cond v6.1 ((atI q4.1 0).bind fun x7 =>
 cond (decide (x7.1=1)) (cond (decide ((q5.1.length:Int)=0)) ((zax v6.2.1).bind fun q8 =>
 some (decide (q8.1=2))) (some false)) (some false)) (some false))
def zo:TFn:={ ps:=.unit,res:=.bool,fn:=fun v=>zbp  }
def amH:TEnv:={ pure:=[(19,wH)],look:=[],glob:=G0T,ty:=[(9,.str),(78,tT16),(135,tT12)],raw:=[(21,qq),(28,sM)],fresh:=[(17,yy)] }
theorem amG:runY Tryz.prog agO amI amH arB Tryz.f16 zo.ps zo.res=zo.fn:=by kernel_rfl
theorem agM:aB Tryz.prog G0 16 agN:=ai (ak ⟨ay,(aj yp ae),(bv yx (bv zX (bv ahQ ap))),ae,an⟩ Tryz.func16 rfl (by kernel_rfl))
theorem amF:TOk agN zo:=aC (E:=agO) (ET:=amH) (EnvT.ofX (az (ah aeE al)) am (iG (ci aeS rfl rfl (ci aom rfl rfl au)) rfl) aQ (iN aeG rfl rfl rfl ar) (jA fx rfl rfl rfl lq)) amG rfl
def agL:Env:=(eZ [(144,zV)] [274])
def amE:Hints:=(hZ [(6,[4,6,7])] [])
def agK:PFn:=aH (runF Tryz.prog agL amE Tryz.f73)
def arA:TH:={ joins:=[(18,{ keep:=[(6,(.own 0)),(7,(.int .i64)),(8,(.int .i64))],mem:=[.row true 3 (.int .i64)] }),(17,{ keep:=[(6,(.own 0))],mem:=[.row true 3 (.int .i64)] })],loops:=[(6,{ keep:=[(6,(.own 0)),(7,(.int .i64))],mem:=[.row true 3 (.int .i64)] })],ro:=[] }
def fU (r1:(List Int×Bool×Unit)) (y6:(Int×List Int×Unit)):Option ((Int×List Int×Unit)⊕(List Int×Bool×Unit)) :=
 cond (decide (y6.1<(r1.1.length:Int))) (
(atI r1.1 y6.1).bind fun x2 =>
 cond (decide (x2=42)) (
(dN (y6.2.1.length+([(-2)]:List Int).length)).bind fun u3 =>
 some (.inl ((IntKind.wrap .i64 (y6.1+1)),(y6.2.1++([(-2)]:List Int)),()))) (
 cond (decide (x2=63)) (
(dN (y6.2.1.length+([(-1)]:List Int).length)).bind fun u4 =>
 some (.inl ((IntKind.wrap .i64 (y6.1+1)),(y6.2.1++([(-1)]:List Int)),()))) (
(cond (decide (x2=92)) (
(cond (decide ((IntKind.wrap .i64 (y6.1+1))=(r1.1.length:Int))) (some (.inr (.inr (.inr ([],false,()))))) ((atI r1.1 (IntKind.wrap .i64 (y6.1+1))).bind fun x5 =>
 cond (!decide (x5=92)) ((atI r1.1 (IntKind.wrap .i64 (y6.1+1))).bind fun x6 =>
 cond (!decide (x6=42)) ((atI r1.1 (IntKind.wrap .i64 (y6.1+1))).bind fun x7 =>
 cond (!decide (x7=63)) (
 some (.inr (.inr (.inr ([],false,()))))) (
 some (.inl (y6.2.1,())))) (some (.inl (y6.2.1,())))) (some (.inl (y6.2.1,())))):Option ((List Int×Unit)⊕((Int×Int×List Int×Unit)⊕((Int×List Int×Unit)⊕(List Int×Bool×Unit))))).bind (be fun v8 =>
(atI r1.1 (IntKind.wrap .i64 (y6.1+1))).bind fun x9 =>
 some (.inl ((IntKind.wrap .i64 (y6.1+1)),x9,v8.1,())))) (
 some (.inl (y6.1,x2,y6.2.1,()))):Option ((Int×Int×List Int×Unit)⊕((Int×List Int×Unit)⊕(List Int×Bool×Unit)))).bind (be fun v10 =>
(dN (v10.2.2.1.length+([v10.2.1]:List Int).length)).bind fun u11 =>
 some (.inl ((IntKind.wrap .i64 (v10.1+1)),(v10.2.2.1++([v10.2.1]:List Int)),())))))) (
 some (.inr (y6.2.1,true,())))
def zbq (a0:List UInt8):Option (List Int×Bool×Unit) :=
(zb1 a0).bind fun r1 =>
 cond (!r1.2.1) (some ([],false,())) (cond (decide ((r1.1.length:Int)>64)) (
 some ([],false,())) (
 aJ (fU r1) (0,[],())))
def zk:TFn:={ ps:=(.cons .str .unit),res:=(.tup (.cons (.sl (.int .i64)) (.cons .bool .unit))),fn:=fun v=>zbq v.1 }
def amD:TEnv:={ pure:=[(144,sJ)],look:=[],glob:=G0T,ty:=[(3,(.int .i64))],raw:=[],fresh:=[] }
theorem amC:runY Tryz.prog agL amE amD arA Tryz.f73 zk.ps zk.res=zk.fn:=by kernel_rfl
theorem agJ:aB Tryz.prog G0 73 agK:=ai (ak ⟨ay,(aj sK ae),ap,ae,an⟩ Tryz.func73 rfl (by kernel_rfl))
theorem amB:TOk agK zk:=aC (E:=agL) (ET:=amD) (EnvT.ofX (az (ah zU al)) am au aQ ar) amC rfl
def agu:Env:=(eZ [(73,agK)] [274])
def amj:Hints:=(hZ [(6,[0,3])] [])
def agt:PFn:=aH (runF Tryz.prog agu amj Tryz.f18)
def aru:TH:={ loops:=[(6,{ keep:=[(3,(.int .i64))],mem:=[] })],ro:=[] }
def qm (a0:List (List UInt8)) (y6:(Int×Unit)):Option ((Int×Unit)⊕Int) :=
 cond (decide (y6.1<(a0.length:Int))) (
(atI a0 y6.1).bind fun x1 =>
(zbq x1).bind fun r2 =>
(atI a0 y6.1).bind fun x3 =>
 cond (decide (x3=[])) (some (.inr 8)) (cond (!r2.2.1) (
 some (.inr 8)) (
 some (.inl ((IntKind.wrap .i64 (y6.1+1)),()))))) (
 some (.inr 0))
def zbw (a0:List (List UInt8)):Option Int :=
 cond (decide ((a0.length:Int)=0)) (
 some 8) (
 cond (decide ((a0.length:Int)>8)) (
 some 9) (
 aJ (qm a0) (0,())))
def yY:TFn:={ ps:=tT21,res:=(.int .i64),fn:=fun v=>zbw v.1 }
def ami:TEnv:=(vZ [(73,zk)])
theorem amh:runY Tryz.prog agu amj ami aru Tryz.f18 yY.ps yY.res=yY.fn:=by kernel_rfl
theorem ags:aB Tryz.prog G0 18 agt:=ai (ak ⟨ay,(aj agJ ae),ap,ae,an⟩ Tryz.func18 rfl (by kernel_rfl))
theorem amg:TOk agt yY:=aC (E:=agu) (ET:=ami) (EnvT.ofX (az (ah amB al)) am au aQ ar) amh rfl
def ai6:Env:=(eZ [(31,yA),(32,yG)] [274])
def ap0:Hints:=(hZ [] [6])
def adn:SFn:=runF Tryz.prog ai6 ap0 Tryz.f20
def asn:TH:=yZ
def za3 (a1:List vV6) (w0:vV7):Option (Bool×vV7×Unit) :=
(zcn a1 w0.1).bind fun r1 =>
(zcs r1 w0.2.1).bind fun r2 =>
 some ((!r2),w0,())
def sU:TRaw:={ ps:=(.cons (.bx 0 0) (.cons (.sl tT18) .unit)),ins:=[.box 139 tT17],res:=.bool,outs:=[.box 139 tT17],fn:=fun v w=>za3 v.2.1 w.1 }
def apZ:TEnv:=(vZ [(31,sC),(32,sE)])
theorem apY:rawY Tryz.prog ai6 ap0 apZ asn [(0,0)] Tryz.f20 sU.ps sU.ins sU.res sU.outs=sU.fn:=by kernel_rfl
theorem ai5:bL Tryz.prog G0 20 adn:=ak ⟨ay,(aj sD (aj sF ae)),ap,ae,an⟩ Tryz.func20 rfl (by kernel_rfl)
theorem apX:TRawOk adn sU:=o6 (E:=ai6) (ET:=apZ) (EnvT.ofX (az (ah yz (ah yF al))) am au aQ ar) apY
theorem f7:∀ xs st p,adn xs st=some p→p.2=st:=fun xs st p hp=>jx (by kernel_rfl) hp
def bW (y8:(Int×List Bool×Unit)) (r1:(List Int×Bool×Unit)) (r2:(List Int×Bool×Unit)) (y12:(Int×List Bool×List Bool×Unit)):Option ((Int×List Bool×List Bool×Unit)⊕((Int×List Bool×Unit)⊕((List Bool×Unit)⊕Bool))) :=
 cond (decide (y12.1≤(r2.1.length:Int))) (
(atI r1.1 y8.1).bind fun x7 =>
 cond (decide (x7=(-2))) (
(inI y12.2.1.length y12.1).bind fun i8 =>
(y12.2.1[i8]?).bind fun x9 =>
 cond x9 ((inI y12.2.2.1.length y12.1).bind fun i10 =>
(y12.2.2.1[i10]?).bind fun x11 =>
 some (.inl ((IntKind.wrap .i64 (y12.1+1)),y12.2.1,(y12.2.2.1.set i10 true),()))) (cond (decide (y12.1>0)) ((inI y12.2.2.1.length (IntKind.wrap .i64 (y12.1-1))).bind fun i12 =>
(y12.2.2.1[i12]?).bind fun x13 =>
(inI y12.2.2.1.length y12.1).bind fun i14 =>
(y12.2.2.1[i14]?).bind fun x15 =>
 some (.inl ((IntKind.wrap .i64 (y12.1+1)),y12.2.1,(y12.2.2.1.set i14 x13),()))) ((inI y12.2.2.1.length y12.1).bind fun i16 =>
(y12.2.2.1[i16]?).bind fun x17 =>
 some (.inl ((IntKind.wrap .i64 (y12.1+1)),y12.2.1,(y12.2.2.1.set i16 false),()))))) (
(cond (decide (y12.1>0)) ((inI y12.2.1.length (IntKind.wrap .i64 (y12.1-1))).bind fun i18 =>
(y12.2.1[i18]?).bind fun x19 =>
 some (y12.1,x19,y12.2.1,y12.2.2.1,())) (some (y12.1,false,y12.2.1,y12.2.2.1,())):Option (Int×Bool×List Bool×List Bool×Unit)).bind fun v20 =>
 cond v20.2.1 ((atI r1.1 y8.1).bind fun x21 =>
 cond (decide (x21=(-1))) ((inI v20.2.2.2.1.length v20.1).bind fun i22 =>
(v20.2.2.2.1[i22]?).bind fun x23 =>
 some (.inl ((IntKind.wrap .i64 (y12.1+1)),v20.2.2.1,(v20.2.2.2.1.set i22 true),()))) ((atI r1.1 y8.1).bind fun x24 =>
(atI r2.1 (IntKind.wrap .i64 (y12.1-1))).bind fun x25 =>
(inI v20.2.2.2.1.length v20.1).bind fun i26 =>
(v20.2.2.2.1[i26]?).bind fun x27 =>
 some (.inl ((IntKind.wrap .i64 (y12.1+1)),v20.2.2.1,(v20.2.2.2.1.set i26 (decide (x24=x25))),())))) ((inI v20.2.2.2.1.length v20.1).bind fun i28 =>
(v20.2.2.2.1[i28]?).bind fun x29 =>
 some (.inl ((IntKind.wrap .i64 (y12.1+1)),v20.2.2.1,(v20.2.2.2.1.set i28 false),()))))) (
 some (.inr (.inl ((IntKind.wrap .i64 (y8.1+1)),y12.2.2.1,()))))
def dJ (r1:(List Int×Bool×Unit)) (r2:(List Int×Bool×Unit)) (y8:(Int×List Bool×Unit)):Option ((Int×List Bool×Unit)⊕((List Bool×Unit)⊕Bool)) :=
 cond (decide (y8.1<(r1.1.length:Int))) (
(mkT (IntKind.wrap .i64 ((r2.1.length:Int)+1)) (IntKind.wrap .i64 ((r2.1.length:Int)+1))).bind fun u6 =>
 aJ (bW y8 r1 r2) (0,y8.2.1,(List.replicate (IntKind.wrap .i64 ((r2.1.length:Int)+1)).toNat false),())) (
 some (.inr (.inl (y8.2.1,()))))
def aif:Go.Shelf.Ren:=⟨fun | 41=>81 | n=>n,fun | 22=>52 | 23=>125 | 4=>4 | n=>n,fun | n=>n⟩
theorem adf:Go.Proofs.SlLaysE0.n41 Tryz.prog aif:={
 mixed:=by kernel_rfl
 f41:=⟨Tryz.f81.name,by decide,Tryz.func81.trans (congrArg some (by kernel_rfl))⟩
 t4:=Tryz.underlying4
 a4:=Tryz.isAgg4
 z4:=Tryz.sizeOf4
 v4:=Tryz.zeroValue4
 t22:=Tryz.underlying52
 a22:=Tryz.isAgg52
 z22:=Tryz.sizeOf52
 v22:=Tryz.zeroValue52 }
def aih:SFn:=oh 4 125
theorem aig:bL Tryz.prog G0 81 aih:=acl adf rfl rfl (iZ (P:=Tryz.prog) (te:=125) (M:=4) (by kernel_rfl) (by kernel_rfl) (by kernel_rfl) (by kernel_rfl) (by kernel_rfl) (by kernel_rfl) (by kernel_rfl) (by kernel_rfl)) ⟨Tryz.f81,Tryz.func81,rfl,by kernel_rfl⟩
def zan (a0:List vV0):Option (List vV0):=eR a0
def aoU:TNew:=sg 125 tT11
theorem aoT:TNewOk aih aoU:=acm rfl rfl rfl
def ais:Go.Shelf.Ren:=⟨fun | 41=>81 | n=>n,fun | 22=>52 | 23=>125 | 4=>4 | n=>n,fun | n=>n⟩
theorem adi:Go.Proofs.SlLaysE0.n41 Tryz.prog ais:={
 mixed:=by kernel_rfl
 f41:=⟨Tryz.f81.name,by decide,Tryz.func81.trans (congrArg some (by kernel_rfl))⟩
 t4:=Tryz.underlying4
 a4:=Tryz.isAgg4
 z4:=Tryz.sizeOf4
 v4:=Tryz.zeroValue4
 t22:=Tryz.underlying52
 a22:=Tryz.isAgg52
 z22:=Tryz.sizeOf52
 v22:=Tryz.zeroValue52 }
def aiu:PFn:=(j9 4)
theorem ait:aB Tryz.prog G0 81 aiu:=clone_lays adi 4 ⟨Tryz.f81,Tryz.func81,rfl,by kernel_rfl⟩ (by kernel_rfl) (by kernel_rfl) (by kernel_rfl) (by kernel_rfl) (by kernel_rfl) (by decide) (fun w=>Tryz.sizeOf125 w)
def zaj (a0:List vV0):Option (List vV0):=eR a0
def ao5:TFn:=fM tT11
theorem ao4:TOk aiu ao5:=mm rfl rfl rfl
def ahP:Env:=(eZ [(81,aiu)] [274])
def aol:Hints:=(hZ [] [4])
def ac5:SFn:=runF Tryz.prog ahP aol Tryz.f27
def ar2:TH:=yZ
def zay (w0:vV7):Option (List vV0×vV7×Unit) :=
(zaj w0.2.1).bind fun r1 =>
 some (r1,w0,())
def sL:TRaw:={ ps:=(.cons (.bx 0 0) .unit),ins:=[.box 139 tT17],res:=(.sl tT11),outs:=[.box 139 tT17],fn:=fun v w=>zay w.1 }
def aok:TEnv:=(vZ [(81,ao5)])
theorem aoj:rawY Tryz.prog ahP aol aok ar2 [(0,0)] Tryz.f27 sL.ps sL.ins sL.res sL.outs=sL.fn:=by kernel_rfl
theorem ahO:bL Tryz.prog G0 27 ac5:=ak ⟨ay,(aj ait ae),ap,ae,an⟩ Tryz.func27 rfl (by kernel_rfl)
theorem aoi:TRawOk ac5 sL:=o6 (E:=ahP) (ET:=aok) (EnvT.ofX (az (ah ao4 al)) am au aQ ar) aoj
theorem f0:∀ xs st p,ac5 xs st=some p→p.2=st:=fun xs st p hp=>jx (by kernel_rfl) hp
def ahU:Env:=(eZ [] [274])
def aou:Hints:=(hZ [] [])
def ahT:PFn:=aH (runF Tryz.prog ahU aou Tryz.f85)
def ar4:TH:={ loops:=[],ro:=[1] }
def zaw (a0:vV8):Option vV0 :=
 cond (decide (a0.1=1)) (
 some a0.2.2.1) (
 some a0.2.1)
def zY:TFn:={ ps:=(.cons tT19 .unit),res:=tT11,fn:=fun v=>zaw v.1 }
def aot:TEnv:=(vZ [])
theorem aos:runY Tryz.prog ahU aou aot ar4 Tryz.f85 zY.ps zY.res=zY.fn:=by kernel_rfl
theorem ahS:aB Tryz.prog G0 85 ahT:=ai (ak ⟨ay,ae,ap,ae,an⟩ Tryz.func85 rfl (by kernel_rfl))
theorem aor:TOk ahT zY:=aC (E:=ahU) (ET:=aot) (EnvT.ofX (az al) am au aQ ar) aos rfl
def aim:Go.Shelf.Ren:=⟨fun | 22=>88 | 29=>157 | 30=>158 | n=>n,fun | 24=>52 | 9=>125 | 0=>0 | 3=>3 | 4=>4 | n=>n,fun | n=>n⟩
theorem adg:InsL Tryz.prog aim:={
 mixed:=by kernel_rfl
 f22:=⟨Tryz.f88.name,by decide,Tryz.func88.trans (congrArg some (by kernel_rfl))⟩
 f29:=⟨Tryz.f157.name,by decide,by kernel_rfl,by kernel_rfl,Tryz.func157.trans (congrArg some (by kernel_rfl))⟩
 t0:=Tryz.underlying0
 a0:=Tryz.isAgg0
 z0:=Tryz.sizeOf0
 v0:=Tryz.zeroValue0
 t3:=Tryz.underlying3
 a3:=Tryz.isAgg3
 z3:=Tryz.sizeOf3
 v3:=Tryz.zeroValue3
 t4:=Tryz.underlying4
 a4:=Tryz.isAgg4
 z4:=Tryz.sizeOf4
 v4:=Tryz.zeroValue4
 t24:=Tryz.underlying52
 a24:=Tryz.isAgg52
 z24:=Tryz.sizeOf52
 v24:=Tryz.zeroValue52 }
def aio:SFn:=ey 4 125
theorem ain:bL Tryz.prog G0 88 aio:=nX adg rfl rfl rfl (iZ (P:=Tryz.prog) (te:=125) (M:=4) (by kernel_rfl) (by kernel_rfl) (by kernel_rfl) (by kernel_rfl) (by kernel_rfl) (by kernel_rfl) (by kernel_rfl) (by kernel_rfl)) true Tryz.isAgg125 ⟨Tryz.f88,Tryz.func88,rfl,by kernel_rfl⟩
def zal (a1:Int) (a2:List vV0) (w0:List vV0):Option (Unit×List vV0×Unit):=(insT w0 a1 a2).map fun l=>((),(l,()))
def ao1:TRaw:=insR false 125 tT11
theorem ao0:TRawOk aio ao1:=abJ rfl rfl rfl rfl (by decide)
def aip:Go.Shelf.Ren:=⟨fun | 45=>90 | n=>n,fun | 22=>52 | 23=>125 | 0=>0 | 3=>3 | 4=>4 | n=>n,fun | n=>n⟩
theorem adh:Go.Proofs.SlLaysE0.n45 Tryz.prog aip:={
 mixed:=by kernel_rfl
 f45:=⟨Tryz.f90.name,by decide,Tryz.func90.trans (congrArg some (by kernel_rfl))⟩
 t0:=Tryz.underlying0
 a0:=Tryz.isAgg0
 z0:=Tryz.sizeOf0
 v0:=Tryz.zeroValue0
 t3:=Tryz.underlying3
 a3:=Tryz.isAgg3
 z3:=Tryz.sizeOf3
 v3:=Tryz.zeroValue3
 t4:=Tryz.underlying4
 a4:=Tryz.isAgg4
 z4:=Tryz.sizeOf4
 v4:=Tryz.zeroValue4
 t22:=Tryz.underlying52
 a22:=Tryz.isAgg52
 z22:=Tryz.sizeOf52
 v22:=Tryz.zeroValue52 }
def air:SFn:=ij 4 125
theorem aiq:bL Tryz.prog G0 90 air:=xZ adh rfl rfl (iZ (P:=Tryz.prog) (te:=125) (M:=4) (by kernel_rfl) (by kernel_rfl) (by kernel_rfl) (by kernel_rfl) (by kernel_rfl) (by kernel_rfl) (by kernel_rfl) (by kernel_rfl)) true Tryz.isAgg125 ⟨Tryz.f90,Tryz.func90,rfl,by kernel_rfl⟩
def zak (a1:Int) (a2:Int) (w0:List vV0):Option (Unit×List vV0×Unit):=(delT w0 a1 a2).map fun l=>((),(l,()))
def ao3:TRaw:=delR 125 tT11
theorem ao2:TRawOk air ao3:=aj1 rfl rfl rfl rfl (by decide)
def aiT:Env:=(eZ [(86,aam)] [274])
def apz:Hints:=(hZ [(3,[0,2,4,8,9,10])] [])
def aiS:PFn:=aH (runF Tryz.prog aiT apz Tryz.f84)
def asg:TH:={ joins:=[(8,{ keep:=[(4,(.bx 0 0)),(9,(.int .i64))],mem:=[.same] })],loops:=[(3,{ keep:=[(4,(.bx 0 0)),(9,(.int .i64)),(10,(.int .i64))],mem:=[.same] })],ro:=[4] }
def ne (a0:List vV0) (a1:vV0) (y3:(Int×Int×Unit)):Option ((Int×Int×Unit)⊕((Int×Unit)⊕(Int×Bool×Unit))) :=
 cond (decide (y3.1<y3.2.1)) (
(shrT .u64 (IntKind.wrap .u64 (IntKind.wrap .i64 (y3.1+y3.2.1))) 1).bind fun t1 =>
(atI a0 (IntKind.wrap .i64 t1)).bind fun x2 =>
(za7 x2 a1).bind fun r3 =>
 cond (decide (r3<0)) (
 some (.inl ((IntKind.wrap .i64 ((IntKind.wrap .i64 t1)+1)),y3.2.1,()))) (
 some (.inl (y3.1,(IntKind.wrap .i64 t1),())))) (
 some (.inr (.inl (y3.1,()))))
def zab (a0:List vV0) (a1:vV0) (a2:Unit):Option (Int×Bool×Unit) :=
(aJ (ne a0 a1) (0,(a0.length:Int),()):Option ((Int×Unit)⊕(Int×Bool×Unit))).bind (be fun v4 =>
 cond (decide (v4.1<(a0.length:Int))) ((atI a0 v4.1).bind fun x5 =>
(za7 x5 a1).bind fun r6 =>
 some (v4.1,(decide (r6=0)),())) (some (v4.1,false,())))
def aag:TFn:={ ps:=(.cons (.sl tT11) (.cons tT11 (.cons (.fn 86) .unit))),res:=(.tup (.cons (.int .i64) (.cons .bool .unit))),fn:=fun v=>zab v.1 v.2.1 v.2.2.1 }
def apy:TEnv:=(vZ [(86,sP)])
theorem apx:runY Tryz.prog aiT apz apy asg Tryz.f84 aag.ps aag.res=aag.fn:=by kernel_rfl
theorem aiR:aB Tryz.prog G0 84 aiS:=ai (ak ⟨ay,(aj sQ ae),ap,ae,an⟩ Tryz.func84 rfl (by kernel_rfl))
theorem apw:TOk aiS aag:=aC (E:=aiT) (ET:=apy) (EnvT.ofX (az (ah aal al)) am au aQ ar) apx rfl
def ag3:Env:={ pure:=[(85,ahT),(86,aam),(87,acV),(89,ac0)],raw:=[(81,aih),(88,aio),(90,air)],glob:=G0,same:=[274],look:=[(84,aiS)],ext:=[] }
def am7:Hints:=(hZ [(3,[6,13,14,15])] [])
def ag2:PFn:=aH (runF Tryz.prog ag3 am7 Tryz.f30)
def arI:TH:={ joins:=[(12,{ keep:=[(6,(.own 0)),(8,(.bx 1 0))],mem:=[.row false 125 tT11,.box 127 tT19] })],loops:=[(3,{ keep:=[(6,(.own 0)),(15,(.int .i64))],mem:=[.row false 125 tT11] })],ro:=[] }
def qn (a1:List vV8) (y3:(Int×List vV0×Unit)):Option ((Int×List vV0×Unit)⊕(List vV0×Int×Unit)) :=
 cond (decide (y3.1<(a1.length:Int))) (
(atI a1 y3.1).bind fun x2 =>
(zaw x2).bind fun r3 =>
(zab y3.2.1 r3 ()).bind fun r4 =>
(cond (decide (x2.1<1)) (some (.inr (.inr ([],18,())))) (cond (decide (x2.1>3)) (
 some (.inr (.inr ([],18,())))) (
 cond (!(r4.2.1==(!decide (x2.1=1)))) (some (.inr (.inr ([],12,())))) (cond r4.2.1 ((inI y3.2.1.length r4.1).bind fun i5 =>
(y3.2.1[i5]?).bind fun x6 =>
(zbo x6 x2.2.1).bind fun r7 =>
 cond (!r7) (
 some (.inr (.inr ([],12,())))) (
 cond (decide (x2.1=3)) ((za7 x2.2.1 x2.2.2.1).bind fun r8 =>
 cond (!decide (r8=0)) (
 some (.inr (.inr ([],2,())))) (
 some (.inl (y3.2.1,x2,())))) (some (.inl (y3.2.1,x2,()))))) (cond (decide (x2.1=3)) ((za7 x2.2.1 x2.2.2.1).bind fun r9 =>
 cond (!decide (r9=0)) (
 some (.inr (.inr ([],2,())))) (
 some (.inl (y3.2.1,x2,())))) (some (.inl (y3.2.1,x2,()))))))):Option ((List vV0×vV8×Unit)⊕((Int×List vV0×Unit)⊕(List vV0×Int×Unit)))).bind (be fun v10 =>
 cond (decide (v10.2.1.1=1)) (
(zbe v10.2.1.2.2.1).bind fun r11 =>
(zal r4.1 ([r11]:List vV0) v10.1).bind fun q12 =>
 some (.inl ((IntKind.wrap .i64 (y3.1+1)),q12.2.1,()))) (
 cond (decide (v10.2.1.1=2)) (
(zak r4.1 (IntKind.wrap .i64 (r4.1+1)) v10.1).bind fun q13 =>
 some (.inl ((IntKind.wrap .i64 (y3.1+1)),q13.2.1,()))) (
(zbe v10.2.1.2.2.1).bind fun r14 =>
(inI v10.1.length r4.1).bind fun i15 =>
(v10.1[i15]?).bind fun x16 =>
 some (.inl ((IntKind.wrap .i64 (y3.1+1)),(v10.1.set i15 r14),())))))) (
 some (.inr (y3.2.1,0,())))
def zbi (a0:List vV0) (a1:List vV8):Option (List vV0×Int×Unit) :=
(zan a0).bind fun n1 =>
 aJ (qn a1) (0,n1,())
def zA:TFn:={ ps:=(.cons (.sl tT11) (.cons (.sl tT19) .unit)),res:=(.tup (.cons (.sl tT11) tT15)),fn:=fun v=>zbi v.1 v.2.1 }
def am6:TEnv:={ pure:=[(85,zY),(86,sP),(87,wO),(89,wR)],look:=[(84,aag)],glob:=G0T,ty:=[(125,tT11)],raw:=[(88,ao1),(90,ao3)],fresh:=[(81,aoU)] }
theorem am5:runY Tryz.prog ag3 am7 am6 arI Tryz.f30 zA.ps zA.res=zA.fn:=by kernel_rfl
theorem ag1:aB Tryz.prog G0 30 ag2:=ai (ak ⟨ay,(aj ahS (aj sQ (aj zq (aj zF ae)))),(bv aig (bv ain (bv aiq ap))),(aj aiR ae),an⟩ Tryz.func30 rfl (by kernel_rfl))
theorem am4:TOk ag2 zA:=aC (E:=ag3) (ET:=am6) (EnvT.ofX (az (ah aor (ah aal (ah aeM (ah aeQ al))))) (jI apw rfl am) (iG (ci ao0 rfl rfl (ci ao2 rfl rfl au)) rfl) aQ (iN aoT rfl rfl rfl ar)) am5 rfl
def ai4:Env:={ pure:=[(14,afK),(15,acW),(16,agN),(18,agt),(19,acN),(30,ag2),(31,yA),(32,yG)],raw:=[(17,acP),(20,adn),(21,ac4),(27,ac5)],glob:=G0,same:=[274],look:=[],ext:=[],quiet:=[20,27] }
def apV:Hints:=(hZ [(8,[0,1,2,7,9,10])] [])
def apW:PFn:=aH (runF Tryz.prog ai4 apV Tryz.f5)
def asm:TH:={ joins:=[(15,{ keep:=[(7,(.bx 0 0)),(9,(.sl tT11))],mem:=[.box 139 tT17] })],loops:=[(8,{ keep:=[(7,(.bx 0 0)),(9,(.sl tT11)),(10,(.int .i64))],mem:=[.box 139 tT17] })],ro:=[] }
def nf (a0:List vV4) (a1:List (List vV2×Unit)) (a2:List (List UInt8)) (y8:(List vV0×Int×vV7×Unit)):Option ((List vV0×Int×vV7×Unit)⊕((List vV0×vV7×Unit)⊕Bool)) :=
 cond (decide (y8.2.1<(a1.length:Int))) (
(atI a1 y8.2.1).bind fun x9 =>
(zcy a0 x9.1).bind fun r10 =>
(zaz r10 y8.2.2.1).bind fun q11 =>
(zbi y8.1 q11.1).bind fun r12 =>
 cond (!decide (r12.2.1=0)) (some (.inr (.inr false))) ((zcn r10 a2).bind fun r13 =>
(zcs r12.1 r13).bind fun r14 =>
 cond (!r14) (some (.inr (.inr false))) ((zaz r10 q11.2.1).bind fun q15 =>
 cond (!decide ((q15.1.length:Int)=0)) (some (.inr (.inr false))) ((za3 r10 q15.2.1).bind fun q16 =>
 cond q16.1 (
 some (.inr (.inr false))) (
 some (.inl (r12.1,(IntKind.wrap .i64 (y8.2.1+1)),q16.2.1,()))))))) (
 some (.inr (.inl (y8.1,y8.2.2.1,()))))
def za4 (a0:List vV4) (a1:List (List vV2×Unit)) (a2:List (List UInt8)):Option Bool :=
(zcm a0 a1).bind fun r1 =>
 cond (!r1) ((zbp).bind fun r2 =>
 some r2) ((zbl a2).bind fun r3 =>
 cond (!r3) ((zbp).bind fun r4 =>
 some r4) ((zbw a2).bind fun r5 =>
 cond (!decide (r5=0)) (
(zbp).bind fun r6 =>
 some r6) (
(zct a2).bind fun p7 =>
 cond p7.1.isEmpty (
 cond (!decide (p7.2.1=0)) (
 some false) (
 none)) (
((p7.1.head? : Option vV7)).bind fun x8 =>
 cond (!decide (p7.2.1=0)) (
 some false) (
(aJ (nf a0 a1 a2) ([],0,x8,()):Option ((List vV0×vV7×Unit)⊕Bool)).bind (be fun v17 =>
(zay v17.2.1).bind fun q18 =>
(zcs v17.1 q18.1).bind fun r19 =>
 cond r19 ((zbp).bind fun r20 =>
 some r20) (some false)))))))
def sS:TFn:={ ps:=(.cons (.sl tT16) (.cons (.sl (.agg (.cons (.sl tT13) .unit))) tT21)),res:=.bool,fn:=fun v=>za4 v.1 v.2.1 v.2.2.1 }
def apU:TEnv:={ pure:=[(14,yH),(15,wP),(16,zo),(18,yY),(19,wH),(30,zA),(31,sC),(32,sE)],look:=[],glob:=G0T,ty:=[],raw:=[(20,sU),(21,qq),(27,sL)],fresh:=[(17,yy)] }
theorem apT:runY Tryz.prog ai4 apV apU asm Tryz.f5 sS.ps sS.res=sS.fn:=by kernel_rfl
theorem za4_Fok:aB Tryz.prog G0 5 apW:=ai (ak ⟨ay,(aj afJ (aj zw (aj agM (aj ags (aj yp (aj ag1 (aj sD (aj sF ae)))))))),(bv yx (bv ai5 (bv zX (bv ahO ap)))),ae,an⟩ Tryz.func5 rfl (by kernel_rfl))
theorem za4_ok:TOk apW sS:=aC (E:=ai4) (ET:=apU) (EnvT.ofX (az (ah ala (ah aeN (ah amF (ah amg (ah aeE (ah am4 (ah yz (ah yF al))))))))) am (iG (ci apX rfl rfl (ci aeS rfl rfl (ci aoi rfl rfl au))) rfl) aQ (iN aeG rfl rfl rfl ar) (jA f7 rfl rfl rfl (jA f0 rfl rfl rfl lq))) apT rfl
end
end Go.Proofs.YtnbgkhdcidbkaaaGreatDoor.Y
