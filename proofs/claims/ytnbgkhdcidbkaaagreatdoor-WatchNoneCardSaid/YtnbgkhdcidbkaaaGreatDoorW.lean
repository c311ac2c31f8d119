import Derived.Test.YtnbgkhdcidbkaaaGreatDoorS
import Derived.Test.YtnbgkhdcidbkaaaGreatDoorT29
import GoSem.PinnedTables
set_option linter.unusedVariables false
set_option maxRecDepth 100000
namespace Go.Proofs.YtnbgkhdcidbkaaaGreatDoor.Y
open Go.EM Go.TY Go.Proofs
theorem zb.{u,v}{A:Type u}{B:Type v} (a:A) (f:A→Option B):(some a).bind f=f a:=rfl
theorem zg.{u}{A:Type u}{l:List A}{i:Nat} (h:i<l.length):l[i]? = some l[i]:=List.getElem?_eq_getElem h
theorem zl.{u}{A:Type u}{a:A}{l:List A}:(a::l).length=l.length+1:=rfl
theorem zf {p:Prop} [Decidable p] (h:¬p):decide p=false:=decide_eq_false h
theorem zn.{u}{c:Prop}{h:Decidable c} (hc:¬c) {A:Sort u}{t e:A}:ite c t e=e:=if_neg hc
theorem zp.{u}{c:Prop}{h:Decidable c} (hc:c) {A:Sort u}{t e:A}:ite c t e=t:=if_pos hc
theorem zm.{u}{A:Type u}{l:List A}{n:Nat} (h:n<l.length):l[n]∈l:=List.getElem_mem h
theorem zt {p:Prop} [Decidable p] (h:p):decide p=true:=decide_eq_true h
noncomputable section
def gO:List Int:=Go.Pinned.utf8FirstZ.map fun (n:Nat)=>(n:Int)
def fq:List (Int×Int×Unit):=[(128,191,()),(160,191,()),(128,159,()),(144,191,()),(128,143,()),(0,0,()),(0,0,()),(0,0,()),(0,0,()),(0,0,()),(0,0,()),(0,0,()),(0,0,()),(0,0,()),(0,0,()),(0,0,())]
def G0:List (Nat×AVal):=[(0,.rptr (gO.map (AVal.int .u8))),(1,.rptr (fq.flatMap fun p=>[AVal.int .u8 p.1,AVal.int .u8 p.2.1]))]
def G0T:List (Nat×TV):=[(0,⟨.rp (.arr 256 (.int .u8)) 0,gO⟩),(1,⟨.rp (.arr 16 (.agg (.cons (.int .u8) (.cons (.int .u8) .unit)))) 0,fq⟩)]
theorem aJ:ko G0 G0T:=oV rfl rfl (ad3 (by kernel_rfl)) (oV rfl rfl (aae (by kernel_rfl)) ad2)
theorem au:∀ f,memN f [274]=true→Same Tryz.prog f:=by
 intro f h
 by_cases e274:f=274
 · subst e274; exact ⟨Tryz.f274,Tryz.func274,by kernel_rfl,by kernel_rfl,by kernel_rfl,by kernel_rfl⟩
 simp_all [memN]
def eZ (l:List (Nat×PFn)) (s:List Nat):Env:={ pure:=l,raw:=[],glob:=G0,same:=s,look:=[],ext:=[] }
def vZ (l:List (Nat×TFn)):TEnv:={ pure:=l,look:=[],glob:=G0T,ty:=[],raw:=[],fresh:=[] }
def hZ (l:List (Nat×List Nat)) (o:List Nat):Hints:={ seqs:=[],loops:=l,own:=o }
def yZ:TH:={ joins:=[],loops:=[],cuts:=[],ro:=[],news:=[] }
abbrev vV0:=(List (List UInt8)×Int×List (Int×Int×List UInt8×Unit)×Int×Unit)
abbrev vV1:=(Int×List (List UInt8)×(Int×Int×List UInt8×Unit)×Int×List ((Int×Int×Unit)×Int×Unit)×Unit)
abbrev vV2:=((Int×Int×Unit)×Int×Unit)
abbrev vV3:=(Int×Int×List UInt8×Unit)
abbrev vV4:=(List (List UInt8)×Int×Unit)
abbrev vV5:=((Int×Int×Unit)×Int×Int×Bool×List vV1×Unit)
abbrev vV6:=(vV2×vV1×Int×Unit)
abbrev vV7:=(Int×vV0×vV0×Unit)
abbrev vV8:=(List (List UInt8)×List vV0×Int×Unit)
abbrev vV9:=(List (List UInt8)×List (List UInt8)×Unit)
abbrev vV10:=(Int×List vV4×Unit)
abbrev vV11:=(Int×List (vV2×Bool)×Unit)
abbrev tT12:Ty:=(.agg (.cons (.sl .str) (.cons (.int .i64) (.cons (.sl (.agg (.cons (.int .i64) (.cons (.int .i64) (.cons .str .unit))))) (.cons (.int .i64) .unit)))))
abbrev tT13:Ty:=(.agg (.cons (.int .i64) (.cons (.sl .str) (.cons (.agg (.cons (.int .i64) (.cons (.int .i64) (.cons .str .unit)))) (.cons (.int .i64) (.cons (.sl (.agg (.cons (.agg (.cons (.int .i64) (.cons (.int .i64) .unit))) (.cons (.int .i64) .unit)))) .unit))))))
abbrev tT14:Ty:=(.agg (.cons (.agg (.cons (.int .i64) (.cons (.int .i64) .unit))) (.cons (.int .i64) .unit)))
abbrev tT15:Ty:=(.agg (.cons (.int .i64) (.cons (.int .i64) (.cons .str .unit))))
abbrev tT16:Ty:=(.cons (.int .i64) .unit)
abbrev tT17:Ty:=(.agg (.cons (.agg (.cons (.int .i64) tT16)) (.cons (.int .i64) (.cons (.int .i64) (.cons .bool (.cons (.sl tT13) .unit))))))
abbrev tT18:Ty:=(.agg (.cons (.int .i64) (.cons tT12 (.cons tT12 .unit))))
abbrev tT19:Ty:=(.agg (.cons tT14 (.cons tT13 tT16)))
abbrev tT20:Ty:=(.agg (.cons (.sl .str) tT16))
abbrev tT21:Ty:=(.agg (.cons (.sl .str) (.cons (.sl tT12) tT16)))
abbrev tT22:Ty:=(.cons (.sl .str) .unit)
abbrev tT23:Ty:=(.cons (.agg (.cons (.int .i64) tT16)) .unit)
def ajY:Env:=(eZ [] [274])
def arJ:Hints:=(hZ [] [])
def afd:PFn:=aF (runF Tryz.prog ajY arJ Tryz.f172)
def axT:TH:=yZ
def zc1 (a0:Int) (a1:Int):Option Int :=
 cond (decide (a0<a1)) (
 some (-1)) (
 cond (decide (a0>a1)) (
 some 1) (
 some 0))
def yM:TFn:={ ps:=(.cons (.int .i64) tT16),res:=(.int .i64),fn:=fun v=>zc1 v.1 v.2.1 }
def arI:TEnv:=(vZ [])
theorem arH:runY Tryz.prog ajY arJ arI axT Tryz.f172 yM.ps yM.res=yM.fn:=by kernel_rfl
theorem abA:aA Tryz.prog G0 172 afd:=ai (ak ⟨au,ac,ap,ac,an⟩ Tryz.func172 rfl (by kernel_rfl))
theorem ahd:TOk afd yM:=az (E:=ajY) (ET:=arI) (EnvT.ofX (ax al) am ar aJ aq) arH rfl
def akD:Env:=(eZ [(172,afd)] [274])
def asN:Hints:=(hZ [] [])
def abT:PFn:=aF (runF Tryz.prog akD asN Tryz.f101)
def ayb:TH:={ loops:=[],ro:=[2,3] }
def zbj (a0:(Int×Int×Unit)) (a1:(Int×Int×Unit)):Option Int :=
 cond (!decide (a0.1=a1.1)) (
(zc1 a0.1 a1.1).bind fun r1 =>
 some r1) (
(zc1 a0.2.1 a1.2.1).bind fun r2 =>
 some r2)
def uh:TFn:={ ps:=(.cons (.agg (.cons (.int .i64) tT16)) tT23),res:=(.int .i64),fn:=fun v=>zbj v.1 v.2.1 }
def asM:TEnv:=(vZ [(172,yM)])
theorem asL:runY Tryz.prog akD asN asM ayb Tryz.f101 uh.ps uh.res=uh.fn:=by kernel_rfl
theorem ui:aA Tryz.prog G0 101 abT:=ai (ak ⟨au,(aj abA ac),ap,ac,an⟩ Tryz.func101 rfl (by kernel_rfl))
theorem abS:TOk abT uh:=az (E:=akD) (ET:=asM) (EnvT.ofX (ax (ah ahd al)) am ar aJ aq) asL rfl
def alo:Env:=(eZ [(101,abT)] [274])
def atU:Hints:=(hZ [(2,[0,3])] [])
def aln:PFn:=aF (runF Tryz.prog alo atU Tryz.f152)
def ayt:TH:={ loops:=[(2,{ keep:=[(3,(.int .i64))],mem:=[] })],ro:=[] }
def wV (a0:List vV5) (y2:(Int×Unit)):Option ((Int×Unit)⊕Bool) :=
 cond (decide (y2.1<(a0.length:Int))) (
(atI a0 (IntKind.wrap .i64 (y2.1-1))).bind fun x1 =>
(atI a0 y2.1).bind fun x2 =>
(zbj x1.1 x2.1).bind fun r3 =>
 cond (!decide (r3=(-1))) (
 some (.inr false)) (
 some (.inl ((IntKind.wrap .i64 (y2.1+1)),())))) (
 some (.inr true))
def zb1 (a0:List vV5):Option Bool :=
 aH (wV a0) (1,())
def acg:TFn:={ ps:=(.cons (.sl tT17) .unit),res:=.bool,fn:=fun v=>zb1 v.1 }
def atT:TEnv:=(vZ [(101,uh)])
theorem atS:runY Tryz.prog alo atU atT ayt Tryz.f152 acg.ps acg.res=acg.fn:=by kernel_rfl
theorem alm:aA Tryz.prog G0 152 aln:=ai (ak ⟨au,(aj ui ac),ap,ac,an⟩ Tryz.func152 rfl (by kernel_rfl))
theorem atR:TOk aln acg:=az (E:=alo) (ET:=atT) (EnvT.ofX (ax (ah abS al)) am ar aJ aq) atS rfl
def aj5:Env:=(eZ [] [274])
def arU:Hints:=(hZ [(4,[0,3])] [])
def afe:PFn:=aF (runF Tryz.prog aj5 arU Tryz.f15)
def axW:TH:={ loops:=[(4,{ keep:=[(3,(.int .i64))],mem:=[] })],ro:=[] }
def wJ (a0:List (List UInt8)) (y4:(Int×Unit)):Option ((Int×Unit)⊕Bool) :=
 cond (decide (y4.1<(a0.length:Int))) (
(atI a0 y4.1).bind fun x1 =>
 cond (decide ((x1.length:Int)>120)) (
 some (.inr false)) (
 some (.inl ((IntKind.wrap .i64 (y4.1+1)),())))) (
 some (.inr true))
def zby (a0:List (List UInt8)):Option Bool :=
 cond (decide ((a0.length:Int)>12)) (
 some false) (
 aH (wJ a0) (0,()))
def yN:TFn:={ ps:=tT22,res:=.bool,fn:=fun v=>zby v.1 }
def arT:TEnv:=(vZ [])
theorem arS:runY Tryz.prog aj5 arU arT axW Tryz.f15 yN.ps yN.res=yN.fn:=by kernel_rfl
theorem abD:aA Tryz.prog G0 15 afe:=ai (ak ⟨au,ac,ap,ac,an⟩ Tryz.func15 rfl (by kernel_rfl))
theorem ahe:TOk afe yN:=az (E:=aj5) (ET:=arT) (EnvT.ofX (ax al) am ar aJ aq) arS rfl
def ajv:Env:=(eZ [(15,afe)] [274])
def aqV:Hints:=(hZ [] [])
def aju:PFn:=aF (runF Tryz.prog ajv aqV Tryz.f108)
def axG:TH:={ loops:=[],ro:=[1] }
def zce (a0:vV1):Option Bool :=
(zby a0.2.1).bind fun r1 =>
 cond r1 (cond (decide ((a0.2.2.1.2.2.1.length:Int)≤200)) (some (decide ((a0.2.2.2.2.1.length:Int)≤300))) (some false)) (some false)
def abm:TFn:={ ps:=(.cons tT13 .unit),res:=.bool,fn:=fun v=>zce v.1 }
def aqU:TEnv:=(vZ [(15,yN)])
theorem aqT:runY Tryz.prog ajv aqV aqU axG Tryz.f108 abm.ps abm.res=abm.fn:=by kernel_rfl
theorem ajt:aA Tryz.prog G0 108 aju:=ai (ak ⟨au,(aj abD ac),ap,ac,an⟩ Tryz.func108 rfl (by kernel_rfl))
theorem aqS:TOk aju abm:=az (E:=ajv) (ET:=aqU) (EnvT.ofX (ax (ah ahe al)) am ar aJ aq) aqT rfl
def ak9:Env:=(eZ [(108,aju)] [274])
def atB:Hints:=(hZ [(4,[1,3])] [])
def ak8:PFn:=aF (runF Tryz.prog ak9 atB Tryz.f41)
def ayo:TH:={ loops:=[(4,{ keep:=[(1,(.bx 0 0)),(3,(.int .i64))],mem:=[.same] })],ro:=[1] }
def wU (a0:vV5) (y4:(Int×Unit)):Option ((Int×Unit)⊕Bool) :=
 cond (decide (y4.1<(a0.2.2.2.2.1.length:Int))) (
(atI a0.2.2.2.2.1 y4.1).bind fun x1 =>
(zce x1).bind fun r2 =>
 cond (!r2) (
 some (.inr false)) (
 some (.inl ((IntKind.wrap .i64 (y4.1+1)),())))) (
 some (.inr true))
def zb6 (a0:vV5):Option Bool :=
 cond (decide ((a0.2.2.2.2.1.length:Int)>20)) (
 some false) (
 aH (wU a0) (0,()))
def ab9:TFn:={ ps:=(.cons tT17 .unit),res:=.bool,fn:=fun v=>zb6 v.1 }
def atA:TEnv:=(vZ [(108,abm)])
theorem atz:runY Tryz.prog ak9 atB atA ayo Tryz.f41 ab9.ps ab9.res=ab9.fn:=by kernel_rfl
theorem ak7:aA Tryz.prog G0 41 ak8:=ai (ak ⟨au,(aj ajt ac),ap,ac,an⟩ Tryz.func41 rfl (by kernel_rfl))
theorem aty:TOk ak8 ab9:=az (E:=ak9) (ET:=atA) (EnvT.ofX (ax (ah aqS al)) am ar aJ aq) atz rfl
def ak6:Env:=(eZ [] [274])
def atx:Hints:=(hZ [] [])
def ab8:PFn:=aF (runF Tryz.prog ak6 atx Tryz.f109)
def ayn:TH:={ loops:=[],ro:=[1] }
def zb7 (a0:(Int×Int×Unit)):Option Bool :=
 cond (decide (a0.1≥0)) (cond (decide (a0.1≤15)) (cond (decide (a0.2.1≥1)) (some (decide (a0.2.1≤1048576))) (some false)) (some false)) (some false)
def uo:TFn:={ ps:=tT23,res:=.bool,fn:=fun v=>zb7 v.1 }
def atw:TEnv:=(vZ [])
theorem atv:runY Tryz.prog ak6 atx atw ayn Tryz.f109 uo.ps uo.res=uo.fn:=by kernel_rfl
theorem uq:aA Tryz.prog G0 109 ab8:=ai (ak ⟨au,ac,ap,ac,an⟩ Tryz.func109 rfl (by kernel_rfl))
theorem ab7:TOk ab8 uo:=az (E:=ak6) (ET:=atw) (EnvT.ofX (ax al) am ar aJ aq) atv rfl
def ai2:Env:=(eZ [] [274])
def aqa:Hints:=(hZ [(17,[0,4,5,6,7])] [])
def ai1:PFn:=aF (runF Tryz.prog ai2 aqa Tryz.f216)
def axt:TH:={ joins:=[(14,{ keep:=[(4,(.int .i64)),(5,(.int .i64)),(6,(.int .i64))],mem:=[] }),(9,{ keep:=[(18,.bool)],mem:=[] }),(22,{ keep:=[(4,(.int .i64))],mem:=[] }),(24,{ keep:=[],mem:=[] })],loops:=[(17,{ keep:=[(4,(.int .i64)),(7,(.int .i64))],mem:=[] })],ro:=[] }
def ge (a0:List UInt8) (v3:(Int×Int×Int×Unit)) (y17:(Int×Int×Unit)):Option ((Int×Int×Unit)⊕((Int×Unit)⊕(Int×Int×Unit))) :=
 cond (decide (y17.2.1<v3.2.1)) (
(atI a0 y17.2.1).bind fun b4 =>
 cond (decide ((b4.toNat:Int)<128)) (some (.inr (.inr (0,0,())))) ((atI a0 y17.2.1).bind fun b5 =>
 cond (decide ((b5.toNat:Int)>191)) (
 some (.inr (.inr (0,0,())))) (
(atI a0 y17.2.1).bind fun b6 =>
 some (.inl ((IntKind.wrap .i64 ((IntKind.wrap .i64 ((IntKind.wrap .i64 (64*y17.1))+(IntKind.wrap .i64 (b6.toNat:Int))))-128)),(IntKind.wrap .i64 (y17.2.1+1)),()))))) (
 some (.inr (.inl (y17.1,()))))
def zcr (a0:List UInt8):Option (Int×Int×Unit) :=
 cond (decide ((a0.length:Int)=0)) (
 some (0,0,())) (
(atI a0 0).bind fun b1 =>
(cond (decide ((IntKind.wrap .i64 (b1.toNat:Int))<128)) (
 some (.inr ((IntKind.wrap .i64 (b1.toNat:Int)),1,()))) (
(cond (decide ((IntKind.wrap .i64 (b1.toNat:Int))≥194)) (some (.inl ((decide ((IntKind.wrap .i64 (b1.toNat:Int))<224)),()))) (some (.inl (false,()))):Option ((Bool×Unit)⊕((Int×Int×Int×Unit)⊕(Int×Int×Unit)))).bind (aU fun v2 =>
 cond v2.1 (
 some (.inl ((IntKind.wrap .i64 ((IntKind.wrap .i64 (b1.toNat:Int))-192)),2,128,()))) (
 cond (decide ((IntKind.wrap .i64 (b1.toNat:Int))≥224)) (cond (decide ((IntKind.wrap .i64 (b1.toNat:Int))<240)) (
 some (.inl ((IntKind.wrap .i64 ((IntKind.wrap .i64 (b1.toNat:Int))-224)),3,2048,()))) (
 cond (decide ((IntKind.wrap .i64 (b1.toNat:Int))≥240)) (cond (decide ((IntKind.wrap .i64 (b1.toNat:Int))<245)) (
 some (.inl ((IntKind.wrap .i64 ((IntKind.wrap .i64 (b1.toNat:Int))-240)),4,65536,()))) (
 some (.inr (0,0,())))) (some (.inr (0,0,()))))) (cond (decide ((IntKind.wrap .i64 (b1.toNat:Int))≥240)) (cond (decide ((IntKind.wrap .i64 (b1.toNat:Int))<245)) (
 some (.inl ((IntKind.wrap .i64 ((IntKind.wrap .i64 (b1.toNat:Int))-240)),4,65536,()))) (
 some (.inr (0,0,())))) (some (.inr (0,0,()))))))):Option ((Int×Int×Int×Unit)⊕(Int×Int×Unit))).bind (aU fun v3 =>
 cond (decide ((a0.length:Int)<v3.2.1)) (
 some (0,0,())) (
(aH (ge a0 v3) (v3.1,1,()):Option ((Int×Unit)⊕(Int×Int×Unit))).bind (aU fun v7 =>
(cond (decide (v7.1<v3.2.2.1)) (some (.inr (0,0,()))) (cond (decide (v7.1>1114111)) (some (.inr (0,0,()))) (cond (decide (v7.1≥55296)) (cond (decide (v7.1≤57343)) (
 some (.inr (0,0,()))) (
 some (.inl ()))) (some (.inl ())))):Option (Unit⊕(Int×Int×Unit))).bind (aU fun v8 =>
 some (v7.1,v3.2.1,()))))))
def abb:TFn:={ ps:=(.cons .str .unit),res:=(.tup (.cons (.int .i64) tT16)),fn:=fun v=>zcr v.1 }
def ap9:TEnv:=(vZ [])
theorem ap8:runY Tryz.prog ai2 aqa ap9 axt Tryz.f216 abb.ps abb.res=abb.fn:=by kernel_rfl
theorem ai0:aA Tryz.prog G0 216 ai1:=ai (ak ⟨au,ac,ap,ac,an⟩ Tryz.func216 rfl (by kernel_rfl))
theorem ap7:TOk ai1 abb:=az (E:=ai2) (ET:=ap9) (EnvT.ofX (ax al) am ar aJ aq) ap8 rfl
def aj6:Env:=(eZ [(216,ai1)] [274])
def arX:Hints:=(hZ [(3,[0,4,5])] [])
def yO:PFn:=aF (runF Tryz.prog aj6 arX Tryz.f144)
def axX:TH:={ loops:=[(3,{ keep:=[(4,(.own 0)),(5,(.int .i64))],mem:=[.row true 3 (.int .i64)] })],ro:=[] }
def nY (a0:List UInt8) (y3:(Int×List Int×Unit)):Option ((Int×List Int×Unit)⊕(List Int×Bool×Unit)) :=
 cond (decide (y3.1<(a0.length:Int))) (
(subI a0 y3.1 (a0.length:Int)).bind fun s1 =>
(zcr s1).bind fun r2 =>
 cond (decide (r2.2.1=0)) (
 some (.inr ([],false,()))) (
(ch (y3.2.1.length+([r2.1]:List Int).length)).bind fun u3 =>
 some (.inl ((IntKind.wrap .i64 (y3.1+r2.2.1)),(y3.2.1++([r2.1]:List Int)),())))) (
 some (.inr (y3.2.1,true,())))
def zbx (a0:List UInt8):Option (List Int×Bool×Unit) :=
 aH (nY a0) (0,[],())
def rr:TFn:={ ps:=(.cons .str .unit),res:=(.tup (.cons (.sl (.int .i64)) (.cons .bool .unit))),fn:=fun v=>zbx v.1 }
def arW:TEnv:={ pure:=[(216,abb)],look:=[],glob:=G0T,ty:=[(3,(.int .i64))],raw:=[],fresh:=[] }
theorem arV:runY Tryz.prog aj6 arX arW axX Tryz.f144 rr.ps rr.res=rr.fn:=by kernel_rfl
theorem pr:aA Tryz.prog G0 144 yO:=ai (ak ⟨au,(aj ai0 ac),ap,ac,an⟩ Tryz.func144 rfl (by kernel_rfl))
theorem wK:TOk yO rr:=az (E:=aj6) (ET:=arW) (EnvT.ofX (ax (ah ap7 al)) am ar aJ aq) arV rfl
def aie:Env:=(eZ [] [274])
def aoW:Hints:=(hZ [] [])
def aid:PFn:=aF (runF Tryz.prog aie aoW Tryz.f306)
def aw9:TH:=yZ
def zdl (a0:Int):Option Bool :=
 cond (decide (a0≥32)) (cond (decide (a0<127)) (some (!decide (a0=65533))) (cond (decide (a0>159)) (some (!decide (a0=65533))) (some false))) (some false)
def aaR:TFn:={ ps:=tT16,res:=.bool,fn:=fun v=>zdl v.1 }
def aoV:TEnv:=(vZ [])
theorem aoU:runY Tryz.prog aie aoW aoV aw9 Tryz.f306 aaR.ps aaR.res=aaR.fn:=by kernel_rfl
theorem aic:aA Tryz.prog G0 306 aid:=ai (ak ⟨au,ac,ap,ac,an⟩ Tryz.func306 rfl (by kernel_rfl))
theorem aoT:TOk aid aaR:=az (E:=aie) (ET:=aoV) (EnvT.ofX (ax al) am ar aJ aq) aoU rfl
def alh:Env:=(eZ [(144,yO),(306,aid)] [274])
def atL:Hints:=(hZ [(3,[3,4,5])] [])
def alg:PFn:=aF (runF Tryz.prog alh atL Tryz.f253)
def ayr:TH:={ joins:=[(7,{ keep:=[],mem:=[] })],loops:=[(3,{ keep:=[(5,(.int .i64))],mem:=[] })],ro:=[] }
def rx (r1:(List Int×Bool×Unit)) (y3:(Int×Unit)):Option ((Int×Unit)⊕(Unit⊕Bool)) :=
 cond (decide (y3.1<(r1.1.length:Int))) (
(atI r1.1 y3.1).bind fun x2 =>
(zdl x2).bind fun r3 =>
 cond (!r3) (
 some (.inr (.inr false))) (
 some (.inl ((IntKind.wrap .i64 (y3.1+1)),())))) (
 some (.inr (.inl ())))
def zb3 (a0:List UInt8):Option Bool :=
(zbx a0).bind fun r1 =>
(aH (rx r1) (0,()):Option (Unit⊕Bool)).bind (aU fun v4 =>
 cond r1.2.1 (cond (decide ((r1.1.length:Int)≥1)) (some (decide ((r1.1.length:Int)≤24))) (some false)) (some false))
def ace:TFn:={ ps:=(.cons .str .unit),res:=.bool,fn:=fun v=>zb3 v.1 }
def atK:TEnv:=(vZ [(144,rr),(306,aaR)])
theorem atJ:runY Tryz.prog alh atL atK ayr Tryz.f253 ace.ps ace.res=ace.fn:=by kernel_rfl
theorem alf:aA Tryz.prog G0 253 alg:=ai (ak ⟨au,(aj pr (aj aic ac)),ap,ac,an⟩ Tryz.func253 rfl (by kernel_rfl))
theorem atH:TOk alg ace:=az (E:=alh) (ET:=atK) (EnvT.ofX (ax (ah wK (ah aoT al))) am ar aJ aq) atJ rfl
def ajl:Env:=(eZ [(253,alg)] [274])
def aqG:Hints:=(hZ [(6,[0,3])] [])
def ajk:PFn:=aF (runF Tryz.prog ajl aqG Tryz.f183)
def axC:TH:={ loops:=[(6,{ keep:=[(3,(.int .i64))],mem:=[] })],ro:=[] }
def wC (a0:List (List UInt8)) (y6:(Int×Unit)):Option ((Int×Unit)⊕Int) :=
 cond (decide (y6.1<(a0.length:Int))) (
(atI a0 y6.1).bind fun x1 =>
(zb3 x1).bind fun r2 =>
 cond (!r2) (
 some (.inr 8)) (
 some (.inl ((IntKind.wrap .i64 (y6.1+1)),())))) (
 some (.inr 0))
def zci (a0:List (List UInt8)):Option Int :=
 cond (decide ((a0.length:Int)=0)) (
 some 8) (
 cond (decide ((a0.length:Int)>8)) (
 some 9) (
 aH (wC a0) (0,())))
def abi:TFn:={ ps:=tT22,res:=(.int .i64),fn:=fun v=>zci v.1 }
def aqF:TEnv:=(vZ [(253,ace)])
theorem aqE:runY Tryz.prog ajl aqG aqF axC Tryz.f183 abi.ps abi.res=abi.fn:=by kernel_rfl
theorem ajj:aA Tryz.prog G0 183 ajk:=ai (ak ⟨au,(aj alf ac),ap,ac,an⟩ Tryz.func183 rfl (by kernel_rfl))
theorem aqD:TOk ajk abi:=az (E:=ajl) (ET:=aqF) (EnvT.ofX (ax (ah atH al)) am ar aJ aq) aqE rfl
def ak5:Env:=(eZ [(144,yO)] [274])
def atu:Hints:=(hZ [] [])
def ak4:PFn:=aF (runF Tryz.prog ak5 atu Tryz.f184)
def aym:TH:={ loops:=[],ro:=[1] }
def zb8 (a0:vV3):Option Bool :=
 cond (decide (a0.1=1)) (
 cond (decide (a0.2.2.1=[])) (cond (decide (a0.2.1≥(-2147483647))) (some (decide (a0.2.1≤2147483647))) (some false)) (some false)) (
 cond (decide (a0.1=2)) (
(zbx a0.2.2.1).bind fun r1 =>
 cond (decide (a0.2.1=0)) (cond r1.2.1 (some (decide ((a0.2.2.1.length:Int)≤64))) (some false)) (some false)) (
 cond (decide (a0.1=3)) (cond (decide (a0.2.2.1=[])) (cond (decide (a0.2.1≥0)) (some (decide (a0.2.1≤1))) (some false)) (some false)) (some false)))
def ab6:TFn:={ ps:=(.cons tT15 .unit),res:=.bool,fn:=fun v=>zb8 v.1 }
def att:TEnv:=(vZ [(144,rr)])
theorem ats:runY Tryz.prog ak5 atu att aym Tryz.f184 ab6.ps ab6.res=ab6.fn:=by kernel_rfl
theorem ak3:aA Tryz.prog G0 184 ak4:=ai (ak ⟨au,(aj pr ac),ap,ac,an⟩ Tryz.func184 rfl (by kernel_rfl))
theorem atr:TOk ak4 ab6:=az (E:=ak5) (ET:=att) (EnvT.ofX (ax (ah wK al)) am ar aJ aq) ats rfl
def aiX:Env:=(eZ [(101,abT),(172,afd)] [274])
def ap0:Hints:=(hZ [] [])
def aiW:PFn:=aF (runF Tryz.prog aiX ap0 Tryz.f254)
def axq:TH:={ loops:=[],ro:=[2,3] }
def zcu (a0:vV2) (a1:vV2):Option Int :=
(zbj a0.1 a1.1).bind fun r1 =>
 cond (!decide (r1=0)) (
(zbj a0.1 a1.1).bind fun r2 =>
 some r2) (
(zc1 a0.2.1 a1.2.1).bind fun r3 =>
 some r3)
def aa8:TFn:={ ps:=(.cons tT14 (.cons tT14 .unit)),res:=(.int .i64),fn:=fun v=>zcu v.1 v.2.1 }
def apZ:TEnv:=(vZ [(101,uh),(172,yM)])
theorem apY:runY Tryz.prog aiX ap0 apZ axq Tryz.f254 aa8.ps aa8.res=aa8.fn:=by kernel_rfl
theorem aiV:aA Tryz.prog G0 254 aiW:=ai (ak ⟨au,(aj ui (aj abA ac)),ap,ac,an⟩ Tryz.func254 rfl (by kernel_rfl))
theorem apX:TOk aiW aa8:=az (E:=aiX) (ET:=apZ) (EnvT.ofX (ax (ah abS (ah ahd al))) am ar aJ aq) apY rfl
def ajQ:Env:=(eZ [(109,ab8),(254,aiW)] [274])
def arv:Hints:=(hZ [(2,[0,3])] [])
def ajP:PFn:=aF (runF Tryz.prog ajQ arv Tryz.f185)
def axP:TH:={ loops:=[(2,{ keep:=[(3,(.int .i64))],mem:=[] })],ro:=[] }
def wG (a0:List vV2) (y2:(Int×Unit)):Option ((Int×Unit)⊕Bool) :=
 cond (decide (y2.1<(a0.length:Int))) (
(atI a0 y2.1).bind fun x1 =>
(zb7 x1.1).bind fun r2 =>
 cond (!r2) (some (.inr false)) ((atI a0 y2.1).bind fun x3 =>
 cond (decide (x3.2.1<0)) (some (.inr false)) ((atI a0 y2.1).bind fun x4 =>
 cond (decide (x4.2.1>15)) (
 some (.inr false)) (
 cond (decide (y2.1>0)) ((atI a0 (IntKind.wrap .i64 (y2.1-1))).bind fun x5 =>
(atI a0 y2.1).bind fun x6 =>
(zcu x5 x6).bind fun r7 =>
 cond (!decide (r7=(-1))) (
 some (.inr false)) (
 some (.inl ((IntKind.wrap .i64 (y2.1+1)),())))) (some (.inl ((IntKind.wrap .i64 (y2.1+1)),()))))))) (
 some (.inr true))
def zc5 (a0:List vV2):Option Bool :=
 aH (wG a0) (0,())
def abv:TFn:={ ps:=(.cons (.sl tT14) .unit),res:=.bool,fn:=fun v=>zc5 v.1 }
def aru:TEnv:=(vZ [(109,uo),(254,aa8)])
theorem art:runY Tryz.prog ajQ arv aru axP Tryz.f185 abv.ps abv.res=abv.fn:=by kernel_rfl
theorem ajO:aA Tryz.prog G0 185 ajP:=ai (ak ⟨au,(aj uq (aj aiV ac)),ap,ac,an⟩ Tryz.func185 rfl (by kernel_rfl))
theorem ars:TOk ajP abv:=az (E:=ajQ) (ET:=aru) (EnvT.ofX (ax (ah ab7 (ah apX al))) am ar aJ aq) art rfl
def ajz:Env:=(eZ [(183,ajk),(184,ak4),(185,ajP)] [274])
def aq2:Hints:=(hZ [] [])
def ajy:PFn:=aF (runF Tryz.prog ajz aq2 Tryz.f110)
def axI:TH:={ joins:=[(9,{ keep:=[(1,(.bx 0 0))],mem:=[.same,.gone] }),(11,{ keep:=[(1,(.bx 0 0))],mem:=[.same,.gone] }),(13,{ keep:=[(1,(.bx 0 0))],mem:=[.same,.gone] }),(15,{ keep:=[(1,(.bx 0 0))],mem:=[.same,.gone] })],loops:=[],cuts:=[(11,[(8,{ keep:=[(1,(.bx 0 0)),(55,.bool)],mem:=[.same,.gone] })])],ro:=[1],news:=[] }
def zcc (a0:vV1):Option Int :=
 cond (decide (a0.1<1)) (some 18) (cond (decide (a0.1>5)) (
 some 18) (
(zci a0.2.1).bind fun r1 =>
 cond (!decide (r1=0)) (
 some r1) (
(cond (decide (a0.1=3)) (cond (!(eqV tT15 a0.2.2.1 (0,0,[],()))) (
 some (.inr 2)) (
 some (.inl ()))) (cond (decide (a0.1=5)) (cond (!(eqV tT15 a0.2.2.1 (0,0,[],()))) (
 some (.inr 2)) (
 some (.inl ()))) (some (.inl ()))):Option (Unit⊕Int)).bind (aU fun v2 =>
(cond (!decide (a0.1=3)) (cond (!decide (a0.1=5)) ((zb8 a0.2.2.1).bind fun r3 =>
 cond (!r3) (
 some (.inr 2)) (
 some (.inl ()))) (some (.inl ()))) (some (.inl ())):Option (Unit⊕Int)).bind (aU fun v4 =>
((cond (!decide (a0.1=3)) (some ((!decide (a0.2.2.2.1=0)),())) (some (false,())):Option (Bool×Unit)).bind fun v5 =>
 cond v5.1 (some (.inr 2)) (cond (decide (a0.1=3)) (cond (decide (a0.2.2.2.1=0)) (some (.inr 2)) (cond (decide (a0.2.2.2.1>2147483647)) (some (.inr 2)) (cond (decide (a0.2.2.2.1<(-2147483647))) (
 some (.inr 2)) (
 some (.inl ()))))) (some (.inl ()))):Option (Unit⊕Int)).bind (aU fun v6 =>
(cond (decide (a0.1=2)) (cond (decide ((a0.2.2.2.2.1.length:Int)>0)) (
 some (.inr 2)) (
 some (.inl ()))) (cond (decide (a0.1=3)) (cond (decide ((a0.2.2.2.2.1.length:Int)>0)) (
 some (.inr 2)) (
 some (.inl ()))) (some (.inl ()))):Option (Unit⊕Int)).bind (aU fun v7 =>
 cond (decide ((a0.2.2.2.2.1.length:Int)>256)) (
 some 7) (
(zc5 a0.2.2.2.2.1).bind fun r8 =>
 cond (!r8) (
 some 2) (
 some 0)))))))))
def abo:TFn:={ ps:=(.cons tT13 .unit),res:=(.int .i64),fn:=fun v=>zcc v.1 }
def aq1:TEnv:=(vZ [(183,abi),(184,ab6),(185,abv)])
theorem aq0:runY Tryz.prog ajz aq2 aq1 axI Tryz.f110 abo.ps abo.res=abo.fn:=by kernel_rfl
theorem ajx:aA Tryz.prog G0 110 ajy:=ai (ak ⟨au,(aj ajj (aj ak3 (aj ajO ac))),ap,ac,an⟩ Tryz.func110 rfl (by kernel_rfl))
theorem aqZ:TOk ajy abo:=az (E:=ajz) (ET:=aq1) (EnvT.ofX (ax (ah aqD (ah atr (ah ars al)))) am ar aJ aq) aq0 rfl
def aiQ:Env:=(eZ [] [274])
def apP:Hints:=(hZ [] [])
def aiP:PFn:=aF (runF Tryz.prog aiQ apP Tryz.f111)
def axn:TH:={ loops:=[],cuts:=[(2,[(9,{ keep:=[(1,(.bx 0 0)),(3,(.bx 1 0)),(13,.bool)],mem:=[.same,.box 132 tT15] })])],ro:=[1],news:=[] }
def zcx (a0:vV1):Option Bool :=
(cond (decide (a0.1=0)) (some ((decide ((a0.2.1.length:Int)=0)),(0,0,[],()),())) (some (false,(0,0,[],()),())):Option (Bool×vV3×Unit)).bind fun v1 =>
 cond v1.1 (cond (eqV tT15 a0.2.2.1 v1.2.1) (cond (decide (a0.2.2.2.1=0)) (some (decide ((a0.2.2.2.2.1.length:Int)=0))) (some false)) (some false)) (some false)
def aa5:TFn:={ ps:=(.cons tT13 .unit),res:=.bool,fn:=fun v=>zcx v.1 }
def apO:TEnv:=(vZ [])
theorem apN:runY Tryz.prog aiQ apP apO axn Tryz.f111 aa5.ps aa5.res=aa5.fn:=by kernel_rfl
theorem aiO:aA Tryz.prog G0 111 aiP:=ai (ak ⟨au,ac,ap,ac,an⟩ Tryz.func111 rfl (by kernel_rfl))
theorem apM:TOk aiP aa5:=az (E:=aiQ) (ET:=apO) (EnvT.ofX (ax al) am ar aJ aq) apN rfl
def ak2:Env:=(eZ [(109,ab8),(110,ajy),(111,aiP)] [274])
def atq:Hints:=(hZ [(8,[1,3])] [])
def ak1:PFn:=aF (runF Tryz.prog ak2 atq Tryz.f42)
def ayl:TH:={ loops:=[(8,{ keep:=[(1,(.bx 0 0)),(3,(.int .i64))],mem:=[.same] })],cuts:=[(1,[(9,{ keep:=[(1,(.bx 0 0)),(13,.bool)],mem:=[.same] })])],ro:=[1],news:=[] }
def rv (a0:vV5) (y8:(Int×Unit)):Option ((Int×Unit)⊕Int) :=
 cond (decide (y8.1<(a0.2.2.2.2.1.length:Int))) (
(atI a0.2.2.2.2.1 y8.1).bind fun x3 =>
(zcc x3).bind fun r4 =>
 cond (!decide (r4=0)) (cond a0.2.2.2.1 ((atI a0.2.2.2.2.1 y8.1).bind fun x5 =>
(zcx x5).bind fun r6 =>
 cond (!r6) (
 some (.inr r4)) (
 some (.inl ((IntKind.wrap .i64 (y8.1+1)),())))) (some (.inr r4))) (some (.inl ((IntKind.wrap .i64 (y8.1+1)),())))) (
 some (.inr 0))
def zb9 (a0:vV5):Option Int :=
((zb7 a0.1).bind fun r1 =>
 cond (!r1) (some (true,())) (some ((decide (a0.2.1<0)),())):Option (Bool×Unit)).bind fun v2 =>
 cond v2.1 (some 2) (cond (decide (a0.2.1>7)) (some 2) (cond (decide (a0.2.2.1<1)) (some 2) (cond (decide (a0.2.2.1>1099511627776)) (
 some 2) (
 cond (decide ((a0.2.2.2.2.1.length:Int)=0)) (
 some 11) (
 cond (decide ((a0.2.2.2.2.1.length:Int)>16)) (
 some 7) (
 aH (rv a0) (0,())))))))
def ab5:TFn:={ ps:=(.cons tT17 .unit),res:=(.int .i64),fn:=fun v=>zb9 v.1 }
def atp:TEnv:=(vZ [(109,uo),(110,abo),(111,aa5)])
theorem ato:runY Tryz.prog ak2 atq atp ayl Tryz.f42 ab5.ps ab5.res=ab5.fn:=by kernel_rfl
theorem ak0:aA Tryz.prog G0 42 ak1:=ai (ak ⟨au,(aj uq (aj ajx (aj aiO ac))),ap,ac,an⟩ Tryz.func42 rfl (by kernel_rfl))
theorem atn:TOk ak1 ab5:=az (E:=ak2) (ET:=atp) (EnvT.ofX (ax (ah ab7 (ah aqZ (ah apM al)))) am ar aJ aq) ato rfl
def ajG:Env:=(eZ [(41,ak8),(42,ak1),(152,aln)] [274])
def ard:Hints:=(hZ [(4,[0,5])] [])
def ajF:PFn:=aF (runF Tryz.prog ajG ard Tryz.f82)
def axL:TH:={ loops:=[(4,{ keep:=[(5,(.int .i64))],mem:=[] })],ro:=[] }
def wE (a0:List vV5) (y4:(Int×Unit)):Option ((Int×Unit)⊕Bool) :=
 cond (decide (y4.1<(a0.length:Int))) (
(atI a0 y4.1).bind fun x2 =>
(zb6 x2).bind fun r3 =>
 cond (!r3) (some (.inr false)) ((atI a0 y4.1).bind fun x4 =>
(zb9 x4).bind fun r5 =>
 cond (!decide (r5=0)) (
 some (.inr false)) (
 some (.inl ((IntKind.wrap .i64 (y4.1+1)),()))))) (
 some (.inr true))
def zc9 (a0:List vV5) (a1:Int):Option Bool :=
 cond (decide ((a0.length:Int)>a1)) (some false) ((zb1 a0).bind fun r1 =>
 cond (!r1) (
 some false) (
 aH (wE a0) (0,())))
def abr:TFn:={ ps:=(.cons (.sl tT17) tT16),res:=.bool,fn:=fun v=>zc9 v.1 v.2.1 }
def arc:TEnv:=(vZ [(41,ab9),(42,ab5),(152,acg)])
theorem arb:runY Tryz.prog ajG ard arc axL Tryz.f82 abr.ps abr.res=abr.fn:=by kernel_rfl
theorem ajE:aA Tryz.prog G0 82 ajF:=ai (ak ⟨au,(aj ak7 (aj ak0 (aj alm ac))),ap,ac,an⟩ Tryz.func82 rfl (by kernel_rfl))
theorem ara:TOk ajF abr:=az (E:=ajG) (ET:=arc) (EnvT.ofX (ax (ah aty (ah atn (ah atR al)))) am ar aJ aq) arb rfl
def aik:Env:=(eZ [(109,ab8)] [274])
def ao4:Hints:=(hZ [] [])
def aij:PFn:=aF (runF Tryz.prog aik ao4 Tryz.f224)
def axb:TH:={ loops:=[],ro:=[1] }
def zdj (a0:vV2):Option Bool :=
(zb7 a0.1).bind fun r1 =>
 cond r1 (cond (decide (a0.2.1≥1)) (some (decide (a0.2.1≤64))) (some false)) (some false)
def aaT:TFn:={ ps:=(.cons tT14 .unit),res:=.bool,fn:=fun v=>zdj v.1 }
def ao3:TEnv:=(vZ [(109,uo)])
theorem ao2:runY Tryz.prog aik ao4 ao3 axb Tryz.f224 aaT.ps aaT.res=aaT.fn:=by kernel_rfl
theorem aii:aA Tryz.prog G0 224 aij:=ai (ak ⟨au,(aj uq ac),ap,ac,an⟩ Tryz.func224 rfl (by kernel_rfl))
theorem ao1:TOk aij aaT:=az (E:=aik) (ET:=ao3) (EnvT.ofX (ax (ah ab7 al)) am ar aJ aq) ao2 rfl
def aj4:Env:=(eZ [(101,abT),(224,aij)] [274])
def arR:Hints:=(hZ [(2,[0,3])] [])
def aj3:PFn:=aF (runF Tryz.prog aj4 arR Tryz.f153)
def axV:TH:={ loops:=[(2,{ keep:=[(3,(.int .i64))],mem:=[] })],ro:=[] }
def wI (a0:List vV2) (y2:(Int×Unit)):Option ((Int×Unit)⊕Bool) :=
 cond (decide (y2.1<(a0.length:Int))) (
(atI a0 y2.1).bind fun x1 =>
(zdj x1).bind fun r2 =>
 cond (!r2) (some (.inr false)) (cond (decide (y2.1>0)) ((atI a0 (IntKind.wrap .i64 (y2.1-1))).bind fun x3 =>
(atI a0 y2.1).bind fun x4 =>
(zbj x3.1 x4.1).bind fun r5 =>
 cond (!decide (r5=(-1))) (
 some (.inr false)) (
 some (.inl ((IntKind.wrap .i64 (y2.1+1)),())))) (some (.inl ((IntKind.wrap .i64 (y2.1+1)),()))))) (
 some (.inr true))
def zbz (a0:List vV2):Option Bool :=
 aH (wI a0) (0,())
def abC:TFn:={ ps:=(.cons (.sl tT14) .unit),res:=.bool,fn:=fun v=>zbz v.1 }
def arQ:TEnv:=(vZ [(101,uh),(224,aaT)])
theorem arP:runY Tryz.prog aj4 arR arQ axV Tryz.f153 abC.ps abC.res=abC.fn:=by kernel_rfl
theorem aj2:aA Tryz.prog G0 153 aj3:=ai (ak ⟨au,(aj ui (aj aii ac)),ap,ac,an⟩ Tryz.func153 rfl (by kernel_rfl))
theorem arO:TOk aj3 abC:=az (E:=aj4) (ET:=arQ) (EnvT.ofX (ax (ah abS (ah ao1 al))) am ar aJ aq) arP rfl
def ajT:Env:=(eZ [(153,aj3)] [274])
def arz:Hints:=(hZ [] [])
def ajS:PFn:=aF (runF Tryz.prog ajT arz Tryz.f83)
def axQ:TH:=yZ
def zc4 (a0:List vV2):Option Bool :=
 cond (decide ((a0.length:Int)≤100)) ((zbz a0).bind fun r1 =>
 some r1) (some false)
def abw:TFn:={ ps:=(.cons (.sl tT14) .unit),res:=.bool,fn:=fun v=>zc4 v.1 }
def ary:TEnv:=(vZ [(153,abC)])
theorem arx:runY Tryz.prog ajT arz ary axQ Tryz.f83 abw.ps abw.res=abw.fn:=by kernel_rfl
theorem ajR:aA Tryz.prog G0 83 ajS:=ai (ak ⟨au,(aj aj2 ac),ap,ac,an⟩ Tryz.func83 rfl (by kernel_rfl))
theorem arw:TOk ajS abw:=az (E:=ajT) (ET:=ary) (EnvT.ofX (ax (ah arO al)) am ar aJ aq) arx rfl
def aiY:Env:=(eZ [(82,ajF),(83,ajS)] [274])
def ap3:Hints:=(hZ [] [])
def ae5:PFn:=aF (runF Tryz.prog aiY ap3 Tryz.f29)
def axr:TH:=yZ
def zct (a0:List vV5) (a1:List vV2):Option Bool :=
(zc9 a0 20).bind fun r1 =>
 cond r1 ((zc4 a1).bind fun r2 =>
 some r2) (some false)
def yD:TFn:={ ps:=(.cons (.sl tT17) (.cons (.sl tT14) .unit)),res:=.bool,fn:=fun v=>zct v.1 v.2.1 }
def ap2:TEnv:=(vZ [(82,abr),(83,abw)])
theorem ap1:runY Tryz.prog aiY ap3 ap2 axr Tryz.f29 yD.ps yD.res=yD.fn:=by kernel_rfl
theorem aa9:aA Tryz.prog G0 29 ae5:=ai (ak ⟨au,(aj ajE (aj ajR ac)),ap,ac,an⟩ Tryz.func29 rfl (by kernel_rfl))
theorem ag5:TOk ae5 yD:=az (E:=aiY) (ET:=ap2) (EnvT.ofX (ax (ah ara (ah arw al))) am ar aJ aq) ap1 rfl
def ajK:Env:=(eZ [(29,ae5)] [274])
def arm:Hints:=(hZ [(4,[0,1,5])] [])
def ajJ:PFn:=aF (runF Tryz.prog ajK arm Tryz.f14)
def axN:TH:={ loops:=[(4,{ keep:=[(5,(.int .i64))],mem:=[] })],ro:=[] }
def wF (a0:List vV5) (a1:List (List vV2×Unit)) (y4:(Int×Unit)):Option ((Int×Unit)⊕Bool) :=
 cond (decide (y4.1<(a1.length:Int))) (
(atI a1 y4.1).bind fun x1 =>
(zct a0 x1.1).bind fun r2 =>
 cond (!r2) (
 some (.inr false)) (
 some (.inl ((IntKind.wrap .i64 (y4.1+1)),())))) (
 some (.inr true))
def zc7 (a0:List vV5) (a1:List (List vV2×Unit)):Option Bool :=
 cond (decide ((a1.length:Int)>6)) (
 some false) (
 aH (wF a0 a1) (0,()))
def abt:TFn:={ ps:=(.cons (.sl tT17) (.cons (.sl (.agg (.cons (.sl tT14) .unit))) .unit)),res:=.bool,fn:=fun v=>zc7 v.1 v.2.1 }
def arl:TEnv:=(vZ [(29,yD)])
theorem ark:runY Tryz.prog ajK arm arl axN Tryz.f14 abt.ps abt.res=abt.fn:=by kernel_rfl
theorem ajI:aA Tryz.prog G0 14 ajJ:=ai (ak ⟨au,(aj aa9 ac),ap,ac,an⟩ Tryz.func14 rfl (by kernel_rfl))
theorem arj:TOk ajJ abt:=az (E:=ajK) (ET:=arl) (EnvT.ofX (ax (ah ag5 al)) am ar aJ aq) ark rfl
def alu:Env:=(eZ [] [274])
def at6:Hints:=(hZ [] [])
def alt:PFn:=aF (runF Tryz.prog alu at6 Tryz.f328)
def ayv:TH:=yZ
def zaz (a0:List UInt8):Option Int :=
(atI a0 0).bind fun b1 =>
(atI a0 1).bind fun b2 =>
(shlT .u64 (IntKind.wrap .u64 (b2.toNat:Int)) 8).bind fun t3 =>
(atI a0 2).bind fun b4 =>
(shlT .u64 (IntKind.wrap .u64 (b4.toNat:Int)) 16).bind fun t5 =>
(atI a0 3).bind fun b6 =>
(shlT .u64 (IntKind.wrap .u64 (b6.toNat:Int)) 24).bind fun t7 =>
(atI a0 4).bind fun b8 =>
(shlT .u64 (IntKind.wrap .u64 (b8.toNat:Int)) 32).bind fun t9 =>
(atI a0 5).bind fun b10 =>
(shlT .u64 (IntKind.wrap .u64 (b10.toNat:Int)) 40).bind fun t11 =>
(atI a0 6).bind fun b12 =>
(shlT .u64 (IntKind.wrap .u64 (b12.toNat:Int)) 48).bind fun t13 =>
(atI a0 7).bind fun b14 =>
(shlT .u64 (IntKind.wrap .u64 (b14.toNat:Int)) 56).bind fun t15 =>
 some (IntKind.wrap .u64 ((BitVec.ofInt (IntKind.bits .u64) (IntKind.wrap .u64 ((BitVec.ofInt (IntKind.bits .u64) (IntKind.wrap .u64 ((BitVec.ofInt (IntKind.bits .u64) (IntKind.wrap .u64 ((BitVec.ofInt (IntKind.bits .u64) (IntKind.wrap .u64 ((BitVec.ofInt (IntKind.bits .u64) (IntKind.wrap .u64 ((BitVec.ofInt (IntKind.bits .u64) (IntKind.wrap .u64 ((BitVec.ofInt (IntKind.bits .u64) (IntKind.wrap .u64 (b1.toNat:Int)) ||| BitVec.ofInt (IntKind.bits .u64) t3).toNat)) ||| BitVec.ofInt (IntKind.bits .u64) t5).toNat)) ||| BitVec.ofInt (IntKind.bits .u64) t7).toNat)) ||| BitVec.ofInt (IntKind.bits .u64) t9).toNat)) ||| BitVec.ofInt (IntKind.bits .u64) t11).toNat)) ||| BitVec.ofInt (IntKind.bits .u64) t13).toNat)) ||| BitVec.ofInt (IntKind.bits .u64) t15).toNat))
def aci:TFn:={ ps:=(.cons .str .unit),res:=(.int .u64),fn:=fun v=>zaz v.1 }
def at5:TEnv:=(vZ [])
theorem at4:runY Tryz.prog alu at6 at5 ayv Tryz.f328 aci.ps aci.res=aci.fn:=by kernel_rfl
theorem als:aA Tryz.prog G0 328 alt:=ai (ak ⟨au,ac,ap,ac,an⟩ Tryz.func328 rfl (by kernel_rfl))
theorem atZ:TOk alt aci:=az (E:=alu) (ET:=at5) (EnvT.ofX (ax al) am ar aJ aq) at4 rfl
def alx:Env:=(eZ [(328,alt)] [274])
def aud:Hints:=(hZ [(1,[0]),(9,[0])] [])
def afo:PFn:=aF (runF Tryz.prog alx aud Tryz.f281)
def ayx:TH:={ joins:=[(11,{ keep:=[(0,.str),(3,(.int .u8))],mem:=[] })],loops:=[(1,{ keep:=[(0,.str)],mem:=[] }),(9,{ keep:=[(0,.str)],mem:=[] })],cuts:=[(21,[(10,{ keep:=[(6,(.bx 0 0)),(108,.bool)],mem:=[.box 367 (.agg (.cons (.int .u8) (.cons (.int .u8) .unit)))] })]),(25,[(10,{ keep:=[(6,(.bx 0 0)),(139,.bool)],mem:=[.box 367 (.agg (.cons (.int .u8) (.cons (.int .u8) .unit)))] }),(7,{ keep:=[(146,.bool)],mem:=[.gone] }),(5,{ keep:=[(151,.bool)],mem:=[.gone] })])],ro:=[],news:=[] }
def iR (y9:(List UInt8×Unit)):Option ((List UInt8×Unit)⊕((List UInt8×Int×Unit)⊕((List UInt8×Unit)⊕Bool))) :=
 cond (decide ((y9.1.length:Int)>32)) ((zaz y9.1).bind fun r9 =>
(subI y9.1 8 (y9.1.length:Int)).bind fun s10 =>
(zaz s10).bind fun r11 =>
(subI y9.1 16 (y9.1.length:Int)).bind fun s12 =>
(zaz s12).bind fun r13 =>
(subI y9.1 24 (y9.1.length:Int)).bind fun s14 =>
(zaz s14).bind fun r15 =>
 cond (decide ((IntKind.wrap .u64 ((BitVec.ofInt (IntKind.bits .u64) (IntKind.wrap .u64 ((BitVec.ofInt (IntKind.bits .u64) (IntKind.wrap .u64 ((BitVec.ofInt (IntKind.bits .u64) r9 ||| BitVec.ofInt (IntKind.bits .u64) r11).toNat)) ||| BitVec.ofInt (IntKind.bits .u64) (IntKind.wrap .u64 ((BitVec.ofInt (IntKind.bits .u64) r13 ||| BitVec.ofInt (IntKind.bits .u64) r15).toNat))).toNat)) &&& BitVec.ofInt (IntKind.bits .u64) 9259542123273814144).toNat))=0)) (
(subI y9.1 32 (y9.1.length:Int)).bind fun s16 =>
 some (.inl (s16,()))) (
 some (.inr (.inr (.inl (y9.1,())))))) (some (.inr (.inr (.inl (y9.1,())))))
def iS (y1:(List UInt8×Unit)):Option ((List UInt8×Unit)⊕Bool) :=
 cond (decide ((y1.1.length:Int)>0)) (
(atI y1.1 0).bind fun b1 =>
(cond (decide ((b1.toNat:Int)<128)) (
(subI y1.1 1 (y1.1.length:Int)).bind fun s2 =>
 cond (decide ((s2.length:Int)>8)) ((zaz s2).bind fun r3 =>
 cond (decide ((IntKind.wrap .u64 ((BitVec.ofInt (IntKind.bits .u64) r3 &&& BitVec.ofInt (IntKind.bits .u64) 9259542123273814144).toNat))=0)) (
(subI s2 8 (s2.length:Int)).bind fun s4 =>
 cond (decide ((s4.length:Int)>16)) ((zaz s4).bind fun r5 =>
(subI s4 8 (s4.length:Int)).bind fun s6 =>
(zaz s6).bind fun r7 =>
 cond (decide ((IntKind.wrap .u64 ((BitVec.ofInt (IntKind.bits .u64) (IntKind.wrap .u64 ((BitVec.ofInt (IntKind.bits .u64) r5 ||| BitVec.ofInt (IntKind.bits .u64) r7).toNat)) &&& BitVec.ofInt (IntKind.bits .u64) 9259542123273814144).toNat))=0)) (
(subI s4 16 (s4.length:Int)).bind fun s8 =>
 aH (iR) (s8,())) (
 some (.inr (.inl (s4,()))))) (some (.inr (.inl (s4,()))))) (
 some (.inr (.inl (s2,()))))) (some (.inr (.inl (s2,()))))) (
 some (.inl (y1.1,(b1.toNat:Int),()))):Option ((List UInt8×Int×Unit)⊕((List UInt8×Unit)⊕Bool))).bind (aU fun v17 =>
(atI gO v17.2.1).bind fun x18 =>
(shrT .u8 x18 4).bind fun t19 =>
(atI fq t19).bind fun x20 =>
 cond (decide ((IntKind.wrap .i64 (IntKind.wrap .u8 ((BitVec.ofInt (IntKind.bits .u8) x18 &&& BitVec.ofInt (IntKind.bits .u8) 7).toNat)))=2)) (
 cond (decide ((v17.1.length:Int)<2)) (some (.inr false)) ((atI v17.1 1).bind fun b21 =>
 cond (decide ((b21.toNat:Int)<x20.1)) (some (.inr false)) ((atI v17.1 1).bind fun b22 =>
 cond (decide (x20.2.1<(b22.toNat:Int))) (
 some (.inr false)) (
(subI v17.1 2 (v17.1.length:Int)).bind fun s23 =>
 some (.inl (s23,())))))) (
 cond (decide ((IntKind.wrap .i64 (IntKind.wrap .u8 ((BitVec.ofInt (IntKind.bits .u8) x18 &&& BitVec.ofInt (IntKind.bits .u8) 7).toNat)))=3)) (
(cond (decide ((v17.1.length:Int)<3)) (some (true,x20,())) ((atI v17.1 1).bind fun b24 =>
 some ((decide ((b24.toNat:Int)<x20.1)),x20,())):Option (Bool×(Int×Int×Unit)×Unit)).bind fun v25 =>
 cond v25.1 (some (.inr false)) ((atI v17.1 1).bind fun b26 =>
 cond (decide (v25.2.1.2.1<(b26.toNat:Int))) (some (.inr false)) ((atI v17.1 2).bind fun b27 =>
 cond (decide ((b27.toNat:Int)<128)) (some (.inr false)) ((atI v17.1 2).bind fun b28 =>
 cond (decide (191<(b28.toNat:Int))) (
 some (.inr false)) (
(subI v17.1 3 (v17.1.length:Int)).bind fun s29 =>
 some (.inl (s29,()))))))) (
 cond (decide ((IntKind.wrap .i64 (IntKind.wrap .u8 ((BitVec.ofInt (IntKind.bits .u8) x18 &&& BitVec.ofInt (IntKind.bits .u8) 7).toNat)))=4)) (
(cond (decide ((v17.1.length:Int)<4)) (some (true,x20,())) ((atI v17.1 1).bind fun b30 =>
 some ((decide ((b30.toNat:Int)<x20.1)),x20,())):Option (Bool×(Int×Int×Unit)×Unit)).bind fun v31 =>
(cond v31.1 (some (true,())) ((atI v17.1 1).bind fun b32 =>
 some ((decide (v31.2.1.2.1<(b32.toNat:Int))),())):Option (Bool×Unit)).bind fun v33 =>
(cond v33.1 (some (true,())) ((atI v17.1 2).bind fun b34 =>
 some ((decide ((b34.toNat:Int)<128)),())):Option (Bool×Unit)).bind fun v35 =>
 cond v35.1 (some (.inr false)) ((atI v17.1 2).bind fun b36 =>
 cond (decide (191<(b36.toNat:Int))) (some (.inr false)) ((atI v17.1 3).bind fun b37 =>
 cond (decide ((b37.toNat:Int)<128)) (some (.inr false)) ((atI v17.1 3).bind fun b38 =>
 cond (decide (191<(b38.toNat:Int))) (
 some (.inr false)) (
(subI v17.1 4 (v17.1.length:Int)).bind fun s39 =>
 some (.inl (s39,()))))))) (
 some (.inr false)))))) (
 some (.inr true))
def zax (a0:List UInt8):Option Bool :=
 aH (iS) (a0,())
def yU:TFn:={ ps:=(.cons .str .unit),res:=.bool,fn:=fun v=>zax v.1 }
def auc:TEnv:=(vZ [(328,aci)])
theorem aub:runY Tryz.prog alx aud auc ayx Tryz.f281 yU.ps yU.res=yU.fn:=by kernel_rfl
theorem acj:aA Tryz.prog G0 281 afo:=ai (ak ⟨au,(aj als ac),ap,ac,an⟩ Tryz.func281 rfl (by kernel_rfl))
theorem ahm:TOk afo yU:=az (E:=alx) (ET:=auc) (EnvT.ofX (ax (ah atZ al)) am ar aJ aq) aub rfl
def alP:Env:=(eZ [] [274])
def auF:Hints:=(hZ [(2,[2,4])] [])
def alO:PFn:=aF (runF Tryz.prog alP auF Tryz.f282)
def ayE:TH:={ loops:=[(2,{ keep:=[(2,(.int .i64)),(4,(.it 0))],mem:=[.iter] })],ro:=[] }
def rz (a0:List UInt8) (y2:(Int×Nat×Unit)):Option ((Int×Nat×Unit)⊕Int) :=
 cond (decide (y2.2.1<a0.length)) (some (.inl ((IntKind.wrap .i64 (y2.1+1)),(y2.2.1+(Utf8.decode ⟨a0.toArray⟩ y2.2.1).2),()))) (some (.inr y2.1))
def zaq (a0:List UInt8):Option Int :=
 aH (rz a0) (0,0,())
def acr:TFn:={ ps:=(.cons .str .unit),res:=(.int .i64),fn:=fun v=>zaq v.1 }
def auE:TEnv:=(vZ [])
theorem auD:runY Tryz.prog alP auF auE ayE Tryz.f282 acr.ps acr.res=acr.fn:=by kernel_rfl
theorem alN:aA Tryz.prog G0 282 alO:=ai (ak ⟨au,ac,ap,ac,an⟩ Tryz.func282 rfl (by kernel_rfl))
theorem auC:TOk alO acr:=az (E:=alP) (ET:=auE) (EnvT.ofX (ax al) am ar aJ aq) auD rfl
def akc:Env:=(eZ [] [274])
def ar5:Hints:=(hZ [] [])
def akb:PFn:=aF (runF Tryz.prog akc ar5 Tryz.f283)
def axZ:TH:=yZ
def zbv (a0:Int):Option Bool :=
 cond (decide (a0=42)) (some true) (cond (decide (a0=63)) (some true) (some (decide (a0=92))))
def abF:TFn:={ ps:=(.cons (.int .i32) .unit),res:=.bool,fn:=fun v=>zbv v.1 }
def ar4:TEnv:=(vZ [])
theorem ar3:runY Tryz.prog akc ar5 ar4 axZ Tryz.f283 abF.ps abF.res=abF.fn:=by kernel_rfl
theorem aka:aA Tryz.prog G0 283 akb:=ai (ak ⟨au,ac,ap,ac,an⟩ Tryz.func283 rfl (by kernel_rfl))
theorem ar2:TOk akb abF:=az (E:=akc) (ET:=ar4) (EnvT.ofX (ax al) am ar aJ aq) ar3 rfl
def aiU:Env:=(eZ [(281,afo),(282,alO),(283,akb)] [274])
def apW:Hints:=(hZ [(6,[4,5,17])] [])
def ae4:PFn:=aF (runF Tryz.prog aiU apW Tryz.f215)
def axp:TH:={ joins:=[(18,{ keep:=[(4,(.own 1)),(5,.bool)],mem:=[.gone,.row true 336 (.agg (.cons (.int .i64) (.cons (.int .i32) .unit)))] }),(10,{ keep:=[(4,(.own 1)),(17,(.it 0)),(25,.bool)],mem:=[.iter,.row true 336 (.agg (.cons (.int .i64) (.cons (.int .i32) .unit)))] })],loops:=[(6,{ keep:=[(4,(.own 1)),(5,.bool),(17,(.it 0))],mem:=[.iter,.row true 336 (.agg (.cons (.int .i64) (.cons (.int .i32) .unit)))] })],ro:=[] }
def fX (a0:List UInt8) (y6:(Bool×Nat×List (Int×Int×Unit)×Unit)):Option ((Bool×Nat×List (Int×Int×Unit)×Unit)⊕((Bool×List (Int×Int×Unit)×Unit)⊕(List (Int×Int×Unit)×Bool×Unit))) :=
 cond (decide (y6.2.1<a0.length)) ((cond y6.1 ((zbv ((Utf8.decode ⟨a0.toArray⟩ y6.2.1).1:Int)).bind fun r3 =>
 some (.inl ((!r3),(y6.2.1+(Utf8.decode ⟨a0.toArray⟩ y6.2.1).2),y6.2.2.1,()))) (some (.inl (false,(y6.2.1+(Utf8.decode ⟨a0.toArray⟩ y6.2.1).2),y6.2.2.1,()))):Option ((Bool×Nat×List (Int×Int×Unit)×Unit)⊕((Bool×Nat×List (Int×Int×Unit)×Unit)⊕((Bool×List (Int×Int×Unit)×Unit)⊕(List (Int×Int×Unit)×Bool×Unit))))).bind (aU fun v4 =>
 cond v4.1 (
 some (.inr (.inr ([],false,())))) (
 cond y6.1 ((ch (v4.2.2.1.length+([(0,((Utf8.decode ⟨a0.toArray⟩ y6.2.1).1:Int),())]:List (Int×Int×Unit)).length)).bind fun u5 =>
 some (.inl (false,v4.2.1,(v4.2.2.1++([(0,((Utf8.decode ⟨a0.toArray⟩ y6.2.1).1:Int),())]:List (Int×Int×Unit))),()))) ((zbv ((Utf8.decode ⟨a0.toArray⟩ y6.2.1).1:Int)).bind fun r6 =>
 cond (!r6) (
(ch (v4.2.2.1.length+([(0,((Utf8.decode ⟨a0.toArray⟩ y6.2.1).1:Int),())]:List (Int×Int×Unit)).length)).bind fun u7 =>
 some (.inl (false,v4.2.1,(v4.2.2.1++([(0,((Utf8.decode ⟨a0.toArray⟩ y6.2.1).1:Int),())]:List (Int×Int×Unit))),()))) (
 cond (decide (((Utf8.decode ⟨a0.toArray⟩ y6.2.1).1:Int)=92)) (
 some (.inl (true,v4.2.1,v4.2.2.1,()))) (
 cond (decide (((Utf8.decode ⟨a0.toArray⟩ y6.2.1).1:Int)=63)) (
(ch (v4.2.2.1.length+([(1,0,())]:List (Int×Int×Unit)).length)).bind fun u8 =>
 some (.inl (y6.1,v4.2.1,(v4.2.2.1++([(1,0,())]:List (Int×Int×Unit))),()))) (
(ch (v4.2.2.1.length+([(2,0,())]:List (Int×Int×Unit)).length)).bind fun u9 =>
 some (.inl (y6.1,v4.2.1,(v4.2.2.1++([(2,0,())]:List (Int×Int×Unit))),()))))))))) (some (.inr (.inl (y6.1,y6.2.2.1,()))))
def zcv (a0:List UInt8):Option (List (Int×Int×Unit)×Bool×Unit) :=
(zax a0).bind fun r1 =>
 cond (!r1) (some ([],false,())) ((zaq a0).bind fun r2 =>
 cond (decide (r2>64)) (
 some ([],false,())) (
(aH (fX a0) (false,0,[],()):Option ((Bool×List (Int×Int×Unit)×Unit)⊕(List (Int×Int×Unit)×Bool×Unit))).bind (aU fun v10 =>
 cond v10.1 (
 some ([],false,())) (
 some (v10.2.1,true,())))))
def yC:TFn:={ ps:=(.cons .str .unit),res:=(.tup (.cons (.sl (.agg (.cons (.int .i64) (.cons (.int .i32) .unit)))) (.cons .bool .unit))),fn:=fun v=>zcv v.1 }
def apV:TEnv:={ pure:=[(281,yU),(282,acr),(283,abF)],look:=[],glob:=G0T,ty:=[(336,(.agg (.cons (.int .i64) (.cons (.int .i32) .unit))))],raw:=[],fresh:=[] }
theorem apU:runY Tryz.prog aiU apW apV axp Tryz.f215 yC.ps yC.res=yC.fn:=by kernel_rfl
theorem aa7:aA Tryz.prog G0 215 ae4:=ai (ak ⟨au,(aj acj (aj alN (aj aka ac))),ap,ac,an⟩ Tryz.func215 rfl (by kernel_rfl))
theorem ag4:TOk ae4 yC:=az (E:=aiU) (ET:=apV) (EnvT.ofX (ax (ah ahm (ah auC (ah ar2 al)))) am ar aJ aq) apU rfl
def ajN:Env:=(eZ [(215,ae4)] [274])
def arq:Hints:=(hZ [] [])
def ajM:PFn:=aF (runF Tryz.prog ajN arq Tryz.f143)
def axO:TH:=yZ
def zc6 (a0:List UInt8):Option Bool :=
(zcv a0).bind fun r1 =>
 some r1.2.1
def abu:TFn:={ ps:=(.cons .str .unit),res:=.bool,fn:=fun v=>zc6 v.1 }
def arp:TEnv:=(vZ [(215,yC)])
theorem aro:runY Tryz.prog ajN arq arp axO Tryz.f143 abu.ps abu.res=abu.fn:=by kernel_rfl
theorem ajL:aA Tryz.prog G0 143 ajM:=ai (ak ⟨au,(aj aa7 ac),ap,ac,an⟩ Tryz.func143 rfl (by kernel_rfl))
theorem arn:TOk ajM abu:=az (E:=ajN) (ET:=arp) (EnvT.ofX (ax (ah ag4 al)) am ar aJ aq) aro rfl
def akG:Env:=(eZ [(143,ajM)] [274])
def asR:Hints:=(hZ [] [])
def akF:PFn:=aF (runF Tryz.prog akG asR Tryz.f142)
def ayc:TH:=yZ
def zbi (a0:List UInt8):Option Bool :=
 cond (decide (a0=[])) (some true) ((zc6 a0).bind fun r1 =>
 some (!r1))
def abU:TFn:={ ps:=(.cons .str .unit),res:=.bool,fn:=fun v=>zbi v.1 }
def asQ:TEnv:=(vZ [(143,abu)])
theorem asP:runY Tryz.prog akG asR asQ ayc Tryz.f142 abU.ps abU.res=abU.fn:=by kernel_rfl
theorem akE:aA Tryz.prog G0 142 akF:=ai (ak ⟨au,(aj ajL ac),ap,ac,an⟩ Tryz.func142 rfl (by kernel_rfl))
theorem asO:TOk akF abU:=az (E:=akG) (ET:=asQ) (EnvT.ofX (ax (ah arn al)) am ar aJ aq) asP rfl
def ame:Env:=(eZ [(142,akF)] [274])
def au6:Hints:=(hZ [(2,[0,1,7,8])] [])
def amd:PFn:=aF (runF Tryz.prog ame au6 Tryz.f214)
def ayJ:TH:={ loops:=[(2,{ keep:=[(8,(.int .i64))],mem:=[] })],ro:=[] }
def rA (a0:List (List UInt8)) (y2:(Int×Unit)):Option ((Int×Unit)⊕Int) :=
 cond (decide (y2.1<(a0.length:Int))) (
(atI a0 y2.1).bind fun x1 =>
(zbi x1).bind fun r2 =>
 cond r2 (
 some (.inr y2.1)) (
 some (.inl ((IntKind.wrap .i64 (y2.1+1)),())))) (
 some (.inr (-1)))
def zah (a0:List (List UInt8)) (a1:Unit):Option Int :=
 aH (rA a0) (0,())
def acw:TFn:={ ps:=(.cons (.sl .str) (.cons (.fn 142) .unit)),res:=(.int .i64),fn:=fun v=>zah v.1 v.2.1 }
def au5:TEnv:=(vZ [(142,abU)])
theorem au4:runY Tryz.prog ame au6 au5 ayJ Tryz.f214 acw.ps acw.res=acw.fn:=by kernel_rfl
theorem amc:aA Tryz.prog G0 214 amd:=ai (ak ⟨au,(aj akE ac),ap,ac,an⟩ Tryz.func214 rfl (by kernel_rfl))
theorem au3:TOk amd acw:=az (E:=ame) (ET:=au5) (EnvT.ofX (ax (ah asO al)) am ar aJ aq) au4 rfl
def amh:Env:=(eZ [(214,amd)] [274])
def ava:Hints:=(hZ [] [])
def amg:PFn:=aF (runF Tryz.prog amh ava Tryz.f141)
def ayK:TH:=yZ
def zag (a0:List (List UInt8)) (a1:Unit):Option Bool :=
(zah a0 a1).bind fun r1 =>
 some (decide (r1≥0))
def acx:TFn:={ ps:=(.cons (.sl .str) (.cons (.fn 142) .unit)),res:=.bool,fn:=fun v=>zag v.1 v.2.1 }
def au9:TEnv:=(vZ [(214,acw)])
theorem au8:runY Tryz.prog amh ava au9 ayK Tryz.f141 acx.ps acx.res=acx.fn:=by kernel_rfl
theorem amf:aA Tryz.prog G0 141 amg:=ai (ak ⟨au,(aj amc ac),ap,ac,an⟩ Tryz.func141 rfl (by kernel_rfl))
theorem au7:TOk amg acx:=az (E:=amh) (ET:=au9) (EnvT.ofX (ax (ah au3 al)) am ar aJ aq) au8 rfl
def ajw:Env:=(eZ [(141,amg)] [274])
def aqY:Hints:=(hZ [] [])
def afa:PFn:=aF (runF Tryz.prog ajw aqY Tryz.f71)
def axH:TH:=yZ
def zcd (a0:List (List UInt8)):Option Int :=
 cond (decide ((a0.length:Int)=0)) (
 some 8) (
 cond (decide ((a0.length:Int)>8)) (
 some 9) (
(zag a0 ()).bind fun r1 =>
 cond r1 (
 some 8) (
 some 0)))
def yJ:TFn:={ ps:=tT22,res:=(.int .i64),fn:=fun v=>zcd v.1 }
def aqX:TEnv:=(vZ [(141,acx)])
theorem aqW:runY Tryz.prog ajw aqY aqX axH Tryz.f71 yJ.ps yJ.res=yJ.fn:=by kernel_rfl
theorem abn:aA Tryz.prog G0 71 afa:=ai (ak ⟨au,(aj amf ac),ap,ac,an⟩ Tryz.func71 rfl (by kernel_rfl))
theorem aha:TOk afa yJ:=az (E:=ajw) (ET:=aqX) (EnvT.ofX (ax (ah au7 al)) am ar aJ aq) aqW rfl
def alQ:Go.Shelf.Ren:=⟨fun | 41=>72 | n=>n,fun | 22=>24 | 23=>9 | 4=>4 | n=>n,fun | n=>n⟩
theorem afr:Go.Proofs.SlLaysE0.n41 Tryz.prog alQ:={
 mixed:=by kernel_rfl
 f41:=⟨Tryz.f72.name,by decide,Tryz.func72.trans (congrArg some (by kernel_rfl))⟩
 t4:=Tryz.underlying4
 a4:=Tryz.isAgg4
 z4:=Tryz.sizeOf4
 v4:=Tryz.zeroValue4
 t22:=Tryz.underlying24
 a22:=Tryz.isAgg24
 z22:=Tryz.sizeOf24
 v22:=Tryz.zeroValue24 }
def yV:PFn:=(kF 1)
theorem px:aA Tryz.prog G0 72 yV:=clone_lays afr 1 ⟨Tryz.f72,Tryz.func72,rfl,by kernel_rfl⟩ (by kernel_rfl) (by kernel_rfl) (by kernel_rfl) (by kernel_rfl) (by kernel_rfl) (by decide) (fun w=>Tryz.sizeOf9 w)
def zap (a0:List (List UInt8)):Option (List (List UInt8)):=iv a0
def acs:TFn:=fR .str
theorem wW:TOk yV acs:=nf rfl rfl rfl
def aia:Env:=(eZ [(71,afa),(72,yV)] [274])
def aoP:Hints:=(hZ [] [])
def ae1:SFn:=runF Tryz.prog aia aoP Tryz.f17
def aw7:TH:=yZ
def zdn (a0:List (List UInt8)):Option (List vV8×Int×Unit) :=
(zcd a0).bind fun r1 =>
 cond (!decide (r1=0)) (
 some ([],r1,())) (
(zap a0).bind fun r2 =>
 some ([(r2,[],0,())],0,()))
def aaO:TNew:={ ps:=tT22,e:=139,t:=(.cons (.sl tT21) tT16),fn:=fun v=>zdn v.1,pair:=true }
def aoO:TEnv:=(vZ [(71,yJ),(72,acs)])
theorem aoN:awq Tryz.prog aia aoP aoO aw7 Tryz.f17 aaO.ps 139 tT21 tT16=aaO.fn:=by kernel_rfl
theorem aaN:cB Tryz.prog G0 17 ae1:=ak ⟨au,(aj abn (aj px ac)),ap,ac,an⟩ Tryz.func17 rfl (by kernel_rfl)
theorem ag1:TNewOk ae1 aaO:=agk (E:=aia) (ET:=aoO) (EnvT.ofX (ax (ah aha (ah wW al))) am ar aJ aq) aoN
def amC:Env:=(eZ [] [274])
def avz:Hints:=(hZ [] [])
def afA:PFn:=aF (runF Tryz.prog amC avz Tryz.f226)
def ayP:TH:=yZ
def za9 (a0:Int):Option Bool :=
 some (!decide (a0=a0))
def acB:TFn:={ ps:=tT16,res:=.bool,fn:=fun v=>za9 v.1 }
def avy:TEnv:=(vZ [])
theorem avx:runY Tryz.prog amC avz avy ayP Tryz.f226 acB.ps acB.res=acB.fn:=by kernel_rfl
theorem amB:aA Tryz.prog G0 226 afA:=ai (ak ⟨au,ac,ap,ac,an⟩ Tryz.func226 rfl (by kernel_rfl))
theorem avw:TOk afA acB:=az (E:=amC) (ET:=avy) (EnvT.ofX (ax al) am ar aJ aq) avx rfl
def amI:Env:=(eZ [(226,afA)] [274])
def avM:Hints:=(hZ [] [])
def uu:PFn:=aF (runF Tryz.prog amI avM Tryz.f156)
def ayS:TH:=yZ
def za5 (a0:Int) (a1:Int):Option Int :=
(za9 a0).bind fun r1 =>
(za9 a1).bind fun r2 =>
 cond r1 (
 cond r2 (
 some 0) (
 some (-1))) (
 cond r2 (
 some 1) (
 cond (decide (a0<a1)) (
 some (-1)) (
 cond (decide (a0>a1)) (
 some 1) (
 some 0))))
def rB:TFn:={ ps:=(.cons (.int .i64) tT16),res:=(.int .i64),fn:=fun v=>za5 v.1 v.2.1 }
def avL:TEnv:=(vZ [(226,acB)])
theorem avK:runY Tryz.prog amI avM avL ayS Tryz.f156 rB.ps rB.res=rB.fn:=by kernel_rfl
theorem py:aA Tryz.prog G0 156 uu:=ai (ak ⟨au,(aj amB ac),ap,ac,an⟩ Tryz.func156 rfl (by kernel_rfl))
theorem wZ:TOk uu rB:=az (E:=amI) (ET:=avL) (EnvT.ofX (ax (ah avw al)) am ar aJ aq) avK rfl
def aja:Env:=(eZ [] [274])
def aqo:Hints:=(hZ [(3,[3,6,7,8])] [])
def ud:PFn:=aF (runF Tryz.prog aja aqo Tryz.f154)
def axx:TH:={ loops:=[(3,{ keep:=[(8,(.int .i64))],mem:=[] })],ro:=[] }
def fY (a0:List Int) (y3:(Int×Unit)):Option ((Int×Unit)⊕Int) :=
 cond (decide (y3.1<(a0.length:Int))) (
(atI a0 y3.1).bind fun x1 =>
 cond (!decide (x1=0)) (
 some (.inr x1)) (
 some (.inl ((IntKind.wrap .i64 (y3.1+1)),())))) (
 some (.inr 0))
def zcn (a0:List Int):Option Int :=
 aH (fY a0) (0,())
def rn:TFn:={ ps:=(.cons (.sl (.int .i64)) .unit),res:=(.int .i64),fn:=fun v=>zcn v.1 }
def aqn:TEnv:=(vZ [])
theorem aqm:runY Tryz.prog aja aqo aqn axx Tryz.f154 rn.ps rn.res=rn.fn:=by kernel_rfl
theorem pp:aA Tryz.prog G0 154 ud:=ai (ak ⟨au,ac,ap,ac,an⟩ Tryz.func154 rfl (by kernel_rfl))
theorem wz:TOk ud rn:=az (E:=aja) (ET:=aqn) (EnvT.ofX (ax al) am ar aJ aq) aqm rfl
def alk:Env:=(eZ [(154,ud),(156,uu)] [274])
def atQ:Hints:=(hZ [] [])
def alj:PFn:=aF (runF Tryz.prog alk atQ Tryz.f171)
def ays:TH:={ loops:=[],ro:=[2,3] }
def zb2 (a0:(Int×Int×Unit)) (a1:(Int×Int×Unit)):Option Int :=
(za5 a0.1 a1.1).bind fun r1 =>
(za5 a0.2.1 a1.2.1).bind fun r2 =>
(zcn ([r1,r2]:List Int)).bind fun r3 =>
 some r3
def acf:TFn:={ ps:=(.cons (.agg (.cons (.int .i64) tT16)) tT23),res:=(.int .i64),fn:=fun v=>zb2 v.1 v.2.1 }
def atP:TEnv:={ pure:=[(154,rn),(156,rB)],look:=[],glob:=G0T,ty:=[(3,(.int .i64))],raw:=[],fresh:=[] }
theorem atO:runY Tryz.prog alk atQ atP ays Tryz.f171 acf.ps acf.res=acf.fn:=by kernel_rfl
theorem ali:aA Tryz.prog G0 171 alj:=ai (ak ⟨au,(aj pp (aj py ac)),ap,ac,an⟩ Tryz.func171 rfl (by kernel_rfl))
theorem atN:TOk alj acf:=az (E:=alk) (ET:=atP) (EnvT.ofX (ax (ah wz (ah wZ al))) am ar aJ aq) atO rfl
def akW:Env:=(eZ [(171,alj)] [274])
def atg:Hints:=(hZ [] [])
def akV:PFn:=aF (runF Tryz.prog akW atg Tryz.f242)
def ayi:TH:={ loops:=[],ro:=[2,3] }
def zbc (a0:vV2) (a1:vV2):Option Int :=
(zb2 a0.1 a1.1).bind fun r1 =>
 some r1
def ab1:TFn:={ ps:=(.cons tT14 (.cons tT14 .unit)),res:=(.int .i64),fn:=fun v=>zbc v.1 v.2.1 }
def atf:TEnv:=(vZ [(171,acf)])
theorem ate:runY Tryz.prog akW atg atf ayi Tryz.f242 ab1.ps ab1.res=ab1.fn:=by kernel_rfl
theorem akU:aA Tryz.prog G0 242 akV:=ai (ak ⟨au,(aj ali ac),ap,ac,an⟩ Tryz.func242 rfl (by kernel_rfl))
theorem atd:TOk akV ab1:=az (E:=akW) (ET:=atf) (EnvT.ofX (ax (ah atN al)) am ar aJ aq) ate rfl
def amu:Env:=(eZ [(242,akV)] [274])
def avn:Hints:=(hZ [(3,[0,2,4,8,9,10])] [])
def amt:PFn:=aF (runF Tryz.prog amu avn Tryz.f284)
def ayM:TH:={ joins:=[(8,{ keep:=[(4,(.bx 0 0)),(9,(.int .i64))],mem:=[.same] })],loops:=[(3,{ keep:=[(4,(.bx 0 0)),(9,(.int .i64)),(10,(.int .i64))],mem:=[.same] })],ro:=[4] }
def oc (a0:List vV2) (a1:vV2) (y3:(Int×Int×Unit)):Option ((Int×Int×Unit)⊕((Int×Unit)⊕(Int×Bool×Unit))) :=
 cond (decide (y3.1<y3.2.1)) (
(shrT .u64 (IntKind.wrap .u64 (IntKind.wrap .i64 (y3.1+y3.2.1))) 1).bind fun t1 =>
(atI a0 (IntKind.wrap .i64 t1)).bind fun x2 =>
(zbc x2 a1).bind fun r3 =>
 cond (decide (r3<0)) (
 some (.inl ((IntKind.wrap .i64 ((IntKind.wrap .i64 t1)+1)),y3.2.1,()))) (
 some (.inl (y3.1,(IntKind.wrap .i64 t1),())))) (
 some (.inr (.inl (y3.1,()))))
def zac (a0:List vV2) (a1:vV2) (a2:Unit):Option (Int×Bool×Unit) :=
(aH (oc a0 a1) (0,(a0.length:Int),()):Option ((Int×Unit)⊕(Int×Bool×Unit))).bind (aU fun v4 =>
 cond (decide (v4.1<(a0.length:Int))) ((atI a0 v4.1).bind fun x5 =>
(zbc x5 a1).bind fun r6 =>
 some (v4.1,(decide (r6=0)),())) (some (v4.1,false,())))
def acy:TFn:={ ps:=(.cons (.sl tT14) (.cons tT14 (.cons (.fn 242) .unit))),res:=(.tup (.cons (.int .i64) (.cons .bool .unit))),fn:=fun v=>zac v.1 v.2.1 v.2.2.1 }
def avm:TEnv:=(vZ [(242,ab1)])
theorem avl:runY Tryz.prog amu avn avm ayM Tryz.f284 acy.ps acy.res=acy.fn:=by kernel_rfl
theorem ams:aA Tryz.prog G0 284 amt:=ai (ak ⟨au,(aj akU ac),ap,ac,an⟩ Tryz.func284 rfl (by kernel_rfl))
theorem avk:TOk amt acy:=az (E:=amu) (ET:=avm) (EnvT.ofX (ax (ah atd al)) am ar aJ aq) avl rfl
def ahX:Env:=(eZ [(284,amt)] [274])
def aor:Hints:=(hZ [] [])
def ahW:PFn:=aF (runF Tryz.prog ahX aor Tryz.f217)
def aw0:TH:={ loops:=[],ro:=[3] }
def zdu (a0:List vV2) (a1:(Int×Int×Unit)):Option (Int×Bool×Unit) :=
(zac a0 (a1,0,()) ()).bind fun r1 =>
 some (r1.1,r1.2.1,())
def aaE:TFn:={ ps:=(.cons (.sl tT14) tT23),res:=(.tup (.cons (.int .i64) (.cons .bool .unit))),fn:=fun v=>zdu v.1 v.2.1 }
def aoq:TEnv:=(vZ [(284,acy)])
theorem aoo:runY Tryz.prog ahX aor aoq aw0 Tryz.f217 aaE.ps aaE.res=aaE.fn:=by kernel_rfl
theorem ahV:aA Tryz.prog G0 217 ahW:=ai (ak ⟨au,(aj ams ac),ap,ac,an⟩ Tryz.func217 rfl (by kernel_rfl))
theorem aon:TOk ahW aaE:=az (E:=ahX) (ET:=aoq) (EnvT.ofX (ax (ah avk al)) am ar aJ aq) aoo rfl
def aih:Env:=(eZ [(217,ahW)] [274])
def ao0:Hints:=(hZ [] [])
def aig:PFn:=aF (runF Tryz.prog aih ao0 Tryz.f145)
def axa:TH:={ loops:=[],ro:=[3] }
def zdk (a0:List vV2) (a1:(Int×Int×Unit)):Option Int :=
(zdu a0 a1).bind fun r1 =>
 cond r1.2.1 (
(atI a0 r1.1).bind fun x2 =>
 some x2.2.1) (
 some 0)
def aaS:TFn:={ ps:=(.cons (.sl tT14) tT23),res:=(.int .i64),fn:=fun v=>zdk v.1 v.2.1 }
def aoZ:TEnv:=(vZ [(217,aaE)])
theorem aoY:runY Tryz.prog aih ao0 aoZ axa Tryz.f145 aaS.ps aaS.res=aaS.fn:=by kernel_rfl
theorem aif:aA Tryz.prog G0 145 aig:=ai (ak ⟨au,(aj ahV ac),ap,ac,an⟩ Tryz.func145 rfl (by kernel_rfl))
theorem aoX:TOk aig aaS:=az (E:=aih) (ET:=aoZ) (EnvT.ofX (ax (ah aon al)) am ar aJ aq) aoY rfl
def aiZ:Env:=(eZ [(145,aig)] [274])
def ap6:Hints:=(hZ [] [])
def ae6:PFn:=aF (runF Tryz.prog aiZ ap6 Tryz.f75)
def axs:TH:={ loops:=[],ro:=[3] }
def zcs (a0:List vV2) (a1:(Int×Int×Unit)):Option Bool :=
(zdk a0 a1).bind fun r1 =>
(remT r1 2).bind fun t2 =>
 some (decide (t2=0))
def yE:TFn:={ ps:=(.cons (.sl tT14) tT23),res:=.bool,fn:=fun v=>zcs v.1 v.2.1 }
def ap5:TEnv:=(vZ [(145,aaS)])
theorem ap4:runY Tryz.prog aiZ ap6 ap5 axs Tryz.f75 yE.ps yE.res=yE.fn:=by kernel_rfl
theorem aba:aA Tryz.prog G0 75 ae6:=ai (ak ⟨au,(aj aif ac),ap,ac,an⟩ Tryz.func75 rfl (by kernel_rfl))
theorem ag6:TOk ae6 yE:=az (E:=aiZ) (ET:=ap5) (EnvT.ofX (ax (ah aoX al)) am ar aJ aq) ap4 rfl
def akl:Env:=(eZ [(75,ae6)] [274])
def asm:Hints:=(hZ [(3,[1,5,13,14,15]),(7,[1,5,13,14,15,25,26,27]),(10,[1,5,13,14,15,25,26,27,32,33,34])] [])
def akk:SFn:=runF Tryz.prog akl asm Tryz.f74
def ax4:TH:={ loops:=[(3,{ keep:=[(5,(.mp 0)),(15,(.int .i64))],mem:=[.map tT14 .bool] }),(7,{ keep:=[(5,(.mp 0)),(27,(.int .i64))],mem:=[.map tT14 .bool,.gone] }),(10,{ keep:=[(5,(.mp 0)),(34,(.int .i64))],mem:=[.map tT14 .bool,.gone,.gone] })],ro:=[] }
def pw (y7:vV11) (x3:vV1) (y10:vV11):Option (vV11⊕(vV11⊕(vV11⊕(List (vV2×Bool))))) :=
 cond (decide (y10.1<(x3.2.2.2.2.1.length:Int))) (
(atI x3.2.2.2.2.1 y10.1).bind fun x4 =>
 some (.inl ((IntKind.wrap .i64 (y10.1+1)),(putK tT14 x4 true y10.2.1),()))) (
 some (.inr (.inl ((IntKind.wrap .i64 (y7.1+1)),y10.2.1,()))))
def wN (y3:vV11) (x1:vV5) (y7:vV11):Option (vV11⊕(vV11⊕(List (vV2×Bool)))) :=
 cond (decide (y7.1<(x1.2.2.2.2.1.length:Int))) (
(atI x1.2.2.2.2.1 y7.1).bind fun x3 =>
 aH (pw y7 x3) (0,y7.2.1,())) (
 some (.inr (.inl ((IntKind.wrap .i64 (y3.1+1)),y7.2.1,()))))
def wO (a0:List vV5) (a1:List vV2) (y3:vV11):Option (vV11⊕(List (vV2×Bool))) :=
 cond (decide (y3.1<(a0.length:Int))) (
(atI a0 y3.1).bind fun x1 =>
(zcs a1 x1.1).bind fun r2 =>
 cond (!r2) (
 some (.inl ((IntKind.wrap .i64 (y3.1+1)),y3.2.1,()))) (
 aH (wN y3 x1) (0,y3.2.1,()))) (
 some (.inr y3.2.1))
def zbq (a0:List vV5) (a1:List vV2):Option (List (vV2×Bool)) :=
 aH (wO a0 a1) (0,[],())
def afi:TNew:={ ps:=(.cons (.sl tT17) (.cons (.sl tT14) .unit)),e:=143,t:=(.sl (.cons tT14 .bool)),fn:=fun v=>zbq v.1 v.2.1,mp:=true }
def asl:TEnv:={ pure:=[(75,yE)],look:=[],glob:=G0T,ty:=[(4,.bool),(146,tT14)],raw:=[],fresh:=[] }
theorem ask:awr Tryz.prog akl asm asl ax4 Tryz.f74 afi.ps tT14 .bool=afi.fn:=by kernel_rfl
theorem akj:cB Tryz.prog G0 74 akk:=ak ⟨au,(aj aba ac),ap,ac,an⟩ Tryz.func74 rfl (by kernel_rfl)
theorem asj:TNewOk akk afi:=agl (E:=akl) (ET:=asl) (EnvT.ofX (ax (ah ag6 al)) am ar aJ aq) ask
def ahY:Env:={ pure:=[(75,ae6)],raw:=[(74,akk)],glob:=G0,same:=[274],look:=[],ext:=[] }
def aou:Hints:=(hZ [(4,[1,5,6,15,16,17]),(8,[1,5,6,8,15,16,17,27,28,29])] [])
def aaG:PFn:=aF (runF Tryz.prog ahY aou Tryz.f19)
def aw1:TH:={ loops:=[(4,{ keep:=[(5,(.mp 0)),(6,(.own 4)),(17,(.int .i64))],mem:=[.map tT14 .bool,.gone,.gone,.gone,.row true 148 tT19] }),(8,{ keep:=[(5,(.mp 0)),(6,(.own 4)),(8,(.bx 5 0)),(29,(.int .i64))],mem:=[.map tT14 .bool,.gone,.gone,.gone,.row true 148 tT19,.box 78 tT17] })],ro:=[] }
def wi (y4:(Int×List (vV2×Bool)×List vV6×Unit)) (x2:vV5) (y8:(Int×List (vV2×Bool)×List vV6×vV5×Unit)):Option ((Int×List (vV2×Bool)×List vV6×vV5×Unit)⊕((Int×List (vV2×Bool)×List vV6×Unit)⊕List vV6)) :=
 cond (decide (y8.1<(x2.2.2.2.2.1.length:Int))) (
(atI x2.2.2.2.2.1 y8.1).bind fun x4 =>
 cond (decide (x4.1=1)) (cond (!((getK tT14 false (y8.2.2.2.1.1,y8.1,()) y8.2.1).1)) (
(ch (y8.2.2.1.length+([((y8.2.2.2.1.1,y8.1,()),x4,y8.2.2.2.1.2.2.1,())]:List vV6).length)).bind fun u5 =>
 some (.inl ((IntKind.wrap .i64 (y8.1+1)),y8.2.1,(y8.2.2.1++([((y8.2.2.2.1.1,y8.1,()),x4,y8.2.2.2.1.2.2.1,())]:List vV6)),y8.2.2.2.1,()))) (
 some (.inl ((IntKind.wrap .i64 (y8.1+1)),y8.2.1,y8.2.2.1,y8.2.2.2.1,())))) (cond (decide (x4.1=2)) (cond (!((getK tT14 false (y8.2.2.2.1.1,y8.1,()) y8.2.1).1)) (
(ch (y8.2.2.1.length+([((y8.2.2.2.1.1,y8.1,()),x4,y8.2.2.2.1.2.2.1,())]:List vV6).length)).bind fun u6 =>
 some (.inl ((IntKind.wrap .i64 (y8.1+1)),y8.2.1,(y8.2.2.1++([((y8.2.2.2.1.1,y8.1,()),x4,y8.2.2.2.1.2.2.1,())]:List vV6)),y8.2.2.2.1,()))) (
 some (.inl ((IntKind.wrap .i64 (y8.1+1)),y8.2.1,y8.2.2.1,y8.2.2.2.1,())))) (cond (decide (x4.1=3)) (cond (!((getK tT14 false (y8.2.2.2.1.1,y8.1,()) y8.2.1).1)) (
(ch (y8.2.2.1.length+([((y8.2.2.2.1.1,y8.1,()),x4,y8.2.2.2.1.2.2.1,())]:List vV6).length)).bind fun u7 =>
 some (.inl ((IntKind.wrap .i64 (y8.1+1)),y8.2.1,(y8.2.2.1++([((y8.2.2.2.1.1,y8.1,()),x4,y8.2.2.2.1.2.2.1,())]:List vV6)),y8.2.2.2.1,()))) (
 some (.inl ((IntKind.wrap .i64 (y8.1+1)),y8.2.1,y8.2.2.1,y8.2.2.2.1,())))) (some (.inl ((IntKind.wrap .i64 (y8.1+1)),y8.2.1,y8.2.2.1,y8.2.2.2.1,())))))) (
 some (.inr (.inl ((IntKind.wrap .i64 (y4.1+1)),y8.2.1,y8.2.2.1,()))))
def wj (a0:List vV5) (a1:List vV2) (y4:(Int×List (vV2×Bool)×List vV6×Unit)):Option ((Int×List (vV2×Bool)×List vV6×Unit)⊕List vV6) :=
 cond (decide (y4.1<(a0.length:Int))) (
(atI a0 y4.1).bind fun x2 =>
(zcs a1 x2.1).bind fun r3 =>
 cond (!r3) (
 some (.inl ((IntKind.wrap .i64 (y4.1+1)),y4.2.1,y4.2.2.1,()))) (
 aH (wi y4 x2) (0,y4.2.1,y4.2.2.1,x2,()))) (
 some (.inr y4.2.2.1))
def zdt (a0:List vV5) (a1:List vV2):Option (List vV6) :=
(zbq a0 a1).bind fun n1 =>
 aH (wj a0 a1) (0,n1,[],())
def tV:TFn:={ ps:=(.cons (.sl tT17) (.cons (.sl tT14) .unit)),res:=(.sl tT19),fn:=fun v=>zdt v.1 v.2.1 }
def aot:TEnv:={ pure:=[(75,yE)],look:=[],glob:=G0T,ty:=[(148,tT19)],raw:=[],fresh:=[(74,afi)] }
theorem aos:runY Tryz.prog ahY aou aot aw1 Tryz.f19 tV.ps tV.res=tV.fn:=by kernel_rfl
theorem tW:aA Tryz.prog G0 19 aaG:=ai (ak ⟨au,(aj aba ac),(bN akj ap),ac,an⟩ Tryz.func19 rfl (by kernel_rfl))
theorem aaF:TOk aaG tV:=az (E:=ahY) (ET:=aot) (EnvT.ofX (ax (ah ag6 al)) am (mh ar rfl) aJ (mD asj rfl rfl rfl aq)) aos rfl
def ahQ:Env:=(eZ [] [274])
def aof:Hints:=(hZ [] [])
def aeZ:PFn:=aF (runF Tryz.prog ahQ aof Tryz.f124)
def awX:TH:={ joins:=[(6,{ keep:=[(6,.bool)],mem:=[] })],loops:=[],ro:=[] }
def zdx (a0:Int):Option Int :=
 cond (decide (a0=1)) (
 some 1) (
(cond (decide (a0=2)) (
 some (.inl ((decide (a0=2)),()))) (
 some (.inl ((decide (a0=4)),()))):Option ((Bool×Unit)⊕Int)).bind (aU fun v1 =>
 cond v1.1 (
 some 2) (
 cond (decide (a0=3)) (
 some 3) (
 some 0))))
def yy:TFn:={ ps:=tT16,res:=(.int .i64),fn:=fun v=>zdx v.1 }
def aoe:TEnv:=(vZ [])
theorem aod:runY Tryz.prog ahQ aof aoe awX Tryz.f124 yy.ps yy.res=yy.fn:=by kernel_rfl
theorem aaA:aA Tryz.prog G0 124 aeZ:=ai (ak ⟨au,ac,ap,ac,an⟩ Tryz.func124 rfl (by kernel_rfl))
theorem agZ:TOk aeZ yy:=az (E:=ahQ) (ET:=aoe) (EnvT.ofX (ax al) am ar aJ aq) aod rfl
def amN:Env:=(eZ [] [274])
def avX:Hints:=(hZ [] [])
def afG:PFn:=aF (runF Tryz.prog amN avX Tryz.f330)
def ayV:TH:=yZ
def za2 (a0:List UInt8):Option Bool :=
 some (!decide (a0=a0))
def acE:TFn:={ ps:=(.cons .str .unit),res:=.bool,fn:=fun v=>za2 v.1 }
def avW:TEnv:=(vZ [])
theorem avV:runY Tryz.prog amN avX avW ayV Tryz.f330 acE.ps acE.res=acE.fn:=by kernel_rfl
theorem amM:aA Tryz.prog G0 330 afG:=ai (ak ⟨au,ac,ap,ac,an⟩ Tryz.func330 rfl (by kernel_rfl))
theorem avU:TOk afG acE:=az (E:=amN) (ET:=avW) (EnvT.ofX (ax al) am ar aJ aq) avV rfl
def alA:Env:=(eZ [(330,afG)] [274])
def auk:Hints:=(hZ [] [])
def afq:PFn:=aF (runF Tryz.prog alA auk Tryz.f287)
def ayz:TH:=yZ
def zav (a0:List UInt8) (a1:List UInt8):Option Int :=
(za2 a0).bind fun r1 =>
(za2 a1).bind fun r2 =>
 cond r1 (
 cond r2 (
 some 0) (
 some (-1))) (
 cond r2 (
 some 1) (
 cond (Op.bytesLess a0 a1) (
 some (-1)) (
 cond (!(Op.bytesLess a0 a1||decide (a0=a1))) (
 some 1) (
 some 0))))
def acm:TFn:={ ps:=(.cons .str (.cons .str .unit)),res:=(.int .i64),fn:=fun v=>zav v.1 v.2.1 }
def auj:TEnv:=(vZ [(330,acE)])
theorem aui:runY Tryz.prog alA auk auj ayz Tryz.f287 acm.ps acm.res=acm.fn:=by kernel_rfl
theorem alz:aA Tryz.prog G0 287 afq:=ai (ak ⟨au,(aj amM ac),ap,ac,an⟩ Tryz.func287 rfl (by kernel_rfl))
theorem auh:TOk afq acm:=az (E:=alA) (ET:=auj) (EnvT.ofX (ax (ah avU al)) am ar aJ aq) aui rfl
def alV:Env:=(eZ [(287,afq)] [274])
def auN:Hints:=(hZ [(2,[0,1,9,10,11])] [])
def aft:PFn:=aF (runF Tryz.prog alV auN Tryz.f225)
def ayG:TH:={ joins:=[(11,{ keep:=[],mem:=[] })],loops:=[(2,{ keep:=[(11,(.int .i64))],mem:=[] })],ro:=[] }
def iT (a0:List (List UInt8)) (a1:List (List UInt8)) (y2:(Int×Unit)):Option ((Int×Unit)⊕(Unit⊕Int)) :=
 cond (decide (y2.1<(a0.length:Int))) (
(atI a0 y2.1).bind fun x1 =>
 cond (decide (y2.1≥(a1.length:Int))) (
 some (.inr (.inr 1))) (
(atI a1 y2.1).bind fun x2 =>
(zav x1 x2).bind fun r3 =>
 cond (!decide (r3=0)) (
 some (.inr (.inr r3))) (
 some (.inl ((IntKind.wrap .i64 (y2.1+1)),()))))) (
 some (.inr (.inl ())))
def zan (a0:List (List UInt8)) (a1:List (List UInt8)):Option Int :=
(aH (iT a0 a1) (0,()):Option (Unit⊕Int)).bind (aU fun v4 =>
 cond (decide ((a0.length:Int)<(a1.length:Int))) (
 some (-1)) (
 some 0))
def acu:TFn:={ ps:=(.cons (.sl .str) tT22),res:=(.int .i64),fn:=fun v=>zan v.1 v.2.1 }
def auM:TEnv:=(vZ [(287,acm)])
theorem auL:runY Tryz.prog alV auN auM ayG Tryz.f225 acu.ps acu.res=acu.fn:=by kernel_rfl
theorem alU:aA Tryz.prog G0 225 aft:=ai (ak ⟨au,(aj alz ac),ap,ac,an⟩ Tryz.func225 rfl (by kernel_rfl))
theorem auK:TOk aft acu:=az (E:=alV) (ET:=auM) (EnvT.ofX (ax (ah auh al)) am ar aJ aq) auL rfl
def akh:Env:=(eZ [(225,aft)] [274])
def asf:Hints:=(hZ [] [])
def abJ:PFn:=aF (runF Tryz.prog akh asf Tryz.f155)
def ax2:TH:=yZ
def zbs (a0:List (List UInt8)) (a1:List (List UInt8)):Option Int :=
(zan a0 a1).bind fun r1 =>
 some r1
def yQ:TFn:={ ps:=(.cons (.sl .str) tT22),res:=(.int .i64),fn:=fun v=>zbs v.1 v.2.1 }
def ase:TEnv:=(vZ [(225,acu)])
theorem asd:runY Tryz.prog akh asf ase ax2 Tryz.f155 yQ.ps yQ.res=yQ.fn:=by kernel_rfl
theorem abI:aA Tryz.prog G0 155 abJ:=ai (ak ⟨au,(aj alU ac),ap,ac,an⟩ Tryz.func155 rfl (by kernel_rfl))
theorem ahg:TOk abJ yQ:=az (E:=akh) (ET:=ase) (EnvT.ofX (ax (ah auK al)) am ar aJ aq) asd rfl
def akn:Env:=(eZ [(154,ud),(155,abJ),(156,uu)] [274])
def asq:Hints:=(hZ [] [])
def abM:PFn:=aF (runF Tryz.prog akn asq Tryz.f126)
def ax5:TH:={ loops:=[],ro:=[2,3] }
def zbp (a0:vV4) (a1:vV4):Option Int :=
(zbs a0.1 a1.1).bind fun r1 =>
(za5 a0.2.1 a1.2.1).bind fun r2 =>
(zcn ([r1,r2]:List Int)).bind fun r3 =>
 some r3
def abL:TFn:={ ps:=(.cons tT20 (.cons tT20 .unit)),res:=(.int .i64),fn:=fun v=>zbp v.1 v.2.1 }
def aso:TEnv:={ pure:=[(154,rn),(155,yQ),(156,rB)],look:=[],glob:=G0T,ty:=[(3,(.int .i64))],raw:=[],fresh:=[] }
theorem asn:runY Tryz.prog akn asq aso ax5 Tryz.f126 abL.ps abL.res=abL.fn:=by kernel_rfl
theorem akm:aA Tryz.prog G0 126 abM:=ai (ak ⟨au,(aj pp (aj abI (aj py ac))),ap,ac,an⟩ Tryz.func126 rfl (by kernel_rfl))
theorem ahi:TOk abM abL:=az (E:=akn) (ET:=aso) (EnvT.ofX (ax (ah wz (ah ahg (ah wZ al)))) am ar aJ aq) asn rfl
theorem afz : @aA ⟨True⟩ Tryz.prog G0 226 afA:=by
 letI:Drawn:=⟨True⟩
 exact ai (ak ⟨au,ac,ap,ac,an⟩ Tryz.func226 rfl (by kernel_rfl))
theorem w7 : @aA ⟨True⟩ Tryz.prog G0 156 uu:=by
 letI:Drawn:=⟨True⟩
 exact ai (ak ⟨au,(aj afz ac),ap,ac,an⟩ Tryz.func156 rfl (by kernel_rfl))
theorem wA : @aA ⟨True⟩ Tryz.prog G0 154 ud:=by
 letI:Drawn:=⟨True⟩
 exact ai (ak ⟨au,ac,ap,ac,an⟩ Tryz.func154 rfl (by kernel_rfl))
theorem afF : @aA ⟨True⟩ Tryz.prog G0 330 afG:=by
 letI:Drawn:=⟨True⟩
 exact ai (ak ⟨au,ac,ap,ac,an⟩ Tryz.func330 rfl (by kernel_rfl))
theorem afp : @aA ⟨True⟩ Tryz.prog G0 287 afq:=by
 letI:Drawn:=⟨True⟩
 exact ai (ak ⟨au,(aj afF ac),ap,ac,an⟩ Tryz.func287 rfl (by kernel_rfl))
theorem afs : @aA ⟨True⟩ Tryz.prog G0 225 aft:=by
 letI:Drawn:=⟨True⟩
 exact ai (ak ⟨au,(aj afp ac),ap,ac,an⟩ Tryz.func225 rfl (by kernel_rfl))
theorem afg : @aA ⟨True⟩ Tryz.prog G0 155 abJ:=by
 letI:Drawn:=⟨True⟩
 exact ai (ak ⟨au,(aj afs ac),ap,ac,an⟩ Tryz.func155 rfl (by kernel_rfl))
theorem afj : @aA ⟨True⟩ Tryz.prog G0 126 abM:=by
 letI:Drawn:=⟨True⟩
 exact ai (ak ⟨au,(aj wA (aj afg (aj w7 ac))),ap,ac,an⟩ Tryz.func126 rfl (by kernel_rfl))
def ami:Go.Shelf.Ren:=⟨fun | 6=>125 | 14=>200 | 15=>201 | 20=>260 | 21=>261 | 22=>262 | 23=>263 | 24=>264 | 25=>265 | 26=>266 | 27=>267 | 28=>268 | 29=>269 | 46=>315 | 47=>316 | 48=>317 | 49=>318 | 50=>319 | 57=>351 | n=>n,fun | 0=>0 | 3=>3 | 4=>4 | 5=>5 | 9=>9 | 22=>104 | 24=>109 | 25=>199 | 39=>230 | 45=>314 | 46=>315 | 50=>161 | 53=>321 | 55=>323 | 66=>354 | 70=>358 | 76=>378 | 77=>283 | n=>n,fun | n=>n⟩
theorem afx:Go.Proofs.SlLaysF0.n6 Tryz.prog ami:={
 mixed:=by kernel_rfl
 f6:=⟨Tryz.f125.name,by decide,Tryz.func125.trans (congrArg some (by kernel_rfl))⟩
 f14:=⟨Tryz.f200.name,by decide,Tryz.func200.trans (congrArg some (by kernel_rfl))⟩
 f15:=Tryz.func201.trans (congrArg some (by kernel_rfl))
 f20:=⟨Tryz.f260.name,by decide,Tryz.func260.trans (congrArg some (by kernel_rfl))⟩
 f21:=⟨Tryz.f261.name,by decide,Tryz.func261.trans (congrArg some (by kernel_rfl))⟩
 f22:=⟨Tryz.f262.name,by decide,Tryz.func262.trans (congrArg some (by kernel_rfl))⟩
 f23:=⟨Tryz.f263.name,by decide,Tryz.func263.trans (congrArg some (by kernel_rfl))⟩
 f24:=⟨Tryz.f264.name,by decide,Tryz.func264.trans (congrArg some (by kernel_rfl))⟩
 f25:=⟨Tryz.f265.name,by decide,Tryz.func265.trans (congrArg some (by kernel_rfl))⟩
 f26:=⟨Tryz.f266.name,by decide,Tryz.func266.trans (congrArg some (by kernel_rfl))⟩
 f27:=⟨Tryz.f267.name,by decide,Tryz.func267.trans (congrArg some (by kernel_rfl))⟩
 f28:=Tryz.func268.trans (congrArg some (by kernel_rfl))
 f29:=Tryz.func269.trans (congrArg some (by kernel_rfl))
 f46:=⟨Tryz.f315.name,by decide,Tryz.func315.trans (congrArg some (by kernel_rfl))⟩
 f47:=Tryz.func316.trans (congrArg some (by kernel_rfl))
 f48:=Tryz.func317.trans (congrArg some (by kernel_rfl))
 f49:=⟨Tryz.f318.name,by decide,Tryz.func318.trans (congrArg some (by kernel_rfl))⟩
 f50:=⟨Tryz.f319.name,by decide,Tryz.func319.trans (congrArg some (by kernel_rfl))⟩
 f57:=⟨Tryz.f351.name,by decide,Tryz.func351.trans (congrArg some (by kernel_rfl))⟩
 t0:=Tryz.underlying0
 a0:=Tryz.isAgg0
 z0:=Tryz.sizeOf0
 v0:=Tryz.zeroValue0
 t3:=Tryz.underlying3
 a3:=Tryz.isAgg3
 z3:=Tryz.sizeOf3
 v3:=Tryz.zeroValue3
 t4:=Tryz.underlying4
 a4:=Tryz.isAgg4
 z4:=Tryz.sizeOf4
 v4:=Tryz.zeroValue4
 t5:=Tryz.underlying5
 a5:=Tryz.isAgg5
 z5:=Tryz.sizeOf5
 v5:=Tryz.zeroValue5
 t9:=Tryz.underlying9
 a9:=Tryz.isAgg9
 z9:=Tryz.sizeOf9
 v9:=Tryz.zeroValue9
 t22:=Tryz.underlying104
 a22:=Tryz.isAgg104
 z22:=Tryz.sizeOf104
 v22:=Tryz.zeroValue104
 t25:=Tryz.underlying199
 a25:=Tryz.isAgg199
 z25:=Tryz.sizeOf199
 v25:=Tryz.zeroValue199
 t39:=Tryz.underlying230
 a39:=Tryz.isAgg230
 z39:=Tryz.sizeOf230
 v39:=Tryz.zeroValue230
 t45:=Tryz.underlying314
 a45:=Tryz.isAgg314
 z45:=Tryz.sizeOf314
 v45:=Tryz.zeroValue314
 t46:=Tryz.underlying315
 a46:=Tryz.isAgg315
 z46:=Tryz.sizeOf315
 v46:=Tryz.zeroValue315
 t50:=Tryz.underlying161
 a50:=Tryz.isAgg161
 z50:=Tryz.sizeOf161
 v50:=Tryz.zeroValue161
 t53:=Tryz.underlying321
 a53:=Tryz.isAgg321
 z53:=Tryz.sizeOf321
 v53:=Tryz.zeroValue321
 t55:=Tryz.underlying323
 a55:=Tryz.isAgg323
 z55:=Tryz.sizeOf323
 v55:=Tryz.zeroValue323
 t66:=Tryz.underlying354
 a66:=Tryz.isAgg354
 z66:=Tryz.sizeOf354
 v66:=Tryz.zeroValue354
 t70:=Tryz.underlying358
 a70:=Tryz.isAgg358
 z70:=Tryz.sizeOf358
 v70:=Tryz.zeroValue358
 t76:=Tryz.underlying378
 a76:=Tryz.isAgg378
 z76:=Tryz.sizeOf378
 v76:=Tryz.zeroValue378
 t77:=Tryz.underlying283
 a77:=Tryz.isAgg283
 z77:=Tryz.sizeOf283
 v77:=Tryz.zeroValue283 }
def amk:SFn:=pH abM 126 2 109
theorem amj:cB Tryz.prog G0 125 amk:=lN (M:=2) (g:=126) afx (by decide) (fun w=>Tryz.isAgg109 w) (fun w=>Tryz.sizeOf109 w) afj ⟨Tryz.f125,Tryz.func125,rfl,by kernel_rfl⟩
def zaf (w0:List vV4):Option (Unit×List vV4×Unit):=(nF (fun x y=>zbp x y) w0).map fun l=>((),(l,()))
def avc:TRaw:=acP false 126 109 tT20 (fun x y=>zbp x y)
theorem avb:TRawOk amk avc:=xc rfl rfl rfl rfl ahi
def akT:Env:=(eZ [(126,abM)] [274])
def atc:Hints:=(hZ [] [])
def akS:PFn:=aF (runF Tryz.prog akT atc Tryz.f128)
def ayh:TH:={ loops:=[],ro:=[2,3] }
def zbd (a0:vV4) (a1:vV4):Option Bool :=
(zbp a0 a1).bind fun r1 =>
 some (decide (r1=0))
def ab0:TFn:={ ps:=(.cons tT20 (.cons tT20 .unit)),res:=.bool,fn:=fun v=>zbd v.1 v.2.1 }
def atb:TEnv:=(vZ [(126,abL)])
theorem ata:runY Tryz.prog akT atc atb ayh Tryz.f128 ab0.ps ab0.res=ab0.fn:=by kernel_rfl
theorem akR:aA Tryz.prog G0 128 akS:=ai (ak ⟨au,(aj akm ac),ap,ac,an⟩ Tryz.func128 rfl (by kernel_rfl))
theorem as9:TOk akS ab0:=az (E:=akT) (ET:=atb) (EnvT.ofX (ax (ah ahi al)) am ar aJ aq) ata rfl
def amr:Env:=(eZ [(128,akS)] [274])
def avj:Hints:=(hZ [(4,[0,1,5]),(9,[0,1,5,6,7])] [])
def amq:SFn:=qB (runF Tryz.prog amr avj Tryz.f127)
def ayL:TH:={ joins:=[(14,{ keep:=[(0,(.own 0)),(5,(.int .i64))],mem:=[.row false 109 tT20] })],loops:=[(4,{ keep:=[(0,(.own 0)),(5,(.int .i64))],mem:=[.row false 109 tT20] }),(9,{ keep:=[(0,(.own 0)),(5,(.int .i64)),(6,(.vw 0)),(7,(.int .i64))],mem:=[.row false 109 tT20] })],ro:=[] }
def ob (y9:(Int×(Nat×Nat)×Int×List vV4×Unit)):Option ((Int×(Nat×Nat)×Int×List vV4×Unit)⊕(vV10⊕(vV10⊕(List vV4)))) :=
 cond (decide (y9.2.2.1<(y9.2.1.2:Int))) (
 cond y9.2.2.2.1.isEmpty (none) ((inI y9.2.1.2 y9.2.2.1).bind fun i7 =>
(y9.2.2.2.1[(y9.2.1.1+i7)]?).bind fun x8 =>
 cond y9.2.2.2.1.isEmpty (none) ((inI y9.2.1.2 (IntKind.wrap .i64 (y9.2.2.1-1))).bind fun i9 =>
(y9.2.2.2.1[(y9.2.1.1+i9)]?).bind fun x10 =>
(zbd x8 x10).bind fun r11 =>
 cond (!r11) (
 cond y9.2.2.2.1.isEmpty (none) ((inI y9.2.1.2 y9.2.2.1).bind fun i12 =>
(y9.2.2.2.1[(y9.2.1.1+i12)]?).bind fun x13 =>
(inI y9.2.2.2.1.length y9.1).bind fun i14 =>
(y9.2.2.2.1[i14]?).bind fun x15 =>
 some (.inl ((IntKind.wrap .i64 (y9.1+1)),y9.2.1,(IntKind.wrap .i64 (y9.2.2.1+1)),(y9.2.2.2.1.set i14 x13),())))) (
 some (.inl (y9.1,y9.2.1,(IntKind.wrap .i64 (y9.2.2.1+1)),y9.2.2.2.1,())))))) (
 some (.inr (.inl (y9.1,y9.2.2.2.1,()))))
def lw (y4:vV10):Option (vV10⊕(List vV4)) :=
 cond (decide (y4.1<(y4.2.1.length:Int))) (
(inI y4.2.1.length y4.1).bind fun i1 =>
(y4.2.1[i1]?).bind fun x2 =>
(inI y4.2.1.length (IntKind.wrap .i64 (y4.1-1))).bind fun i3 =>
(y4.2.1[i3]?).bind fun x4 =>
(zbd x2 x4).bind fun r5 =>
 cond r5 (
 cond y4.2.1.isEmpty (none) ((lG (y4.2.1.length) y4.1 (y4.2.1.length:Int)).bind fun p6 =>
(aH (ob) (y4.1,p6,1,y4.2.1,()):Option (vV10⊕(vV10⊕(List vV4)))).bind (aU fun v16 =>
 cond v16.2.1.isEmpty (none) ((lG (v16.2.1.length) v16.1 (v16.2.1.length:Int)).bind fun p17 =>
 cond v16.2.1.isEmpty (none) ((if p17.1+p17.2≤v16.2.1.length then some () else none).bind fun u18 =>
 cond (v16.2.1.take p17.1++List.replicate p17.2 ([],0,())++v16.2.1.drop (p17.1+p17.2)).isEmpty (none) ((lG ((v16.2.1.take p17.1++List.replicate p17.2 ([],0,())++v16.2.1.drop (p17.1+p17.2)).length) 0 v16.1).bind fun p19 =>
(cond (v16.2.1.take p17.1++List.replicate p17.2 ([],0,())++v16.2.1.drop (p17.1+p17.2)).isEmpty none (if p19.1+p19.2≤(v16.2.1.take p17.1++List.replicate p17.2 ([],0,())++v16.2.1.drop (p17.1+p17.2)).length then some (((v16.2.1.take p17.1++List.replicate p17.2 ([],0,())++v16.2.1.drop (p17.1+p17.2)).drop p19.1).take p19.2) else none)).map .inr)))))) (
 some (.inl ((IntKind.wrap .i64 (y4.1+1)),y4.2.1,())))) (
 some (.inr y4.2.1))
def amo (w0:List vV4):Option (List vV4) :=
 cond (decide ((w0.length:Int)<2)) (
 some w0) (
 aH (lw) (1,w0,()))
def zad (w0:List vV4):Option (List vV4×Unit):=(amo w0).map fun l=>(l,())
def avi:TRaw:={ ps:=(.cons (.own 0) (.cons (.fn 128) .unit)),ins:=[.row false 109 tT20],res:=(.sl tT20),outs:=[.gone],fn:=fun v w=>zad w.1 }
def avh:TEnv:=(vZ [(128,ab0)])
theorem avg:agC Tryz.prog amr avj avh ayL Tryz.f127 (.cons (.own 0) (.cons (.fn 128) .unit)) false 109 tT20=fun _ w=>amo w:=by kernel_rfl
theorem amp:cB Tryz.prog G0 127 amq:=mT (ak ⟨au,(aj akR ac),ap,ac,an⟩ Tryz.func127 rfl (by kernel_rfl))
theorem avf:TRawOk amq avi:=xN (E:=amr) (ET:=avh) (EnvT.ofX (ax (ah as9 al)) am ar aJ aq) avg
def ajf:Env:={ pure:=[(72,yV),(124,aeZ)],raw:=[(125,amk),(127,amq)],glob:=G0,same:=[274],look:=[],ext:=[] }
def aqy:Hints:=(hZ [(3,[3,6,7,8])] [])
def aje:PFn:=aF (runF Tryz.prog ajf aqy Tryz.f55)
def axA:TH:={ joins:=[(7,{ keep:=[(3,(.own 1))],mem:=[.gone,.row true 109 tT20] })],loops:=[(3,{ keep:=[(3,(.own 1)),(8,(.int .i64))],mem:=[.gone,.row true 109 tT20] })],ro:=[] }
def wB (a0:List vV6) (y3:vV10):Option (vV10⊕((List vV4×Unit)⊕List vV4)) :=
 cond (decide (y3.1<(a0.length:Int))) (
(atI a0 y3.1).bind fun x1 =>
(zap x1.2.1.2.1).bind fun r2 =>
(zdx x1.2.1.1).bind fun r3 =>
(ch (y3.2.1.length+([(r2,r3,())]:List vV4).length)).bind fun u4 =>
 some (.inl ((IntKind.wrap .i64 (y3.1+1)),(y3.2.1++([(r2,r3,())]:List vV4)),()))) (
 some (.inr (.inl (y3.2.1,()))))
def zck (a0:List vV6):Option (List vV4) :=
(aH (wB a0) (0,[],()):Option ((List vV4×Unit)⊕List vV4)).bind (aU fun v5 =>
(zaf v5.1).bind fun q6 =>
(zad q6.2.1).bind fun q7 =>
 some q7.1)
def abg:TFn:={ ps:=(.cons (.sl tT19) .unit),res:=(.sl tT20),fn:=fun v=>zck v.1 }
def aqx:TEnv:={ pure:=[(72,acs),(124,yy)],look:=[],glob:=G0T,ty:=[(109,tT20)],raw:=[(125,avc),(127,avi)],fresh:=[] }
theorem aqw:runY Tryz.prog ajf aqy aqx axA Tryz.f55 abg.ps abg.res=abg.fn:=by kernel_rfl
theorem ajd:aA Tryz.prog G0 55 aje:=ai (ak ⟨au,(aj px (aj aaA ac)),(bN amj (bN amp ap)),ac,an⟩ Tryz.func55 rfl (by kernel_rfl))
theorem aqv:TOk aje abg:=az (E:=ajf) (ET:=aqx) (EnvT.ofX (ax (ah wW (ah agZ al))) am (ck avb rfl rfl (ck avf rfl rfl ar)) aJ aq) aqw rfl
def ah5:Env:=(eZ [] [274])
def aoF:Hints:=(hZ [(3,[0,1,5,6,7,8]),(14,[0,5])] [])
def ah4:PFn:=aF (runF Tryz.prog ah5 aoF Tryz.f331)
def aw4:TH:={ joins:=[(14,{ keep:=[(5,(.int .i64))],mem:=[] }),(12,{ keep:=[(6,(.int .i64)),(7,(.int .i64))],mem:=[] }),(5,{ keep:=[(13,.bool)],mem:=[] }),(16,{ keep:=[(5,(.int .i64))],mem:=[] })],loops:=[(3,{ keep:=[(5,(.int .i64)),(6,(.int .i64)),(7,(.int .i64)),(8,(.int .i64))],mem:=[] }),(14,{ keep:=[(5,(.int .i64))],mem:=[] })],ro:=[] }
def d7 (a0:List (Int×Int×Unit)) (a1:List Int) (y3:(Int×Int×Int×Int×Unit)):Option ((Int×Int×Int×Int×Unit)⊕((Int×Unit)⊕Bool)) :=
 cond (decide (y3.2.2.2.1<(a1.length:Int))) (
((cond (decide (y3.1<(a0.length:Int))) ((atI a0 y3.1).bind fun x1 =>
 some (.inl ((decide (x1.1=2)),()))) (some (.inl (false,()))):Option ((Bool×Unit)⊕((Int×Int×Unit)⊕((Int×Int×Int×Int×Unit)⊕((Int×Unit)⊕Bool))))).bind (aU fun v2 =>
 cond v2.1 (
 some (.inr (.inl ((IntKind.wrap .i64 (y3.1+1)),y3.1,y3.2.2.2.1,y3.2.2.2.1,())))) (
 cond (decide (y3.1<(a0.length:Int))) ((atI a0 y3.1).bind fun x3 =>
 cond (decide (x3.1=1)) (some (.inr (.inl ((IntKind.wrap .i64 (y3.1+1)),y3.2.1,y3.2.2.1,(IntKind.wrap .i64 (y3.2.2.2.1+1)),())))) ((atI a0 y3.1).bind fun x4 =>
(atI a1 y3.2.2.2.1).bind fun x5 =>
 cond (decide (x4.2.1=x5)) (
 some (.inr (.inl ((IntKind.wrap .i64 (y3.1+1)),y3.2.1,y3.2.2.1,(IntKind.wrap .i64 (y3.2.2.2.1+1)),())))) (
 cond (decide (y3.2.1<0)) (
 some (.inr (.inr (.inr false)))) (
 some (.inl (y3.2.1,y3.2.2.1,())))))) (cond (decide (y3.2.1<0)) (
 some (.inr (.inr (.inr false)))) (
 some (.inl (y3.2.1,y3.2.2.1,())))))):Option ((Int×Int×Unit)⊕((Int×Int×Int×Int×Unit)⊕((Int×Unit)⊕Bool)))).bind (aU fun v6 =>
 some (.inl ((IntKind.wrap .i64 (v6.1+1)),v6.1,(IntKind.wrap .i64 (v6.2.1+1)),(IntKind.wrap .i64 (v6.2.1+1)),())))) (
 some (.inr (.inl (y3.1,()))))
def jI (a0:List (Int×Int×Unit)) (y14:(Int×Unit)):Option ((Int×Unit)⊕((Int×Unit)⊕Bool)) :=
 cond (decide (y14.1<(a0.length:Int))) ((atI a0 y14.1).bind fun x8 =>
 cond (decide (x8.1=2)) (
 some (.inl ((IntKind.wrap .i64 (y14.1+1)),()))) (
 some (.inr (.inl (y14.1,()))))) (some (.inr (.inl (y14.1,()))))
def zdq (a0:List (Int×Int×Unit)) (a1:List Int):Option Bool :=
(aH (d7 a0 a1) (0,(-1),0,0,()):Option ((Int×Unit)⊕Bool)).bind (aU fun v7 =>
(aH (jI a0) (v7.1,()):Option ((Int×Unit)⊕Bool)).bind (aU fun v9 =>
 some (decide (v9.1=(a0.length:Int)))))
def aaK:TFn:={ ps:=(.cons (.sl (.agg (.cons (.int .i64) (.cons (.int .i32) .unit)))) (.cons (.sl (.int .i32)) .unit)),res:=.bool,fn:=fun v=>zdq v.1 v.2.1 }
def aoE:TEnv:=(vZ [])
theorem aoD:runY Tryz.prog ah5 aoF aoE aw4 Tryz.f331 aaK.ps aaK.res=aaK.fn:=by kernel_rfl
theorem ah3:aA Tryz.prog G0 331 ah4:=ai (ak ⟨au,ac,ap,ac,an⟩ Tryz.func331 rfl (by kernel_rfl))
theorem aoC:TOk ah4 aaK:=az (E:=ah5) (ET:=aoE) (EnvT.ofX (ax al) am ar aJ aq) aoD rfl
def aj1:Env:={ pure:=[(215,ae4),(281,afo)],raw:=[],glob:=G0,same:=[274],look:=[(331,ah4)],ext:=[] }
def arN:Hints:=(hZ [] [20])
def aj0:PFn:=aF (runF Tryz.prog aj1 arN Tryz.f289)
def axU:TH:=yZ
def zc0 (a0:List UInt8) (a1:List UInt8):Option Bool :=
(zcv a0).bind fun r1 =>
 cond r1.2.1 ((zax a1).bind fun r2 =>
 cond r2 ((zdq r1.1 (rU a1)).bind fun r3 =>
 some r3) (some false)) (some false)
def abB:TFn:={ ps:=(.cons .str (.cons .str .unit)),res:=.bool,fn:=fun v=>zc0 v.1 v.2.1 }
def arM:TEnv:={ pure:=[(215,yC),(281,yU)],look:=[(331,aaK)],glob:=G0T,ty:=[],raw:=[],fresh:=[] }
theorem arL:runY Tryz.prog aj1 arN arM axU Tryz.f289 abB.ps abB.res=abB.fn:=by kernel_rfl
theorem ajZ:aA Tryz.prog G0 289 aj0:=ai (ak ⟨au,(aj aa7 (aj acj ac)),ap,(aj ah3 ac),an⟩ Tryz.func289 rfl (by kernel_rfl))
theorem arK:TOk aj0 abB:=az (E:=aj1) (ET:=arM) (EnvT.ofX (ax (ah ag4 (ah ahm al))) (oN aoC rfl am) ar aJ aq) arL rfl
def acb (F:PFn):Env:=(eZ [(289,aj0),(228,F)] [274])
def alb:Hints:=(hZ [(1,[0,1]),(4,[0,1,15,16])] [])
def pV (F:PFn):PFn:=aF (runF Tryz.prog (acb F) alb Tryz.f228)
def ayp:TH:={ joins:=[(13,{ keep:=[(1,(.sl .str))],mem:=[] }),(10,{ keep:=[],mem:=[] })],loops:=[(1,{ keep:=[(0,(.sl .str)),(1,(.sl .str))],mem:=[] }),(4,{ keep:=[(16,(.int .i64))],mem:=[] })],ro:=[] }
def lq (y1:vV9) (rec:(List (List UInt8)×List (List UInt8)×Unit→Option Bool)) (y4:(Int×Unit)):Option ((Int×Unit)⊕(Unit⊕(vV9⊕((List (List UInt8)×Unit)⊕Bool)))) :=
 cond (decide (y4.1<(IntKind.wrap .i64 ((y1.2.1.length:Int)+1)))) (
(subI y1.1 1 (y1.1.length:Int)).bind fun s2 =>
(subI y1.2.1 y4.1 (y1.2.1.length:Int)).bind fun s3 =>
(rec (s2,s3,())).bind fun r4 =>
 cond r4 (
 some (.inr (.inr (.inr (.inr true))))) (
 some (.inl ((IntKind.wrap .i64 (y4.1+1)),())))) (
 some (.inr (.inr (.inr (.inr false)))))
def lr (rec:(List (List UInt8)×List (List UInt8)×Unit→Option Bool)) (y1:vV9):Option (vV9⊕((List (List UInt8)×Unit)⊕Bool)) :=
 cond (decide ((y1.1.length:Int)>0)) (
((atI y1.1 0).bind fun x1 =>
 cond (decide (x1=[42,42])) (
 aH (lq y1 rec) (0,())) (
 some (.inl ())):Option (Unit⊕(vV9⊕((List (List UInt8)×Unit)⊕Bool)))).bind (aU fun v5 =>
 cond (decide ((y1.2.1.length:Int)=0)) (some (.inr (.inr false))) ((atI y1.1 0).bind fun x6 =>
(atI y1.2.1 0).bind fun x7 =>
(zc0 x6 x7).bind fun r8 =>
 cond (!r8) (
 some (.inr (.inr false))) (
(subI y1.1 1 (y1.1.length:Int)).bind fun s9 =>
(subI y1.2.1 1 (y1.2.1.length:Int)).bind fun s10 =>
 some (.inl (s9,s10,())))))) (
 some (.inr (.inl (y1.2.1,()))))
def bT (rec:(vV9→Option Bool)) (a0:List (List UInt8)) (a1:List (List UInt8)):Option Bool :=
(aH (lr rec) (a0,a1,()):Option ((List (List UInt8)×Unit)⊕Bool)).bind (aU fun v11 =>
 some (decide ((v11.1.length:Int)=0)))
def gt:(vV9→Option Bool):=fixT fun rec v=>bT rec v.1 v.2.1
def zb5 (a0:List (List UInt8)) (a1:List (List UInt8)):Option Bool:=gt (a0,a1,())
def aca:TFn:={ ps:=(.cons (.sl .str) tT22),res:=.bool,fn:=fixT fun (rec:(vV9→Option Bool)) v=>bT rec v.1 v.2.1 }
def ald:PFn:=fixF pV aca
def ala (rec:(vV9→Option Bool)):TEnv:=(vZ [(289,abB),(228,{ ps:=(.cons (.sl .str) tT22),res:=.bool,fn:=rec })])
theorem atD (F:PFn) (rec:(vV9→Option Bool)):runY Tryz.prog (acb F) alb (ala rec) ayp Tryz.f228 aca.ps aca.res=fun v=>bT rec v.1 v.2.1:=by kernel_rfl
theorem alc:aA Tryz.prog G0 228 ald:=adb ⟨Tryz.f228,Tryz.func228,rfl,by kernel_rfl⟩ fun F hF=>ai (ak (P:=Tryz.prog) (E:=acb F) (h:=alb) (f:=228) (fn:=Tryz.f228) ⟨au,(aj ajZ (aj hF ac)),ap,ac,an⟩ Tryz.func228 rfl (by kernel_rfl))
theorem atC:TOk ald aca:=awh rfl fun F rec hF=>az (E:=acb F) (ET:=ala rec) (EnvT.ofX (E:=acb F) (ET:=ala rec) (ax (ah arK (ah hF al))) am ar aJ aq) (atD F rec) rfl
def alr:Env:=(eZ [(71,afa),(228,ald)] [274])
def atY:Hints:=(hZ [] [])
def alq:PFn:=aF (runF Tryz.prog alr atY Tryz.f162)
def ayu:TH:=yZ
def zb0 (a0:List (List UInt8)) (a1:List (List UInt8)):Option Bool :=
(zcd a0).bind fun r1 =>
 cond (decide (r1=0)) ((zb5 a0 a1).bind fun r2 =>
 some r2) (some false)
def ach:TFn:={ ps:=(.cons (.sl .str) tT22),res:=.bool,fn:=fun v=>zb0 v.1 v.2.1 }
def atX:TEnv:=(vZ [(71,yJ),(228,aca)])
theorem atW:runY Tryz.prog alr atY atX ayu Tryz.f162 ach.ps ach.res=ach.fn:=by kernel_rfl
theorem alp:aA Tryz.prog G0 162 alq:=ai (ak ⟨au,(aj abn (aj alc ac)),ap,ac,an⟩ Tryz.func162 rfl (by kernel_rfl))
theorem atV:TOk alq ach:=az (E:=alr) (ET:=atX) (EnvT.ofX (ax (ah aha (ah atC al))) am ar aJ aq) atW rfl
def akf:Env:=(eZ [(55,aje),(162,alq)] [274])
def ar9:Hints:=(hZ [(3,[1,5,9,10,11])] [])
def ake:PFn:=aF (runF Tryz.prog akf ar9 Tryz.f93)
def ax0:TH:={ loops:=[(3,{ keep:=[(5,(.own 1)),(11,(.int .i64))],mem:=[.gone,.row true 109 tT20] })],ro:=[] }
def wL (a1:List (List UInt8)) (r1:List vV4) (y3:vV10):Option (vV10⊕List vV4) :=
 cond (decide (y3.1<(r1.length:Int))) (
(atI r1 y3.1).bind fun x2 =>
(zb0 a1 x2.1).bind fun r3 =>
 cond r3 (
(ch (y3.2.1.length+([x2]:List vV4).length)).bind fun u4 =>
 some (.inl ((IntKind.wrap .i64 (y3.1+1)),(y3.2.1++([x2]:List vV4)),()))) (
 some (.inl ((IntKind.wrap .i64 (y3.1+1)),y3.2.1,())))) (
 some (.inr y3.2.1))
def zbu (a0:List vV6) (a1:List (List UInt8)):Option (List vV4) :=
(zck a0).bind fun r1 =>
 aH (wL a1 r1) (0,[],())
def abG:TFn:={ ps:=(.cons (.sl tT19) tT22),res:=(.sl tT20),fn:=fun v=>zbu v.1 v.2.1 }
def ar8:TEnv:={ pure:=[(55,abg),(162,ach)],look:=[],glob:=G0T,ty:=[(109,tT20)],raw:=[],fresh:=[] }
theorem ar7:runY Tryz.prog akf ar9 ar8 ax0 Tryz.f93 abG.ps abG.res=abG.fn:=by kernel_rfl
theorem akd:aA Tryz.prog G0 93 ake:=ai (ak ⟨au,(aj ajd (aj alp ac)),ap,ac,an⟩ Tryz.func93 rfl (by kernel_rfl))
theorem ar6:TOk ake abG:=az (E:=akf) (ET:=ar8) (EnvT.ofX (ax (ah aqv (ah atV al))) am ar aJ aq) ar7 rfl
def alT:Env:=(eZ [] [274])
def auJ:Hints:=(hZ [(4,[0,1,12,13])] [])
def alS:PFn:=aF (runF Tryz.prog alT auJ Tryz.f196)
def ayF:TH:={ loops:=[(4,{ keep:=[(13,(.int .i64))],mem:=[] })],ro:=[] }
def wX (a0:List (List UInt8)) (a1:List (List UInt8)) (y4:(Int×Unit)):Option ((Int×Unit)⊕Bool) :=
 cond (decide (y4.1<(a0.length:Int))) (
(atI a0 y4.1).bind fun x1 =>
(atI a1 y4.1).bind fun x2 =>
 cond (!decide (x1=x2)) (
 some (.inr false)) (
 some (.inl ((IntKind.wrap .i64 (y4.1+1)),())))) (
 some (.inr true))
def zao (a0:List (List UInt8)) (a1:List (List UInt8)):Option Bool :=
 cond (!decide ((a0.length:Int)=(a1.length:Int))) (
 some false) (
 aH (wX a0 a1) (0,()))
def act:TFn:={ ps:=(.cons (.sl .str) tT22),res:=.bool,fn:=fun v=>zao v.1 v.2.1 }
def auI:TEnv:=(vZ [])
theorem auH:runY Tryz.prog alT auJ auI ayF Tryz.f196 act.ps act.res=act.fn:=by kernel_rfl
theorem alR:aA Tryz.prog G0 196 alS:=ai (ak ⟨au,ac,ap,ac,an⟩ Tryz.func196 rfl (by kernel_rfl))
theorem auG:TOk alS act:=az (E:=alT) (ET:=auI) (EnvT.ofX (ax al) am ar aJ aq) auH rfl
def ah6:Env:=(eZ [(196,alS)] [274])
def aoI:Hints:=(hZ [] [])
def ae0:PFn:=aF (runF Tryz.prog ah6 aoI Tryz.f160)
def aw5:TH:=yZ
def zdp (a0:List (List UInt8)) (a1:List (List UInt8)):Option Bool :=
(zao a0 a1).bind fun r1 =>
 some r1
def yz:TFn:={ ps:=(.cons (.sl .str) tT22),res:=.bool,fn:=fun v=>zdp v.1 v.2.1 }
def aoH:TEnv:=(vZ [(196,act)])
theorem aoG:runY Tryz.prog ah6 aoI aoH aw5 Tryz.f160 yz.ps yz.res=yz.fn:=by kernel_rfl
theorem aaL:aA Tryz.prog G0 160 ae0:=ai (ak ⟨au,(aj alR ac),ap,ac,an⟩ Tryz.func160 rfl (by kernel_rfl))
theorem ag0:TOk ae0 yz:=az (E:=ah6) (ET:=aoH) (EnvT.ofX (ax (ah auG al)) am ar aJ aq) aoG rfl
def ahU:Env:=(eZ [(124,aeZ),(160,ae0)] [274])
def aom:Hints:=(hZ [(3,[1,2,7,10,11,12])] [])
def aaD:PFn:=aF (runF Tryz.prog ahU aom Tryz.f229)
def awZ:TH:={ loops:=[(3,{ keep:=[(7,(.own 1)),(12,(.int .i64))],mem:=[.gone,.row true 148 tT19] })],ro:=[] }
def wh (a0:List vV6) (a1:List (List UInt8)) (a2:Int) (y3:(Int×List vV6×Unit)):Option ((Int×List vV6×Unit)⊕List vV6) :=
 cond (decide (y3.1<(a0.length:Int))) (
(atI a0 y3.1).bind fun x1 =>
(zdx x1.2.1.1).bind fun r2 =>
 cond (decide (r2=a2)) ((zdp x1.2.1.2.1 a1).bind fun r3 =>
 cond r3 (
(ch (y3.2.1.length+([x1]:List vV6).length)).bind fun u4 =>
 some (.inl ((IntKind.wrap .i64 (y3.1+1)),(y3.2.1++([x1]:List vV6)),()))) (
 some (.inl ((IntKind.wrap .i64 (y3.1+1)),y3.2.1,())))) (some (.inl ((IntKind.wrap .i64 (y3.1+1)),y3.2.1,())))) (
 some (.inr y3.2.1))
def zdv (a0:List vV6) (a1:List (List UInt8)) (a2:Int):Option (List vV6) :=
 aH (wh a0 a1 a2) (0,[],())
def tT:TFn:={ ps:=(.cons (.sl tT19) (.cons (.sl .str) tT16)),res:=(.sl tT19),fn:=fun v=>zdv v.1 v.2.1 v.2.2.1 }
def aol:TEnv:={ pure:=[(124,yy),(160,yz)],look:=[],glob:=G0T,ty:=[(148,tT19)],raw:=[],fresh:=[] }
theorem aok:runY Tryz.prog ahU aom aol awZ Tryz.f229 tT.ps tT.res=tT.fn:=by kernel_rfl
theorem tU:aA Tryz.prog G0 229 aaD:=ai (ak ⟨au,(aj aaA (aj aaL ac)),ap,ac,an⟩ Tryz.func229 rfl (by kernel_rfl))
theorem aaC:TOk aaD tT:=az (E:=ahU) (ET:=aol) (EnvT.ofX (ax (ah agZ (ah ag0 al))) am ar aJ aq) aok rfl
def afC:PFn:=cmpF
theorem amG:aA Tryz.prog G0 291 afC:=tm ⟨Tryz.f291,Tryz.func291,rfl,by kernel_rfl⟩ Tryz.strings_Compare
def za7 (a0:List UInt8) (a1:List UInt8):Option Int:=cmpT a0 a1
def avF:TFn:=aex
theorem avE:TOk afC avF:=anV
def akY:Env:=(eZ [(154,ud),(156,uu),(291,afC)] [274])
def atj:Hints:=(hZ [] [])
def ab3:PFn:=aF (runF Tryz.prog akY atj Tryz.f231)
def ayj:TH:={ loops:=[],ro:=[2,3] }
def zbb (a0:vV3) (a1:vV3):Option Int :=
(za5 a0.1 a1.1).bind fun r1 =>
(za5 a0.2.1 a1.2.1).bind fun r2 =>
(za7 a0.2.2.1 a1.2.2.1).bind fun r3 =>
(zcn ([r1,r2,r3]:List Int)).bind fun r4 =>
 some r4
def ab2:TFn:={ ps:=(.cons tT15 (.cons tT15 .unit)),res:=(.int .i64),fn:=fun v=>zbb v.1 v.2.1 }
def ati:TEnv:={ pure:=[(154,rn),(156,rB),(291,avF)],look:=[],glob:=G0T,ty:=[(3,(.int .i64))],raw:=[],fresh:=[] }
theorem ath:runY Tryz.prog akY atj ati ayj Tryz.f231 ab2.ps ab2.res=ab2.fn:=by kernel_rfl
theorem akX:aA Tryz.prog G0 231 ab3:=ai (ak ⟨au,(aj pp (aj py (aj amG ac))),ap,ac,an⟩ Tryz.func231 rfl (by kernel_rfl))
theorem ahj:TOk ab3 ab2:=az (E:=akY) (ET:=ati) (EnvT.ofX (ax (ah wz (ah wZ (ah avE al)))) am ar aJ aq) ath rfl
theorem afB : @aA ⟨True⟩ Tryz.prog G0 291 afC:=by
 letI:Drawn:=⟨True⟩
 exact tm ⟨Tryz.f291,Tryz.func291,rfl,by kernel_rfl⟩ Tryz.strings_Compare
theorem afk : @aA ⟨True⟩ Tryz.prog G0 231 ab3:=by
 letI:Drawn:=⟨True⟩
 exact ai (ak ⟨au,(aj wA (aj w7 (aj afB ac))),ap,ac,an⟩ Tryz.func231 rfl (by kernel_rfl))
def aml:Go.Shelf.Ren:=⟨fun | 6=>230 | 14=>290 | 15=>201 | 20=>332 | 21=>333 | 22=>334 | 23=>335 | 24=>336 | 25=>337 | 26=>338 | 27=>339 | 28=>268 | 29=>269 | 46=>359 | 47=>316 | 48=>317 | 49=>360 | 50=>361 | 57=>374 | n=>n,fun | 0=>0 | 3=>3 | 4=>4 | 5=>5 | 9=>9 | 22=>123 | 24=>132 | 25=>296 | 39=>230 | 45=>314 | 46=>315 | 50=>161 | 53=>321 | 55=>323 | 66=>354 | 70=>358 | 76=>378 | 77=>283 | n=>n,fun | n=>n⟩
theorem afy:Go.Proofs.SlLaysF0.n6 Tryz.prog aml:={
 mixed:=by kernel_rfl
 f6:=⟨Tryz.f230.name,by decide,Tryz.func230.trans (congrArg some (by kernel_rfl))⟩
 f14:=⟨Tryz.f290.name,by decide,Tryz.func290.trans (congrArg some (by kernel_rfl))⟩
 f15:=Tryz.func201.trans (congrArg some (by kernel_rfl))
 f20:=⟨Tryz.f332.name,by decide,Tryz.func332.trans (congrArg some (by kernel_rfl))⟩
 f21:=⟨Tryz.f333.name,by decide,Tryz.func333.trans (congrArg some (by kernel_rfl))⟩
 f22:=⟨Tryz.f334.name,by decide,Tryz.func334.trans (congrArg some (by kernel_rfl))⟩
 f23:=⟨Tryz.f335.name,by decide,Tryz.func335.trans (congrArg some (by kernel_rfl))⟩
 f24:=⟨Tryz.f336.name,by decide,Tryz.func336.trans (congrArg some (by kernel_rfl))⟩
 f25:=⟨Tryz.f337.name,by decide,Tryz.func337.trans (congrArg some (by kernel_rfl))⟩
 f26:=⟨Tryz.f338.name,by decide,Tryz.func338.trans (congrArg some (by kernel_rfl))⟩
 f27:=⟨Tryz.f339.name,by decide,Tryz.func339.trans (congrArg some (by kernel_rfl))⟩
 f28:=Tryz.func268.trans (congrArg some (by kernel_rfl))
 f29:=Tryz.func269.trans (congrArg some (by kernel_rfl))
 f46:=⟨Tryz.f359.name,by decide,Tryz.func359.trans (congrArg some (by kernel_rfl))⟩
 f47:=Tryz.func316.trans (congrArg some (by kernel_rfl))
 f48:=Tryz.func317.trans (congrArg some (by kernel_rfl))
 f49:=⟨Tryz.f360.name,by decide,Tryz.func360.trans (congrArg some (by kernel_rfl))⟩
 f50:=⟨Tryz.f361.name,by decide,Tryz.func361.trans (congrArg some (by kernel_rfl))⟩
 f57:=⟨Tryz.f374.name,by decide,Tryz.func374.trans (congrArg some (by kernel_rfl))⟩
 t0:=Tryz.underlying0
 a0:=Tryz.isAgg0
 z0:=Tryz.sizeOf0
 v0:=Tryz.zeroValue0
 t3:=Tryz.underlying3
 a3:=Tryz.isAgg3
 z3:=Tryz.sizeOf3
 v3:=Tryz.zeroValue3
 t4:=Tryz.underlying4
 a4:=Tryz.isAgg4
 z4:=Tryz.sizeOf4
 v4:=Tryz.zeroValue4
 t5:=Tryz.underlying5
 a5:=Tryz.isAgg5
 z5:=Tryz.sizeOf5
 v5:=Tryz.zeroValue5
 t9:=Tryz.underlying9
 a9:=Tryz.isAgg9
 z9:=Tryz.sizeOf9
 v9:=Tryz.zeroValue9
 t22:=Tryz.underlying123
 a22:=Tryz.isAgg123
 z22:=Tryz.sizeOf123
 v22:=Tryz.zeroValue123
 t25:=Tryz.underlying296
 a25:=Tryz.isAgg296
 z25:=Tryz.sizeOf296
 v25:=Tryz.zeroValue296
 t39:=Tryz.underlying230
 a39:=Tryz.isAgg230
 z39:=Tryz.sizeOf230
 v39:=Tryz.zeroValue230
 t45:=Tryz.underlying314
 a45:=Tryz.isAgg314
 z45:=Tryz.sizeOf314
 v45:=Tryz.zeroValue314
 t46:=Tryz.underlying315
 a46:=Tryz.isAgg315
 z46:=Tryz.sizeOf315
 v46:=Tryz.zeroValue315
 t50:=Tryz.underlying161
 a50:=Tryz.isAgg161
 z50:=Tryz.sizeOf161
 v50:=Tryz.zeroValue161
 t53:=Tryz.underlying321
 a53:=Tryz.isAgg321
 z53:=Tryz.sizeOf321
 v53:=Tryz.zeroValue321
 t55:=Tryz.underlying323
 a55:=Tryz.isAgg323
 z55:=Tryz.sizeOf323
 v55:=Tryz.zeroValue323
 t66:=Tryz.underlying354
 a66:=Tryz.isAgg354
 z66:=Tryz.sizeOf354
 v66:=Tryz.zeroValue354
 t70:=Tryz.underlying358
 a70:=Tryz.isAgg358
 z70:=Tryz.sizeOf358
 v70:=Tryz.zeroValue358
 t76:=Tryz.underlying378
 a76:=Tryz.isAgg378
 z76:=Tryz.sizeOf378
 v76:=Tryz.zeroValue378
 t77:=Tryz.underlying283
 a77:=Tryz.isAgg283
 z77:=Tryz.sizeOf283
 v77:=Tryz.zeroValue283 }
def amn:SFn:=pH ab3 231 3 132
theorem amm:cB Tryz.prog G0 230 amn:=lN (M:=3) (g:=231) afy (by decide) (fun w=>Tryz.isAgg132 w) (fun w=>Tryz.sizeOf132 w) afk ⟨Tryz.f230,Tryz.func230,rfl,by kernel_rfl⟩
def zae (w0:List vV3):Option (Unit×List vV3×Unit):=(nF (fun x y=>zbb x y) w0).map fun l=>((),(l,()))
def ave:TRaw:=acP false 231 132 tT15 (fun x y=>zbb x y)
theorem avd:TRawOk amn ave:=xc rfl rfl rfl rfl ahj
def al8:Env:=(eZ [] [274])
def au0:Hints:=(hZ [(4,[0,3]),(9,[0,3,4,5])] [])
def al7:SFn:=qB (runF Tryz.prog al8 au0 Tryz.f232)
def ayI:TH:={ joins:=[(14,{ keep:=[(0,(.own 0)),(3,(.int .i64))],mem:=[.row false 132 tT15] })],loops:=[(4,{ keep:=[(0,(.own 0)),(3,(.int .i64))],mem:=[.row false 132 tT15] }),(9,{ keep:=[(0,(.own 0)),(3,(.int .i64)),(4,(.vw 0)),(5,(.int .i64))],mem:=[.row false 132 tT15] })],ro:=[] }
def oa (y9:(Int×(Nat×Nat)×Int×List vV3×Unit)):Option ((Int×(Nat×Nat)×Int×List vV3×Unit)⊕((Int×List vV3×Unit)⊕((Int×List vV3×Unit)⊕(List vV3)))) :=
 cond (decide (y9.2.2.1<(y9.2.1.2:Int))) (
 cond y9.2.2.2.1.isEmpty (none) ((inI y9.2.1.2 y9.2.2.1).bind fun i6 =>
(y9.2.2.2.1[(y9.2.1.1+i6)]?).bind fun x7 =>
 cond y9.2.2.2.1.isEmpty (none) ((inI y9.2.1.2 (IntKind.wrap .i64 (y9.2.2.1-1))).bind fun i8 =>
(y9.2.2.2.1[(y9.2.1.1+i8)]?).bind fun x9 =>
 cond (!(eqV tT15 x7 x9)) (
 cond y9.2.2.2.1.isEmpty (none) ((inI y9.2.1.2 y9.2.2.1).bind fun i10 =>
(y9.2.2.2.1[(y9.2.1.1+i10)]?).bind fun x11 =>
(inI y9.2.2.2.1.length y9.1).bind fun i12 =>
(y9.2.2.2.1[i12]?).bind fun x13 =>
 some (.inl ((IntKind.wrap .i64 (y9.1+1)),y9.2.1,(IntKind.wrap .i64 (y9.2.2.1+1)),(y9.2.2.2.1.set i12 x11),())))) (
 some (.inl (y9.1,y9.2.1,(IntKind.wrap .i64 (y9.2.2.1+1)),y9.2.2.2.1,())))))) (
 some (.inr (.inl (y9.1,y9.2.2.2.1,()))))
def lu (y4:(Int×List vV3×Unit)):Option ((Int×List vV3×Unit)⊕(List vV3)) :=
 cond (decide (y4.1<(y4.2.1.length:Int))) (
(inI y4.2.1.length y4.1).bind fun i1 =>
(y4.2.1[i1]?).bind fun x2 =>
(inI y4.2.1.length (IntKind.wrap .i64 (y4.1-1))).bind fun i3 =>
(y4.2.1[i3]?).bind fun x4 =>
 cond (eqV tT15 x2 x4) (
 cond y4.2.1.isEmpty (none) ((lG (y4.2.1.length) y4.1 (y4.2.1.length:Int)).bind fun p5 =>
(aH (oa) (y4.1,p5,1,y4.2.1,()):Option ((Int×List vV3×Unit)⊕((Int×List vV3×Unit)⊕(List vV3)))).bind (aU fun v14 =>
 cond v14.2.1.isEmpty (none) ((lG (v14.2.1.length) v14.1 (v14.2.1.length:Int)).bind fun p15 =>
 cond v14.2.1.isEmpty (none) ((if p15.1+p15.2≤v14.2.1.length then some () else none).bind fun u16 =>
 cond (v14.2.1.take p15.1++List.replicate p15.2 (0,0,[],())++v14.2.1.drop (p15.1+p15.2)).isEmpty (none) ((lG ((v14.2.1.take p15.1++List.replicate p15.2 (0,0,[],())++v14.2.1.drop (p15.1+p15.2)).length) 0 v14.1).bind fun p17 =>
(cond (v14.2.1.take p15.1++List.replicate p15.2 (0,0,[],())++v14.2.1.drop (p15.1+p15.2)).isEmpty none (if p17.1+p17.2≤(v14.2.1.take p15.1++List.replicate p15.2 (0,0,[],())++v14.2.1.drop (p15.1+p15.2)).length then some (((v14.2.1.take p15.1++List.replicate p15.2 (0,0,[],())++v14.2.1.drop (p15.1+p15.2)).drop p17.1).take p17.2) else none)).map .inr)))))) (
 some (.inl ((IntKind.wrap .i64 (y4.1+1)),y4.2.1,())))) (
 some (.inr y4.2.1))
def al5 (w0:List vV3):Option (List vV3) :=
 cond (decide ((w0.length:Int)<2)) (
 some w0) (
 aH (lu) (1,w0,()))
def zaj (w0:List vV3):Option (List vV3×Unit):=(al5 w0).map fun l=>(l,())
def auZ:TRaw:={ ps:=(.cons (.own 0) .unit),ins:=[.row false 132 tT15],res:=(.sl tT15),outs:=[.gone],fn:=fun v w=>zaj w.1 }
def auY:TEnv:=(vZ [])
theorem auX:agC Tryz.prog al8 au0 auY ayI Tryz.f232 (.cons (.own 0) .unit) false 132 tT15=fun _ w=>al5 w:=by kernel_rfl
theorem al6:cB Tryz.prog G0 232 al7:=mT (ak ⟨au,ac,ap,ac,an⟩ Tryz.func232 rfl (by kernel_rfl))
theorem auW:TRawOk al7 auZ:=xN (E:=al8) (ET:=auY) (EnvT.ofX (ax al) am ar aJ aq) auX
def aiJ:Env:={ pure:=[(229,aaD)],raw:=[(230,amn),(232,al7)],glob:=G0,same:=[274],look:=[],ext:=[] }
def apE:Hints:=(hZ [(3,[5,10,11,12])] [])
def aiI:PFn:=aF (runF Tryz.prog aiJ apE Tryz.f163)
def axk:TH:={ joins:=[(7,{ keep:=[(5,(.own 1))],mem:=[.gone,.row true 132 tT15] })],loops:=[(3,{ keep:=[(5,(.own 1)),(12,(.int .i64))],mem:=[.gone,.row true 132 tT15] })],ro:=[] }
def wq (r1:List vV6) (y3:(Int×List vV3×Unit)):Option ((Int×List vV3×Unit)⊕((List vV3×Unit)⊕List vV3)) :=
 cond (decide (y3.1<(r1.length:Int))) (
(atI r1 y3.1).bind fun x2 =>
(ch (y3.2.1.length+([x2.2.1.2.2.1]:List vV3).length)).bind fun u3 =>
 some (.inl ((IntKind.wrap .i64 (y3.1+1)),(y3.2.1++([x2.2.1.2.2.1]:List vV3)),()))) (
 some (.inr (.inl (y3.2.1,()))))
def zda (a0:List vV6) (a1:List (List UInt8)):Option (List vV3) :=
((zdv a0 a1 1).bind fun r1 =>
 aH (wq r1) (0,[],()):Option ((List vV3×Unit)⊕List vV3)).bind (aU fun v4 =>
(zae v4.1).bind fun q5 =>
(zaj q5.2.1).bind fun q6 =>
 some q6.1)
def aa2:TFn:={ ps:=(.cons (.sl tT19) tT22),res:=(.sl tT15),fn:=fun v=>zda v.1 v.2.1 }
def apD:TEnv:={ pure:=[(229,tT)],look:=[],glob:=G0T,ty:=[(132,tT15)],raw:=[(230,ave),(232,auZ)],fresh:=[] }
theorem apC:runY Tryz.prog aiJ apE apD axk Tryz.f163 aa2.ps aa2.res=aa2.fn:=by kernel_rfl
theorem aiH:aA Tryz.prog G0 163 aiI:=ai (ak ⟨au,(aj tU ac),(bN amm (bN al6 ap)),ac,an⟩ Tryz.func163 rfl (by kernel_rfl))
theorem apB:TOk aiI aa2:=az (E:=aiJ) (ET:=apD) (EnvT.ofX (ax (ah aaC al)) am (ck avd rfl rfl (ck auW rfl rfl ar)) aJ aq) apC rfl
def al2:Go.Shelf.Ren:=⟨fun | 22=>234 | 29=>292 | 30=>293 | n=>n,fun | 24=>123 | 9=>132 | 0=>0 | 3=>3 | 4=>4 | n=>n,fun | n=>n⟩
theorem afv:InsL Tryz.prog al2:={
 mixed:=by kernel_rfl
 f22:=⟨Tryz.f234.name,by decide,Tryz.func234.trans (congrArg some (by kernel_rfl))⟩
 f29:=⟨Tryz.f292.name,by decide,by kernel_rfl,by kernel_rfl,Tryz.func292.trans (congrArg some (by kernel_rfl))⟩
 t0:=Tryz.underlying0
 a0:=Tryz.isAgg0
 z0:=Tryz.sizeOf0
 v0:=Tryz.zeroValue0
 t3:=Tryz.underlying3
 a3:=Tryz.isAgg3
 z3:=Tryz.sizeOf3
 v3:=Tryz.zeroValue3
 t4:=Tryz.underlying4
 a4:=Tryz.isAgg4
 z4:=Tryz.sizeOf4
 v4:=Tryz.zeroValue4
 t24:=Tryz.underlying123
 a24:=Tryz.isAgg123
 z24:=Tryz.sizeOf123
 v24:=Tryz.zeroValue123 }
def al4:SFn:=fm 3 132
theorem al3:cB Tryz.prog G0 234 al4:=aab afv rfl rfl rfl (ael (P:=Tryz.prog) (te:=132) (M:=3) (by kernel_rfl) (by kernel_rfl) (by kernel_rfl) (by kernel_rfl) (by kernel_rfl) (by kernel_rfl) (by kernel_rfl) (by kernel_rfl)) true Tryz.isAgg132 ⟨Tryz.f234,Tryz.func234,rfl,by kernel_rfl⟩
def zak (a1:Int) (a2:List vV3) (w0:List vV3):Option (Unit×List vV3×Unit):=(insT w0 a1 a2).map fun l=>((),(l,()))
def auV:TRaw:=insR false 132 tT15
theorem auU:TRawOk al4 auV:=anw rfl rfl rfl rfl (by decide)
def amx:Env:=(eZ [(231,ab3)] [274])
def avr:Hints:=(hZ [(3,[0,2,4,8,9,10])] [])
def amw:PFn:=aF (runF Tryz.prog amx avr Tryz.f233)
def ayN:TH:={ joins:=[(8,{ keep:=[(4,(.bx 0 0)),(9,(.int .i64))],mem:=[.same] })],loops:=[(3,{ keep:=[(4,(.bx 0 0)),(9,(.int .i64)),(10,(.int .i64))],mem:=[.same] })],ro:=[4] }
def od (a0:List vV3) (a1:vV3) (y3:(Int×Int×Unit)):Option ((Int×Int×Unit)⊕((Int×Unit)⊕(Int×Bool×Unit))) :=
 cond (decide (y3.1<y3.2.1)) (
(shrT .u64 (IntKind.wrap .u64 (IntKind.wrap .i64 (y3.1+y3.2.1))) 1).bind fun t1 =>
(atI a0 (IntKind.wrap .i64 t1)).bind fun x2 =>
(zbb x2 a1).bind fun r3 =>
 cond (decide (r3<0)) (
 some (.inl ((IntKind.wrap .i64 ((IntKind.wrap .i64 t1)+1)),y3.2.1,()))) (
 some (.inl (y3.1,(IntKind.wrap .i64 t1),())))) (
 some (.inr (.inl (y3.1,()))))
def zab (a0:List vV3) (a1:vV3) (a2:Unit):Option (Int×Bool×Unit) :=
(aH (od a0 a1) (0,(a0.length:Int),()):Option ((Int×Unit)⊕(Int×Bool×Unit))).bind (aU fun v4 =>
 cond (decide (v4.1<(a0.length:Int))) ((atI a0 v4.1).bind fun x5 =>
(zbb x5 a1).bind fun r6 =>
 some (v4.1,(decide (r6=0)),())) (some (v4.1,false,())))
def acz:TFn:={ ps:=(.cons (.sl tT15) (.cons tT15 (.cons (.fn 231) .unit))),res:=(.tup (.cons (.int .i64) (.cons .bool .unit))),fn:=fun v=>zab v.1 v.2.1 v.2.2.1 }
def avq:TEnv:=(vZ [(231,ab2)])
theorem avp:runY Tryz.prog amx avr avq ayN Tryz.f233 acz.ps acz.res=acz.fn:=by kernel_rfl
theorem amv:aA Tryz.prog G0 233 amw:=ai (ak ⟨au,(aj akX ac),ap,ac,an⟩ Tryz.func233 rfl (by kernel_rfl))
theorem avo:TOk amw acz:=az (E:=amx) (ET:=avq) (EnvT.ofX (ax (ah ahj al)) am ar aJ aq) avp rfl
def aiz:Env:={ pure:=[(229,aaD)],raw:=[(234,al4)],glob:=G0,same:=[274],look:=[(233,amw)],ext:=[] }
def apo:Hints:=(hZ [(3,[5,12,13,14])] [])
def aiy:PFn:=aF (runF Tryz.prog aiz apo Tryz.f164)
def axg:TH:={ loops:=[(3,{ keep:=[(5,(.own 1)),(14,(.int .i64))],mem:=[.gone,.row false 132 tT15] })],ro:=[] }
def wn (r1:List vV6) (y3:(Int×List vV3×Unit)):Option ((Int×List vV3×Unit)⊕List vV3) :=
 cond (decide (y3.1<(r1.length:Int))) (
(atI r1 y3.1).bind fun x2 =>
(zab y3.2.1 x2.2.1.2.2.1 ()).bind fun r3 =>
 cond (!r3.2.1) (
(zak r3.1 ([x2.2.1.2.2.1]:List vV3) y3.2.1).bind fun q4 =>
 some (.inl ((IntKind.wrap .i64 (y3.1+1)),q4.2.1,()))) (
 some (.inl ((IntKind.wrap .i64 (y3.1+1)),y3.2.1,())))) (
 some (.inr y3.2.1))
def zde (a0:List vV6) (a1:List (List UInt8)):Option (List vV3) :=
(zdv a0 a1 2).bind fun r1 =>
 aH (wn r1) (0,[],())
def aaY:TFn:={ ps:=(.cons (.sl tT19) tT22),res:=(.sl tT15),fn:=fun v=>zde v.1 v.2.1 }
def apn:TEnv:={ pure:=[(229,tT)],look:=[(233,acz)],glob:=G0T,ty:=[(132,tT15)],raw:=[(234,auV)],fresh:=[] }
theorem apm:runY Tryz.prog aiz apo apn axg Tryz.f164 aaY.ps aaY.res=aaY.fn:=by kernel_rfl
theorem aix:aA Tryz.prog G0 164 aiy:=ai (ak ⟨au,(aj tU ac),(bN al3 ap),(aj amv ac),an⟩ Tryz.func164 rfl (by kernel_rfl))
theorem apl:TOk aiy aaY:=az (E:=aiz) (ET:=apn) (EnvT.ofX (ax (ah aaC al)) (oN avo rfl am) (ck auU rfl rfl ar) aJ aq) apm rfl
def ait:Env:=(eZ [(229,aaD)] [274])
def apg:Hints:=(hZ [(3,[5,10,11,12])] [])
def ais:PFn:=aF (runF Tryz.prog ait apg Tryz.f165)
def axe:TH:={ loops:=[(3,{ keep:=[(5,(.int .i64)),(12,(.int .i64))],mem:=[] })],ro:=[] }
def wm (r1:List vV6) (y3:(Int×Int×Unit)):Option ((Int×Int×Unit)⊕Int) :=
 cond (decide (y3.2.1<(r1.length:Int))) (
(atI r1 y3.2.1).bind fun x2 =>
 some (.inl ((IntKind.wrap .i64 (y3.1+x2.2.1.2.2.2.1)),(IntKind.wrap .i64 (y3.2.1+1)),()))) (
 some (.inr y3.1))
def zdg (a0:List vV6) (a1:List (List UInt8)):Option Int :=
(zdv a0 a1 3).bind fun r1 =>
 aH (wm r1) (0,0,())
def aaW:TFn:={ ps:=(.cons (.sl tT19) tT22),res:=(.int .i64),fn:=fun v=>zdg v.1 v.2.1 }
def apf:TEnv:=(vZ [(229,tT)])
theorem ape:runY Tryz.prog ait apg apf axe Tryz.f165 aaW.ps aaW.res=aaW.fn:=by kernel_rfl
theorem air:aA Tryz.prog G0 165 ais:=ai (ak ⟨au,(aj tU ac),ap,ac,an⟩ Tryz.func165 rfl (by kernel_rfl))
theorem apd:TOk ais aaW:=az (E:=ait) (ET:=apf) (EnvT.ofX (ax (ah aaC al)) am ar aJ aq) ape rfl
def ahT:Env:=(eZ [(72,yV),(163,aiI),(164,aiy),(165,ais)] [274])
def aoj:Hints:=(hZ [] [])
def ahS:PFn:=aF (runF Tryz.prog ahT aoj Tryz.f94)
def awY:TH:=yZ
def zdw (a0:List vV6) (a1:List (List UInt8)) (a2:Int):Option vV0 :=
(zap a1).bind fun r1 =>
 cond (decide (a2=1)) (
(zda a0 a1).bind fun r2 =>
 some (r1,a2,r2,0,())) (
 cond (decide (a2=2)) (
(zde a0 a1).bind fun r3 =>
 some (r1,a2,r3,0,())) (
 cond (decide (a2=3)) (
(zdg a0 a1).bind fun r4 =>
 some (r1,a2,[],r4,())) (
 some (r1,a2,[],0,()))))
def aaB:TFn:={ ps:=(.cons (.sl tT19) (.cons (.sl .str) tT16)),res:=tT12,fn:=fun v=>zdw v.1 v.2.1 v.2.2.1 }
def aoi:TEnv:=(vZ [(72,acs),(163,aa2),(164,aaY),(165,aaW)])
theorem aoh:runY Tryz.prog ahT aoj aoi awY Tryz.f94 aaB.ps aaB.res=aaB.fn:=by kernel_rfl
theorem ahR:aA Tryz.prog G0 94 ahS:=ai (ak ⟨au,(aj px (aj aiH (aj aix (aj air ac)))),ap,ac,an⟩ Tryz.func94 rfl (by kernel_rfl))
theorem aog:TOk ahS aaB:=az (E:=ahT) (ET:=aoi) (EnvT.ofX (ax (ah wW (ah apB (ah apl (ah apd al))))) am ar aJ aq) aoh rfl
def ai6:Env:=(eZ [(93,ake),(94,ahS)] [274])
def aqh:Hints:=(hZ [(3,[0,5,10,11,12])] [])
def yF:PFn:=aF (runF Tryz.prog ai6 aqh Tryz.f32)
def axv:TH:={ loops:=[(3,{ keep:=[(5,(.own 1)),(12,(.int .i64))],mem:=[.gone,.row true 125 tT12] })],ro:=[] }
def wx (a0:List vV6) (r1:List vV4) (y3:(Int×List vV0×Unit)):Option ((Int×List vV0×Unit)⊕List vV0) :=
 cond (decide (y3.1<(r1.length:Int))) (
(atI r1 y3.1).bind fun x2 =>
(zdw a0 x2.1 x2.2.1).bind fun r3 =>
(ch (y3.2.1.length+([r3]:List vV0).length)).bind fun u4 =>
 some (.inl ((IntKind.wrap .i64 (y3.1+1)),(y3.2.1++([r3]:List vV0)),()))) (
 some (.inr y3.2.1))
def zcp (a0:List vV6) (a1:List (List UInt8)):Option (List vV0) :=
(zbu a0 a1).bind fun r1 =>
 aH (wx a0 r1) (0,[],())
def rk:TFn:={ ps:=(.cons (.sl tT19) tT22),res:=(.sl tT12),fn:=fun v=>zcp v.1 v.2.1 }
def aqg:TEnv:={ pure:=[(93,abG),(94,aaB)],look:=[],glob:=G0T,ty:=[(125,tT12)],raw:=[],fresh:=[] }
theorem aqf:runY Tryz.prog ai6 aqh aqg axv Tryz.f32 rk.ps rk.res=rk.fn:=by kernel_rfl
theorem po:aA Tryz.prog G0 32 yF:=ai (ak ⟨au,(aj akd (aj ahR ac)),ap,ac,an⟩ Tryz.func32 rfl (by kernel_rfl))
theorem ww:TOk yF rk:=az (E:=ai6) (ET:=aqg) (EnvT.ofX (ax (ah ar6 (ah aog al))) am ar aJ aq) aqf rfl
def amF:Env:=(eZ [(154,ud),(155,abJ),(156,uu)] [274])
def avD:Hints:=(hZ [] [])
def amE:PFn:=aF (runF Tryz.prog amF avD Tryz.f86)
def ayQ:TH:={ loops:=[],ro:=[2,3] }
def za8 (a0:vV0) (a1:vV0):Option Int :=
(zbs a0.1 a1.1).bind fun r1 =>
(za5 a0.2.1 a1.2.1).bind fun r2 =>
(zcn ([r1,r2]:List Int)).bind fun r3 =>
 some r3
def acC:TFn:={ ps:=(.cons tT12 (.cons tT12 .unit)),res:=(.int .i64),fn:=fun v=>za8 v.1 v.2.1 }
def avC:TEnv:={ pure:=[(154,rn),(155,yQ),(156,rB)],look:=[],glob:=G0T,ty:=[(3,(.int .i64))],raw:=[],fresh:=[] }
theorem avB:runY Tryz.prog amF avD avC ayQ Tryz.f86 acC.ps acC.res=acC.fn:=by kernel_rfl
theorem amD:aA Tryz.prog G0 86 amE:=ai (ak ⟨au,(aj pp (aj abI (aj py ac))),ap,ac,an⟩ Tryz.func86 rfl (by kernel_rfl))
theorem avA:TOk amE acC:=az (E:=amF) (ET:=avC) (EnvT.ofX (ax (ah wz (ah ahg (ah wZ al)))) am ar aJ aq) avB rfl
def alW:Go.Shelf.Ren:=⟨fun | 41=>159 | n=>n,fun | 22=>123 | 23=>132 | 4=>4 | n=>n,fun | n=>n⟩
theorem afu:Go.Proofs.SlLaysE0.n41 Tryz.prog alW:={
 mixed:=by kernel_rfl
 f41:=⟨Tryz.f159.name,by decide,Tryz.func159.trans (congrArg some (by kernel_rfl))⟩
 t4:=Tryz.underlying4
 a4:=Tryz.isAgg4
 z4:=Tryz.sizeOf4
 v4:=Tryz.zeroValue4
 t22:=Tryz.underlying123
 a22:=Tryz.isAgg123
 z22:=Tryz.sizeOf123
 v22:=Tryz.zeroValue123 }
def alY:PFn:=(kF 3)
theorem alX:aA Tryz.prog G0 159 alY:=clone_lays afu 3 ⟨Tryz.f159,Tryz.func159,rfl,by kernel_rfl⟩ (by kernel_rfl) (by kernel_rfl) (by kernel_rfl) (by kernel_rfl) (by kernel_rfl) (by decide) (fun w=>Tryz.sizeOf132 w)
def zam (a0:List vV3):Option (List vV3):=iv a0
def auP:TFn:=fR tT15
theorem auO:TOk alY auP:=nf rfl rfl rfl
def akz:Env:=(eZ [(72,yV),(159,alY)] [274])
def asG:Hints:=(hZ [] [])
def aky:PFn:=aF (runF Tryz.prog akz asG Tryz.f89)
def ax9:TH:=yZ
def zbl (a0:vV0):Option vV0 :=
(zap a0.1).bind fun r1 =>
(zam a0.2.2.1).bind fun r2 =>
 some (r1,a0.2.1,r2,a0.2.2.2.1,())
def abQ:TFn:={ ps:=(.cons tT12 .unit),res:=tT12,fn:=fun v=>zbl v.1 }
def asF:TEnv:=(vZ [(72,acs),(159,auP)])
theorem asE:runY Tryz.prog akz asG asF ax9 Tryz.f89 abQ.ps abQ.res=abQ.fn:=by kernel_rfl
theorem akx:aA Tryz.prog G0 89 aky:=ai (ak ⟨au,(aj px (aj alX ac)),ap,ac,an⟩ Tryz.func89 rfl (by kernel_rfl))
theorem asD:TOk aky abQ:=az (E:=akz) (ET:=asF) (EnvT.ofX (ax (ah wW (ah auO al))) am ar aJ aq) asE rfl
def al1:Env:=(eZ [] [274])
def auT:Hints:=(hZ [(4,[0,1,12,13])] [])
def al0:PFn:=aF (runF Tryz.prog al1 auT Tryz.f161)
def ayH:TH:={ loops:=[(4,{ keep:=[(13,(.int .i64))],mem:=[] })],ro:=[] }
def wY (a0:List vV3) (a1:List vV3) (y4:(Int×Unit)):Option ((Int×Unit)⊕Bool) :=
 cond (decide (y4.1<(a0.length:Int))) (
(atI a0 y4.1).bind fun x1 =>
(atI a1 y4.1).bind fun x2 =>
 cond (!(eqV tT15 x1 x2)) (
 some (.inr false)) (
 some (.inl ((IntKind.wrap .i64 (y4.1+1)),())))) (
 some (.inr true))
def zal (a0:List vV3) (a1:List vV3):Option Bool :=
 cond (!decide ((a0.length:Int)=(a1.length:Int))) (
 some false) (
 aH (wY a0 a1) (0,()))
def acv:TFn:={ ps:=(.cons (.sl tT15) (.cons (.sl tT15) .unit)),res:=.bool,fn:=fun v=>zal v.1 v.2.1 }
def auS:TEnv:=(vZ [])
theorem auR:runY Tryz.prog al1 auT auS ayH Tryz.f161 acv.ps acv.res=acv.fn:=by kernel_rfl
theorem alZ:aA Tryz.prog G0 161 al0:=ai (ak ⟨au,ac,ap,ac,an⟩ Tryz.func161 rfl (by kernel_rfl))
theorem auQ:TOk al0 acv:=az (E:=al1) (ET:=auS) (EnvT.ofX (ax al) am ar aJ aq) auR rfl
def aiq:Env:=(eZ [(160,ae0),(161,al0)] [274])
def apc:Hints:=(hZ [] [])
def aip:PFn:=aF (runF Tryz.prog aiq apc Tryz.f92)
def axd:TH:={ loops:=[],cuts:=[(1,[(12,{ keep:=[(2,(.bx 0 0)),(3,(.bx 1 0)),(16,.bool)],mem:=[.same,.same] })])],ro:=[2,3],news:=[] }
def zdh (a0:vV0) (a1:vV0):Option Bool :=
(cond (decide (a0.2.1=a1.2.1)) (some ((decide (a0.2.2.2.1=a1.2.2.2.1)),())) (some (false,())):Option (Bool×Unit)).bind fun v1 =>
 cond v1.1 ((zdp a0.1 a1.1).bind fun r2 =>
 cond r2 ((zal a0.2.2.1 a1.2.2.1).bind fun r3 =>
 some r3) (some false)) (some false)
def aaV:TFn:={ ps:=(.cons tT12 (.cons tT12 .unit)),res:=.bool,fn:=fun v=>zdh v.1 v.2.1 }
def apb:TEnv:=(vZ [(160,yz),(161,acv)])
theorem apa:runY Tryz.prog aiq apc apb axd Tryz.f92 aaV.ps aaV.res=aaV.fn:=by kernel_rfl
theorem aio:aA Tryz.prog G0 92 aip:=ai (ak ⟨au,(aj aaL (aj alZ ac)),ap,ac,an⟩ Tryz.func92 rfl (by kernel_rfl))
theorem ao9:TOk aip aaV:=az (E:=aiq) (ET:=apb) (EnvT.ofX (ax (ah ag0 (ah auQ al))) am ar aJ aq) apa rfl
def amA:Env:=(eZ [(92,aip)] [274])
def avv:Hints:=(hZ [(4,[1,2,15,16,17])] [])
def amz:PFn:=aF (runF Tryz.prog amA avv Tryz.f91)
def ayO:TH:={ loops:=[(4,{ keep:=[(17,(.int .i64))],mem:=[] })],ro:=[] }
def lz (a0:List vV0) (a1:List vV0) (y4:(Int×Unit)):Option ((Int×Unit)⊕Bool) :=
 cond (decide (y4.1<(a0.length:Int))) (
(atI a0 y4.1).bind fun x1 =>
(atI a1 y4.1).bind fun x2 =>
(zdh x1 x2).bind fun r3 =>
 cond (!r3) (
 some (.inr false)) (
 some (.inl ((IntKind.wrap .i64 (y4.1+1)),())))) (
 some (.inr true))
def zaa (a0:List vV0) (a1:List vV0) (a2:Unit):Option Bool :=
 cond (!decide ((a0.length:Int)=(a1.length:Int))) (
 some false) (
 aH (lz a0 a1) (0,()))
def acA:TFn:={ ps:=(.cons (.sl tT12) (.cons (.sl tT12) (.cons (.fn 92) .unit))),res:=.bool,fn:=fun v=>zaa v.1 v.2.1 v.2.2.1 }
def avu:TEnv:=(vZ [(92,aaV)])
theorem avt:runY Tryz.prog amA avv avu ayO Tryz.f91 acA.ps acA.res=acA.fn:=by kernel_rfl
theorem amy:aA Tryz.prog G0 91 amz:=ai (ak ⟨au,(aj aio ac),ap,ac,an⟩ Tryz.func91 rfl (by kernel_rfl))
theorem avs:TOk amz acA:=az (E:=amA) (ET:=avu) (EnvT.ofX (ax (ah ao9 al)) am ar aJ aq) avt rfl
def aib:Env:=(eZ [(91,amz)] [274])
def aoS:Hints:=(hZ [] [])
def aaQ:PFn:=aF (runF Tryz.prog aib aoS Tryz.f31)
def aw8:TH:=yZ
def zdm (a0:List vV0) (a1:List vV0):Option Bool :=
(zaa a0 a1 ()).bind fun r1 =>
 some r1
def tZ:TFn:={ ps:=(.cons (.sl tT12) (.cons (.sl tT12) .unit)),res:=.bool,fn:=fun v=>zdm v.1 v.2.1 }
def aoR:TEnv:=(vZ [(91,acA)])
theorem aoQ:runY Tryz.prog aib aoS aoR aw8 Tryz.f31 tZ.ps tZ.res=tZ.fn:=by kernel_rfl
theorem t8:aA Tryz.prog G0 31 aaQ:=ai (ak ⟨au,(aj amy ac),ap,ac,an⟩ Tryz.func31 rfl (by kernel_rfl))
theorem aaP:TOk aaQ tZ:=az (E:=aib) (ET:=aoR) (EnvT.ofX (ax (ah avs al)) am ar aJ aq) aoQ rfl
def ajC:Env:=(eZ [(31,aaQ)] [274])
def aq6:Hints:=(hZ [] [])
def ajB:PFn:=aF (runF Tryz.prog ajC aq6 Tryz.f87)
def axJ:TH:={ loops:=[],ro:=[2,3] }
def zcb (a0:vV0) (a1:vV0):Option Bool :=
(zdm ([a0]:List vV0) ([a1]:List vV0)).bind fun r1 =>
 some r1
def abp:TFn:={ ps:=(.cons tT12 (.cons tT12 .unit)),res:=.bool,fn:=fun v=>zcb v.1 v.2.1 }
def aq5:TEnv:={ pure:=[(31,tZ)],look:=[],glob:=G0T,ty:=[(125,tT12)],raw:=[],fresh:=[] }
theorem aq4:runY Tryz.prog ajC aq6 aq5 axJ Tryz.f87 abp.ps abp.res=abp.fn:=by kernel_rfl
theorem ajA:aA Tryz.prog G0 87 ajB:=ai (ak ⟨au,(aj t8 ac),ap,ac,an⟩ Tryz.func87 rfl (by kernel_rfl))
theorem aq3:TOk ajB abp:=az (E:=ajC) (ET:=aq5) (EnvT.ofX (ax (ah aaP al)) am ar aJ aq) aq4 rfl
def ajm:Env:=(eZ [(86,amE),(87,ajB),(89,aky)] [274])
def aqJ:Hints:=(hZ [(2,[0,1,5])] [41,45,60,73])
def ae9:PFn:=aF (runF Tryz.prog ajm aqJ Tryz.f76)
def axD:TH:={ joins:=[(3,{ keep:=[(5,(.own 0))],mem:=[.row true 127 tT18] }),(11,{ keep:=[(5,(.own 0)),(6,(.int .i64))],mem:=[.row true 127 tT18] }),(10,{ keep:=[(5,(.own 0))],mem:=[.row true 127 tT18] })],loops:=[(2,{ keep:=[(0,(.sl tT12)),(1,(.sl tT12)),(5,(.own 0))],mem:=[.row true 127 tT18] })],ro:=[] }
def iQ (y2:(List vV0×List vV0×List vV7×Unit)):Option ((List vV0×List vV0×List vV7×Unit)⊕List vV7) :=
(cond (decide ((y2.1.length:Int)>0)) (some (.inl (y2.2.2.1,()))) (cond (decide ((y2.2.1.length:Int)>0)) (
 some (.inl (y2.2.2.1,()))) (
 some (.inr (.inr y2.2.2.1)))):Option ((List vV7×Unit)⊕((List vV0×List vV0×List vV7×Unit)⊕List vV7))).bind (aU fun v1 =>
(cond (decide ((y2.2.1.length:Int)=0)) (
 some (.inl ((-1),v1.1,()))) (
 cond (decide ((y2.1.length:Int)>0)) (
(atI y2.1 0).bind fun x2 =>
(atI y2.2.1 0).bind fun x3 =>
(za8 x2 x3).bind fun r4 =>
 some (.inl (r4,v1.1,()))) (
 some (.inl (1,v1.1,())))):Option ((Int×List vV7×Unit)⊕((List vV0×List vV0×List vV7×Unit)⊕List vV7))).bind (aU fun v5 =>
 cond (decide (v5.1<0)) (
(atI y2.1 0).bind fun x6 =>
(zbl x6).bind fun r7 =>
(ch (v5.2.1.length+([(2,r7,([],0,[],0,()),())]:List vV7).length)).bind fun u8 =>
(subI y2.1 1 (y2.1.length:Int)).bind fun s9 =>
 some (.inl (s9,y2.2.1,(v5.2.1++([(2,r7,([],0,[],0,()),())]:List vV7)),()))) (
 cond (decide (v5.1>0)) (
(atI y2.2.1 0).bind fun x10 =>
(zbl x10).bind fun r11 =>
(ch (v5.2.1.length+([(1,([],0,[],0,()),r11,())]:List vV7).length)).bind fun u12 =>
(subI y2.2.1 1 (y2.2.1.length:Int)).bind fun s13 =>
 some (.inl (y2.1,s13,(v5.2.1++([(1,([],0,[],0,()),r11,())]:List vV7)),()))) (
((atI y2.1 0).bind fun x14 =>
(atI y2.2.1 0).bind fun x15 =>
(zcb x14 x15).bind fun r16 =>
 cond (!r16) (
(atI y2.1 0).bind fun x17 =>
(zbl x17).bind fun r18 =>
(atI y2.2.1 0).bind fun x19 =>
(zbl x19).bind fun r20 =>
(ch (v5.2.1.length+([(3,r18,r20,())]:List vV7).length)).bind fun u21 =>
 some (.inl ((v5.2.1++([(3,r18,r20,())]:List vV7)),()))) (
 some (.inl (v5.2.1,()))):Option ((List vV7×Unit)⊕((List vV0×List vV0×List vV7×Unit)⊕List vV7))).bind (aU fun v22 =>
(subI y2.1 1 (y2.1.length:Int)).bind fun s23 =>
(subI y2.2.1 1 (y2.2.1.length:Int)).bind fun s24 =>
 some (.inl (s23,s24,v22.1,())))))))
def zch (a0:List vV0) (a1:List vV0):Option (List vV7) :=
 aH (iQ) (a0,a1,[],())
def yI:TFn:={ ps:=(.cons (.sl tT12) (.cons (.sl tT12) .unit)),res:=(.sl tT18),fn:=fun v=>zch v.1 v.2.1 }
def aqI:TEnv:={ pure:=[(86,acC),(87,abp),(89,abQ)],look:=[],glob:=G0T,ty:=[(127,tT18)],raw:=[],fresh:=[] }
theorem aqH:runY Tryz.prog ajm aqJ aqI axD Tryz.f76 yI.ps yI.res=yI.fn:=by kernel_rfl
theorem abj:aA Tryz.prog G0 76 ae9:=ai (ak ⟨au,(aj amD (aj ajA (aj akx ac))),ap,ac,an⟩ Tryz.func76 rfl (by kernel_rfl))
theorem ag9:TOk ae9 yI:=az (E:=ajm) (ET:=aqI) (EnvT.ofX (ax (ah avA (ah aq3 (ah asD al)))) am ar aJ aq) aqH rfl
def amL:Env:=(eZ [(32,yF),(76,ae9)] [274])
def avT:Hints:=(hZ [] [8])
def afE:SFn:=runF Tryz.prog amL avT Tryz.f21
def ayU:TH:=yZ
def za3 (a1:List vV6) (w0:vV8):Option (List vV7×vV8×Unit) :=
(zcp a1 w0.1).bind fun r1 =>
(zch w0.2.1 r1).bind fun r2 =>
 some (r2,(w0.1,r1,(IntKind.wrap .i64 (w0.2.2.1+1)),()),())
def rC:TRaw:={ ps:=(.cons (.bx 0 0) (.cons (.sl tT19) .unit)),ins:=[.box 139 tT21],res:=(.sl tT18),outs:=[.box 139 tT21],fn:=fun v w=>za3 v.2.1 w.1 }
def avS:TEnv:=(vZ [(32,rk),(76,yI)])
theorem avR:rawY Tryz.prog amL avT avS ayU [(0,0)] Tryz.f21 rC.ps rC.ins rC.res rC.outs=rC.fn:=by kernel_rfl
theorem acD:cB Tryz.prog G0 21 afE:=ak ⟨au,(aj po (aj abj ac)),ap,ac,an⟩ Tryz.func21 rfl (by kernel_rfl)
theorem aho:TRawOk afE rC:=mi (E:=amL) (ET:=avS) (EnvT.ofX (ax (ah ww (ah ag9 al))) am ar aJ aq) avR
def aly:Env:=(eZ [] [274])
def aug:Hints:=(hZ [] [4])
def acl:SFn:=runF Tryz.prog aly aug Tryz.f28
def ayy:TH:=yZ
def zaw (w0:vV8):Option (Int×vV8×Unit) :=
 some (w0.2.2.1,w0,())
def ry:TRaw:={ ps:=(.cons (.bx 0 0) .unit),ins:=[.box 139 tT21],res:=(.int .i64),outs:=[.box 139 tT21],fn:=fun v w=>zaw w.1 }
def auf:TEnv:=(vZ [])
theorem aue:rawY Tryz.prog aly aug auf ayy [(0,0)] Tryz.f28 ry.ps ry.ins ry.res ry.outs=ry.fn:=by kernel_rfl
theorem ack:cB Tryz.prog G0 28 acl:=ak ⟨au,ac,ap,ac,an⟩ Tryz.func28 rfl (by kernel_rfl)
theorem ahn:TRawOk acl ry:=mi (E:=aly) (ET:=auf) (EnvT.ofX (ax al) am ar aJ aq) aue
theorem dg:∀ xs st p,acl xs st=some p→p.2=st:=fun xs st p hp=>jQ (by kernel_rfl) hp
def ajb:Env:={ pure:=[(19,aaG)],raw:=[(17,ae1),(21,afE),(28,acl)],glob:=G0,same:=[274],look:=[],ext:=[],quiet:=[28] }
def aqr:Hints:=(hZ [] [])
def ae7:PFn:=aF (runF Tryz.prog ajb aqr Tryz.f16)
def axy:TH:={ loops:=[],cuts:=[(4,[(7,{ keep:=[(1,(.bx 0 0)),(30,.bool)],mem:=[.box 139 tT21] })])],ro:=[],news:=[] }
def zcm:Option Bool :=
(zdn ([[97]]:List (List UInt8))).bind fun p1 =>
 cond p1.1.isEmpty (
(zdt ([((0,1,()),0,1,false,([(3,([[97]]:List (List UInt8)),(0,0,[],()),1,[],())]:List vV1),())]:List vV5) []).bind fun r9 =>
 none) (
((p1.1.head? : Option vV8)).bind fun x2 =>
(zdt ([((0,1,()),0,1,false,([(3,([[97]]:List (List UInt8)),(0,0,[],()),1,[],())]:List vV1),())]:List vV5) []).bind fun r3 =>
(za3 r3 x2).bind fun q4 =>
(za3 r3 q4.2.1).bind fun q5 =>
(cond (decide (p1.2.1=0)) (some ((decide ((q4.1.length:Int)=1)),q5.2.1,())) (some (false,q5.2.1,())):Option (Bool×vV8×Unit)).bind fun v6 =>
 cond v6.1 ((atI q4.1 0).bind fun x7 =>
 cond (decide (x7.1=1)) (cond (decide ((q5.1.length:Int)=0)) ((zaw v6.2.1).bind fun q8 =>
 some (decide (q8.1=2))) (some false)) (some false)) (some false))
def yG:TFn:={ ps:=.unit,res:=.bool,fn:=fun v=>zcm  }
def aqq:TEnv:={ pure:=[(19,tV)],look:=[],glob:=G0T,ty:=[(9,.str),(78,tT17),(135,tT13)],raw:=[(21,rC),(28,ry)],fresh:=[(17,aaO)] }
theorem aqp:runY Tryz.prog ajb aqr aqq axy Tryz.f16 yG.ps yG.res=yG.fn:=by kernel_rfl
theorem abe:aA Tryz.prog G0 16 ae7:=ai (ak ⟨au,(aj tW ac),(bN aaN (bN acD (bN ack ap))),ac,an⟩ Tryz.func16 rfl (by kernel_rfl))
theorem ag7:TOk ae7 yG:=az (E:=ajb) (ET:=aqq) (EnvT.ofX (ax (ah aaF al)) am (mh (ck aho rfl rfl (ck ahn rfl rfl ar)) rfl) aJ (mD ag1 rfl rfl rfl aq) (gV dg rfl rfl rfl mj)) aqp rfl
def ajc:Env:=(eZ [(144,yO)] [274])
def aqu:Hints:=(hZ [(6,[4,6,7])] [])
def ae8:PFn:=aF (runF Tryz.prog ajc aqu Tryz.f73)
def axz:TH:={ joins:=[(18,{ keep:=[(6,(.own 0)),(7,(.int .i64)),(8,(.int .i64))],mem:=[.row true 3 (.int .i64)] }),(17,{ keep:=[(6,(.own 0))],mem:=[.row true 3 (.int .i64)] })],loops:=[(6,{ keep:=[(6,(.own 0)),(7,(.int .i64))],mem:=[.row true 3 (.int .i64)] })],ro:=[] }
def fZ (r1:(List Int×Bool×Unit)) (y6:(Int×List Int×Unit)):Option ((Int×List Int×Unit)⊕(List Int×Bool×Unit)) :=
 cond (decide (y6.1<(r1.1.length:Int))) (
(atI r1.1 y6.1).bind fun x2 =>
 cond (decide (x2=42)) (
(ch (y6.2.1.length+([(-2)]:List Int).length)).bind fun u3 =>
 some (.inl ((IntKind.wrap .i64 (y6.1+1)),(y6.2.1++([(-2)]:List Int)),()))) (
 cond (decide (x2=63)) (
(ch (y6.2.1.length+([(-1)]:List Int).length)).bind fun u4 =>
 some (.inl ((IntKind.wrap .i64 (y6.1+1)),(y6.2.1++([(-1)]:List Int)),()))) (
(cond (decide (x2=92)) (
(cond (decide ((IntKind.wrap .i64 (y6.1+1))=(r1.1.length:Int))) (some (.inr (.inr (.inr ([],false,()))))) ((atI r1.1 (IntKind.wrap .i64 (y6.1+1))).bind fun x5 =>
 cond (!decide (x5=92)) ((atI r1.1 (IntKind.wrap .i64 (y6.1+1))).bind fun x6 =>
 cond (!decide (x6=42)) ((atI r1.1 (IntKind.wrap .i64 (y6.1+1))).bind fun x7 =>
 cond (!decide (x7=63)) (
 some (.inr (.inr (.inr ([],false,()))))) (
 some (.inl (y6.2.1,())))) (some (.inl (y6.2.1,())))) (some (.inl (y6.2.1,())))):Option ((List Int×Unit)⊕((Int×Int×List Int×Unit)⊕((Int×List Int×Unit)⊕(List Int×Bool×Unit))))).bind (aU fun v8 =>
(atI r1.1 (IntKind.wrap .i64 (y6.1+1))).bind fun x9 =>
 some (.inl ((IntKind.wrap .i64 (y6.1+1)),x9,v8.1,())))) (
 some (.inl (y6.1,x2,y6.2.1,()))):Option ((Int×Int×List Int×Unit)⊕((Int×List Int×Unit)⊕(List Int×Bool×Unit)))).bind (aU fun v10 =>
(ch (v10.2.2.1.length+([v10.2.1]:List Int).length)).bind fun u11 =>
 some (.inl ((IntKind.wrap .i64 (v10.1+1)),(v10.2.2.1++([v10.2.1]:List Int)),())))))) (
 some (.inr (y6.2.1,true,())))
def zcl (a0:List UInt8):Option (List Int×Bool×Unit) :=
(zbx a0).bind fun r1 =>
 cond (!r1.2.1) (some ([],false,())) (cond (decide ((r1.1.length:Int)>64)) (
 some ([],false,())) (
 aH (fZ r1) (0,[],())))
def yH:TFn:={ ps:=(.cons .str .unit),res:=(.tup (.cons (.sl (.int .i64)) (.cons .bool .unit))),fn:=fun v=>zcl v.1 }
def aqt:TEnv:={ pure:=[(144,rr)],look:=[],glob:=G0T,ty:=[(3,(.int .i64))],raw:=[],fresh:=[] }
theorem aqs:runY Tryz.prog ajc aqu aqt axz Tryz.f73 yH.ps yH.res=yH.fn:=by kernel_rfl
theorem abf:aA Tryz.prog G0 73 ae8:=ai (ak ⟨au,(aj pr ac),ap,ac,an⟩ Tryz.func73 rfl (by kernel_rfl))
theorem ag8:TOk ae8 yH:=az (E:=ajc) (ET:=aqt) (EnvT.ofX (ax (ah wK al)) am ar aJ aq) aqs rfl
def ajD:Env:=(eZ [(73,ae8)] [274])
def aq9:Hints:=(hZ [(6,[0,3])] [])
def afb:PFn:=aF (runF Tryz.prog ajD aq9 Tryz.f18)
def axK:TH:={ loops:=[(6,{ keep:=[(3,(.int .i64))],mem:=[] })],ro:=[] }
def rq (a0:List (List UInt8)) (y6:(Int×Unit)):Option ((Int×Unit)⊕Int) :=
 cond (decide (y6.1<(a0.length:Int))) (
(atI a0 y6.1).bind fun x1 =>
(zcl x1).bind fun r2 =>
(atI a0 y6.1).bind fun x3 =>
 cond (decide (x3=[])) (some (.inr 8)) (cond (!r2.2.1) (
 some (.inr 8)) (
 some (.inl ((IntKind.wrap .i64 (y6.1+1)),()))))) (
 some (.inr 0))
def zca (a0:List (List UInt8)):Option Int :=
 cond (decide ((a0.length:Int)=0)) (
 some 8) (
 cond (decide ((a0.length:Int)>8)) (
 some 9) (
 aH (rq a0) (0,())))
def yK:TFn:={ ps:=tT22,res:=(.int .i64),fn:=fun v=>zca v.1 }
def aq8:TEnv:=(vZ [(73,yH)])
theorem aq7:runY Tryz.prog ajD aq9 aq8 axK Tryz.f18 yK.ps yK.res=yK.fn:=by kernel_rfl
theorem abq:aA Tryz.prog G0 18 afb:=ai (ak ⟨au,(aj abf ac),ap,ac,an⟩ Tryz.func18 rfl (by kernel_rfl))
theorem ahb:TOk afb yK:=az (E:=ajD) (ET:=aq8) (EnvT.ofX (ax (ah ag8 al)) am ar aJ aq) aq7 rfl
def amK:Env:=(eZ [(31,aaQ),(32,yF)] [274])
def avQ:Hints:=(hZ [] [6])
def afD:SFn:=runF Tryz.prog amK avQ Tryz.f20
def ayT:TH:=yZ
def za4 (a1:List vV6) (w0:vV8):Option (Bool×vV8×Unit) :=
(zcp a1 w0.1).bind fun r1 =>
(zdm r1 w0.2.1).bind fun r2 =>
 some ((!r2),w0,())
def uw:TRaw:={ ps:=(.cons (.bx 0 0) (.cons (.sl tT19) .unit)),ins:=[.box 139 tT21],res:=.bool,outs:=[.box 139 tT21],fn:=fun v w=>za4 v.2.1 w.1 }
def avP:TEnv:=(vZ [(31,tZ),(32,rk)])
theorem avO:rawY Tryz.prog amK avQ avP ayT [(0,0)] Tryz.f20 uw.ps uw.ins uw.res uw.outs=uw.fn:=by kernel_rfl
theorem amJ:cB Tryz.prog G0 20 afD:=ak ⟨au,(aj t8 (aj po ac)),ap,ac,an⟩ Tryz.func20 rfl (by kernel_rfl)
theorem avN:TRawOk afD uw:=mi (E:=amK) (ET:=avP) (EnvT.ofX (ax (ah aaP (ah ww al))) am ar aJ aq) avO
theorem gb:∀ xs st p,afD xs st=some p→p.2=st:=fun xs st p hp=>jQ (by kernel_rfl) hp
def ain:Env:=(eZ [] [274])
def ao8:Hints:=(hZ [(2,[0,3,5])] [])
def aim:PFn:=aF (runF Tryz.prog ain ao8 Tryz.f48)
def axc:TH:={ loops:=[(2,{ keep:=[(3,(.bx 0 0)),(5,(.int .i64))],mem:=[.same] })],ro:=[3] }
def rf (a0:List vV2) (a1:(Int×Int×Unit)) (y2:(Int×Unit)):Option ((Int×Unit)⊕Int) :=
 cond (decide (y2.1<(a0.length:Int))) (
(atI a0 y2.1).bind fun x1 =>
 cond (eqV (.agg (.cons (.int .i64) tT16)) x1.1 a1) (
(atI a0 y2.1).bind fun x2 =>
 some (.inr x2.2.1)) (
 some (.inl ((IntKind.wrap .i64 (y2.1+1)),())))) (
 some (.inr 0))
def zdi (a0:List vV2) (a1:(Int×Int×Unit)):Option Int :=
 aH (rf a0 a1) (0,())
def aaU:TFn:={ ps:=(.cons (.sl tT14) tT23),res:=(.int .i64),fn:=fun v=>zdi v.1 v.2.1 }
def ao7:TEnv:=(vZ [])
theorem ao6:runY Tryz.prog ain ao8 ao7 axc Tryz.f48 aaU.ps aaU.res=aaU.fn:=by kernel_rfl
theorem ail:aA Tryz.prog G0 48 aim:=ai (ak ⟨au,ac,ap,ac,an⟩ Tryz.func48 rfl (by kernel_rfl))
theorem ao5:TOk aim aaU:=az (E:=ain) (ET:=ao7) (EnvT.ofX (ax al) am ar aJ aq) ao6 rfl
def aiA:Env:=(eZ [(48,aim)] [274])
def aps:Hints:=(hZ [] [])
def ae2:PFn:=aF (runF Tryz.prog aiA aps Tryz.f37)
def axh:TH:={ loops:=[],ro:=[3] }
def zdd (a0:List vV2) (a1:(Int×Int×Unit)):Option Bool :=
(zdi a0 a1).bind fun r1 =>
(remT r1 2).bind fun t2 =>
 some (decide (t2=0))
def yA:TFn:={ ps:=(.cons (.sl tT14) tT23),res:=.bool,fn:=fun v=>zdd v.1 v.2.1 }
def apr:TEnv:=(vZ [(48,aaU)])
theorem apq:runY Tryz.prog aiA aps apr axh Tryz.f37 yA.ps yA.res=yA.fn:=by kernel_rfl
theorem aaZ:aA Tryz.prog G0 37 ae2:=ai (ak ⟨au,(aj ail ac),ap,ac,an⟩ Tryz.func37 rfl (by kernel_rfl))
theorem ag2:TOk ae2 yA:=az (E:=aiA) (ET:=apr) (EnvT.ofX (ax (ah ao5 al)) am ar aJ aq) apq rfl
def akq:Env:=(eZ [] [274])
def asu:Hints:=(hZ [(2,[2,3,5])] [])
def akp:PFn:=aF (runF Tryz.prog akq asu Tryz.f151)
def ax6:TH:={ loops:=[(2,{ keep:=[(2,(.bx 0 0)),(3,(.bx 1 0)),(5,(.int .i64))],mem:=[.same,.same] })],ro:=[2,3] }
def wP (a0:vV1) (a1:vV2) (y2:(Int×Unit)):Option ((Int×Unit)⊕Bool) :=
 cond (decide (y2.1<(a0.2.2.2.2.1.length:Int))) (
(atI a0.2.2.2.2.1 y2.1).bind fun x1 =>
 cond (eqV tT14 x1 a1) (
 some (.inr true)) (
 some (.inl ((IntKind.wrap .i64 (y2.1+1)),())))) (
 some (.inr false))
def zbo (a0:vV1) (a1:vV2):Option Bool :=
 aH (wP a0 a1) (0,())
def abN:TFn:={ ps:=(.cons tT13 (.cons tT14 .unit)),res:=.bool,fn:=fun v=>zbo v.1 v.2.1 }
def ast:TEnv:=(vZ [])
theorem ass:runY Tryz.prog akq asu ast ax6 Tryz.f151 abN.ps abN.res=abN.fn:=by kernel_rfl
theorem ako:aA Tryz.prog G0 151 akp:=ai (ak ⟨au,ac,ap,ac,an⟩ Tryz.func151 rfl (by kernel_rfl))
theorem asr:TOk akp abN:=az (E:=akq) (ET:=ast) (EnvT.ofX (ax al) am ar aJ aq) ass rfl
def akQ:Env:=(eZ [(37,ae2),(151,akp)] [274])
def as8:Hints:=(hZ [(2,[0,1,5,7]),(5,[0,1,5,7,8])] [])
def akP:PFn:=aF (runF Tryz.prog akQ as8 Tryz.f79)
def ayg:TH:={ loops:=[(2,{ keep:=[(5,(.bx 0 0)),(7,(.int .i64))],mem:=[.same] }),(5,{ keep:=[(5,(.bx 0 0)),(8,(.int .i64))],mem:=[.same] })],ro:=[5] }
def wS (y2:(Int×Unit)) (a0:List vV5) (a1:List vV2) (a2:vV2) (y5:(Int×Unit)):Option ((Int×Unit)⊕((Int×Unit)⊕Bool)) :=
(atI a0 y2.1).bind fun x1 =>
 cond (decide (y5.1<(x1.2.2.2.2.1.length:Int))) (
(atI a0 y2.1).bind fun x2 =>
(atI x2.2.2.2.2.1 y5.1).bind fun x3 =>
(zbo x3 a2).bind fun r4 =>
 cond r4 ((atI a0 y2.1).bind fun x5 =>
(zdd a1 x5.1).bind fun r6 =>
 cond r6 (
 some (.inr (.inr true))) (
 some (.inl ((IntKind.wrap .i64 (y5.1+1)),())))) (some (.inl ((IntKind.wrap .i64 (y5.1+1)),())))) (
 some (.inr (.inl ((IntKind.wrap .i64 (y2.1+1)),()))))
def wT (a0:List vV5) (a1:List vV2) (a2:vV2) (y2:(Int×Unit)):Option ((Int×Unit)⊕Bool) :=
 cond (decide (y2.1<(a0.length:Int))) (
 aH (wS y2 a0 a1 a2) (0,())) (
 some (.inr false))
def zbe (a0:List vV5) (a1:List vV2) (a2:vV2):Option Bool :=
 aH (wT a0 a1 a2) (0,())
def abZ:TFn:={ ps:=(.cons (.sl tT17) (.cons (.sl tT14) (.cons tT14 .unit))),res:=.bool,fn:=fun v=>zbe v.1 v.2.1 v.2.2.1 }
def as7:TEnv:=(vZ [(37,yA),(151,abN)])
theorem as6:runY Tryz.prog akQ as8 as7 ayg Tryz.f79 abZ.ps abZ.res=abZ.fn:=by kernel_rfl
theorem akO:aA Tryz.prog G0 79 akP:=ai (ak ⟨au,(aj aaZ (aj ako ac)),ap,ac,an⟩ Tryz.func79 rfl (by kernel_rfl))
theorem as5:TOk akP abZ:=az (E:=akQ) (ET:=as7) (EnvT.ofX (ax (ah ag2 (ah asr al))) am ar aJ aq) as6 rfl
def ah9:Env:=(eZ [(37,ae2),(79,akP)] [274])
def aoM:Hints:=(hZ [(3,[0,1,5,6]),(6,[0,1,5,6,7])] [72])
def ah8:PFn:=aF (runF Tryz.prog ah9 aoM Tryz.f24)
def aw6:TH:={ loops:=[(3,{ keep:=[(5,(.own 2)),(6,(.int .i64))],mem:=[.gone,.gone,.row true 156 tT19] }),(6,{ keep:=[(5,(.own 2)),(7,(.int .i64))],mem:=[.gone,.gone,.row true 156 tT19] })],cuts:=[(10,[(8,{ keep:=[(5,(.own 2)),(8,(.bx 3 0)),(9,(.bx 4 0)),(48,.bool)],mem:=[.gone,.gone,.row true 156 tT19,.box 135 tT13,.box 146 tT14] })])],ro:=[],news:=[] }
def lk (y3:(Int×List vV6×Unit)) (a0:List vV5) (a1:List vV2) (y6:(Int×List vV6×Unit)):Option ((Int×List vV6×Unit)⊕((Int×List vV6×Unit)⊕List vV6)) :=
(atI a0 y3.1).bind fun x1 =>
 cond (decide (y6.1<(x1.2.2.2.2.1.length:Int))) (
(atI a0 y3.1).bind fun x2 =>
(atI x2.2.2.2.2.1 y6.1).bind fun x3 =>
(atI a0 y3.1).bind fun x4 =>
(cond (decide (x3.1≥1)) (some ((decide (x3.1≤3)),y6.2.1,x3,(x4.1,y6.1,()),())) (some (false,y6.2.1,x3,(x4.1,y6.1,()),())):Option (Bool×List vV6×vV1×vV2×Unit)).bind fun v5 =>
 cond v5.1 ((atI a0 y3.1).bind fun x6 =>
(zdd a1 x6.1).bind fun r7 =>
 cond r7 ((zbe a0 a1 v5.2.2.2.1).bind fun r8 =>
 cond (!r8) (
(atI a0 y3.1).bind fun x9 =>
(ch (v5.2.1.length+([(v5.2.2.2.1,v5.2.2.1,x9.2.2.1,())]:List vV6).length)).bind fun u10 =>
 some (.inl ((IntKind.wrap .i64 (y6.1+1)),(v5.2.1++([(v5.2.2.2.1,v5.2.2.1,x9.2.2.1,())]:List vV6)),()))) (
 some (.inl ((IntKind.wrap .i64 (y6.1+1)),v5.2.1,())))) (some (.inl ((IntKind.wrap .i64 (y6.1+1)),v5.2.1,())))) (some (.inl ((IntKind.wrap .i64 (y6.1+1)),v5.2.1,())))) (
 some (.inr (.inl ((IntKind.wrap .i64 (y3.1+1)),y6.2.1,()))))
def wl (a0:List vV5) (a1:List vV2) (y3:(Int×List vV6×Unit)):Option ((Int×List vV6×Unit)⊕List vV6) :=
 cond (decide (y3.1<(a0.length:Int))) (
 aH (lk y3 a0 a1) (0,y3.2.1,())) (
 some (.inr y3.2.1))
def zdo (a0:List vV5) (a1:List vV2):Option (List vV6) :=
 aH (wl a0 a1) (0,[],())
def aaM:TFn:={ ps:=(.cons (.sl tT17) (.cons (.sl tT14) .unit)),res:=(.sl tT19),fn:=fun v=>zdo v.1 v.2.1 }
def aoL:TEnv:={ pure:=[(37,yA),(79,abZ)],look:=[],glob:=G0T,ty:=[(156,tT19)],raw:=[],fresh:=[] }
theorem aoK:runY Tryz.prog ah9 aoM aoL aw6 Tryz.f24 aaM.ps aaM.res=aaM.fn:=by kernel_rfl
theorem ah7:aA Tryz.prog G0 24 ah8:=ai (ak ⟨au,(aj aaZ (aj akO ac)),ap,ac,an⟩ Tryz.func24 rfl (by kernel_rfl))
theorem aoJ:TOk ah8 aaM:=az (E:=ah9) (ET:=aoL) (EnvT.ofX (ax (ah ag2 (ah as5 al))) am ar aJ aq) aoK rfl
def aiN:Env:=(eZ [] [274])
def apL:Hints:=(hZ [] [])
def ae3:PFn:=aF (runF Tryz.prog aiN apL Tryz.f207)
def axm:TH:=yZ
def zcy (a0:Int):Option Int :=
 cond (decide (a0=1)) (
 some 1) (
 cond (decide (a0=2)) (some 2) (cond (decide (a0=4)) (
 some 2) (
 cond (decide (a0=3)) (
 some 3) (
 some 0))))
def yB:TFn:={ ps:=tT16,res:=(.int .i64),fn:=fun v=>zcy v.1 }
def apK:TEnv:=(vZ [])
theorem apJ:runY Tryz.prog aiN apL apK axm Tryz.f207 yB.ps yB.res=yB.fn:=by kernel_rfl
theorem aa4:aA Tryz.prog G0 207 ae3:=ai (ak ⟨au,ac,ap,ac,an⟩ Tryz.func207 rfl (by kernel_rfl))
theorem ag3:TOk ae3 yB:=az (E:=aiN) (ET:=apK) (EnvT.ofX (ax al) am ar aJ aq) apJ rfl
def ajH:Env:=(eZ [] [274])
def ari:Hints:=(hZ [] [])
def afc:PFn:=aF (runF Tryz.prog ajH ari Tryz.f352)
def axM:TH:=yZ
def zc8 (a0:Int) (a1:Int):Option Int :=
 cond (decide (a0<a1)) (
 some (-1)) (
 cond (decide (a0>a1)) (
 some 1) (
 some 0))
def yL:TFn:={ ps:=(.cons (.int .i64) tT16),res:=(.int .i64),fn:=fun v=>zc8 v.1 v.2.1 }
def arh:TEnv:=(vZ [])
theorem arf:runY Tryz.prog ajH ari arh axM Tryz.f352 yL.ps yL.res=yL.fn:=by kernel_rfl
theorem abs:aA Tryz.prog G0 352 afc:=ai (ak ⟨au,ac,ap,ac,an⟩ Tryz.func352 rfl (by kernel_rfl))
theorem ahc:TOk afc yL:=az (E:=ajH) (ET:=arh) (EnvT.ofX (ax al) am ar aJ aq) arf rfl
def ale:Env:=(eZ [(352,afc)] [274])
def atG:Hints:=(hZ [(2,[0,1,5])] [])
def afm:PFn:=aF (runF Tryz.prog ale atG Tryz.f322)
def ayq:TH:={ joins:=[(6,{ keep:=[],mem:=[] })],loops:=[(2,{ keep:=[(5,(.int .i64))],mem:=[] })],ro:=[] }
def kp (a0:List UInt8) (a1:List UInt8) (y2:(Int×Unit)):Option ((Int×Unit)⊕(Unit⊕Int)) :=
 cond (decide (y2.1<(a0.length:Int))) (cond (decide (y2.1<(a1.length:Int))) (
(atI a0 y2.1).bind fun b1 =>
(atI a1 y2.1).bind fun b2 =>
 cond (!decide ((b1.toNat:Int)=(b2.toNat:Int))) (
(atI a0 y2.1).bind fun b3 =>
(atI a1 y2.1).bind fun b4 =>
(zc8 (IntKind.wrap .i64 (b3.toNat:Int)) (IntKind.wrap .i64 (b4.toNat:Int))).bind fun r5 =>
 some (.inr (.inr r5))) (
 some (.inl ((IntKind.wrap .i64 (y2.1+1)),())))) (
 some (.inr (.inl ())))) (some (.inr (.inl ())))
def zb4 (a0:List UInt8) (a1:List UInt8):Option Int :=
(aH (kp a0 a1) (0,()):Option (Unit⊕Int)).bind (aU fun v6 =>
(zc8 (a0.length:Int) (a1.length:Int)).bind fun r7 =>
 some r7)
def yT:TFn:={ ps:=(.cons .str (.cons .str .unit)),res:=(.int .i64),fn:=fun v=>zb4 v.1 v.2.1 }
def atF:TEnv:=(vZ [(352,yL)])
theorem atE:runY Tryz.prog ale atG atF ayq Tryz.f322 yT.ps yT.res=yT.fn:=by kernel_rfl
theorem acd:aA Tryz.prog G0 322 afm:=ai (ak ⟨au,(aj abs ac),ap,ac,an⟩ Tryz.func322 rfl (by kernel_rfl))
theorem ahl:TOk afm yT:=az (E:=ale) (ET:=atF) (EnvT.ofX (ax (ah ahc al)) am ar aJ aq) atE rfl
def akK:Env:=(eZ [(322,afm)] [274])
def asY:Hints:=(hZ [(2,[0,1,5])] [])
def abX:PFn:=aF (runF Tryz.prog akK asY Tryz.f273)
def aye:TH:={ joins:=[(7,{ keep:=[],mem:=[] })],loops:=[(2,{ keep:=[(5,(.int .i64))],mem:=[] })],ro:=[] }
def lp (a0:List (List UInt8)) (a1:List (List UInt8)) (y2:(Int×Unit)):Option ((Int×Unit)⊕(Unit⊕Int)) :=
 cond (decide (y2.1<(a0.length:Int))) (cond (decide (y2.1<(a1.length:Int))) (
(atI a0 y2.1).bind fun x1 =>
(atI a1 y2.1).bind fun x2 =>
(zb4 x1 x2).bind fun r3 =>
 cond (!decide (r3=0)) (
 some (.inr (.inr r3))) (
 some (.inl ((IntKind.wrap .i64 (y2.1+1)),())))) (
 some (.inr (.inl ())))) (some (.inr (.inl ())))
def zbg (a0:List (List UInt8)) (a1:List (List UInt8)):Option Int :=
(aH (lp a0 a1) (0,()):Option (Unit⊕Int)).bind (aU fun v4 =>
 cond (decide ((a0.length:Int)<(a1.length:Int))) (
 some (-1)) (
 cond (decide ((a0.length:Int)>(a1.length:Int))) (
 some 1) (
 some 0)))
def uj:TFn:={ ps:=(.cons (.sl .str) tT22),res:=(.int .i64),fn:=fun v=>zbg v.1 v.2.1 }
def asX:TEnv:=(vZ [(322,yT)])
theorem asW:runY Tryz.prog akK asY asX aye Tryz.f273 uj.ps uj.res=uj.fn:=by kernel_rfl
theorem un:aA Tryz.prog G0 273 abX:=ai (ak ⟨au,(aj acd ac),ap,ac,an⟩ Tryz.func273 rfl (by kernel_rfl))
theorem abW:TOk abX uj:=az (E:=akK) (ET:=asX) (EnvT.ofX (ax (ah ahl al)) am ar aJ aq) asW rfl
def akN:Env:=(eZ [(273,abX)] [274])
def as4:Hints:=(hZ [] [])
def akM:PFn:=aF (runF Tryz.prog akN as4 Tryz.f208)
def ayf:TH:={ loops:=[],ro:=[2,3] }
def zbf (a0:vV4) (a1:vV4):Option Int :=
(zbg a0.1 a1.1).bind fun r1 =>
 cond (!decide (r1=0)) (
 some r1) (
 some (IntKind.wrap .i64 (a0.2.1-a1.2.1)))
def abY:TFn:={ ps:=(.cons tT20 (.cons tT20 .unit)),res:=(.int .i64),fn:=fun v=>zbf v.1 v.2.1 }
def as3:TEnv:=(vZ [(273,uj)])
theorem as0:runY Tryz.prog akN as4 as3 ayf Tryz.f208 abY.ps abY.res=abY.fn:=by kernel_rfl
theorem akL:aA Tryz.prog G0 208 akM:=ai (ak ⟨au,(aj un ac),ap,ac,an⟩ Tryz.func208 rfl (by kernel_rfl))
theorem asZ:TOk akM abY:=az (E:=akN) (ET:=as3) (EnvT.ofX (ax (ah abW al)) am ar aJ aq) as0 rfl
def aj9:Env:=(eZ [(207,ae3),(208,akM)] [274])
def ar1:Hints:=(hZ [(3,[0,3,4]),(7,[0,3,4,5,6]),(12,[0,3,4,5,6,7])] [19,25])
def aj8:PFn:=aF (runF Tryz.prog aj9 ar1 Tryz.f136)
def axY:TH:={ joins:=[(9,{ keep:=[(3,(.own 1)),(5,(.bx 2 0)),(6,(.int .i64))],mem:=[.gone,.row true 211 tT20,.box 211 tT20] }),(10,{ keep:=[(3,(.own 1)),(5,(.bx 2 0))],mem:=[.gone,.row true 211 tT20,.box 211 tT20] }),(15,{ keep:=[(3,(.own 1)),(5,(.bx 2 0))],mem:=[.gone,.row true 211 tT20,.box 211 tT20] })],loops:=[(3,{ keep:=[(3,(.own 1)),(4,(.int .i64))],mem:=[.gone,.row true 211 tT20] }),(7,{ keep:=[(3,(.own 1)),(5,(.bx 2 0)),(6,(.int .i64))],mem:=[.gone,.row true 211 tT20,.box 211 tT20] }),(12,{ keep:=[(3,(.own 1)),(5,(.bx 2 0)),(7,(.int .i64))],mem:=[.gone,.row true 211 tT20,.box 211 tT20] })],ro:=[] }
def nZ (y7:(Int×List vV4×vV4×Unit)):Option ((Int×List vV4×vV4×Unit)⊕((Int×List vV4×vV4×Unit)⊕(vV10⊕List vV4))) :=
 cond (decide (y7.1<(y7.2.1.length:Int))) ((inI y7.2.1.length y7.1).bind fun i4 =>
(y7.2.1[i4]?).bind fun x5 =>
(zbf x5 y7.2.2.1).bind fun r6 =>
 cond (decide (r6<0)) (
 some (.inl ((IntKind.wrap .i64 (y7.1+1)),y7.2.1,y7.2.2.1,()))) (
 some (.inr (.inl (y7.1,y7.2.1,y7.2.2.1,()))))) (some (.inr (.inl (y7.1,y7.2.1,y7.2.2.1,()))))
def iz (v7:(Int×List vV4×vV4×Unit)) (y12:(Int×List vV4×vV4×Unit)):Option ((Int×List vV4×vV4×Unit)⊕((List vV4×vV4×Unit)⊕(vV10⊕List vV4))) :=
 cond (decide (y12.1>v7.1)) (
(inI y12.2.1.length (IntKind.wrap .i64 (y12.1-1))).bind fun i13 =>
(y12.2.1[i13]?).bind fun x14 =>
(inI y12.2.1.length y12.1).bind fun i15 =>
(y12.2.1[i15]?).bind fun x16 =>
 some (.inl ((IntKind.wrap .i64 (y12.1-1)),(y12.2.1.set i15 x14),y12.2.2.1,()))) (
 some (.inr (.inl (y12.2.1,y12.2.2.1,()))))
def rt (a0:List vV6) (y3:vV10):Option (vV10⊕List vV4) :=
 cond (decide (y3.1<(a0.length:Int))) (
(atI a0 y3.1).bind fun x1 =>
(atI a0 y3.1).bind fun x2 =>
(zcy x2.2.1.1).bind fun r3 =>
(aH (nZ) (0,y3.2.1,(x1.2.1.2.1,r3,()),()):Option ((Int×List vV4×vV4×Unit)⊕(vV10⊕List vV4))).bind (aU fun v7 =>
(cond (decide (v7.1<(v7.2.1.length:Int))) ((inI v7.2.1.length v7.1).bind fun i8 =>
(v7.2.1[i8]?).bind fun x9 =>
(zbf x9 v7.2.2.1).bind fun r10 =>
 cond (decide (r10=0)) (
 some (.inr (.inl ((IntKind.wrap .i64 (y3.1+1)),v7.2.1,())))) (
 some (.inl (v7.2.1,v7.2.2.1,())))) (some (.inl (v7.2.1,v7.2.2.1,()))):Option ((List vV4×vV4×Unit)⊕(vV10⊕List vV4))).bind (aU fun v11 =>
(ch (v11.1.length+([v11.2.1]:List vV4).length)).bind fun u12 =>
(aH (iz v7) ((IntKind.wrap .i64 (((v11.1++([v11.2.1]:List vV4)).length:Int)-1)),(v11.1++([v11.2.1]:List vV4)),v11.2.1,()):Option ((List vV4×vV4×Unit)⊕(vV10⊕List vV4))).bind (aU fun v17 =>
(inI v17.1.length v7.1).bind fun i18 =>
(v17.1[i18]?).bind fun x19 =>
 some (.inl ((IntKind.wrap .i64 (y3.1+1)),(v17.1.set i18 v17.2.1),())))))) (
 some (.inr y3.2.1))
def zbw (a0:List vV6):Option (List vV4) :=
 aH (rt a0) (0,[],())
def abE:TFn:={ ps:=(.cons (.sl tT19) .unit),res:=(.sl tT20),fn:=fun v=>zbw v.1 }
def ar0:TEnv:={ pure:=[(207,yB),(208,abY)],look:=[],glob:=G0T,ty:=[(211,tT20)],raw:=[],fresh:=[] }
theorem arZ:runY Tryz.prog aj9 ar1 ar0 axY Tryz.f136 abE.ps abE.res=abE.fn:=by kernel_rfl
theorem aj7:aA Tryz.prog G0 136 aj8:=ai (ak ⟨au,(aj aa4 (aj akL ac)),ap,ac,an⟩ Tryz.func136 rfl (by kernel_rfl))
theorem arY:TOk aj8 abE:=az (E:=aj9) (ET:=ar0) (EnvT.ofX (ax (ah ag3 (ah asZ al))) am ar aJ aq) arZ rfl
def aji:Env:=(eZ [(73,ae8),(144,yO)] [274])
def aqC:Hints:=(hZ [(8,[5,7,9,10]),(12,[5,7,9,10,11,12])] [])
def ajh:PFn:=aF (runF Tryz.prog aji aqC Tryz.f218)
def axB:TH:={ joins:=[(18,{ keep:=[(9,(.own 0))],mem:=[.row false 4 .bool] })],loops:=[(8,{ keep:=[(9,(.own 0)),(10,(.int .i64))],mem:=[.row false 4 .bool] }),(12,{ keep:=[(9,(.own 0)),(11,(.own 1)),(12,(.int .i64))],mem:=[.row false 4 .bool,.row false 4 .bool] })],cuts:=[(16,[(11,{ keep:=[(9,(.own 0)),(11,(.own 1)),(74,(.own 1)),(75,(.int .i64)),(84,.bool)],mem:=[.row false 4 .bool,.row false 4 .bool] })])],ro:=[],news:=[] }
def jJ (y8:(Int×List Bool×Unit)) (r1:(List Int×Bool×Unit)) (r2:(List Int×Bool×Unit)) (y12:(Int×List Bool×List Bool×Unit)):Option ((Int×List Bool×List Bool×Unit)⊕((Int×List Bool×Unit)⊕((List Bool×Unit)⊕Bool))) :=
 cond (decide (y12.1≤(r2.1.length:Int))) (
(atI r1.1 y8.1).bind fun x7 =>
 cond (decide (x7=(-2))) (
(inI y12.2.1.length y12.1).bind fun i8 =>
(y12.2.1[i8]?).bind fun x9 =>
 cond x9 ((inI y12.2.2.1.length y12.1).bind fun i10 =>
(y12.2.2.1[i10]?).bind fun x11 =>
 some (.inl ((IntKind.wrap .i64 (y12.1+1)),y12.2.1,(y12.2.2.1.set i10 true),()))) (cond (decide (y12.1>0)) ((inI y12.2.2.1.length (IntKind.wrap .i64 (y12.1-1))).bind fun i12 =>
(y12.2.2.1[i12]?).bind fun x13 =>
(inI y12.2.2.1.length y12.1).bind fun i14 =>
(y12.2.2.1[i14]?).bind fun x15 =>
 some (.inl ((IntKind.wrap .i64 (y12.1+1)),y12.2.1,(y12.2.2.1.set i14 x13),()))) ((inI y12.2.2.1.length y12.1).bind fun i16 =>
(y12.2.2.1[i16]?).bind fun x17 =>
 some (.inl ((IntKind.wrap .i64 (y12.1+1)),y12.2.1,(y12.2.2.1.set i16 false),()))))) (
(cond (decide (y12.1>0)) ((inI y12.2.1.length (IntKind.wrap .i64 (y12.1-1))).bind fun i18 =>
(y12.2.1[i18]?).bind fun x19 =>
 some (y12.1,x19,y12.2.1,y12.2.2.1,())) (some (y12.1,false,y12.2.1,y12.2.2.1,())):Option (Int×Bool×List Bool×List Bool×Unit)).bind fun v20 =>
 cond v20.2.1 ((atI r1.1 y8.1).bind fun x21 =>
 cond (decide (x21=(-1))) ((inI v20.2.2.2.1.length v20.1).bind fun i22 =>
(v20.2.2.2.1[i22]?).bind fun x23 =>
 some (.inl ((IntKind.wrap .i64 (y12.1+1)),v20.2.2.1,(v20.2.2.2.1.set i22 true),()))) ((atI r1.1 y8.1).bind fun x24 =>
(atI r2.1 (IntKind.wrap .i64 (y12.1-1))).bind fun x25 =>
(inI v20.2.2.2.1.length v20.1).bind fun i26 =>
(v20.2.2.2.1[i26]?).bind fun x27 =>
 some (.inl ((IntKind.wrap .i64 (y12.1+1)),v20.2.2.1,(v20.2.2.2.1.set i26 (decide (x24=x25))),())))) ((inI v20.2.2.2.1.length v20.1).bind fun i28 =>
(v20.2.2.2.1[i28]?).bind fun x29 =>
 some (.inl ((IntKind.wrap .i64 (y12.1+1)),v20.2.2.1,(v20.2.2.2.1.set i28 false),()))))) (
 some (.inr (.inl ((IntKind.wrap .i64 (y8.1+1)),y12.2.2.1,()))))
def nW (r1:(List Int×Bool×Unit)) (r2:(List Int×Bool×Unit)) (y8:(Int×List Bool×Unit)):Option ((Int×List Bool×Unit)⊕((List Bool×Unit)⊕Bool)) :=
 cond (decide (y8.1<(r1.1.length:Int))) (
(mkT (IntKind.wrap .i64 ((r2.1.length:Int)+1)) (IntKind.wrap .i64 ((r2.1.length:Int)+1))).bind fun u6 =>
 aH (jJ y8 r1 r2) (0,y8.2.1,(List.replicate (IntKind.wrap .i64 ((r2.1.length:Int)+1)).toNat false),())) (
 some (.inr (.inl (y8.2.1,()))))
def zcj (a0:List UInt8) (a1:List UInt8):Option Bool :=
(zcl a0).bind fun r1 =>
(zbx a1).bind fun r2 =>
 cond (!r1.2.1) (some false) (cond (!r2.2.1) (
 some false) (
(mkT (IntKind.wrap .i64 ((r2.1.length:Int)+1)) (IntKind.wrap .i64 ((r2.1.length:Int)+1))).bind fun u3 =>
(inI (List.replicate (IntKind.wrap .i64 ((r2.1.length:Int)+1)).toNat false).length 0).bind fun i4 =>
((List.replicate (IntKind.wrap .i64 ((r2.1.length:Int)+1)).toNat false)[i4]?).bind fun x5 =>
(aH (nW r1 r2) (0,((List.replicate (IntKind.wrap .i64 ((r2.1.length:Int)+1)).toNat false).set i4 true),()):Option ((List Bool×Unit)⊕Bool)).bind (aU fun v30 =>
(inI v30.1.length (r2.1.length:Int)).bind fun i31 =>
(v30.1[i31]?).bind fun x32 =>
 some x32)))
def abh:TFn:={ ps:=(.cons .str (.cons .str .unit)),res:=.bool,fn:=fun v=>zcj v.1 v.2.1 }
def aqB:TEnv:={ pure:=[(73,yH),(144,rr)],look:=[],glob:=G0T,ty:=[(4,.bool)],raw:=[],fresh:=[] }
theorem aqA:runY Tryz.prog aji aqC aqB axB Tryz.f218 abh.ps abh.res=abh.fn:=by kernel_rfl
theorem ajg:aA Tryz.prog G0 218 ajh:=ai (ak ⟨au,(aj abf (aj pr ac)),ap,ac,an⟩ Tryz.func218 rfl (by kernel_rfl))
theorem aqz:TOk ajh abh:=az (E:=aji) (ET:=aqB) (EnvT.ofX (ax (ah ag8 (ah wK al))) am ar aJ aq) aqA rfl
def ajs:Env:=(eZ [(18,afb),(218,ajh)] [274])
def aqR:Hints:=(hZ [(6,[0,1,5,6]),(10,[0,1,5,6,7,8])] [])
def ajr:PFn:=aF (runF Tryz.prog ajs aqR Tryz.f146)
def axF:TH:={ joins:=[(16,{ keep:=[(5,(.own 0))],mem:=[.row false 4 .bool] })],loops:=[(6,{ keep:=[(5,(.own 0)),(6,(.int .i64))],mem:=[.row false 4 .bool] }),(10,{ keep:=[(5,(.own 0)),(7,(.own 1)),(8,(.int .i64))],mem:=[.row false 4 .bool,.row false 4 .bool] })],cuts:=[(14,[(11,{ keep:=[(5,(.own 0)),(7,(.own 1)),(57,(.own 1)),(58,(.int .i64)),(67,.bool)],mem:=[.row false 4 .bool,.row false 4 .bool] })])],ro:=[],news:=[] }
def jK (y6:(Int×List Bool×Unit)) (a0:List (List UInt8)) (a1:List (List UInt8)) (y10:(Int×List Bool×List Bool×Unit)):Option ((Int×List Bool×List Bool×Unit)⊕((Int×List Bool×Unit)⊕((List Bool×Unit)⊕Bool))) :=
 cond (decide (y10.1≤(a1.length:Int))) (
(atI a0 y6.1).bind fun x6 =>
 cond (decide (x6=[42,42])) (
(inI y10.2.1.length y10.1).bind fun i7 =>
(y10.2.1[i7]?).bind fun x8 =>
 cond x8 ((inI y10.2.2.1.length y10.1).bind fun i9 =>
(y10.2.2.1[i9]?).bind fun x10 =>
 some (.inl ((IntKind.wrap .i64 (y10.1+1)),y10.2.1,(y10.2.2.1.set i9 true),()))) (cond (decide (y10.1>0)) ((inI y10.2.2.1.length (IntKind.wrap .i64 (y10.1-1))).bind fun i11 =>
(y10.2.2.1[i11]?).bind fun x12 =>
(inI y10.2.2.1.length y10.1).bind fun i13 =>
(y10.2.2.1[i13]?).bind fun x14 =>
 some (.inl ((IntKind.wrap .i64 (y10.1+1)),y10.2.1,(y10.2.2.1.set i13 x12),()))) ((inI y10.2.2.1.length y10.1).bind fun i15 =>
(y10.2.2.1[i15]?).bind fun x16 =>
 some (.inl ((IntKind.wrap .i64 (y10.1+1)),y10.2.1,(y10.2.2.1.set i15 false),()))))) (
(cond (decide (y10.1>0)) ((inI y10.2.1.length (IntKind.wrap .i64 (y10.1-1))).bind fun i17 =>
(y10.2.1[i17]?).bind fun x18 =>
 some (y10.1,x18,y10.2.1,y10.2.2.1,())) (some (y10.1,false,y10.2.1,y10.2.2.1,())):Option (Int×Bool×List Bool×List Bool×Unit)).bind fun v19 =>
 cond v19.2.1 ((atI a0 y6.1).bind fun x20 =>
(atI a1 (IntKind.wrap .i64 (y10.1-1))).bind fun x21 =>
(zcj x20 x21).bind fun r22 =>
(inI v19.2.2.2.1.length v19.1).bind fun i23 =>
(v19.2.2.2.1[i23]?).bind fun x24 =>
 some (.inl ((IntKind.wrap .i64 (y10.1+1)),v19.2.2.1,(v19.2.2.2.1.set i23 r22),()))) ((inI v19.2.2.2.1.length v19.1).bind fun i25 =>
(v19.2.2.2.1[i25]?).bind fun x26 =>
 some (.inl ((IntKind.wrap .i64 (y10.1+1)),v19.2.2.1,(v19.2.2.2.1.set i25 false),()))))) (
 some (.inr (.inl ((IntKind.wrap .i64 (y6.1+1)),y10.2.2.1,()))))
def nX (a0:List (List UInt8)) (a1:List (List UInt8)) (y6:(Int×List Bool×Unit)):Option ((Int×List Bool×Unit)⊕((List Bool×Unit)⊕Bool)) :=
 cond (decide (y6.1<(a0.length:Int))) (
(mkT (IntKind.wrap .i64 ((a1.length:Int)+1)) (IntKind.wrap .i64 ((a1.length:Int)+1))).bind fun u5 =>
 aH (jK y6 a0 a1) (0,y6.2.1,(List.replicate (IntKind.wrap .i64 ((a1.length:Int)+1)).toNat false),())) (
 some (.inr (.inl (y6.2.1,()))))
def zcf (a0:List (List UInt8)) (a1:List (List UInt8)):Option Bool :=
(zca a0).bind fun r1 =>
 cond (!decide (r1=0)) (
 some false) (
(mkT (IntKind.wrap .i64 ((a1.length:Int)+1)) (IntKind.wrap .i64 ((a1.length:Int)+1))).bind fun u2 =>
(inI (List.replicate (IntKind.wrap .i64 ((a1.length:Int)+1)).toNat false).length 0).bind fun i3 =>
((List.replicate (IntKind.wrap .i64 ((a1.length:Int)+1)).toNat false)[i3]?).bind fun x4 =>
(aH (nX a0 a1) (0,((List.replicate (IntKind.wrap .i64 ((a1.length:Int)+1)).toNat false).set i3 true),()):Option ((List Bool×Unit)⊕Bool)).bind (aU fun v27 =>
(inI v27.1.length (a1.length:Int)).bind fun i28 =>
(v27.1[i28]?).bind fun x29 =>
 some x29))
def abl:TFn:={ ps:=(.cons (.sl .str) tT22),res:=.bool,fn:=fun v=>zcf v.1 v.2.1 }
def aqQ:TEnv:={ pure:=[(18,yK),(218,abh)],look:=[],glob:=G0T,ty:=[(4,.bool)],raw:=[],fresh:=[] }
theorem aqP:runY Tryz.prog ajs aqR aqQ axF Tryz.f146 abl.ps abl.res=abl.fn:=by kernel_rfl
theorem ajq:aA Tryz.prog G0 146 ajr:=ai (ak ⟨au,(aj abq (aj ajg ac)),ap,ac,an⟩ Tryz.func146 rfl (by kernel_rfl))
theorem aqO:TOk ajr abl:=az (E:=ajs) (ET:=aqQ) (EnvT.ofX (ax (ah ahb (ah aqz al))) am ar aJ aq) aqP rfl
def ahZ:Env:=(eZ [(207,ae3),(273,abX)] [274])
def aox:Hints:=(hZ [(3,[0,1,2,7,8])] [])
def aaI:PFn:=aF (runF Tryz.prog ahZ aox Tryz.f285)
def aw2:TH:={ loops:=[(3,{ keep:=[(7,(.own 0)),(8,(.int .i64))],mem:=[.row true 156 tT19] })],ro:=[] }
def wk (a0:List vV6) (a1:List (List UInt8)) (a2:Int) (y3:(Int×List vV6×Unit)):Option ((Int×List vV6×Unit)⊕List vV6) :=
 cond (decide (y3.1<(a0.length:Int))) (
(atI a0 y3.1).bind fun x1 =>
(zcy x1.2.1.1).bind fun r2 =>
 cond (decide (r2=a2)) ((atI a0 y3.1).bind fun x3 =>
(zbg x3.2.1.2.1 a1).bind fun r4 =>
 cond (decide (r4=0)) (
(atI a0 y3.1).bind fun x5 =>
(ch (y3.2.1.length+([x5]:List vV6).length)).bind fun u6 =>
 some (.inl ((IntKind.wrap .i64 (y3.1+1)),(y3.2.1++([x5]:List vV6)),()))) (
 some (.inl ((IntKind.wrap .i64 (y3.1+1)),y3.2.1,())))) (some (.inl ((IntKind.wrap .i64 (y3.1+1)),y3.2.1,())))) (
 some (.inr y3.2.1))
def zds (a0:List vV6) (a1:List (List UInt8)) (a2:Int):Option (List vV6) :=
 aH (wk a0 a1 a2) (0,[],())
def tX:TFn:={ ps:=(.cons (.sl tT19) (.cons (.sl .str) tT16)),res:=(.sl tT19),fn:=fun v=>zds v.1 v.2.1 v.2.2.1 }
def aow:TEnv:={ pure:=[(207,yB),(273,uj)],look:=[],glob:=G0T,ty:=[(156,tT19)],raw:=[],fresh:=[] }
theorem aov:runY Tryz.prog ahZ aox aow aw2 Tryz.f285 tX.ps tX.res=tX.fn:=by kernel_rfl
theorem tY:aA Tryz.prog G0 285 aaI:=ai (ak ⟨au,(aj aa4 (aj un ac)),ap,ac,an⟩ Tryz.func285 rfl (by kernel_rfl))
theorem aaH:TOk aaI tX:=az (E:=ahZ) (ET:=aow) (EnvT.ofX (ax (ah ag3 (ah abW al))) am ar aJ aq) aov rfl
def akJ:Env:=(eZ [(322,afm),(352,afc)] [274])
def asV:Hints:=(hZ [] [])
def akI:PFn:=aF (runF Tryz.prog akJ asV Tryz.f329)
def ayd:TH:={ loops:=[],ro:=[2,3] }
def zbh (a0:vV3) (a1:vV3):Option Int :=
 cond (!decide (a0.1=a1.1)) (
(zc8 a0.1 a1.1).bind fun r1 =>
 some r1) (
 cond (!decide (a0.2.1=a1.2.1)) (
(zc8 a0.2.1 a1.2.1).bind fun r2 =>
 some r2) (
(zb4 a0.2.2.1 a1.2.2.1).bind fun r3 =>
 some r3))
def abV:TFn:={ ps:=(.cons tT15 (.cons tT15 .unit)),res:=(.int .i64),fn:=fun v=>zbh v.1 v.2.1 }
def asU:TEnv:=(vZ [(322,yT),(352,yL)])
theorem asT:runY Tryz.prog akJ asV asU ayd Tryz.f329 abV.ps abV.res=abV.fn:=by kernel_rfl
theorem akH:aA Tryz.prog G0 329 akI:=ai (ak ⟨au,(aj acd (aj abs ac)),ap,ac,an⟩ Tryz.func329 rfl (by kernel_rfl))
theorem asS:TOk akI abV:=az (E:=akJ) (ET:=asU) (EnvT.ofX (ax (ah ahl (ah ahc al))) am ar aJ aq) asT rfl
def akg:Env:=(eZ [(329,akI)] [274])
def asc:Hints:=(hZ [(4,[0,3,5,6,7])] [])
def aff:PFn:=aF (runF Tryz.prog akg asc Tryz.f286)
def ax1:TH:={ joins:=[(13,{ keep:=[(3,(.bx 0 0)),(5,(.own 1)),(6,.bool)],mem:=[.same,.row true 132 tT15] }),(12,{ keep:=[(3,(.bx 0 0)),(5,(.own 1)),(6,.bool)],mem:=[.same,.row true 132 tT15] })],loops:=[(4,{ keep:=[(3,(.bx 0 0)),(5,(.own 1)),(6,.bool),(7,(.int .i64))],mem:=[.same,.row true 132 tT15] })],ro:=[3] }
def ru (a0:List vV3) (a1:vV3) (y4:(Bool×Int×List vV3×Unit)):Option ((Bool×Int×List vV3×Unit)⊕((Bool×List vV3×Unit)⊕List vV3)) :=
 cond (decide (y4.2.1<(a0.length:Int))) (
(atI a0 y4.2.1).bind fun x1 =>
(zbh a1 x1).bind fun r2 =>
 cond (decide (r2=0)) (
 some (.inr (.inr a0))) (
(cond (decide (r2<0)) (cond (!y4.1) (
(ch (y4.2.2.1.length+([a1]:List vV3).length)).bind fun u3 =>
 some (.inl (true,(y4.2.2.1++([a1]:List vV3)),()))) (
 some (.inl (y4.1,y4.2.2.1,())))) (some (.inl (y4.1,y4.2.2.1,()))):Option ((Bool×List vV3×Unit)⊕((Bool×Int×List vV3×Unit)⊕((Bool×List vV3×Unit)⊕List vV3)))).bind (aU fun v4 =>
(atI a0 y4.2.1).bind fun x5 =>
(ch (v4.2.1.length+([x5]:List vV3).length)).bind fun u6 =>
 some (.inl (v4.1,(IntKind.wrap .i64 (y4.2.1+1)),(v4.2.1++([x5]:List vV3)),()))))) (
 some (.inr (.inl (y4.1,y4.2.2.1,()))))
def zbt (a0:List vV3) (a1:vV3):Option (List vV3) :=
(aH (ru a0 a1) (false,0,[],()):Option ((Bool×List vV3×Unit)⊕List vV3)).bind (aU fun v7 =>
 cond (!v7.1) (
(ch (v7.2.1.length+([a1]:List vV3).length)).bind fun u8 =>
 some (v7.2.1++([a1]:List vV3))) (
 some v7.2.1))
def yP:TFn:={ ps:=(.cons (.sl tT15) (.cons tT15 .unit)),res:=(.sl tT15),fn:=fun v=>zbt v.1 v.2.1 }
def asb:TEnv:={ pure:=[(329,abV)],look:=[],glob:=G0T,ty:=[(132,tT15)],raw:=[],fresh:=[] }
theorem asa:runY Tryz.prog akg asc asb ax1 Tryz.f286 yP.ps yP.res=yP.fn:=by kernel_rfl
theorem abH:aA Tryz.prog G0 286 aff:=ai (ak ⟨au,(aj akH ac),ap,ac,an⟩ Tryz.func286 rfl (by kernel_rfl))
theorem ahf:TOk aff yP:=az (E:=akg) (ET:=asb) (EnvT.ofX (ax (ah asS al)) am ar aJ aq) asa rfl
def akw:Env:=(eZ [(285,aaI),(286,aff)] [274])
def asC:Hints:=(hZ [(4,[5,6,7])] [])
def akv:PFn:=aF (runF Tryz.prog akw asC Tryz.f219)
def ax8:TH:={ loops:=[(4,{ keep:=[(5,(.sl tT15)),(7,(.int .i64))],mem:=[] })],ro:=[] }
def wR (r1:List vV6) (y4:(List vV3×Int×Unit)):Option ((List vV3×Int×Unit)⊕List vV3) :=
 cond (decide (y4.2.1<(r1.length:Int))) (
(atI r1 y4.2.1).bind fun x2 =>
(zbt y4.1 x2.2.1.2.2.1).bind fun r3 =>
 some (.inl (r3,(IntKind.wrap .i64 (y4.2.1+1)),()))) (
 some (.inr y4.1))
def zbm (a0:List vV6) (a1:List (List UInt8)):Option (List vV3) :=
(zds a0 a1 1).bind fun r1 =>
 aH (wR r1) ([],0,())
def abP:TFn:={ ps:=(.cons (.sl tT19) tT22),res:=(.sl tT15),fn:=fun v=>zbm v.1 v.2.1 }
def asB:TEnv:=(vZ [(285,tX),(286,yP)])
theorem asA:runY Tryz.prog akw asC asB ax8 Tryz.f219 abP.ps abP.res=abP.fn:=by kernel_rfl
theorem aku:aA Tryz.prog G0 219 akv:=ai (ak ⟨au,(aj tY (aj abH ac)),ap,ac,an⟩ Tryz.func219 rfl (by kernel_rfl))
theorem asz:TOk akv abP:=az (E:=akw) (ET:=asB) (EnvT.ofX (ax (ah aaH (ah ahf al))) am ar aJ aq) asA rfl
def akt:Env:=(eZ [(285,aaI),(286,aff)] [274])
def asy:Hints:=(hZ [(4,[5,6,7])] [])
def aks:PFn:=aF (runF Tryz.prog akt asy Tryz.f220)
def ax7:TH:={ loops:=[(4,{ keep:=[(5,(.sl tT15)),(7,(.int .i64))],mem:=[] })],ro:=[] }
def wQ (r1:List vV6) (y4:(List vV3×Int×Unit)):Option ((List vV3×Int×Unit)⊕List vV3) :=
 cond (decide (y4.2.1<(r1.length:Int))) (
(atI r1 y4.2.1).bind fun x2 =>
(zbt y4.1 x2.2.1.2.2.1).bind fun r3 =>
 some (.inl (r3,(IntKind.wrap .i64 (y4.2.1+1)),()))) (
 some (.inr y4.1))
def zbn (a0:List vV6) (a1:List (List UInt8)):Option (List vV3) :=
(zds a0 a1 2).bind fun r1 =>
 aH (wQ r1) ([],0,())
def abO:TFn:={ ps:=(.cons (.sl tT19) tT22),res:=(.sl tT15),fn:=fun v=>zbn v.1 v.2.1 }
def asx:TEnv:=(vZ [(285,tX),(286,yP)])
theorem asw:runY Tryz.prog akt asy asx ax7 Tryz.f220 abO.ps abO.res=abO.fn:=by kernel_rfl
theorem akr:aA Tryz.prog G0 220 aks:=ai (ak ⟨au,(aj tY (aj abH ac)),ap,ac,an⟩ Tryz.func220 rfl (by kernel_rfl))
theorem asv:TOk aks abO:=az (E:=akt) (ET:=asx) (EnvT.ofX (ax (ah aaH (ah ahf al))) am ar aJ aq) asw rfl
def ajp:Env:=(eZ [(285,aaI)] [274])
def aqN:Hints:=(hZ [(4,[7,8,9,10])] [])
def ajo:PFn:=aF (runF Tryz.prog ajp aqN Tryz.f221)
def axE:TH:={ joins:=[(11,{ keep:=[(7,(.int .i64)),(8,(.int .i64))],mem:=[] }),(9,{ keep:=[(7,(.int .i64))],mem:=[] })],loops:=[(4,{ keep:=[(7,(.int .i64)),(8,(.int .i64)),(10,(.int .i64))],mem:=[] })],ro:=[] }
def wD (r1:List vV6) (y4:(Int×Int×Int×Unit)):Option ((Int×Int×Int×Unit)⊕((Int×Int×Unit)⊕(Int×Int×Int×Unit))) :=
 cond (decide (y4.2.2.1<(r1.length:Int))) (
(atI r1 y4.2.2.1).bind fun x2 =>
(cond (decide (x2.2.1.2.2.2.1>0)) (
 some (.inl ((IntKind.wrap .i64 (y4.1+x2.2.1.2.2.2.1)),()))) (
 some (.inl (y4.1,()))):Option ((Int×Unit)⊕((Int×Int×Int×Unit)⊕((Int×Int×Unit)⊕(Int×Int×Int×Unit))))).bind (aU fun v3 =>
 cond (decide (x2.2.1.2.2.2.1<0)) (
 some (.inl (v3.1,(IntKind.wrap .i64 (y4.2.1-x2.2.1.2.2.2.1)),(IntKind.wrap .i64 (y4.2.2.1+1)),()))) (
 some (.inl (v3.1,y4.2.1,(IntKind.wrap .i64 (y4.2.2.1+1)),()))))) (
 some (.inr (.inl (y4.1,y4.2.1,()))))
def zcg (a0:List vV6) (a1:List (List UInt8)):Option (Int×Int×Int×Unit) :=
(zds a0 a1 3).bind fun r1 =>
(aH (wD r1) (0,0,0,()):Option ((Int×Int×Unit)⊕(Int×Int×Int×Unit))).bind (aU fun v4 =>
 some (v4.1,v4.2.1,(r1.length:Int),()))
def abk:TFn:={ ps:=(.cons (.sl tT19) tT22),res:=(.tup (.cons (.int .i64) (.cons (.int .i64) tT16))),fn:=fun v=>zcg v.1 v.2.1 }
def aqM:TEnv:=(vZ [(285,tX)])
theorem aqL:runY Tryz.prog ajp aqN aqM axE Tryz.f221 abk.ps abk.res=abk.fn:=by kernel_rfl
theorem ajn:aA Tryz.prog G0 221 ajo:=ai (ak ⟨au,(aj tY ac),ap,ac,an⟩ Tryz.func221 rfl (by kernel_rfl))
theorem aqK:TOk ajo abk:=az (E:=ajp) (ET:=aqM) (EnvT.ofX (ax (ah aaH al)) am ar aJ aq) aqL rfl
def ah2:Env:=(eZ [(219,akv),(220,aks),(221,ajo)] [274])
def aoB:Hints:=(hZ [] [])
def ah1:PFn:=aF (runF Tryz.prog ah2 aoB Tryz.f147)
def aw3:TH:={ joins:=[(4,{ keep:=[(6,(.bx 0 0)),(7,(.bx 1 0))],mem:=[.box 150 (.agg (.cons .nilsl (.cons (.int .i64) (.cons .nilsl tT16)))),.box 150 tT12] }),(6,{ keep:=[(6,(.bx 0 0)),(7,(.bx 1 0))],mem:=[.box 150 (.agg (.cons .nilsl (.cons (.int .i64) (.cons .nilsl tT16)))),.box 150 tT12] })],loops:=[],ro:=[] }
def zdr (a0:List vV6) (a1:List (List UInt8)) (a2:Int):Option vV0 :=
(cond (decide (a2=1)) (
(zbm a0 a1).bind fun r1 =>
 some (.inl (((),0,(),0,()),(a1,a2,r1,0,()),()))) (
 some (.inl (((),0,(),0,()),(a1,a2,[],0,()),()))):Option (((Unit×Int×Unit×Int×Unit)×vV0×Unit)⊕vV0)).bind (aU fun v2 =>
(cond (decide (a2=2)) (
(zbn a0 a1).bind fun r3 =>
 some (.inl (v2.1,(v2.2.1.1,v2.2.1.2.1,r3,v2.2.1.2.2.2.1,()),()))) (
 some (.inl (v2.1,v2.2.1,()))):Option (((Unit×Int×Unit×Int×Unit)×vV0×Unit)⊕vV0)).bind (aU fun v4 =>
 cond (decide (a2=3)) (
(zcg a0 a1).bind fun r5 =>
 some (v4.2.1.1,v4.2.1.2.1,v4.2.1.2.2.1,(IntKind.wrap .i64 (r5.1-r5.2.1)),())) (
 some v4.2.1)))
def aaJ:TFn:={ ps:=(.cons (.sl tT19) (.cons (.sl .str) tT16)),res:=tT12,fn:=fun v=>zdr v.1 v.2.1 v.2.2.1 }
def aoA:TEnv:=(vZ [(219,abP),(220,abO),(221,abk)])
theorem aoz:runY Tryz.prog ah2 aoB aoA aw3 Tryz.f147 aaJ.ps aaJ.res=aaJ.fn:=by kernel_rfl
theorem ah0:aA Tryz.prog G0 147 ah1:=ai (ak ⟨au,(aj aku (aj akr (aj ajn ac))),ap,ac,an⟩ Tryz.func147 rfl (by kernel_rfl))
theorem aoy:TOk ah1 aaJ:=az (E:=ah2) (ET:=aoA) (EnvT.ofX (ax (ah asz (ah asv (ah aqK al)))) am ar aJ aq) aoz rfl
def aiD:Env:=(eZ [(136,aj8),(146,ajr),(147,ah1)] [274])
def apw:Hints:=(hZ [(4,[0,1,5,6,7])] [29,34])
def aiC:PFn:=aF (runF Tryz.prog aiD apw Tryz.f77)
def axi:TH:={ loops:=[(4,{ keep:=[(6,(.own 0)),(7,(.int .i64))],mem:=[.row true 150 tT12] })],ro:=[] }
def wo (a0:List vV6) (a1:List (List UInt8)) (r1:List vV4) (y4:(Int×List vV0×Unit)):Option ((Int×List vV0×Unit)⊕List vV0) :=
 cond (decide (y4.1<(r1.length:Int))) (
(atI r1 y4.1).bind fun x2 =>
(zcf a1 x2.1).bind fun r3 =>
 cond r3 (
(atI r1 y4.1).bind fun x4 =>
(atI r1 y4.1).bind fun x5 =>
(zdr a0 x4.1 x5.2.1).bind fun r6 =>
(ch (y4.2.1.length+([r6]:List vV0).length)).bind fun u7 =>
 some (.inl ((IntKind.wrap .i64 (y4.1+1)),(y4.2.1++([r6]:List vV0)),()))) (
 some (.inl ((IntKind.wrap .i64 (y4.1+1)),y4.2.1,())))) (
 some (.inr y4.2.1))
def zdc (a0:List vV6) (a1:List (List UInt8)):Option (List vV0) :=
(zbw a0).bind fun r1 =>
 aH (wo a0 a1 r1) (0,[],())
def aa0:TFn:={ ps:=(.cons (.sl tT19) tT22),res:=(.sl tT12),fn:=fun v=>zdc v.1 v.2.1 }
def apv:TEnv:={ pure:=[(136,abE),(146,abl),(147,aaJ)],look:=[],glob:=G0T,ty:=[(150,tT12)],raw:=[],fresh:=[] }
theorem apu:runY Tryz.prog aiD apw apv axi Tryz.f77 aa0.ps aa0.res=aa0.fn:=by kernel_rfl
theorem aiB:aA Tryz.prog G0 77 aiC:=ai (ak ⟨au,(aj aj7 (aj ajq (aj ah0 ac))),ap,ac,an⟩ Tryz.func77 rfl (by kernel_rfl))
theorem apt:TOk aiC aa0:=az (E:=aiD) (ET:=apv) (EnvT.ofX (ax (ah arY (ah aqO (ah aoy al)))) am ar aJ aq) apu rfl
def akZ:Env:=(eZ [(273,abX)] [274])
def atm:Hints:=(hZ [] [])
def afl:PFn:=aF (runF Tryz.prog akZ atm Tryz.f222)
def ayk:TH:={ loops:=[],ro:=[2,3] }
def zba (a0:vV0) (a1:vV0):Option Int :=
(zbg a0.1 a1.1).bind fun r1 =>
 cond (!decide (r1=0)) (
 some r1) (
 cond (decide (a0.2.1<a1.2.1)) (
 some (-1)) (
 cond (decide (a0.2.1>a1.2.1)) (
 some 1) (
 some 0)))
def yS:TFn:={ ps:=(.cons tT12 (.cons tT12 .unit)),res:=(.int .i64),fn:=fun v=>zba v.1 v.2.1 }
def atl:TEnv:=(vZ [(273,uj)])
theorem atk:runY Tryz.prog akZ atm atl ayk Tryz.f222 yS.ps yS.res=yS.fn:=by kernel_rfl
theorem ab4:aA Tryz.prog G0 222 afl:=ai (ak ⟨au,(aj un ac),ap,ac,an⟩ Tryz.func222 rfl (by kernel_rfl))
theorem ahk:TOk afl yS:=az (E:=akZ) (ET:=atl) (EnvT.ofX (ax (ah abW al)) am ar aJ aq) atk rfl
def aiw:Env:=(eZ [(222,afl)] [274])
def apk:Hints:=(hZ [(2,[0,3,5])] [])
def aiv:PFn:=aF (runF Tryz.prog aiw apk Tryz.f148)
def axf:TH:={ loops:=[(2,{ keep:=[(3,(.bx 0 0)),(5,(.int .i64))],mem:=[.same] })],ro:=[3] }
def nV (a0:List vV0) (a1:vV0) (y2:(Int×Unit)):Option ((Int×Unit)⊕Int) :=
 cond (decide (y2.1<(a0.length:Int))) (
(atI a0 y2.1).bind fun x1 =>
(zba x1 a1).bind fun r2 =>
 cond (decide (r2=0)) (
 some (.inr y2.1)) (
 some (.inl ((IntKind.wrap .i64 (y2.1+1)),())))) (
 some (.inr (-1)))
def zdf (a0:List vV0) (a1:vV0):Option Int :=
 aH (nV a0 a1) (0,())
def aaX:TFn:={ ps:=(.cons (.sl tT12) (.cons tT12 .unit)),res:=(.int .i64),fn:=fun v=>zdf v.1 v.2.1 }
def apj:TEnv:=(vZ [(222,yS)])
theorem api:runY Tryz.prog aiw apk apj axf Tryz.f148 aaX.ps aaX.res=aaX.fn:=by kernel_rfl
theorem aiu:aA Tryz.prog G0 148 aiv:=ai (ak ⟨au,(aj ab4 ac),ap,ac,an⟩ Tryz.func148 rfl (by kernel_rfl))
theorem aph:TOk aiv aaX:=az (E:=aiw) (ET:=apj) (EnvT.ofX (ax (ah ahk al)) am ar aJ aq) api rfl
def ajX:Env:=(eZ [] [274])
def arG:Hints:=(hZ [] [])
def ajW:PFn:=aF (runF Tryz.prog ajX arG Tryz.f223)
def axS:TH:={ loops:=[],ro:=[1] }
def zc2 (a0:vV7):Option vV0 :=
 cond (decide (a0.1=1)) (
 some a0.2.2.1) (
 some a0.2.1)
def abz:TFn:={ ps:=(.cons tT18 .unit),res:=tT12,fn:=fun v=>zc2 v.1 }
def arF:TEnv:=(vZ [])
theorem arE:runY Tryz.prog ajX arG arF axS Tryz.f223 abz.ps abz.res=abz.fn:=by kernel_rfl
theorem ajV:aA Tryz.prog G0 223 ajW:=ai (ak ⟨au,ac,ap,ac,an⟩ Tryz.func223 rfl (by kernel_rfl))
theorem arD:TOk ajW abz:=az (E:=ajX) (ET:=arF) (EnvT.ofX (ax al) am ar aJ aq) arE rfl
def akC:Env:=(eZ [(222,afl),(223,ajW)] [274])
def asK:Hints:=(hZ [(4,[0,3,5,6,7])] [])
def akB:PFn:=aF (runF Tryz.prog akC asK Tryz.f149)
def aya:TH:={ joins:=[(10,{ keep:=[(3,(.bx 0 0)),(5,(.own 1)),(6,.bool)],mem:=[.same,.row true 152 tT18] }),(9,{ keep:=[(3,(.bx 0 0)),(5,(.own 1)),(6,.bool)],mem:=[.same,.row true 152 tT18] })],loops:=[(4,{ keep:=[(3,(.bx 0 0)),(5,(.own 1)),(6,.bool),(7,(.int .i64))],mem:=[.same,.row true 152 tT18] })],ro:=[3] }
def gf (a0:List vV7) (a1:vV7) (y4:(Bool×Int×List vV7×Unit)):Option ((Bool×Int×List vV7×Unit)⊕((Bool×List vV7×Unit)⊕List vV7)) :=
 cond (decide (y4.2.1<(a0.length:Int))) (
(cond (!y4.1) ((zc2 a1).bind fun r1 =>
(atI a0 y4.2.1).bind fun x2 =>
(zc2 x2).bind fun r3 =>
(zba r1 r3).bind fun r4 =>
 cond (decide (r4<0)) (
(ch (y4.2.2.1.length+([a1]:List vV7).length)).bind fun u5 =>
 some (.inl (true,(y4.2.2.1++([a1]:List vV7)),()))) (
 some (.inl (y4.1,y4.2.2.1,())))) (some (.inl (y4.1,y4.2.2.1,()))):Option ((Bool×List vV7×Unit)⊕((Bool×Int×List vV7×Unit)⊕((Bool×List vV7×Unit)⊕List vV7)))).bind (aU fun v6 =>
(atI a0 y4.2.1).bind fun x7 =>
(ch (v6.2.1.length+([x7]:List vV7).length)).bind fun u8 =>
 some (.inl (v6.1,(IntKind.wrap .i64 (y4.2.1+1)),(v6.2.1++([x7]:List vV7)),())))) (
 some (.inr (.inl (y4.1,y4.2.2.1,()))))
def zbk (a0:List vV7) (a1:vV7):Option (List vV7) :=
(aH (gf a0 a1) (false,0,[],()):Option ((Bool×List vV7×Unit)⊕List vV7)).bind (aU fun v9 =>
 cond (!v9.1) (
(ch (v9.2.1.length+([a1]:List vV7).length)).bind fun u10 =>
 some (v9.2.1++([a1]:List vV7))) (
 some v9.2.1))
def abR:TFn:={ ps:=(.cons (.sl tT18) (.cons tT18 .unit)),res:=(.sl tT18),fn:=fun v=>zbk v.1 v.2.1 }
def asJ:TEnv:={ pure:=[(222,yS),(223,abz)],look:=[],glob:=G0T,ty:=[(152,tT18)],raw:=[],fresh:=[] }
theorem asI:runY Tryz.prog akC asK asJ aya Tryz.f149 abR.ps abR.res=abR.fn:=by kernel_rfl
theorem akA:aA Tryz.prog G0 149 akB:=ai (ak ⟨au,(aj ab4 (aj ajV ac)),ap,ac,an⟩ Tryz.func149 rfl (by kernel_rfl))
theorem asH:TOk akB abR:=az (E:=akC) (ET:=asJ) (EnvT.ofX (ax (ah ahk (ah arD al))) am ar aJ aq) asI rfl
def aiM:Env:=(eZ [] [274])
def apI:Hints:=(hZ [(4,[0,1,5])] [])
def aiL:PFn:=aF (runF Tryz.prog aiM apI Tryz.f58)
def axl:TH:={ loops:=[(4,{ keep:=[(5,(.int .i64))],mem:=[] })],ro:=[] }
def wr (a0:List (List UInt8)) (a1:List (List UInt8)) (y4:(Int×Unit)):Option ((Int×Unit)⊕Bool) :=
 cond (decide (y4.1<(a0.length:Int))) (
(atI a0 y4.1).bind fun x1 =>
(atI a1 y4.1).bind fun x2 =>
 cond (!decide (x1=x2)) (
 some (.inr false)) (
 some (.inl ((IntKind.wrap .i64 (y4.1+1)),())))) (
 some (.inr true))
def zcz (a0:List (List UInt8)) (a1:List (List UInt8)):Option Bool :=
 cond (!decide ((a0.length:Int)=(a1.length:Int))) (
 some false) (
 aH (wr a0 a1) (0,()))
def aa3:TFn:={ ps:=(.cons (.sl .str) tT22),res:=.bool,fn:=fun v=>zcz v.1 v.2.1 }
def apH:TEnv:=(vZ [])
theorem apG:runY Tryz.prog aiM apI apH axl Tryz.f58 aa3.ps aa3.res=aa3.fn:=by kernel_rfl
theorem aiK:aA Tryz.prog G0 58 aiL:=ai (ak ⟨au,ac,ap,ac,an⟩ Tryz.func58 rfl (by kernel_rfl))
theorem apF:TOk aiL aa3:=az (E:=aiM) (ET:=apH) (EnvT.ofX (ax al) am ar aJ aq) apG rfl
def ai5:Env:=(eZ [] [274])
def aqe:Hints:=(hZ [(4,[0,1,5])] [])
def ai4:PFn:=aF (runF Tryz.prog ai5 aqe Tryz.f80)
def axu:TH:={ loops:=[(4,{ keep:=[(5,(.int .i64))],mem:=[] })],ro:=[] }
def wu (a0:List vV3) (a1:List vV3) (y4:(Int×Unit)):Option ((Int×Unit)⊕Bool) :=
 cond (decide (y4.1<(a0.length:Int))) (
(atI a0 y4.1).bind fun x1 =>
(atI a1 y4.1).bind fun x2 =>
 cond (!(eqV tT15 x1 x2)) (
 some (.inr false)) (
 some (.inl ((IntKind.wrap .i64 (y4.1+1)),())))) (
 some (.inr true))
def zcq (a0:List vV3) (a1:List vV3):Option Bool :=
 cond (!decide ((a0.length:Int)=(a1.length:Int))) (
 some false) (
 aH (wu a0 a1) (0,()))
def abc:TFn:={ ps:=(.cons (.sl tT15) (.cons (.sl tT15) .unit)),res:=.bool,fn:=fun v=>zcq v.1 v.2.1 }
def aqd:TEnv:=(vZ [])
theorem aqc:runY Tryz.prog ai5 aqe aqd axu Tryz.f80 abc.ps abc.res=abc.fn:=by kernel_rfl
theorem ai3:aA Tryz.prog G0 80 ai4:=ai (ak ⟨au,ac,ap,ac,an⟩ Tryz.func80 rfl (by kernel_rfl))
theorem aqb:TOk ai4 abc:=az (E:=ai5) (ET:=aqd) (EnvT.ofX (ax al) am ar aJ aq) aqc rfl
def ajU:Env:=(eZ [(58,aiL),(80,ai4)] [274])
def arC:Hints:=(hZ [(4,[0,1,5])] [])
def aby:PFn:=aF (runF Tryz.prog ajU arC Tryz.f25)
def axR:TH:={ loops:=[(4,{ keep:=[(5,(.int .i64))],mem:=[] })],cuts:=[(6,[(24,{ keep:=[(40,.bool)],mem:=[] }),(14,{ keep:=[(54,.bool)],mem:=[] })])],ro:=[],news:=[] }
def wH (a0:List vV0) (a1:List vV0) (y4:(Int×Unit)):Option ((Int×Unit)⊕Bool) :=
 cond (decide (y4.1<(a0.length:Int))) (
((atI a0 y4.1).bind fun x1 =>
(atI a1 y4.1).bind fun x2 =>
 cond (!decide (x1.2.1=x2.2.1)) (some (true,())) ((atI a0 y4.1).bind fun x3 =>
(atI a1 y4.1).bind fun x4 =>
 some ((!decide (x3.2.2.2.1=x4.2.2.2.1)),())):Option (Bool×Unit)).bind fun v5 =>
(cond v5.1 (some (true,())) ((atI a0 y4.1).bind fun x6 =>
(atI a1 y4.1).bind fun x7 =>
(zcz x6.1 x7.1).bind fun r8 =>
 some ((!r8),())):Option (Bool×Unit)).bind fun v9 =>
 cond v9.1 (some (.inr false)) ((atI a0 y4.1).bind fun x10 =>
(atI a1 y4.1).bind fun x11 =>
(zcq x10.2.2.1 x11.2.2.1).bind fun r12 =>
 cond (!r12) (
 some (.inr false)) (
 some (.inl ((IntKind.wrap .i64 (y4.1+1)),()))))) (
 some (.inr true))
def zc3 (a0:List vV0) (a1:List vV0):Option Bool :=
 cond (!decide ((a0.length:Int)=(a1.length:Int))) (
 some false) (
 aH (wH a0 a1) (0,()))
def uf:TFn:={ ps:=(.cons (.sl tT12) (.cons (.sl tT12) .unit)),res:=.bool,fn:=fun v=>zc3 v.1 v.2.1 }
def arB:TEnv:=(vZ [(58,aa3),(80,abc)])
theorem arA:runY Tryz.prog ajU arC arB axR Tryz.f25 uf.ps uf.res=uf.fn:=by kernel_rfl
theorem ug:aA Tryz.prog G0 25 aby:=ai (ak ⟨au,(aj aiK (aj ai3 ac)),ap,ac,an⟩ Tryz.func25 rfl (by kernel_rfl))
theorem abx:TOk aby uf:=az (E:=ajU) (ET:=arB) (EnvT.ofX (ax (ah apF (ah aqb al))) am ar aJ aq) arA rfl
def aiG:Env:=(eZ [(25,aby)] [274])
def apA:Hints:=(hZ [] [])
def aiF:PFn:=aF (runF Tryz.prog aiG apA Tryz.f150)
def axj:TH:={ loops:=[],ro:=[2,3] }
def zdb (a0:vV0) (a1:vV0):Option Bool :=
(zc3 ([a0]:List vV0) ([a1]:List vV0)).bind fun r1 =>
 some r1
def aa1:TFn:={ ps:=(.cons tT12 (.cons tT12 .unit)),res:=.bool,fn:=fun v=>zdb v.1 v.2.1 }
def apz:TEnv:={ pure:=[(25,uf)],look:=[],glob:=G0T,ty:=[(150,tT12)],raw:=[],fresh:=[] }
theorem apy:runY Tryz.prog aiG apA apz axj Tryz.f150 aa1.ps aa1.res=aa1.fn:=by kernel_rfl
theorem aiE:aA Tryz.prog G0 150 aiF:=ai (ak ⟨au,(aj ug ac),ap,ac,an⟩ Tryz.func150 rfl (by kernel_rfl))
theorem apx:TOk aiF aa1:=az (E:=aiG) (ET:=apz) (EnvT.ofX (ax (ah abx al)) am ar aJ aq) apy rfl
def aiT:Env:=(eZ [(148,aiv),(149,akB),(150,aiF)] [274])
def apT:Hints:=(hZ [(3,[0,1,5,6]),(11,[0,1,5,8])] [])
def aiS:PFn:=aF (runF Tryz.prog aiT apT Tryz.f78)
def axo:TH:={ joins:=[(10,{ keep:=[(5,(.sl tT18))],mem:=[] })],loops:=[(3,{ keep:=[(5,(.sl tT18)),(6,(.int .i64))],mem:=[] }),(11,{ keep:=[(5,(.sl tT18)),(8,(.int .i64))],mem:=[] })],ro:=[] }
def rg (a0:List vV0) (a1:List vV0) (y3:(List vV7×Int×Unit)):Option ((List vV7×Int×Unit)⊕((List vV7×Unit)⊕List vV7)) :=
 cond (decide (y3.2.1<(a0.length:Int))) (
(atI a0 y3.2.1).bind fun x1 =>
(zdf a1 x1).bind fun r2 =>
 cond (decide (r2<0)) (
(atI a0 y3.2.1).bind fun x3 =>
(zbk y3.1 (2,x3,([],0,[],0,()),())).bind fun r4 =>
 some (.inl (r4,(IntKind.wrap .i64 (y3.2.1+1)),()))) (
(atI a0 y3.2.1).bind fun x5 =>
(atI a1 r2).bind fun x6 =>
(zdb x5 x6).bind fun r7 =>
 cond (!r7) (
(atI a0 y3.2.1).bind fun x8 =>
(atI a1 r2).bind fun x9 =>
(zbk y3.1 (3,x8,x9,())).bind fun r10 =>
 some (.inl (r10,(IntKind.wrap .i64 (y3.2.1+1)),()))) (
 some (.inl (y3.1,(IntKind.wrap .i64 (y3.2.1+1)),()))))) (
 some (.inr (.inl (y3.1,()))))
def lm (a0:List vV0) (a1:List vV0) (y11:(List vV7×Int×Unit)):Option ((List vV7×Int×Unit)⊕List vV7) :=
 cond (decide (y11.2.1<(a1.length:Int))) (
(atI a1 y11.2.1).bind fun x12 =>
(zdf a0 x12).bind fun r13 =>
 cond (decide (r13<0)) (
(atI a1 y11.2.1).bind fun x14 =>
(zbk y11.1 (1,([],0,[],0,()),x14,())).bind fun r15 =>
 some (.inl (r15,(IntKind.wrap .i64 (y11.2.1+1)),()))) (
 some (.inl (y11.1,(IntKind.wrap .i64 (y11.2.1+1)),())))) (
 some (.inr y11.1))
def zcw (a0:List vV0) (a1:List vV0):Option (List vV7) :=
(aH (rg a0 a1) ([],0,()):Option ((List vV7×Unit)⊕List vV7)).bind (aU fun v11 =>
 aH (lm a0 a1) (v11.1,0,()))
def aa6:TFn:={ ps:=(.cons (.sl tT12) (.cons (.sl tT12) .unit)),res:=(.sl tT18),fn:=fun v=>zcw v.1 v.2.1 }
def apS:TEnv:=(vZ [(148,aaX),(149,abR),(150,aa1)])
theorem apR:runY Tryz.prog aiT apT apS axo Tryz.f78 aa6.ps aa6.res=aa6.fn:=by kernel_rfl
theorem aiR:aA Tryz.prog G0 78 aiS:=ai (ak ⟨au,(aj aiu (aj akA (aj aiE ac))),ap,ac,an⟩ Tryz.func78 rfl (by kernel_rfl))
theorem apQ:TOk aiS aa6:=az (E:=aiT) (ET:=apS) (EnvT.ofX (ax (ah aph (ah asH (ah apx al)))) am ar aJ aq) apR rfl
def amS:Env:=(eZ [(77,aiC),(78,aiS)] [274])
def av6:Hints:=(hZ [] [])
def amR:SFn:=runF Tryz.prog amS av6 Tryz.f23
def ayX:TH:=yZ
def za0 (a1:List vV6) (w0:vV8):Option (List vV7×vV8×Unit) :=
(zdc a1 w0.1).bind fun r1 =>
(zcw w0.2.1 r1).bind fun r2 =>
 some (r2,(w0.1,r1,(IntKind.wrap .i64 (w0.2.2.1+1)),()),())
def uA:TRaw:={ ps:=(.cons (.bx 0 0) (.cons (.sl tT19) .unit)),ins:=[.box 36 tT21],res:=(.sl tT18),outs:=[.box 36 tT21],fn:=fun v w=>za0 v.2.1 w.1 }
def av5:TEnv:=(vZ [(77,aa0),(78,aa6)])
theorem av4:rawY Tryz.prog amS av6 av5 ayX [(0,0)] Tryz.f23 uA.ps uA.ins uA.res uA.outs=uA.fn:=by kernel_rfl
theorem amQ:cB Tryz.prog G0 23 amR:=ak ⟨au,(aj aiB (aj aiR ac)),ap,ac,an⟩ Tryz.func23 rfl (by kernel_rfl)
theorem av3:TRawOk amR uA:=mi (E:=amS) (ET:=av5) (EnvT.ofX (ax (ah apt (ah apQ al))) am ar aJ aq) av4
def aki:Env:=(eZ [] [274])
def asi:Hints:=(hZ [(3,[0,3,4])] [16,21,26,31])
def afh:PFn:=aF (runF Tryz.prog aki asi Tryz.f26)
def ax3:TH:={ loops:=[(3,{ keep:=[(3,(.own 0)),(4,(.int .i64))],mem:=[.row true 150 tT12] })],ro:=[] }
def wM (a0:List vV0) (y3:(Int×List vV0×Unit)):Option ((Int×List vV0×Unit)⊕List vV0) :=
 cond (decide (y3.1<(a0.length:Int))) (
(atI a0 y3.1).bind fun x1 =>
(atI a0 y3.1).bind fun x2 =>
(atI a0 y3.1).bind fun x3 =>
(atI a0 y3.1).bind fun x4 =>
(ch (y3.2.1.length+([(x1.1,x2.2.1,x3.2.2.1,x4.2.2.2.1,())]:List vV0).length)).bind fun u5 =>
 some (.inl ((IntKind.wrap .i64 (y3.1+1)),(y3.2.1++([(x1.1,x2.2.1,x3.2.2.1,x4.2.2.2.1,())]:List vV0)),()))) (
 some (.inr y3.2.1))
def zbr (a0:List vV0):Option (List vV0) :=
 aH (wM a0) (0,[],())
def yR:TFn:={ ps:=(.cons (.sl tT12) .unit),res:=(.sl tT12),fn:=fun v=>zbr v.1 }
def ash:TEnv:={ pure:=[],look:=[],glob:=G0T,ty:=[(150,tT12)],raw:=[],fresh:=[] }
theorem asg:runY Tryz.prog aki asi ash ax3 Tryz.f26 yR.ps yR.res=yR.fn:=by kernel_rfl
theorem abK:aA Tryz.prog G0 26 afh:=ai (ak ⟨au,ac,ap,ac,an⟩ Tryz.func26 rfl (by kernel_rfl))
theorem ahh:TOk afh yR:=az (E:=aki) (ET:=ash) (EnvT.ofX (ax al) am ar aJ aq) asg rfl
def ai9:Env:=(eZ [(25,aby),(26,afh)] [274])
def aql:Hints:=(hZ [(4,[0,1,5])] [21,26,33,38,45,50])
def ai8:PFn:=aF (runF Tryz.prog ai9 aql Tryz.f22)
def axw:TH:={ loops:=[(4,{ keep:=[(5,(.int .i64))],mem:=[] })],ro:=[] }
def wy (a0:List vV7) (a1:List vV7) (y4:(Int×Unit)):Option ((Int×Unit)⊕Bool) :=
 cond (decide (y4.1<(a0.length:Int))) (
(atI a0 y4.1).bind fun x1 =>
(atI a1 y4.1).bind fun x2 =>
 cond (!decide (x1.1=x2.1)) (some (.inr false)) ((atI a0 y4.1).bind fun x3 =>
(atI a0 y4.1).bind fun x4 =>
(zbr ([x3.2.1,x4.2.2.1]:List vV0)).bind fun r5 =>
(atI a1 y4.1).bind fun x6 =>
(atI a1 y4.1).bind fun x7 =>
(zc3 r5 ([x6.2.1,x7.2.2.1]:List vV0)).bind fun r8 =>
 cond (!r8) (
 some (.inr false)) (
 some (.inl ((IntKind.wrap .i64 (y4.1+1)),()))))) (
 some (.inr true))
def zco (a0:List vV7) (a1:List vV7):Option Bool :=
 cond (!decide ((a0.length:Int)=(a1.length:Int))) (
 some false) (
 aH (wy a0 a1) (0,()))
def abd:TFn:={ ps:=(.cons (.sl tT18) (.cons (.sl tT18) .unit)),res:=.bool,fn:=fun v=>zco v.1 v.2.1 }
def aqk:TEnv:={ pure:=[(25,uf),(26,yR)],look:=[],glob:=G0T,ty:=[(125,tT12),(150,tT12)],raw:=[],fresh:=[] }
theorem aqj:runY Tryz.prog ai9 aql aqk axw Tryz.f22 abd.ps abd.res=abd.fn:=by kernel_rfl
theorem ai7:aA Tryz.prog G0 22 ai8:=ai (ak ⟨au,(aj ug (aj abK ac)),ap,ac,an⟩ Tryz.func22 rfl (by kernel_rfl))
theorem aqi:TOk ai8 abd:=az (E:=ai9) (ET:=aqk) (EnvT.ofX (ax (ah abx (ah ahh al))) am ar aJ aq) aqj rfl
def al9:Go.Shelf.Ren:=⟨fun | 41=>81 | n=>n,fun | 22=>52 | 23=>125 | 4=>4 | n=>n,fun | n=>n⟩
theorem afw:Go.Proofs.SlLaysE0.n41 Tryz.prog al9:={
 mixed:=by kernel_rfl
 f41:=⟨Tryz.f81.name,by decide,Tryz.func81.trans (congrArg some (by kernel_rfl))⟩
 t4:=Tryz.underlying4
 a4:=Tryz.isAgg4
 z4:=Tryz.sizeOf4
 v4:=Tryz.zeroValue4
 t22:=Tryz.underlying52
 a22:=Tryz.isAgg52
 z22:=Tryz.sizeOf52
 v22:=Tryz.zeroValue52 }
def amb:PFn:=(kF 4)
theorem ama:aA Tryz.prog G0 81 amb:=clone_lays afw 4 ⟨Tryz.f81,Tryz.func81,rfl,by kernel_rfl⟩ (by kernel_rfl) (by kernel_rfl) (by kernel_rfl) (by kernel_rfl) (by kernel_rfl) (by decide) (fun w=>Tryz.sizeOf125 w)
def zai (a0:List vV0):Option (List vV0):=iv a0
def au2:TFn:=fR tT12
theorem au1:TOk amb au2:=nf rfl rfl rfl
def alw:Env:=(eZ [(81,amb)] [274])
def aua:Hints:=(hZ [] [4])
def afn:SFn:=runF Tryz.prog alw aua Tryz.f27
def ayw:TH:=yZ
def zay (w0:vV8):Option (List vV0×vV8×Unit) :=
(zai w0.2.1).bind fun r1 =>
 some (r1,w0,())
def ur:TRaw:={ ps:=(.cons (.bx 0 0) .unit),ins:=[.box 139 tT21],res:=(.sl tT12),outs:=[.box 139 tT21],fn:=fun v w=>zay w.1 }
def at9:TEnv:=(vZ [(81,au2)])
theorem at8:rawY Tryz.prog alw aua at9 ayw [(0,0)] Tryz.f27 ur.ps ur.ins ur.res ur.outs=ur.fn:=by kernel_rfl
theorem alv:cB Tryz.prog G0 27 afn:=ak ⟨au,(aj ama ac),ap,ac,an⟩ Tryz.func27 rfl (by kernel_rfl)
theorem at7:TRawOk afn ur:=mi (E:=alw) (ET:=at9) (EnvT.ofX (ax (ah au1 al)) am ar aJ aq) at8
theorem ga:∀ xs st p,afn xs st=some p→p.2=st:=fun xs st p hp=>jQ (by kernel_rfl) hp
def amP:Env:={ pure:=[(14,ajJ),(15,afe),(16,ae7),(18,afb),(19,aaG),(22,ai8),(24,ah8),(25,aby),(26,afh)],raw:=[(17,ae1),(20,afD),(21,afE),(23,amR),(27,afn),(28,acl)],glob:=G0,same:=[274],look:=[],ext:=[],quiet:=[20,27,28] }
def av1:Hints:=(hZ [(10,[0,1,7,9,10])] [35])
def av2:PFn:=aF (runF Tryz.prog amP av1 Tryz.f3)
def ayW:TH:={ loops:=[(10,{ keep:=[(7,(.bx 0 0)),(9,(.bx 1 0)),(10,(.int .i64))],mem:=[.box 139 tT21,.box 36 tT21] })],cuts:=[(15,[(23,{ keep:=[(7,(.bx 0 0)),(9,(.bx 1 0)),(87,.bool)],mem:=[.box 139 tT21,.box 36 tT21] })])],ro:=[],news:=[] }
def jL (a0:List vV5) (a1:List (List vV2×Unit)) (y10:(Int×vV8×vV8×Unit)):Option ((Int×vV8×vV8×Unit)⊕Bool) :=
 cond (decide (y10.1<(a1.length:Int))) (
(atI a1 y10.1).bind fun x9 =>
(zdt a0 x9.1).bind fun r10 =>
(za4 r10 y10.2.1).bind fun q11 =>
(za3 r10 q11.2.1).bind fun q12 =>
((atI a1 y10.1).bind fun x13 =>
(zdo a0 x13.1).bind fun r14 =>
(za0 r14 y10.2.2.1).bind fun q15 =>
(zco q12.1 q15.1).bind fun r16 =>
 cond (!r16) (some (true,q12.2.1,q15.2.1,())) ((zay q12.2.1).bind fun q17 =>
(zbr q17.1).bind fun r18 =>
(zc3 r18 q15.2.1.2.1).bind fun r19 =>
 some ((!r19),q17.2.1,q15.2.1,())):Option (Bool×vV8×vV8×Unit)).bind fun v20 =>
 cond v20.1 (some (.inr false)) ((zaw v20.2.1).bind fun q21 =>
 cond (!decide (q21.1=v20.2.2.1.2.2.1)) (some (.inr false)) (cond (!(q11.1==(decide ((q12.1.length:Int)>0)))) (
 some (.inr false)) (
 some (.inl ((IntKind.wrap .i64 (y10.1+1)),q21.2.1,v20.2.2.1,())))))) (
((zcm).bind fun r22 =>
 some r22).map .inr)
def za1 (a0:List vV5) (a1:List (List vV2×Unit)) (a2:List (List UInt8)):Option Bool :=
(zc7 a0 a1).bind fun r1 =>
 cond (!r1) ((zcm).bind fun r2 =>
 some r2) ((zby a2).bind fun r3 =>
 cond (!r3) (
(zcm).bind fun r4 =>
 some r4) (
(zdn a2).bind fun p5 =>
 cond p5.1.isEmpty (
(zca a2).bind fun r23 =>
 cond (!decide (p5.2.1=r23)) (some false) (cond (!(true==(!decide (p5.2.1=0)))) (
 some false) (
 cond (!decide (p5.2.1=0)) (
(zcm).bind fun r24 =>
 some r24) (
 none)))) (
((p5.1.head? : Option vV8)).bind fun x6 =>
(zca a2).bind fun r7 =>
 cond (!decide (p5.2.1=r7)) (some false) (cond (!(false==(!decide (p5.2.1=0)))) (
 some false) (
 cond (!decide (p5.2.1=0)) (
(zcm).bind fun r8 =>
 some r8) (
 aH (jL a0 a1) (0,x6,(a2,[],0,()),())))))))
def uz:TFn:={ ps:=(.cons (.sl tT17) (.cons (.sl (.agg (.cons (.sl tT14) .unit))) tT22)),res:=.bool,fn:=fun v=>za1 v.1 v.2.1 v.2.2.1 }
def av0:TEnv:={ pure:=[(14,abt),(15,yN),(16,yG),(18,yK),(19,tV),(22,abd),(24,aaM),(25,uf),(26,yR)],look:=[],glob:=G0T,ty:=[],raw:=[(20,uw),(21,rC),(23,uA),(27,ur),(28,ry)],fresh:=[(17,aaO)] }
theorem avZ:runY Tryz.prog amP av1 av0 ayW Tryz.f3 uz.ps uz.res=uz.fn:=by kernel_rfl
theorem amO:aA Tryz.prog G0 3 av2:=ai (ak ⟨au,(aj ajI (aj abD (aj abe (aj abq (aj tW (aj ai7 (aj ah7 (aj ug (aj abK ac))))))))),(bN aaN (bN amJ (bN acD (bN amQ (bN alv (bN ack ap)))))),ac,an⟩ Tryz.func3 rfl (by kernel_rfl))
theorem avY:TOk av2 uz:=az (E:=amP) (ET:=av0) (EnvT.ofX (ax (ah arj (ah ahe (ah ag7 (ah ahb (ah aaF (ah aqi (ah aoJ (ah abx (ah ahh al)))))))))) am (mh (ck avN rfl rfl (ck aho rfl rfl (ck av3 rfl rfl (ck at7 rfl rfl (ck ahn rfl rfl ar))))) rfl) aJ (mD ag1 rfl rfl rfl aq) (gV gb rfl rfl rfl (gV ga rfl rfl rfl (gV dg rfl rfl rfl mj)))) avZ rfl
def alJ:Env:=(eZ [(32,yF),(76,ae9)] [274])
def aux:Hints:=(hZ [] [])
def alI:PFn:=aF (runF Tryz.prog alJ aux Tryz.f21)
def ayC:TH:=yZ
def zas (a0:Unit) (a1:List vV6):Option (List vV7) :=
 some []
def acp:TFn:={ ps:=(.cons .nilp (.cons (.sl tT19) .unit)),res:=(.sl tT18),fn:=fun v=>zas v.1 v.2.1 }
def auw:TEnv:=(vZ [(32,rk),(76,yI)])
theorem auv:runY Tryz.prog alJ aux auw ayC Tryz.f21 acp.ps acp.res=acp.fn:=by kernel_rfl
theorem alH:aA Tryz.prog G0 21 alI:=ai (ak ⟨au,(aj po (aj abj ac)),ap,ac,an⟩ Tryz.func21 rfl (by kernel_rfl))
theorem auu:TOk alI acp:=az (E:=alJ) (ET:=auw) (EnvT.ofX (ax (ah ww (ah ag9 al))) am ar aJ aq) auv rfl
def alD:Env:=(eZ [] [274])
def aup:Hints:=(hZ [] [])
def alC:PFn:=aF (runF Tryz.prog alD aup Tryz.f27)
def ayA:TH:=yZ
def zau (a0:Unit):Option (List vV0) :=
 some []
def acn:TFn:={ ps:=(.cons .nilp .unit),res:=(.sl tT12),fn:=fun v=>zau v.1 }
def auo:TEnv:=(vZ [])
theorem aum:runY Tryz.prog alD aup auo ayA Tryz.f27 acn.ps acn.res=acn.fn:=by kernel_rfl
theorem alB:aA Tryz.prog G0 27 alC:=ai (ak ⟨au,ac,ap,ac,an⟩ Tryz.func27 rfl (by kernel_rfl))
theorem aul:TOk alC acn:=az (E:=alD) (ET:=auo) (EnvT.ofX (ax al) am ar aJ aq) aum rfl
def alM:Env:=(eZ [] [274])
def auB:Hints:=(hZ [] [])
def alL:PFn:=aF (runF Tryz.prog alM auB Tryz.f28)
def ayD:TH:=yZ
def zar (a0:Unit):Option Int :=
 some 0
def acq:TFn:={ ps:=(.cons .nilp .unit),res:=(.int .i64),fn:=fun v=>zar v.1 }
def auA:TEnv:=(vZ [])
theorem auz:runY Tryz.prog alM auB auA ayD Tryz.f28 acq.ps acq.res=acq.fn:=by kernel_rfl
theorem alK:aA Tryz.prog G0 28 alL:=ai (ak ⟨au,ac,ap,ac,an⟩ Tryz.func28 rfl (by kernel_rfl))
theorem auy:TOk alL acq:=az (E:=alM) (ET:=auA) (EnvT.ofX (ax al) am ar aJ aq) auz rfl
def alG:Env:=(eZ [(31,aaQ),(32,yF)] [274])
def aut:Hints:=(hZ [] [])
def alF:PFn:=aF (runF Tryz.prog alG aut Tryz.f20)
def ayB:TH:=yZ
def zat (a0:Unit) (a1:List vV6):Option Bool :=
 some false
def aco:TFn:={ ps:=(.cons .nilp (.cons (.sl tT19) .unit)),res:=.bool,fn:=fun v=>zat v.1 v.2.1 }
def aus:TEnv:=(vZ [(31,tZ),(32,rk)])
theorem aur:runY Tryz.prog alG aut aus ayB Tryz.f20 aco.ps aco.res=aco.fn:=by kernel_rfl
theorem alE:aA Tryz.prog G0 20 alF:=ai (ak ⟨au,(aj t8 (aj po ac)),ap,ac,an⟩ Tryz.func20 rfl (by kernel_rfl))
theorem auq:TOk alF aco:=az (E:=alG) (ET:=aus) (EnvT.ofX (ax (ah aaP (ah ww al))) am ar aJ aq) aur rfl
def amH:Env:=(eZ [(16,ae7),(19,aaG),(20,alF),(21,alI),(27,alC),(28,alL),(29,ae5)] [274])
def avI:Hints:=(hZ [] [])
def avJ:PFn:=aF (runF Tryz.prog amH avI Tryz.f4)
def ayR:TH:={ loops:=[],cuts:=[(5,[(11,{ keep:=[(21,.bool)],mem:=[] })])],ro:=[],news:=[] }
def za6 (a0:List vV5):Option Bool :=
(zct a0 []).bind fun r1 =>
 cond (!r1) (
(zcm).bind fun r2 =>
 some r2) (
(zdt a0 []).bind fun r3 =>
((zas () r3).bind fun r4 =>
 cond (decide ((r4.length:Int)=0)) ((zau ()).bind fun r5 =>
 some ((decide ((r5.length:Int)=0)),())) (some (false,())):Option (Bool×Unit)).bind fun v6 =>
 cond v6.1 ((zar ()).bind fun r7 =>
 cond (decide (r7=0)) ((zat () r3).bind fun r8 =>
 cond (!r8) ((zcm).bind fun r9 =>
 some r9) (some false)) (some false)) (some false))
def ut:TFn:={ ps:=(.cons (.sl tT17) .unit),res:=.bool,fn:=fun v=>za6 v.1 }
def avH:TEnv:=(vZ [(16,yG),(19,tV),(20,aco),(21,acp),(27,acn),(28,acq),(29,yD)])
theorem avG:runY Tryz.prog amH avI avH ayR Tryz.f4 ut.ps ut.res=ut.fn:=by kernel_rfl
theorem za6_Fok:aA Tryz.prog G0 4 avJ:=ai (ak ⟨au,(aj abe (aj tW (aj alE (aj alH (aj alB (aj alK (aj aa9 ac))))))),ap,ac,an⟩ Tryz.func4 rfl (by kernel_rfl))
theorem za6_ok:TOk avJ ut:=az (E:=amH) (ET:=avH) (EnvT.ofX (ax (ah ag7 (ah aaF (ah auq (ah auu (ah aul (ah auy (ah ag5 al)))))))) am ar aJ aq) avG rfl
end
end Go.Proofs.YtnbgkhdcidbkaaaGreatDoor.Y
