import Derived.Test.YtnbgkhdcidbkaaaGreatDoorS
import Derived.Test.YtnbgkhdcidbkaaaGreatDoorT29
import GoSem.PinnedTables
set_option linter.unusedVariables false
set_option maxRecDepth 100000
namespace Go.Proofs.YtnbgkhdcidbkaaaGreatDoor.Y
open Go.EM Go.TY Go.Proofs
theorem zb.{u,v}{A:Type u}{B:Type v} (a:A) (f:A→Option B):(some a).bind f=f a:=rfl
theorem zg.{u}{A:Type u}{l:List A}{i:Nat} (h:i<l.length):l[i]? = some l[i]:=List.getElem?_eq_getElem h
theorem zl.{u}{A:Type u}{a:A}{l:List A}:(a::l).length=l.length+1:=rfl
theorem zf {p:Prop} [Decidable p] (h:¬p):decide p=false:=decide_eq_false h
theorem zn.{u}{c:Prop}{h:Decidable c} (hc:¬c) {A:Sort u}{t e:A}:ite c t e=e:=if_neg hc
theorem zp.{u}{c:Prop}{h:Decidable c} (hc:c) {A:Sort u}{t e:A}:ite c t e=t:=if_pos hc
theorem zm.{u}{A:Type u}{l:List A}{n:Nat} (h:n<l.length):l[n]∈l:=List.getElem_mem h
theorem zt {p:Prop} [Decidable p] (h:p):decide p=true:=decide_eq_true h
noncomputable section
def gC:List Int:=Go.Pinned.utf8FirstZ.map fun (n:Nat)=>(n:Int)
def e9:List (Int×Int×Unit):=[(128,191,()),(160,191,()),(128,159,()),(144,191,()),(128,143,()),(0,0,()),(0,0,()),(0,0,()),(0,0,()),(0,0,()),(0,0,()),(0,0,()),(0,0,()),(0,0,()),(0,0,()),(0,0,())]
def G0:List (Nat×AVal):=[(0,.rptr (gC.map (AVal.int .u8))),(1,.rptr (e9.flatMap fun p=>[AVal.int .u8 p.1,AVal.int .u8 p.2.1]))]
def G0T:List (Nat×TV):=[(0,⟨.rp (.arr 256 (.int .u8)) 0,gC⟩),(1,⟨.rp (.arr 16 (.agg (.cons (.int .u8) (.cons (.int .u8) .unit)))) 0,e9⟩)]
theorem aQ:jW G0 G0T:=oa rfl rfl (abQ (by kernel_rfl)) (oa rfl rfl (xN (by kernel_rfl)) abP)
theorem ay:∀ f,memN f [274]=true→Same Tryz.prog f:=by
 intro f h
 by_cases e274:f=274
 · subst e274; exact ⟨Tryz.f274,Tryz.func274,by kernel_rfl,by kernel_rfl,by kernel_rfl,by kernel_rfl⟩
 simp_all [memN]
def eZ (l:List (Nat×PFn)) (s:List Nat):Env:={ pure:=l,raw:=[],glob:=G0,same:=s,look:=[],ext:=[] }
def vZ (l:List (Nat×TFn)):TEnv:={ pure:=l,look:=[],glob:=G0T,ty:=[],raw:=[],fresh:=[] }
def hZ (l:List (Nat×List Nat)) (o:List Nat):Hints:={ seqs:=[],loops:=l,own:=o }
def yZ:TH:={ joins:=[],loops:=[],cuts:=[],ro:=[],news:=[] }
abbrev vV0:=(List (List UInt8)×Int×List (Int×Int×List UInt8×Unit)×Int×Unit)
abbrev vV1:=(Int×List (List UInt8)×(Int×Int×List UInt8×Unit)×Int×List ((Int×Int×Unit)×Int×Unit)×Unit)
abbrev vV2:=((Int×Int×Unit)×Int×Unit)
abbrev vV3:=(Int×Int×List UInt8×Unit)
abbrev vV4:=((Int×Int×Unit)×Int×Int×Bool×List vV1×Unit)
abbrev vV5:=(List (List UInt8)×Int×Unit)
abbrev vV6:=(vV2×vV1×Int×Unit)
abbrev vV7:=(List (List UInt8)×List vV0×Int×Unit)
abbrev vV8:=(Int×vV0×vV0×Unit)
abbrev vV9:=(List (List UInt8)×List (List UInt8)×Unit)
abbrev vV10:=(Int×List (vV2×Bool)×Unit)
abbrev tT11:Ty:=(.agg (.cons (.sl .str) (.cons (.int .i64) (.cons (.sl (.agg (.cons (.int .i64) (.cons (.int .i64) (.cons .str .unit))))) (.cons (.int .i64) .unit)))))
abbrev tT12:Ty:=(.agg (.cons (.int .i64) (.cons (.sl .str) (.cons (.agg (.cons (.int .i64) (.cons (.int .i64) (.cons .str .unit)))) (.cons (.int .i64) (.cons (.sl (.agg (.cons (.agg (.cons (.int .i64) (.cons (.int .i64) .unit))) (.cons (.int .i64) .unit)))) .unit))))))
abbrev tT13:Ty:=(.agg (.cons (.agg (.cons (.int .i64) (.cons (.int .i64) .unit))) (.cons (.int .i64) .unit)))
abbrev tT14:Ty:=(.agg (.cons (.int .i64) (.cons (.int .i64) (.cons .str .unit))))
abbrev tT15:Ty:=(.cons (.int .i64) .unit)
abbrev tT16:Ty:=(.agg (.cons (.agg (.cons (.int .i64) tT15)) (.cons (.int .i64) (.cons (.int .i64) (.cons .bool (.cons (.sl tT12) .unit))))))
abbrev tT17:Ty:=(.agg (.cons (.sl .str) (.cons (.sl tT11) tT15)))
abbrev tT18:Ty:=(.agg (.cons tT13 (.cons tT12 tT15)))
abbrev tT19:Ty:=(.agg (.cons (.int .i64) (.cons tT11 (.cons tT11 .unit))))
abbrev tT20:Ty:=(.agg (.cons (.sl .str) tT15))
abbrev tT21:Ty:=(.cons (.sl .str) .unit)
def agc:Env:=(eZ [] [274])
def alV:Hints:=(hZ [] [])
def acR:PFn:=aH (runF Tryz.prog agc alV Tryz.f172)
def arm:TH:=yZ
def zca (a0:Int) (a1:Int):Option Int :=
 cond (decide (a0<a1)) (
 some (-1)) (
 cond (decide (a0>a1)) (
 some 1) (
 some 0))
def wK:TFn:={ ps:=(.cons (.int .i64) tT15),res:=(.int .i64),fn:=fun v=>zca v.1 v.2.1 }
def alU:TEnv:=(vZ [])
theorem alT:runY Tryz.prog agc alV alU arm Tryz.f172 wK.ps wK.res=wK.fn:=by kernel_rfl
theorem yR:aB Tryz.prog G0 172 acR:=ai (ak ⟨ay,ae,ap,ae,an⟩ Tryz.func172 rfl (by kernel_rfl))
theorem aeI:TOk acR wK:=aC (E:=agc) (ET:=alU) (EnvT.ofX (az al) am au aQ ar) alT rfl
def ahi:Env:=(eZ [(172,acR)] [274])
def anw:Hints:=(hZ [] [])
def zJ:PFn:=aH (runF Tryz.prog ahi anw Tryz.f101)
def arO:TH:={ loops:=[],ro:=[2,3] }
def zbb (a0:(Int×Int×Unit)) (a1:(Int×Int×Unit)):Option Int :=
 cond (!decide (a0.1=a1.1)) (
(zca a0.1 a1.1).bind fun r1 =>
 some r1) (
(zca a0.2.1 a1.2.1).bind fun r2 =>
 some r2)
def sI:TFn:={ ps:=(.cons (.agg (.cons (.int .i64) tT15)) (.cons (.agg (.cons (.int .i64) tT15)) .unit)),res:=(.int .i64),fn:=fun v=>zbb v.1 v.2.1 }
def anv:TEnv:=(vZ [(172,wK)])
theorem anu:runY Tryz.prog ahi anw anv arO Tryz.f101 sI.ps sI.res=sI.fn:=by kernel_rfl
theorem sJ:aB Tryz.prog G0 101 zJ:=ai (ak ⟨ay,(aj yR ae),ap,ae,an⟩ Tryz.func101 rfl (by kernel_rfl))
theorem zI:TOk zJ sI:=aC (E:=ahi) (ET:=anv) (EnvT.ofX (az (ah aeI al)) am au aQ ar) anu rfl
def agU:Env:=(eZ [(101,zJ)] [274])
def amS:Hints:=(hZ [(2,[0,3])] [])
def agT:PFn:=aH (runF Tryz.prog agU amS Tryz.f152)
def arD:TH:={ loops:=[(2,{ keep:=[(3,(.int .i64))],mem:=[] })],ro:=[] }
def uU (a0:List vV4) (y2:(Int×Unit)):Option ((Int×Unit)⊕Bool) :=
 cond (decide (y2.1<(a0.length:Int))) (
(atI a0 (IntKind.wrap .i64 (y2.1-1))).bind fun x1 =>
(atI a0 y2.1).bind fun x2 =>
(zbb x1.1 x2.1).bind fun r3 =>
 cond (!decide (r3=(-1))) (
 some (.inr false)) (
 some (.inl ((IntKind.wrap .i64 (y2.1+1)),())))) (
 some (.inr true))
def zbm (a0:List vV4):Option Bool :=
 aJ (uU a0) (1,())
def zu:TFn:={ ps:=(.cons (.sl tT16) .unit),res:=.bool,fn:=fun v=>zbm v.1 }
def amR:TEnv:=(vZ [(101,sI)])
theorem amQ:runY Tryz.prog agU amS amR arD Tryz.f152 zu.ps zu.res=zu.fn:=by kernel_rfl
theorem agS:aB Tryz.prog G0 152 agT:=ai (ak ⟨ay,(aj sJ ae),ap,ae,an⟩ Tryz.func152 rfl (by kernel_rfl))
theorem amP:TOk agT zu:=aC (E:=agU) (ET:=amR) (EnvT.ofX (az (ah zI al)) am au aQ ar) amQ rfl
def agV:Env:=(eZ [] [274])
def amV:Hints:=(hZ [(4,[0,3])] [])
def acU:PFn:=aH (runF Tryz.prog agV amV Tryz.f15)
def arE:TH:={ loops:=[(4,{ keep:=[(3,(.int .i64))],mem:=[] })],ro:=[] }
def uV (a0:List (List UInt8)) (y4:(Int×Unit)):Option ((Int×Unit)⊕Bool) :=
 cond (decide (y4.1<(a0.length:Int))) (
(atI a0 y4.1).bind fun x1 =>
 cond (decide ((x1.length:Int)>120)) (
 some (.inr false)) (
 some (.inl ((IntKind.wrap .i64 (y4.1+1)),())))) (
 some (.inr true))
def zbl (a0:List (List UInt8)):Option Bool :=
 cond (decide ((a0.length:Int)>12)) (
 some false) (
 aJ (uV a0) (0,()))
def wN:TFn:={ ps:=tT21,res:=.bool,fn:=fun v=>zbl v.1 }
def amU:TEnv:=(vZ [])
theorem amT:runY Tryz.prog agV amV amU arE Tryz.f15 wN.ps wN.res=wN.fn:=by kernel_rfl
theorem zw:aB Tryz.prog G0 15 acU:=ai (ak ⟨ay,ae,ap,ae,an⟩ Tryz.func15 rfl (by kernel_rfl))
theorem aeL:TOk acU wN:=aC (E:=agV) (ET:=amU) (EnvT.ofX (az al) am au aQ ar) amT rfl
def ahK:Env:=(eZ [(15,acU)] [274])
def aod:Hints:=(hZ [] [])
def ahJ:PFn:=aH (runF Tryz.prog ahK aod Tryz.f108)
def arZ:TH:={ loops:=[],ro:=[1] }
def zb0 (a0:vV1):Option Bool :=
(zbl a0.2.1).bind fun r1 =>
 cond r1 (cond (decide ((a0.2.2.1.2.2.1.length:Int)≤200)) (some (decide ((a0.2.2.2.2.1.length:Int)≤300))) (some false)) (some false)
def zV:TFn:={ ps:=(.cons tT12 .unit),res:=.bool,fn:=fun v=>zb0 v.1 }
def aoc:TEnv:=(vZ [(15,wN)])
theorem aob:runY Tryz.prog ahK aod aoc arZ Tryz.f108 zV.ps zV.res=zV.fn:=by kernel_rfl
theorem ahI:aB Tryz.prog G0 108 ahJ:=ai (ak ⟨ay,(aj zw ae),ap,ae,an⟩ Tryz.func108 rfl (by kernel_rfl))
theorem aoa:TOk ahJ zV:=aC (E:=ahK) (ET:=aoc) (EnvT.ofX (az (ah aeL al)) am au aQ ar) aob rfl
def agv:Env:=(eZ [(108,ahJ)] [274])
def amo:Hints:=(hZ [(4,[1,3])] [])
def agu:PFn:=aH (runF Tryz.prog agv amo Tryz.f41)
def arv:TH:={ loops:=[(4,{ keep:=[(1,(.bx 0 0)),(3,(.int .i64))],mem:=[.same] })],ro:=[1] }
def uQ (a0:vV4) (y4:(Int×Unit)):Option ((Int×Unit)⊕Bool) :=
 cond (decide (y4.1<(a0.2.2.2.2.1.length:Int))) (
(atI a0.2.2.2.2.1 y4.1).bind fun x1 =>
(zb0 x1).bind fun r2 =>
 cond (!r2) (
 some (.inr false)) (
 some (.inl ((IntKind.wrap .i64 (y4.1+1)),())))) (
 some (.inr true))
def zbu (a0:vV4):Option Bool :=
 cond (decide ((a0.2.2.2.2.1.length:Int)>20)) (
 some false) (
 aJ (uQ a0) (0,()))
def zd:TFn:={ ps:=(.cons tT16 .unit),res:=.bool,fn:=fun v=>zbu v.1 }
def amn:TEnv:=(vZ [(108,zV)])
theorem amm:runY Tryz.prog agv amo amn arv Tryz.f41 zd.ps zd.res=zd.fn:=by kernel_rfl
theorem agt:aB Tryz.prog G0 41 agu:=ai (ak ⟨ay,(aj ahI ae),ap,ae,an⟩ Tryz.func41 rfl (by kernel_rfl))
theorem aml:TOk agu zd:=aC (E:=agv) (ET:=amn) (EnvT.ofX (az (ah aoa al)) am au aQ ar) amm rfl
def ahA:Env:=(eZ [] [274])
def anY:Hints:=(hZ [] [])
def zR:PFn:=aH (runF Tryz.prog ahA anY Tryz.f109)
def arV:TH:={ loops:=[],ro:=[1] }
def zb4 (a0:(Int×Int×Unit)):Option Bool :=
 cond (decide (a0.1≥0)) (cond (decide (a0.1≤15)) (cond (decide (a0.2.1≥1)) (some (decide (a0.2.1≤1048576))) (some false)) (some false)) (some false)
def sK:TFn:={ ps:=(.cons (.agg (.cons (.int .i64) tT15)) .unit),res:=.bool,fn:=fun v=>zb4 v.1 }
def anX:TEnv:=(vZ [])
theorem anW:runY Tryz.prog ahA anY anX arV Tryz.f109 sK.ps sK.res=sK.fn:=by kernel_rfl
theorem sL:aB Tryz.prog G0 109 zR:=ai (ak ⟨ay,ae,ap,ae,an⟩ Tryz.func109 rfl (by kernel_rfl))
theorem zQ:TOk zR sK:=aC (E:=ahA) (ET:=anX) (EnvT.ofX (az al) am au aQ ar) anW rfl
def ahn:Env:=(eZ [] [274])
def anF:Hints:=(hZ [(17,[0,4,5,6,7])] [])
def ahm:PFn:=aH (runF Tryz.prog ahn anF Tryz.f216)
def arQ:TH:={ joins:=[(14,{ keep:=[(4,(.int .i64)),(5,(.int .i64)),(6,(.int .i64))],mem:=[] }),(9,{ keep:=[(18,.bool)],mem:=[] }),(22,{ keep:=[(4,(.int .i64))],mem:=[] }),(24,{ keep:=[],mem:=[] })],loops:=[(17,{ keep:=[(4,(.int .i64)),(7,(.int .i64))],mem:=[] })],ro:=[] }
def f9 (a0:List UInt8) (v3:(Int×Int×Int×Unit)) (y17:(Int×Int×Unit)):Option ((Int×Int×Unit)⊕((Int×Unit)⊕(Int×Int×Unit))) :=
 cond (decide (y17.2.1<v3.2.1)) (
(atI a0 y17.2.1).bind fun b4 =>
 cond (decide ((b4.toNat:Int)<128)) (some (.inr (.inr (0,0,())))) ((atI a0 y17.2.1).bind fun b5 =>
 cond (decide ((b5.toNat:Int)>191)) (
 some (.inr (.inr (0,0,())))) (
(atI a0 y17.2.1).bind fun b6 =>
 some (.inl ((IntKind.wrap .i64 ((IntKind.wrap .i64 ((IntKind.wrap .i64 (64*y17.1))+(IntKind.wrap .i64 (b6.toNat:Int))))-128)),(IntKind.wrap .i64 (y17.2.1+1)),()))))) (
 some (.inr (.inl (y17.1,()))))
def zb9 (a0:List UInt8):Option (Int×Int×Unit) :=
 cond (decide ((a0.length:Int)=0)) (
 some (0,0,())) (
(atI a0 0).bind fun b1 =>
(cond (decide ((IntKind.wrap .i64 (b1.toNat:Int))<128)) (
 some (.inr ((IntKind.wrap .i64 (b1.toNat:Int)),1,()))) (
(cond (decide ((IntKind.wrap .i64 (b1.toNat:Int))≥194)) (some (.inl ((decide ((IntKind.wrap .i64 (b1.toNat:Int))<224)),()))) (some (.inl (false,()))):Option ((Bool×Unit)⊕((Int×Int×Int×Unit)⊕(Int×Int×Unit)))).bind (be fun v2 =>
 cond v2.1 (
 some (.inl ((IntKind.wrap .i64 ((IntKind.wrap .i64 (b1.toNat:Int))-192)),2,128,()))) (
 cond (decide ((IntKind.wrap .i64 (b1.toNat:Int))≥224)) (cond (decide ((IntKind.wrap .i64 (b1.toNat:Int))<240)) (
 some (.inl ((IntKind.wrap .i64 ((IntKind.wrap .i64 (b1.toNat:Int))-224)),3,2048,()))) (
 cond (decide ((IntKind.wrap .i64 (b1.toNat:Int))≥240)) (cond (decide ((IntKind.wrap .i64 (b1.toNat:Int))<245)) (
 some (.inl ((IntKind.wrap .i64 ((IntKind.wrap .i64 (b1.toNat:Int))-240)),4,65536,()))) (
 some (.inr (0,0,())))) (some (.inr (0,0,()))))) (cond (decide ((IntKind.wrap .i64 (b1.toNat:Int))≥240)) (cond (decide ((IntKind.wrap .i64 (b1.toNat:Int))<245)) (
 some (.inl ((IntKind.wrap .i64 ((IntKind.wrap .i64 (b1.toNat:Int))-240)),4,65536,()))) (
 some (.inr (0,0,())))) (some (.inr (0,0,()))))))):Option ((Int×Int×Int×Unit)⊕(Int×Int×Unit))).bind (be fun v3 =>
 cond (decide ((a0.length:Int)<v3.2.1)) (
 some (0,0,())) (
(aJ (f9 a0 v3) (v3.1,1,()):Option ((Int×Unit)⊕(Int×Int×Unit))).bind (be fun v7 =>
(cond (decide (v7.1<v3.2.2.1)) (some (.inr (0,0,()))) (cond (decide (v7.1>1114111)) (some (.inr (0,0,()))) (cond (decide (v7.1≥55296)) (cond (decide (v7.1≤57343)) (
 some (.inr (0,0,()))) (
 some (.inl ()))) (some (.inl ())))):Option (Unit⊕(Int×Int×Unit))).bind (be fun v8 =>
 some (v7.1,v3.2.1,()))))))
def zL:TFn:={ ps:=(.cons .str .unit),res:=(.tup (.cons (.int .i64) tT15)),fn:=fun v=>zb9 v.1 }
def anE:TEnv:=(vZ [])
theorem anD:runY Tryz.prog ahn anF anE arQ Tryz.f216 zL.ps zL.res=zL.fn:=by kernel_rfl
theorem ahl:aB Tryz.prog G0 216 ahm:=ai (ak ⟨ay,ae,ap,ae,an⟩ Tryz.func216 rfl (by kernel_rfl))
theorem anC:TOk ahm zL:=aC (E:=ahn) (ET:=anE) (EnvT.ofX (az al) am au aQ ar) anD rfl
def agr:Env:=(eZ [(216,ahm)] [274])
def amh:Hints:=(hZ [(3,[0,4,5])] [])
def yY:PFn:=aH (runF Tryz.prog agr amh Tryz.f144)
def art:TH:={ loops:=[(3,{ keep:=[(4,(.own 0)),(5,(.int .i64))],mem:=[.row true 3 (.int .i64)] })],ro:=[] }
def mY (a0:List UInt8) (y3:(Int×List Int×Unit)):Option ((Int×List Int×Unit)⊕(List Int×Bool×Unit)) :=
 cond (decide (y3.1<(a0.length:Int))) (
(subI a0 y3.1 (a0.length:Int)).bind fun s1 =>
(zb9 s1).bind fun r2 =>
 cond (decide (r2.2.1=0)) (
 some (.inr ([],false,()))) (
(dN (y3.2.1.length+([r2.1]:List Int).length)).bind fun u3 =>
 some (.inl ((IntKind.wrap .i64 (y3.1+r2.2.1)),(y3.2.1++([r2.1]:List Int)),())))) (
 some (.inr (y3.2.1,true,())))
def zbw (a0:List UInt8):Option (List Int×Bool×Unit) :=
 aJ (mY a0) (0,[],())
def sG:TFn:={ ps:=(.cons .str .unit),res:=(.tup (.cons (.sl (.int .i64)) (.cons .bool .unit))),fn:=fun v=>zbw v.1 }
def amg:TEnv:={ pure:=[(216,zL)],look:=[],glob:=G0T,ty:=[(3,(.int .i64))],raw:=[],fresh:=[] }
theorem amf:runY Tryz.prog agr amh amg art Tryz.f144 sG.ps sG.res=sG.fn:=by kernel_rfl
theorem sH:aB Tryz.prog G0 144 yY:=ai (ak ⟨ay,(aj ahl ae),ap,ae,an⟩ Tryz.func144 rfl (by kernel_rfl))
theorem yX:TOk yY sG:=aC (E:=agr) (ET:=amg) (EnvT.ofX (az (ah anC al)) am au aQ ar) amf rfl
def afD:Env:=(eZ [] [274])
def ak1:Hints:=(hZ [] [])
def afC:PFn:=aH (runF Tryz.prog afD ak1 Tryz.f306)
def aq5:TH:=yZ
def zcp (a0:Int):Option Bool :=
 cond (decide (a0≥32)) (cond (decide (a0<127)) (some (!decide (a0=65533))) (cond (decide (a0>159)) (some (!decide (a0=65533))) (some false))) (some false)
def yC:TFn:={ ps:=tT15,res:=.bool,fn:=fun v=>zcp v.1 }
def ak0:TEnv:=(vZ [])
theorem akZ:runY Tryz.prog afD ak1 ak0 aq5 Tryz.f306 yC.ps yC.res=yC.fn:=by kernel_rfl
theorem afB:aB Tryz.prog G0 306 afC:=ai (ak ⟨ay,ae,ap,ae,an⟩ Tryz.func306 rfl (by kernel_rfl))
theorem akY:TOk afC yC:=aC (E:=afD) (ET:=ak0) (EnvT.ofX (az al) am au aQ ar) akZ rfl
def agF:Env:=(eZ [(144,yY),(306,afC)] [274])
def amy:Hints:=(hZ [(3,[3,4,5])] [])
def agE:PFn:=aH (runF Tryz.prog agF amy Tryz.f253)
def ary:TH:={ joins:=[(7,{ keep:=[],mem:=[] })],loops:=[(3,{ keep:=[(5,(.int .i64))],mem:=[] })],ro:=[] }
def qm (r1:(List Int×Bool×Unit)) (y3:(Int×Unit)):Option ((Int×Unit)⊕(Unit⊕Bool)) :=
 cond (decide (y3.1<(r1.1.length:Int))) (
(atI r1.1 y3.1).bind fun x2 =>
(zcp x2).bind fun r3 =>
 cond (!r3) (
 some (.inr (.inr false))) (
 some (.inl ((IntKind.wrap .i64 (y3.1+1)),())))) (
 some (.inr (.inl ())))
def zbr (a0:List UInt8):Option Bool :=
(zbw a0).bind fun r1 =>
(aJ (qm r1) (0,()):Option (Unit⊕Bool)).bind (be fun v4 =>
 cond r1.2.1 (cond (decide ((r1.1.length:Int)≥1)) (some (decide ((r1.1.length:Int)≤24))) (some false)) (some false))
def zj:TFn:={ ps:=(.cons .str .unit),res:=.bool,fn:=fun v=>zbr v.1 }
def amx:TEnv:=(vZ [(144,sG),(306,yC)])
theorem amw:runY Tryz.prog agF amy amx ary Tryz.f253 zj.ps zj.res=zj.fn:=by kernel_rfl
theorem agD:aB Tryz.prog G0 253 agE:=ai (ak ⟨ay,(aj sH (aj afB ae)),ap,ae,an⟩ Tryz.func253 rfl (by kernel_rfl))
theorem amv:TOk agE zj:=aC (E:=agF) (ET:=amx) (EnvT.ofX (az (ah yX (ah akY al))) am au aQ ar) amw rfl
def agI:Env:=(eZ [(253,agE)] [274])
def amC:Hints:=(hZ [(6,[0,3])] [])
def agH:PFn:=aH (runF Tryz.prog agI amC Tryz.f183)
def arz:TH:={ loops:=[(6,{ keep:=[(3,(.int .i64))],mem:=[] })],ro:=[] }
def uR (a0:List (List UInt8)) (y6:(Int×Unit)):Option ((Int×Unit)⊕Int) :=
 cond (decide (y6.1<(a0.length:Int))) (
(atI a0 y6.1).bind fun x1 =>
(zbr x1).bind fun r2 =>
 cond (!r2) (
 some (.inr 8)) (
 some (.inl ((IntKind.wrap .i64 (y6.1+1)),())))) (
 some (.inr 0))
def zbq (a0:List (List UInt8)):Option Int :=
 cond (decide ((a0.length:Int)=0)) (
 some 8) (
 cond (decide ((a0.length:Int)>8)) (
 some 9) (
 aJ (uR a0) (0,())))
def zk:TFn:={ ps:=tT21,res:=(.int .i64),fn:=fun v=>zbq v.1 }
def amB:TEnv:=(vZ [(253,zj)])
theorem amA:runY Tryz.prog agI amC amB arz Tryz.f183 zk.ps zk.res=zk.fn:=by kernel_rfl
theorem agG:aB Tryz.prog G0 183 agH:=ai (ak ⟨ay,(aj agD ae),ap,ae,an⟩ Tryz.func183 rfl (by kernel_rfl))
theorem amz:TOk agH zk:=aC (E:=agI) (ET:=amB) (EnvT.ofX (az (ah amv al)) am au aQ ar) amA rfl
def ahw:Env:=(eZ [(144,yY)] [274])
def anR:Hints:=(hZ [] [])
def ahv:PFn:=aH (runF Tryz.prog ahw anR Tryz.f184)
def arT:TH:={ loops:=[],ro:=[1] }
def zb6 (a0:vV3):Option Bool :=
 cond (decide (a0.1=1)) (
 cond (decide (a0.2.2.1=[])) (cond (decide (a0.2.1≥(-2147483647))) (some (decide (a0.2.1≤2147483647))) (some false)) (some false)) (
 cond (decide (a0.1=2)) (
(zbw a0.2.2.1).bind fun r1 =>
 cond (decide (a0.2.1=0)) (cond r1.2.1 (some (decide ((a0.2.2.1.length:Int)≤64))) (some false)) (some false)) (
 cond (decide (a0.1=3)) (cond (decide (a0.2.2.1=[])) (cond (decide (a0.2.1≥0)) (some (decide (a0.2.1≤1))) (some false)) (some false)) (some false)))
def zO:TFn:={ ps:=(.cons tT14 .unit),res:=.bool,fn:=fun v=>zb6 v.1 }
def anQ:TEnv:=(vZ [(144,sG)])
theorem anP:runY Tryz.prog ahw anR anQ arT Tryz.f184 zO.ps zO.res=zO.fn:=by kernel_rfl
theorem ahu:aB Tryz.prog G0 184 ahv:=ai (ak ⟨ay,(aj sH ae),ap,ae,an⟩ Tryz.func184 rfl (by kernel_rfl))
theorem anO:TOk ahv zO:=aC (E:=ahw) (ET:=anQ) (EnvT.ofX (az (ah yX al)) am au aQ ar) anP rfl
def afK:Env:=(eZ [(101,zJ),(172,acR)] [274])
def alc:Hints:=(hZ [] [])
def afJ:PFn:=aH (runF Tryz.prog afK alc Tryz.f254)
def aq8:TH:={ loops:=[],ro:=[2,3] }
def zcm (a0:vV2) (a1:vV2):Option Int :=
(zbb a0.1 a1.1).bind fun r1 =>
 cond (!decide (r1=0)) (
(zbb a0.1 a1.1).bind fun r2 =>
 some r2) (
(zca a0.2.1 a1.2.1).bind fun r3 =>
 some r3)
def yF:TFn:={ ps:=(.cons tT13 (.cons tT13 .unit)),res:=(.int .i64),fn:=fun v=>zcm v.1 v.2.1 }
def alb:TEnv:=(vZ [(101,sI),(172,wK)])
theorem ala:runY Tryz.prog afK alc alb aq8 Tryz.f254 yF.ps yF.res=yF.fn:=by kernel_rfl
theorem afI:aB Tryz.prog G0 254 afJ:=ai (ak ⟨ay,(aj sJ (aj yR ae)),ap,ae,an⟩ Tryz.func254 rfl (by kernel_rfl))
theorem ak9:TOk afJ yF:=aC (E:=afK) (ET:=alb) (EnvT.ofX (az (ah zI (ah aeI al))) am au aQ ar) ala rfl
def af8:Env:=(eZ [(109,zR),(254,afJ)] [274])
def alO:Hints:=(hZ [(2,[0,3])] [])
def af7:PFn:=aH (runF Tryz.prog af8 alO Tryz.f185)
def ark:TH:={ loops:=[(2,{ keep:=[(3,(.int .i64))],mem:=[] })],ro:=[] }
def uP (a0:List vV2) (y2:(Int×Unit)):Option ((Int×Unit)⊕Bool) :=
 cond (decide (y2.1<(a0.length:Int))) (
(atI a0 y2.1).bind fun x1 =>
(zb4 x1.1).bind fun r2 =>
 cond (!r2) (some (.inr false)) ((atI a0 y2.1).bind fun x3 =>
 cond (decide (x3.2.1<0)) (some (.inr false)) ((atI a0 y2.1).bind fun x4 =>
 cond (decide (x4.2.1>15)) (
 some (.inr false)) (
 cond (decide (y2.1>0)) ((atI a0 (IntKind.wrap .i64 (y2.1-1))).bind fun x5 =>
(atI a0 y2.1).bind fun x6 =>
(zcm x5 x6).bind fun r7 =>
 cond (!decide (r7=(-1))) (
 some (.inr false)) (
 some (.inl ((IntKind.wrap .i64 (y2.1+1)),())))) (some (.inl ((IntKind.wrap .i64 (y2.1+1)),()))))))) (
 some (.inr true))
def zcc (a0:List vV2):Option Bool :=
 aJ (uP a0) (0,())
def yP:TFn:={ ps:=(.cons (.sl tT13) .unit),res:=.bool,fn:=fun v=>zcc v.1 }
def alN:TEnv:=(vZ [(109,sK),(254,yF)])
theorem alM:runY Tryz.prog af8 alO alN ark Tryz.f185 yP.ps yP.res=yP.fn:=by kernel_rfl
theorem af6:aB Tryz.prog G0 185 af7:=ai (ak ⟨ay,(aj sL (aj afI ae)),ap,ae,an⟩ Tryz.func185 rfl (by kernel_rfl))
theorem alL:TOk af7 yP:=aC (E:=af8) (ET:=alN) (EnvT.ofX (az (ah zQ (ah ak9 al))) am au aQ ar) alM rfl
def agq:Env:=(eZ [(183,agH),(184,ahv),(185,af7)] [274])
def ame:Hints:=(hZ [] [])
def agp:PFn:=aH (runF Tryz.prog agq ame Tryz.f110)
def ars:TH:={ joins:=[(9,{ keep:=[(1,(.bx 0 0))],mem:=[.same,.gone] }),(11,{ keep:=[(1,(.bx 0 0))],mem:=[.same,.gone] }),(13,{ keep:=[(1,(.bx 0 0))],mem:=[.same,.gone] }),(15,{ keep:=[(1,(.bx 0 0))],mem:=[.same,.gone] })],loops:=[],cuts:=[(11,[(8,{ keep:=[(1,(.bx 0 0)),(55,.bool)],mem:=[.same,.gone] })])],ro:=[1],news:=[] }
def zbx (a0:vV1):Option Int :=
 cond (decide (a0.1<1)) (some 18) (cond (decide (a0.1>5)) (
 some 18) (
(zbq a0.2.1).bind fun r1 =>
 cond (!decide (r1=0)) (
 some r1) (
(cond (decide (a0.1=3)) (cond (!(eqV tT14 a0.2.2.1 (0,0,[],()))) (
 some (.inr 2)) (
 some (.inl ()))) (cond (decide (a0.1=5)) (cond (!(eqV tT14 a0.2.2.1 (0,0,[],()))) (
 some (.inr 2)) (
 some (.inl ()))) (some (.inl ()))):Option (Unit⊕Int)).bind (be fun v2 =>
(cond (!decide (a0.1=3)) (cond (!decide (a0.1=5)) ((zb6 a0.2.2.1).bind fun r3 =>
 cond (!r3) (
 some (.inr 2)) (
 some (.inl ()))) (some (.inl ()))) (some (.inl ())):Option (Unit⊕Int)).bind (be fun v4 =>
((cond (!decide (a0.1=3)) (some ((!decide (a0.2.2.2.1=0)),())) (some (false,())):Option (Bool×Unit)).bind fun v5 =>
 cond v5.1 (some (.inr 2)) (cond (decide (a0.1=3)) (cond (decide (a0.2.2.2.1=0)) (some (.inr 2)) (cond (decide (a0.2.2.2.1>2147483647)) (some (.inr 2)) (cond (decide (a0.2.2.2.1<(-2147483647))) (
 some (.inr 2)) (
 some (.inl ()))))) (some (.inl ()))):Option (Unit⊕Int)).bind (be fun v6 =>
(cond (decide (a0.1=2)) (cond (decide ((a0.2.2.2.2.1.length:Int)>0)) (
 some (.inr 2)) (
 some (.inl ()))) (cond (decide (a0.1=3)) (cond (decide ((a0.2.2.2.2.1.length:Int)>0)) (
 some (.inr 2)) (
 some (.inl ()))) (some (.inl ()))):Option (Unit⊕Int)).bind (be fun v7 =>
 cond (decide ((a0.2.2.2.2.1.length:Int)>256)) (
 some 7) (
(zcc a0.2.2.2.2.1).bind fun r8 =>
 cond (!r8) (
 some 2) (
 some 0)))))))))
def yW:TFn:={ ps:=(.cons tT12 .unit),res:=(.int .i64),fn:=fun v=>zbx v.1 }
def amd:TEnv:=(vZ [(183,zk),(184,zO),(185,yP)])
theorem amc:runY Tryz.prog agq ame amd ars Tryz.f110 yW.ps yW.res=yW.fn:=by kernel_rfl
theorem ago:aB Tryz.prog G0 110 agp:=ai (ak ⟨ay,(aj agG (aj ahu (aj af6 ae))),ap,ae,an⟩ Tryz.func110 rfl (by kernel_rfl))
theorem amb:TOk agp yW:=aC (E:=agq) (ET:=amd) (EnvT.ofX (az (ah amz (ah anO (ah alL al)))) am au aQ ar) amc rfl
def af5:Env:=(eZ [] [274])
def alK:Hints:=(hZ [] [])
def af4:PFn:=aH (runF Tryz.prog af5 alK Tryz.f111)
def arj:TH:={ loops:=[],cuts:=[(2,[(9,{ keep:=[(1,(.bx 0 0)),(3,(.bx 1 0)),(13,.bool)],mem:=[.same,.box 132 tT14] })])],ro:=[1],news:=[] }
def zcd (a0:vV1):Option Bool :=
(cond (decide (a0.1=0)) (some ((decide ((a0.2.1.length:Int)=0)),(0,0,[],()),())) (some (false,(0,0,[],()),())):Option (Bool×vV3×Unit)).bind fun v1 =>
 cond v1.1 (cond (eqV tT14 a0.2.2.1 v1.2.1) (cond (decide (a0.2.2.2.1=0)) (some (decide ((a0.2.2.2.2.1.length:Int)=0))) (some false)) (some false)) (some false)
def yO:TFn:={ ps:=(.cons tT12 .unit),res:=.bool,fn:=fun v=>zcd v.1 }
def alJ:TEnv:=(vZ [])
theorem alI:runY Tryz.prog af5 alK alJ arj Tryz.f111 yO.ps yO.res=yO.fn:=by kernel_rfl
theorem af3:aB Tryz.prog G0 111 af4:=ai (ak ⟨ay,ae,ap,ae,an⟩ Tryz.func111 rfl (by kernel_rfl))
theorem alH:TOk af4 yO:=aC (E:=af5) (ET:=alJ) (EnvT.ofX (az al) am au aQ ar) alI rfl
def agn:Env:=(eZ [(109,zR),(110,agp),(111,af4)] [274])
def ama:Hints:=(hZ [(8,[1,3])] [])
def agm:PFn:=aH (runF Tryz.prog agn ama Tryz.f42)
def arq:TH:={ loops:=[(8,{ keep:=[(1,(.bx 0 0)),(3,(.int .i64))],mem:=[.same] })],cuts:=[(1,[(9,{ keep:=[(1,(.bx 0 0)),(13,.bool)],mem:=[.same] })])],ro:=[1],news:=[] }
def ql (a0:vV4) (y8:(Int×Unit)):Option ((Int×Unit)⊕Int) :=
 cond (decide (y8.1<(a0.2.2.2.2.1.length:Int))) (
(atI a0.2.2.2.2.1 y8.1).bind fun x3 =>
(zbx x3).bind fun r4 =>
 cond (!decide (r4=0)) (cond a0.2.2.2.1 ((atI a0.2.2.2.2.1 y8.1).bind fun x5 =>
(zcd x5).bind fun r6 =>
 cond (!r6) (
 some (.inr r4)) (
 some (.inl ((IntKind.wrap .i64 (y8.1+1)),())))) (some (.inr r4))) (some (.inl ((IntKind.wrap .i64 (y8.1+1)),())))) (
 some (.inr 0))
def zby (a0:vV4):Option Int :=
((zb4 a0.1).bind fun r1 =>
 cond (!r1) (some (true,())) (some ((decide (a0.2.1<0)),())):Option (Bool×Unit)).bind fun v2 =>
 cond v2.1 (some 2) (cond (decide (a0.2.1>7)) (some 2) (cond (decide (a0.2.2.1<1)) (some 2) (cond (decide (a0.2.2.1>1099511627776)) (
 some 2) (
 cond (decide ((a0.2.2.2.2.1.length:Int)=0)) (
 some 11) (
 cond (decide ((a0.2.2.2.2.1.length:Int)>16)) (
 some 7) (
 aJ (ql a0) (0,())))))))
def yV:TFn:={ ps:=(.cons tT16 .unit),res:=(.int .i64),fn:=fun v=>zby v.1 }
def al9:TEnv:=(vZ [(109,sK),(110,yW),(111,yO)])
theorem al8:runY Tryz.prog agn ama al9 arq Tryz.f42 yV.ps yV.res=yV.fn:=by kernel_rfl
theorem agl:aB Tryz.prog G0 42 agm:=ai (ak ⟨ay,(aj sL (aj ago (aj af3 ae))),ap,ae,an⟩ Tryz.func42 rfl (by kernel_rfl))
theorem al7:TOk agm yV:=aC (E:=agn) (ET:=al9) (EnvT.ofX (az (ah zQ (ah amb (ah alH al)))) am au aQ ar) al8 rfl
def afV:Env:=(eZ [(41,agu),(42,agm),(152,agT)] [274])
def alv:Hints:=(hZ [(4,[0,5])] [])
def afU:PFn:=aH (runF Tryz.prog afV alv Tryz.f82)
def ard:TH:={ loops:=[(4,{ keep:=[(5,(.int .i64))],mem:=[] })],ro:=[] }
def uN (a0:List vV4) (y4:(Int×Unit)):Option ((Int×Unit)⊕Bool) :=
 cond (decide (y4.1<(a0.length:Int))) (
(atI a0 y4.1).bind fun x2 =>
(zbu x2).bind fun r3 =>
 cond (!r3) (some (.inr false)) ((atI a0 y4.1).bind fun x4 =>
(zby x4).bind fun r5 =>
 cond (!decide (r5=0)) (
 some (.inr false)) (
 some (.inl ((IntKind.wrap .i64 (y4.1+1)),()))))) (
 some (.inr true))
def zch (a0:List vV4) (a1:Int):Option Bool :=
 cond (decide ((a0.length:Int)>a1)) (some false) ((zbm a0).bind fun r1 =>
 cond (!r1) (
 some false) (
 aJ (uN a0) (0,())))
def yK:TFn:={ ps:=(.cons (.sl tT16) tT15),res:=.bool,fn:=fun v=>zch v.1 v.2.1 }
def alu:TEnv:=(vZ [(41,zd),(42,yV),(152,zu)])
theorem alt:runY Tryz.prog afV alv alu ard Tryz.f82 yK.ps yK.res=yK.fn:=by kernel_rfl
theorem afT:aB Tryz.prog G0 82 afU:=ai (ak ⟨ay,(aj agt (aj agl (aj agS ae))),ap,ae,an⟩ Tryz.func82 rfl (by kernel_rfl))
theorem als:TOk afU yK:=aC (E:=afV) (ET:=alu) (EnvT.ofX (az (ah aml (ah al7 (ah amP al)))) am au aQ ar) alt rfl
def afG:Env:=(eZ [(109,zR)] [274])
def ak5:Hints:=(hZ [] [])
def afF:PFn:=aH (runF Tryz.prog afG ak5 Tryz.f224)
def aq6:TH:={ loops:=[],ro:=[1] }
def zco (a0:vV2):Option Bool :=
(zb4 a0.1).bind fun r1 =>
 cond r1 (cond (decide (a0.2.1≥1)) (some (decide (a0.2.1≤64))) (some false)) (some false)
def yD:TFn:={ ps:=(.cons tT13 .unit),res:=.bool,fn:=fun v=>zco v.1 }
def ak4:TEnv:=(vZ [(109,sK)])
theorem ak3:runY Tryz.prog afG ak5 ak4 aq6 Tryz.f224 yD.ps yD.res=yD.fn:=by kernel_rfl
theorem afE:aB Tryz.prog G0 224 afF:=ai (ak ⟨ay,(aj sL ae),ap,ae,an⟩ Tryz.func224 rfl (by kernel_rfl))
theorem ak2:TOk afF yD:=aC (E:=afG) (ET:=ak4) (EnvT.ofX (az (ah zQ al)) am au aQ ar) ak3 rfl
def agR:Env:=(eZ [(101,zJ),(224,afF)] [274])
def amO:Hints:=(hZ [(2,[0,3])] [])
def agQ:PFn:=aH (runF Tryz.prog agR amO Tryz.f153)
def arC:TH:={ loops:=[(2,{ keep:=[(3,(.int .i64))],mem:=[] })],ro:=[] }
def uT (a0:List vV2) (y2:(Int×Unit)):Option ((Int×Unit)⊕Bool) :=
 cond (decide (y2.1<(a0.length:Int))) (
(atI a0 y2.1).bind fun x1 =>
(zco x1).bind fun r2 =>
 cond (!r2) (some (.inr false)) (cond (decide (y2.1>0)) ((atI a0 (IntKind.wrap .i64 (y2.1-1))).bind fun x3 =>
(atI a0 y2.1).bind fun x4 =>
(zbb x3.1 x4.1).bind fun r5 =>
 cond (!decide (r5=(-1))) (
 some (.inr false)) (
 some (.inl ((IntKind.wrap .i64 (y2.1+1)),())))) (some (.inl ((IntKind.wrap .i64 (y2.1+1)),()))))) (
 some (.inr true))
def zbn (a0:List vV2):Option Bool :=
 aJ (uT a0) (0,())
def zr:TFn:={ ps:=(.cons (.sl tT13) .unit),res:=.bool,fn:=fun v=>zbn v.1 }
def amN:TEnv:=(vZ [(101,sI),(224,yD)])
theorem amM:runY Tryz.prog agR amO amN arC Tryz.f153 zr.ps zr.res=zr.fn:=by kernel_rfl
theorem agP:aB Tryz.prog G0 153 agQ:=ai (ak ⟨ay,(aj sJ (aj afE ae)),ap,ae,an⟩ Tryz.func153 rfl (by kernel_rfl))
theorem amL:TOk agQ zr:=aC (E:=agR) (ET:=amN) (EnvT.ofX (az (ah zI (ah ak2 al))) am au aQ ar) amM rfl
def afN:Env:=(eZ [(153,agQ)] [274])
def alg:Hints:=(hZ [] [])
def afM:PFn:=aH (runF Tryz.prog afN alg Tryz.f83)
def aq9:TH:=yZ
def zcl (a0:List vV2):Option Bool :=
 cond (decide ((a0.length:Int)≤100)) ((zbn a0).bind fun r1 =>
 some r1) (some false)
def yG:TFn:={ ps:=(.cons (.sl tT13) .unit),res:=.bool,fn:=fun v=>zcl v.1 }
def alf:TEnv:=(vZ [(153,zr)])
theorem ale:runY Tryz.prog afN alg alf aq9 Tryz.f83 yG.ps yG.res=yG.fn:=by kernel_rfl
theorem afL:aB Tryz.prog G0 83 afM:=ai (ak ⟨ay,(aj agP ae),ap,ae,an⟩ Tryz.func83 rfl (by kernel_rfl))
theorem ald:TOk afM yG:=aC (E:=afN) (ET:=alf) (EnvT.ofX (az (ah amL al)) am au aQ ar) ale rfl
def afY:Env:=(eZ [(82,afU),(83,afM)] [274])
def alz:Hints:=(hZ [] [])
def afX:PFn:=aH (runF Tryz.prog afY alz Tryz.f29)
def arf:TH:=yZ
def zcg (a0:List vV4) (a1:List vV2):Option Bool :=
(zch a0 20).bind fun r1 =>
 cond r1 ((zcl a1).bind fun r2 =>
 some r2) (some false)
def yL:TFn:={ ps:=(.cons (.sl tT16) (.cons (.sl tT13) .unit)),res:=.bool,fn:=fun v=>zcg v.1 v.2.1 }
def aly:TEnv:=(vZ [(82,yK),(83,yG)])
theorem alx:runY Tryz.prog afY alz aly arf Tryz.f29 yL.ps yL.res=yL.fn:=by kernel_rfl
theorem afW:aB Tryz.prog G0 29 afX:=ai (ak ⟨ay,(aj afT (aj afL ae)),ap,ae,an⟩ Tryz.func29 rfl (by kernel_rfl))
theorem alw:TOk afX yL:=aC (E:=afY) (ET:=aly) (EnvT.ofX (az (ah als (ah ald al))) am au aQ ar) alx rfl
def af2:Env:=(eZ [(29,afX)] [274])
def alG:Hints:=(hZ [(4,[0,1,5])] [])
def af1:PFn:=aH (runF Tryz.prog af2 alG Tryz.f14)
def ari:TH:={ loops:=[(4,{ keep:=[(5,(.int .i64))],mem:=[] })],ro:=[] }
def uO (a0:List vV4) (a1:List (List vV2×Unit)) (y4:(Int×Unit)):Option ((Int×Unit)⊕Bool) :=
 cond (decide (y4.1<(a1.length:Int))) (
(atI a1 y4.1).bind fun x1 =>
(zcg a0 x1.1).bind fun r2 =>
 cond (!r2) (
 some (.inr false)) (
 some (.inl ((IntKind.wrap .i64 (y4.1+1)),())))) (
 some (.inr true))
def zce (a0:List vV4) (a1:List (List vV2×Unit)):Option Bool :=
 cond (decide ((a1.length:Int)>6)) (
 some false) (
 aJ (uO a0 a1) (0,()))
def yN:TFn:={ ps:=(.cons (.sl tT16) (.cons (.sl (.agg (.cons (.sl tT13) .unit))) .unit)),res:=.bool,fn:=fun v=>zce v.1 v.2.1 }
def alF:TEnv:=(vZ [(29,yL)])
theorem alE:runY Tryz.prog af2 alG alF ari Tryz.f14 yN.ps yN.res=yN.fn:=by kernel_rfl
theorem af0:aB Tryz.prog G0 14 af1:=ai (ak ⟨ay,(aj afW ae),ap,ae,an⟩ Tryz.func14 rfl (by kernel_rfl))
theorem alD:TOk af1 yN:=aC (E:=af2) (ET:=alF) (EnvT.ofX (az (ah alw al)) am au aQ ar) alE rfl
def ahP:Env:=(eZ [] [274])
def aol:Hints:=(hZ [] [])
def ahO:PFn:=aH (runF Tryz.prog ahP aol Tryz.f328)
def ar1:TH:=yZ
def zay (a0:List UInt8):Option Int :=
(atI a0 0).bind fun b1 =>
(atI a0 1).bind fun b2 =>
(shlT .u64 (IntKind.wrap .u64 (b2.toNat:Int)) 8).bind fun t3 =>
(atI a0 2).bind fun b4 =>
(shlT .u64 (IntKind.wrap .u64 (b4.toNat:Int)) 16).bind fun t5 =>
(atI a0 3).bind fun b6 =>
(shlT .u64 (IntKind.wrap .u64 (b6.toNat:Int)) 24).bind fun t7 =>
(atI a0 4).bind fun b8 =>
(shlT .u64 (IntKind.wrap .u64 (b8.toNat:Int)) 32).bind fun t9 =>
(atI a0 5).bind fun b10 =>
(shlT .u64 (IntKind.wrap .u64 (b10.toNat:Int)) 40).bind fun t11 =>
(atI a0 6).bind fun b12 =>
(shlT .u64 (IntKind.wrap .u64 (b12.toNat:Int)) 48).bind fun t13 =>
(atI a0 7).bind fun b14 =>
(shlT .u64 (IntKind.wrap .u64 (b14.toNat:Int)) 56).bind fun t15 =>
 some (IntKind.wrap .u64 ((BitVec.ofInt (IntKind.bits .u64) (IntKind.wrap .u64 ((BitVec.ofInt (IntKind.bits .u64) (IntKind.wrap .u64 ((BitVec.ofInt (IntKind.bits .u64) (IntKind.wrap .u64 ((BitVec.ofInt (IntKind.bits .u64) (IntKind.wrap .u64 ((BitVec.ofInt (IntKind.bits .u64) (IntKind.wrap .u64 ((BitVec.ofInt (IntKind.bits .u64) (IntKind.wrap .u64 ((BitVec.ofInt (IntKind.bits .u64) (IntKind.wrap .u64 (b1.toNat:Int)) ||| BitVec.ofInt (IntKind.bits .u64) t3).toNat)) ||| BitVec.ofInt (IntKind.bits .u64) t5).toNat)) ||| BitVec.ofInt (IntKind.bits .u64) t7).toNat)) ||| BitVec.ofInt (IntKind.bits .u64) t9).toNat)) ||| BitVec.ofInt (IntKind.bits .u64) t11).toNat)) ||| BitVec.ofInt (IntKind.bits .u64) t13).toNat)) ||| BitVec.ofInt (IntKind.bits .u64) t15).toNat))
def zW:TFn:={ ps:=(.cons .str .unit),res:=(.int .u64),fn:=fun v=>zay v.1 }
def aok:TEnv:=(vZ [])
theorem aoj:runY Tryz.prog ahP aol aok ar1 Tryz.f328 zW.ps zW.res=zW.fn:=by kernel_rfl
theorem ahN:aB Tryz.prog G0 328 ahO:=ai (ak ⟨ay,ae,ap,ae,an⟩ Tryz.func328 rfl (by kernel_rfl))
theorem aoi:TOk ahO zW:=aC (E:=ahP) (ET:=aok) (EnvT.ofX (az al) am au aQ ar) aoj rfl
def ai6:Env:=(eZ [(328,ahO)] [274])
def apZ:Hints:=(hZ [(1,[0]),(9,[0])] [])
def adl:PFn:=aH (runF Tryz.prog ai6 apZ Tryz.f281)
def asm:TH:={ joins:=[(11,{ keep:=[(0,.str),(3,(.int .u8))],mem:=[] })],loops:=[(1,{ keep:=[(0,.str)],mem:=[] }),(9,{ keep:=[(0,.str)],mem:=[] })],cuts:=[(21,[(10,{ keep:=[(6,(.bx 0 0)),(108,.bool)],mem:=[.box 367 (.agg (.cons (.int .u8) (.cons (.int .u8) .unit)))] })]),(25,[(10,{ keep:=[(6,(.bx 0 0)),(139,.bool)],mem:=[.box 367 (.agg (.cons (.int .u8) (.cons (.int .u8) .unit)))] }),(7,{ keep:=[(146,.bool)],mem:=[.gone] }),(5,{ keep:=[(151,.bool)],mem:=[.gone] })])],ro:=[],news:=[] }
def iv (y9:(List UInt8×Unit)):Option ((List UInt8×Unit)⊕((List UInt8×Int×Unit)⊕((List UInt8×Unit)⊕Bool))) :=
 cond (decide ((y9.1.length:Int)>32)) ((zay y9.1).bind fun r9 =>
(subI y9.1 8 (y9.1.length:Int)).bind fun s10 =>
(zay s10).bind fun r11 =>
(subI y9.1 16 (y9.1.length:Int)).bind fun s12 =>
(zay s12).bind fun r13 =>
(subI y9.1 24 (y9.1.length:Int)).bind fun s14 =>
(zay s14).bind fun r15 =>
 cond (decide ((IntKind.wrap .u64 ((BitVec.ofInt (IntKind.bits .u64) (IntKind.wrap .u64 ((BitVec.ofInt (IntKind.bits .u64) (IntKind.wrap .u64 ((BitVec.ofInt (IntKind.bits .u64) r9 ||| BitVec.ofInt (IntKind.bits .u64) r11).toNat)) ||| BitVec.ofInt (IntKind.bits .u64) (IntKind.wrap .u64 ((BitVec.ofInt (IntKind.bits .u64) r13 ||| BitVec.ofInt (IntKind.bits .u64) r15).toNat))).toNat)) &&& BitVec.ofInt (IntKind.bits .u64) 9259542123273814144).toNat))=0)) (
(subI y9.1 32 (y9.1.length:Int)).bind fun s16 =>
 some (.inl (s16,()))) (
 some (.inr (.inr (.inl (y9.1,())))))) (some (.inr (.inr (.inl (y9.1,())))))
def iw (y1:(List UInt8×Unit)):Option ((List UInt8×Unit)⊕Bool) :=
 cond (decide ((y1.1.length:Int)>0)) (
(atI y1.1 0).bind fun b1 =>
(cond (decide ((b1.toNat:Int)<128)) (
(subI y1.1 1 (y1.1.length:Int)).bind fun s2 =>
 cond (decide ((s2.length:Int)>8)) ((zay s2).bind fun r3 =>
 cond (decide ((IntKind.wrap .u64 ((BitVec.ofInt (IntKind.bits .u64) r3 &&& BitVec.ofInt (IntKind.bits .u64) 9259542123273814144).toNat))=0)) (
(subI s2 8 (s2.length:Int)).bind fun s4 =>
 cond (decide ((s4.length:Int)>16)) ((zay s4).bind fun r5 =>
(subI s4 8 (s4.length:Int)).bind fun s6 =>
(zay s6).bind fun r7 =>
 cond (decide ((IntKind.wrap .u64 ((BitVec.ofInt (IntKind.bits .u64) (IntKind.wrap .u64 ((BitVec.ofInt (IntKind.bits .u64) r5 ||| BitVec.ofInt (IntKind.bits .u64) r7).toNat)) &&& BitVec.ofInt (IntKind.bits .u64) 9259542123273814144).toNat))=0)) (
(subI s4 16 (s4.length:Int)).bind fun s8 =>
 aJ (iv) (s8,())) (
 some (.inr (.inl (s4,()))))) (some (.inr (.inl (s4,()))))) (
 some (.inr (.inl (s2,()))))) (some (.inr (.inl (s2,()))))) (
 some (.inl (y1.1,(b1.toNat:Int),()))):Option ((List UInt8×Int×Unit)⊕((List UInt8×Unit)⊕Bool))).bind (be fun v17 =>
(atI gC v17.2.1).bind fun x18 =>
(shrT .u8 x18 4).bind fun t19 =>
(atI e9 t19).bind fun x20 =>
 cond (decide ((IntKind.wrap .i64 (IntKind.wrap .u8 ((BitVec.ofInt (IntKind.bits .u8) x18 &&& BitVec.ofInt (IntKind.bits .u8) 7).toNat)))=2)) (
 cond (decide ((v17.1.length:Int)<2)) (some (.inr false)) ((atI v17.1 1).bind fun b21 =>
 cond (decide ((b21.toNat:Int)<x20.1)) (some (.inr false)) ((atI v17.1 1).bind fun b22 =>
 cond (decide (x20.2.1<(b22.toNat:Int))) (
 some (.inr false)) (
(subI v17.1 2 (v17.1.length:Int)).bind fun s23 =>
 some (.inl (s23,())))))) (
 cond (decide ((IntKind.wrap .i64 (IntKind.wrap .u8 ((BitVec.ofInt (IntKind.bits .u8) x18 &&& BitVec.ofInt (IntKind.bits .u8) 7).toNat)))=3)) (
(cond (decide ((v17.1.length:Int)<3)) (some (true,x20,())) ((atI v17.1 1).bind fun b24 =>
 some ((decide ((b24.toNat:Int)<x20.1)),x20,())):Option (Bool×(Int×Int×Unit)×Unit)).bind fun v25 =>
 cond v25.1 (some (.inr false)) ((atI v17.1 1).bind fun b26 =>
 cond (decide (v25.2.1.2.1<(b26.toNat:Int))) (some (.inr false)) ((atI v17.1 2).bind fun b27 =>
 cond (decide ((b27.toNat:Int)<128)) (some (.inr false)) ((atI v17.1 2).bind fun b28 =>
 cond (decide (191<(b28.toNat:Int))) (
 some (.inr false)) (
(subI v17.1 3 (v17.1.length:Int)).bind fun s29 =>
 some (.inl (s29,()))))))) (
 cond (decide ((IntKind.wrap .i64 (IntKind.wrap .u8 ((BitVec.ofInt (IntKind.bits .u8) x18 &&& BitVec.ofInt (IntKind.bits .u8) 7).toNat)))=4)) (
(cond (decide ((v17.1.length:Int)<4)) (some (true,x20,())) ((atI v17.1 1).bind fun b30 =>
 some ((decide ((b30.toNat:Int)<x20.1)),x20,())):Option (Bool×(Int×Int×Unit)×Unit)).bind fun v31 =>
(cond v31.1 (some (true,())) ((atI v17.1 1).bind fun b32 =>
 some ((decide (v31.2.1.2.1<(b32.toNat:Int))),())):Option (Bool×Unit)).bind fun v33 =>
(cond v33.1 (some (true,())) ((atI v17.1 2).bind fun b34 =>
 some ((decide ((b34.toNat:Int)<128)),())):Option (Bool×Unit)).bind fun v35 =>
 cond v35.1 (some (.inr false)) ((atI v17.1 2).bind fun b36 =>
 cond (decide (191<(b36.toNat:Int))) (some (.inr false)) ((atI v17.1 3).bind fun b37 =>
 cond (decide ((b37.toNat:Int)<128)) (some (.inr false)) ((atI v17.1 3).bind fun b38 =>
 cond (decide (191<(b38.toNat:Int))) (
 some (.inr false)) (
(subI v17.1 4 (v17.1.length:Int)).bind fun s39 =>
 some (.inl (s39,()))))))) (
 some (.inr false)))))) (
 some (.inr true))
def za3 (a0:List UInt8):Option Bool :=
 aJ (iw) (a0,())
def wS:TFn:={ ps:=(.cons .str .unit),res:=.bool,fn:=fun v=>za3 v.1 }
def apY:TEnv:=(vZ [(328,zW)])
theorem apX:runY Tryz.prog ai6 apZ apY asm Tryz.f281 wS.ps wS.res=wS.fn:=by kernel_rfl
theorem aam:aB Tryz.prog G0 281 adl:=ai (ak ⟨ay,(aj ahN ae),ap,ae,an⟩ Tryz.func281 rfl (by kernel_rfl))
theorem aeR:TOk adl wS:=aC (E:=ai6) (ET:=apY) (EnvT.ofX (az (ah aoi al)) am au aQ ar) apX rfl
def ahZ:Env:=(eZ [] [274])
def aoC:Hints:=(hZ [(2,[2,4])] [])
def ahY:PFn:=aH (runF Tryz.prog ahZ aoC Tryz.f282)
def ar5:TH:={ loops:=[(2,{ keep:=[(2,(.int .i64)),(4,(.it 0))],mem:=[.iter] })],ro:=[] }
def qp (a0:List UInt8) (y2:(Int×Nat×Unit)):Option ((Int×Nat×Unit)⊕Int) :=
 cond (decide (y2.2.1<a0.length)) (some (.inl ((IntKind.wrap .i64 (y2.1+1)),(y2.2.1+(Utf8.decode ⟨a0.toArray⟩ y2.2.1).2),()))) (some (.inr y2.1))
def zau (a0:List UInt8):Option Int :=
 aJ (qp a0) (0,0,())
def zZ:TFn:={ ps:=(.cons .str .unit),res:=(.int .i64),fn:=fun v=>zau v.1 }
def aoB:TEnv:=(vZ [])
theorem aoA:runY Tryz.prog ahZ aoC aoB ar5 Tryz.f282 zZ.ps zZ.res=zZ.fn:=by kernel_rfl
theorem ahX:aB Tryz.prog G0 282 ahY:=ai (ak ⟨ay,ae,ap,ae,an⟩ Tryz.func282 rfl (by kernel_rfl))
theorem aoz:TOk ahY zZ:=aC (E:=ahZ) (ET:=aoB) (EnvT.ofX (az al) am au aQ ar) aoA rfl
def ahb:Env:=(eZ [] [274])
def anl:Hints:=(hZ [] [])
def aha:PFn:=aH (runF Tryz.prog ahb anl Tryz.f283)
def arL:TH:=yZ
def zbe (a0:Int):Option Bool :=
 cond (decide (a0=42)) (some true) (cond (decide (a0=63)) (some true) (some (decide (a0=92))))
def zF:TFn:={ ps:=(.cons (.int .i32) .unit),res:=.bool,fn:=fun v=>zbe v.1 }
def ank:TEnv:=(vZ [])
theorem anj:runY Tryz.prog ahb anl ank arL Tryz.f283 zF.ps zF.res=zF.fn:=by kernel_rfl
theorem ag9:aB Tryz.prog G0 283 aha:=ai (ak ⟨ay,ae,ap,ae,an⟩ Tryz.func283 rfl (by kernel_rfl))
theorem ani:TOk aha zF:=aC (E:=ahb) (ET:=ank) (EnvT.ofX (az al) am au aQ ar) anj rfl
def afZ:Env:=(eZ [(281,adl),(282,ahY),(283,aha)] [274])
def alC:Hints:=(hZ [(6,[4,5,17])] [])
def acQ:PFn:=aH (runF Tryz.prog afZ alC Tryz.f215)
def arh:TH:={ joins:=[(18,{ keep:=[(4,(.own 1)),(5,.bool)],mem:=[.gone,.row true 336 (.agg (.cons (.int .i64) (.cons (.int .i32) .unit)))] }),(10,{ keep:=[(4,(.own 1)),(17,(.it 0)),(25,.bool)],mem:=[.iter,.row true 336 (.agg (.cons (.int .i64) (.cons (.int .i32) .unit)))] })],loops:=[(6,{ keep:=[(4,(.own 1)),(5,.bool),(17,(.it 0))],mem:=[.iter,.row true 336 (.agg (.cons (.int .i64) (.cons (.int .i32) .unit)))] })],ro:=[] }
def fT (a0:List UInt8) (y6:(Bool×Nat×List (Int×Int×Unit)×Unit)):Option ((Bool×Nat×List (Int×Int×Unit)×Unit)⊕((Bool×List (Int×Int×Unit)×Unit)⊕(List (Int×Int×Unit)×Bool×Unit))) :=
 cond (decide (y6.2.1<a0.length)) ((cond y6.1 ((zbe ((Utf8.decode ⟨a0.toArray⟩ y6.2.1).1:Int)).bind fun r3 =>
 some (.inl ((!r3),(y6.2.1+(Utf8.decode ⟨a0.toArray⟩ y6.2.1).2),y6.2.2.1,()))) (some (.inl (false,(y6.2.1+(Utf8.decode ⟨a0.toArray⟩ y6.2.1).2),y6.2.2.1,()))):Option ((Bool×Nat×List (Int×Int×Unit)×Unit)⊕((Bool×Nat×List (Int×Int×Unit)×Unit)⊕((Bool×List (Int×Int×Unit)×Unit)⊕(List (Int×Int×Unit)×Bool×Unit))))).bind (be fun v4 =>
 cond v4.1 (
 some (.inr (.inr ([],false,())))) (
 cond y6.1 ((dN (v4.2.2.1.length+([(0,((Utf8.decode ⟨a0.toArray⟩ y6.2.1).1:Int),())]:List (Int×Int×Unit)).length)).bind fun u5 =>
 some (.inl (false,v4.2.1,(v4.2.2.1++([(0,((Utf8.decode ⟨a0.toArray⟩ y6.2.1).1:Int),())]:List (Int×Int×Unit))),()))) ((zbe ((Utf8.decode ⟨a0.toArray⟩ y6.2.1).1:Int)).bind fun r6 =>
 cond (!r6) (
(dN (v4.2.2.1.length+([(0,((Utf8.decode ⟨a0.toArray⟩ y6.2.1).1:Int),())]:List (Int×Int×Unit)).length)).bind fun u7 =>
 some (.inl (false,v4.2.1,(v4.2.2.1++([(0,((Utf8.decode ⟨a0.toArray⟩ y6.2.1).1:Int),())]:List (Int×Int×Unit))),()))) (
 cond (decide (((Utf8.decode ⟨a0.toArray⟩ y6.2.1).1:Int)=92)) (
 some (.inl (true,v4.2.1,v4.2.2.1,()))) (
 cond (decide (((Utf8.decode ⟨a0.toArray⟩ y6.2.1).1:Int)=63)) (
(dN (v4.2.2.1.length+([(1,0,())]:List (Int×Int×Unit)).length)).bind fun u8 =>
 some (.inl (y6.1,v4.2.1,(v4.2.2.1++([(1,0,())]:List (Int×Int×Unit))),()))) (
(dN (v4.2.2.1.length+([(2,0,())]:List (Int×Int×Unit)).length)).bind fun u9 =>
 some (.inl (y6.1,v4.2.1,(v4.2.2.1++([(2,0,())]:List (Int×Int×Unit))),()))))))))) (some (.inr (.inl (y6.1,y6.2.2.1,()))))
def zcf (a0:List UInt8):Option (List (Int×Int×Unit)×Bool×Unit) :=
(za3 a0).bind fun r1 =>
 cond (!r1) (some ([],false,())) ((zau a0).bind fun r2 =>
 cond (decide (r2>64)) (
 some ([],false,())) (
(aJ (fT a0) (false,0,[],()):Option ((Bool×List (Int×Int×Unit)×Unit)⊕(List (Int×Int×Unit)×Bool×Unit))).bind (be fun v10 =>
 cond v10.1 (
 some ([],false,())) (
 some (v10.2.1,true,())))))
def wJ:TFn:={ ps:=(.cons .str .unit),res:=(.tup (.cons (.sl (.agg (.cons (.int .i64) (.cons (.int .i32) .unit)))) (.cons .bool .unit))),fn:=fun v=>zcf v.1 }
def alB:TEnv:={ pure:=[(281,wS),(282,zZ),(283,zF)],look:=[],glob:=G0T,ty:=[(336,(.agg (.cons (.int .i64) (.cons (.int .i32) .unit))))],raw:=[],fresh:=[] }
theorem alA:runY Tryz.prog afZ alC alB arh Tryz.f215 wJ.ps wJ.res=wJ.fn:=by kernel_rfl
theorem yM:aB Tryz.prog G0 215 acQ:=ai (ak ⟨ay,(aj aam (aj ahX (aj ag9 ae))),ap,ae,an⟩ Tryz.func215 rfl (by kernel_rfl))
theorem aeH:TOk acQ wJ:=aC (E:=afZ) (ET:=alB) (EnvT.ofX (az (ah aeR (ah aoz (ah ani al)))) am au aQ ar) alA rfl
def aht:Env:=(eZ [(215,acQ)] [274])
def anN:Hints:=(hZ [] [])
def ahs:PFn:=aH (runF Tryz.prog aht anN Tryz.f143)
def arS:TH:=yZ
def zb7 (a0:List UInt8):Option Bool :=
(zcf a0).bind fun r1 =>
 some r1.2.1
def zN:TFn:={ ps:=(.cons .str .unit),res:=.bool,fn:=fun v=>zb7 v.1 }
def anM:TEnv:=(vZ [(215,wJ)])
theorem anL:runY Tryz.prog aht anN anM arS Tryz.f143 zN.ps zN.res=zN.fn:=by kernel_rfl
theorem ahr:aB Tryz.prog G0 143 ahs:=ai (ak ⟨ay,(aj yM ae),ap,ae,an⟩ Tryz.func143 rfl (by kernel_rfl))
theorem anK:TOk ahs zN:=aC (E:=aht) (ET:=anM) (EnvT.ofX (az (ah aeH al)) am au aQ ar) anL rfl
def aiZ:Env:=(eZ [(143,ahs)] [274])
def apH:Hints:=(hZ [] [])
def aiY:PFn:=aH (runF Tryz.prog aiZ apH Tryz.f142)
def ash:TH:=yZ
def za9 (a0:List UInt8):Option Bool :=
 cond (decide (a0=[])) (some true) ((zb7 a0).bind fun r1 =>
 some (!r1))
def aah:TFn:={ ps:=(.cons .str .unit),res:=.bool,fn:=fun v=>za9 v.1 }
def apG:TEnv:=(vZ [(143,zN)])
theorem apF:runY Tryz.prog aiZ apH apG ash Tryz.f142 aah.ps aah.res=aah.fn:=by kernel_rfl
theorem aiX:aB Tryz.prog G0 142 aiY:=ai (ak ⟨ay,(aj ahr ae),ap,ae,an⟩ Tryz.func142 rfl (by kernel_rfl))
theorem apE:TOk aiY aah:=aC (E:=aiZ) (ET:=apG) (EnvT.ofX (az (ah anK al)) am au aQ ar) apF rfl
def aix:Env:=(eZ [(142,aiY)] [274])
def ao9:Hints:=(hZ [(2,[0,1,7,8])] [])
def aiw:PFn:=aH (runF Tryz.prog aix ao9 Tryz.f214)
def asa:TH:={ loops:=[(2,{ keep:=[(8,(.int .i64))],mem:=[] })],ro:=[] }
def qq (a0:List (List UInt8)) (y2:(Int×Unit)):Option ((Int×Unit)⊕Int) :=
 cond (decide (y2.1<(a0.length:Int))) (
(atI a0 y2.1).bind fun x1 =>
(za9 x1).bind fun r2 =>
 cond r2 (
 some (.inr y2.1)) (
 some (.inl ((IntKind.wrap .i64 (y2.1+1)),())))) (
 some (.inr (-1)))
def zai (a0:List (List UInt8)) (a1:Unit):Option Int :=
 aJ (qq a0) (0,())
def aab:TFn:={ ps:=(.cons (.sl .str) (.cons (.fn 142) .unit)),res:=(.int .i64),fn:=fun v=>zai v.1 v.2.1 }
def ao8:TEnv:=(vZ [(142,aah)])
theorem ao7:runY Tryz.prog aix ao9 ao8 asa Tryz.f214 aab.ps aab.res=aab.fn:=by kernel_rfl
theorem aiv:aB Tryz.prog G0 214 aiw:=ai (ak ⟨ay,(aj aiX ae),ap,ae,an⟩ Tryz.func214 rfl (by kernel_rfl))
theorem ao6:TOk aiw aab:=aC (E:=aix) (ET:=ao8) (EnvT.ofX (az (ah apE al)) am au aQ ar) ao7 rfl
def aiA:Env:=(eZ [(214,aiw)] [274])
def apd:Hints:=(hZ [] [])
def aiz:PFn:=aH (runF Tryz.prog aiA apd Tryz.f141)
def asb:TH:=yZ
def zah (a0:List (List UInt8)) (a1:Unit):Option Bool :=
(zai a0 a1).bind fun r1 =>
 some (decide (r1≥0))
def aac:TFn:={ ps:=(.cons (.sl .str) (.cons (.fn 142) .unit)),res:=.bool,fn:=fun v=>zah v.1 v.2.1 }
def apc:TEnv:=(vZ [(214,aab)])
theorem apb:runY Tryz.prog aiA apd apc asb Tryz.f141 aac.ps aac.res=aac.fn:=by kernel_rfl
theorem aiy:aB Tryz.prog G0 141 aiz:=ai (ak ⟨ay,(aj aiv ae),ap,ae,an⟩ Tryz.func141 rfl (by kernel_rfl))
theorem apa:TOk aiz aac:=aC (E:=aiA) (ET:=apc) (EnvT.ofX (az (ah ao6 al)) am au aQ ar) apb rfl
def ags:Env:=(eZ [(141,aiz)] [274])
def amk:Hints:=(hZ [] [])
def acT:PFn:=aH (runF Tryz.prog ags amk Tryz.f71)
def aru:TH:=yZ
def zbv (a0:List (List UInt8)):Option Int :=
 cond (decide ((a0.length:Int)=0)) (
 some 8) (
 cond (decide ((a0.length:Int)>8)) (
 some 9) (
(zah a0 ()).bind fun r1 =>
 cond r1 (
 some 8) (
 some 0)))
def wM:TFn:={ ps:=tT21,res:=(.int .i64),fn:=fun v=>zbv v.1 }
def amj:TEnv:=(vZ [(141,aac)])
theorem ami:runY Tryz.prog ags amk amj aru Tryz.f71 wM.ps wM.res=wM.fn:=by kernel_rfl
theorem zc:aB Tryz.prog G0 71 acT:=ai (ak ⟨ay,(aj aiy ae),ap,ae,an⟩ Tryz.func71 rfl (by kernel_rfl))
theorem aeK:TOk acT wM:=aC (E:=ags) (ET:=amj) (EnvT.ofX (az (ah apa al)) am au aQ ar) ami rfl
def ah0:Go.Shelf.Ren:=⟨fun | 41=>72 | n=>n,fun | 22=>24 | 23=>9 | 4=>4 | n=>n,fun | n=>n⟩
theorem ac6:Go.Proofs.SlLaysE0.n41 Tryz.prog ah0:={
 mixed:=by kernel_rfl
 f41:=⟨Tryz.f72.name,by decide,Tryz.func72.trans (congrArg some (by kernel_rfl))⟩
 t4:=Tryz.underlying4
 a4:=Tryz.isAgg4
 z4:=Tryz.sizeOf4
 v4:=Tryz.zeroValue4
 t22:=Tryz.underlying24
 a22:=Tryz.isAgg24
 z22:=Tryz.sizeOf24
 v22:=Tryz.zeroValue24 }
def wR:PFn:=(j9 1)
theorem oK:aB Tryz.prog G0 72 wR:=clone_lays ac6 1 ⟨Tryz.f72,Tryz.func72,rfl,by kernel_rfl⟩ (by kernel_rfl) (by kernel_rfl) (by kernel_rfl) (by kernel_rfl) (by kernel_rfl) (by decide) (fun w=>Tryz.sizeOf9 w)
def zat (a0:List (List UInt8)):Option (List (List UInt8)):=eR a0
def z6:TFn:=fM .str
theorem vd:TOk wR z6:=mm rfl rfl rfl
def afu:Env:=(eZ [(71,acT),(72,wR)] [274])
def akP:Hints:=(hZ [] [])
def acO:SFn:=runF Tryz.prog afu akP Tryz.f17
def aq2:TH:=yZ
def zcs (a0:List (List UInt8)):Option (List vV7×Int×Unit) :=
(zbv a0).bind fun r1 =>
 cond (!decide (r1=0)) (
 some ([],r1,())) (
(zat a0).bind fun r2 =>
 some ([(r2,[],0,())],0,()))
def yz:TNew:={ ps:=tT21,e:=139,t:=(.cons (.sl tT17) tT15),fn:=fun v=>zcs v.1,pair:=true }
def akO:TEnv:=(vZ [(71,wM),(72,z6)])
theorem akN:aqs Tryz.prog afu akP akO aq2 Tryz.f17 yz.ps 139 tT17 tT15=yz.fn:=by kernel_rfl
theorem yy:bL Tryz.prog G0 17 acO:=ak ⟨ay,(aj zc (aj oK ae)),ap,ae,an⟩ Tryz.func17 rfl (by kernel_rfl)
theorem aeF:TNewOk acO yz:=ad0 (E:=afu) (ET:=akO) (EnvT.ofX (az (ah aeK (ah vd al))) am au aQ ar) akN
def ahk:Env:=(eZ [] [274])
def anB:Hints:=(hZ [] [])
def ac0:PFn:=aH (runF Tryz.prog ahk anB Tryz.f226)
def arP:TH:=yZ
def zba (a0:Int):Option Bool :=
 some (!decide (a0=a0))
def zK:TFn:={ ps:=tT15,res:=.bool,fn:=fun v=>zba v.1 }
def anA:TEnv:=(vZ [])
theorem anz:runY Tryz.prog ahk anB anA arP Tryz.f226 zK.ps zK.res=zK.fn:=by kernel_rfl
theorem ahj:aB Tryz.prog G0 226 ac0:=ai (ak ⟨ay,ae,ap,ae,an⟩ Tryz.func226 rfl (by kernel_rfl))
theorem anx:TOk ac0 zK:=aC (E:=ahk) (ET:=anA) (EnvT.ofX (az al) am au aQ ar) anz rfl
def ai5:Env:=(eZ [(226,ac0)] [274])
def apW:Hints:=(hZ [] [])
def sR:PFn:=aH (runF Tryz.prog ai5 apW Tryz.f156)
def asl:TH:=yZ
def za4 (a0:Int) (a1:Int):Option Int :=
(zba a0).bind fun r1 =>
(zba a1).bind fun r2 =>
 cond r1 (
 cond r2 (
 some 0) (
 some (-1))) (
 cond r2 (
 some 1) (
 cond (decide (a0<a1)) (
 some (-1)) (
 cond (decide (a0>a1)) (
 some 1) (
 some 0))))
def qr:TFn:={ ps:=(.cons (.int .i64) tT15),res:=(.int .i64),fn:=fun v=>za4 v.1 v.2.1 }
def apV:TEnv:=(vZ [(226,zK)])
theorem apU:runY Tryz.prog ai5 apW apV asl Tryz.f156 qr.ps qr.res=qr.fn:=by kernel_rfl
theorem oL:aB Tryz.prog G0 156 sR:=ai (ak ⟨ay,(aj ahj ae),ap,ae,an⟩ Tryz.func156 rfl (by kernel_rfl))
theorem vg:TOk sR qr:=aC (E:=ai5) (ET:=apV) (EnvT.ofX (az (ah anx al)) am au aQ ar) apU rfl
def afO:Env:=(eZ [] [274])
def alj:Hints:=(hZ [(3,[3,6,7,8])] [])
def sD:PFn:=aH (runF Tryz.prog afO alj Tryz.f154)
def ara:TH:={ loops:=[(3,{ keep:=[(8,(.int .i64))],mem:=[] })],ro:=[] }
def fS (a0:List Int) (y3:(Int×Unit)):Option ((Int×Unit)⊕Int) :=
 cond (decide (y3.1<(a0.length:Int))) (
(atI a0 y3.1).bind fun x1 =>
 cond (!decide (x1=0)) (
 some (.inr x1)) (
 some (.inl ((IntKind.wrap .i64 (y3.1+1)),())))) (
 some (.inr 0))
def zck (a0:List Int):Option Int :=
 aJ (fS a0) (0,())
def qk:TFn:={ ps:=(.cons (.sl (.int .i64)) .unit),res:=(.int .i64),fn:=fun v=>zck v.1 }
def ali:TEnv:=(vZ [])
theorem alh:runY Tryz.prog afO alj ali ara Tryz.f154 qk.ps qk.res=qk.fn:=by kernel_rfl
theorem oI:aB Tryz.prog G0 154 sD:=ai (ak ⟨ay,ae,ap,ae,an⟩ Tryz.func154 rfl (by kernel_rfl))
theorem uJ:TOk sD qk:=aC (E:=afO) (ET:=ali) (EnvT.ofX (az al) am au aQ ar) alh rfl
def ahH:Env:=(eZ [(154,sD),(156,sR)] [274])
def an9:Hints:=(hZ [] [])
def ahG:PFn:=aH (runF Tryz.prog ahH an9 Tryz.f171)
def arY:TH:={ loops:=[],ro:=[2,3] }
def zb1 (a0:(Int×Int×Unit)) (a1:(Int×Int×Unit)):Option Int :=
(za4 a0.1 a1.1).bind fun r1 =>
(za4 a0.2.1 a1.2.1).bind fun r2 =>
(zck ([r1,r2]:List Int)).bind fun r3 =>
 some r3
def zU:TFn:={ ps:=(.cons (.agg (.cons (.int .i64) tT15)) (.cons (.agg (.cons (.int .i64) tT15)) .unit)),res:=(.int .i64),fn:=fun v=>zb1 v.1 v.2.1 }
def an8:TEnv:={ pure:=[(154,qk),(156,qr)],look:=[],glob:=G0T,ty:=[(3,(.int .i64))],raw:=[],fresh:=[] }
theorem an7:runY Tryz.prog ahH an9 an8 arY Tryz.f171 zU.ps zU.res=zU.fn:=by kernel_rfl
theorem ahF:aB Tryz.prog G0 171 ahG:=ai (ak ⟨ay,(aj oI (aj oL ae)),ap,ae,an⟩ Tryz.func171 rfl (by kernel_rfl))
theorem an6:TOk ahG zU:=aC (E:=ahH) (ET:=an8) (EnvT.ofX (az (ah uJ (ah vg al))) am au aQ ar) an7 rfl
def ahe:Env:=(eZ [(171,ahG)] [274])
def anp:Hints:=(hZ [] [])
def ahd:PFn:=aH (runF Tryz.prog ahe anp Tryz.f242)
def arM:TH:={ loops:=[],ro:=[2,3] }
def zbd (a0:vV2) (a1:vV2):Option Int :=
(zb1 a0.1 a1.1).bind fun r1 =>
 some r1
def zG:TFn:={ ps:=(.cons tT13 (.cons tT13 .unit)),res:=(.int .i64),fn:=fun v=>zbd v.1 v.2.1 }
def ano:TEnv:=(vZ [(171,zU)])
theorem ann:runY Tryz.prog ahe anp ano arM Tryz.f242 zG.ps zG.res=zG.fn:=by kernel_rfl
theorem ahc:aB Tryz.prog G0 242 ahd:=ai (ak ⟨ay,(aj ahF ae),ap,ae,an⟩ Tryz.func242 rfl (by kernel_rfl))
theorem anm:TOk ahd zG:=aC (E:=ahe) (ET:=ano) (EnvT.ofX (az (ah an6 al)) am au aQ ar) ann rfl
def aiN:Env:=(eZ [(242,ahd)] [274])
def apr:Hints:=(hZ [(3,[0,2,4,8,9,10])] [])
def aiM:PFn:=aH (runF Tryz.prog aiN apr Tryz.f284)
def asd:TH:={ joins:=[(8,{ keep:=[(4,(.bx 0 0)),(9,(.int .i64))],mem:=[.same] })],loops:=[(3,{ keep:=[(4,(.bx 0 0)),(9,(.int .i64)),(10,(.int .i64))],mem:=[.same] })],ro:=[4] }
def nb (a0:List vV2) (a1:vV2) (y3:(Int×Int×Unit)):Option ((Int×Int×Unit)⊕((Int×Unit)⊕(Int×Bool×Unit))) :=
 cond (decide (y3.1<y3.2.1)) (
(shrT .u64 (IntKind.wrap .u64 (IntKind.wrap .i64 (y3.1+y3.2.1))) 1).bind fun t1 =>
(atI a0 (IntKind.wrap .i64 t1)).bind fun x2 =>
(zbd x2 a1).bind fun r3 =>
 cond (decide (r3<0)) (
 some (.inl ((IntKind.wrap .i64 ((IntKind.wrap .i64 t1)+1)),y3.2.1,()))) (
 some (.inl (y3.1,(IntKind.wrap .i64 t1),())))) (
 some (.inr (.inl (y3.1,()))))
def zad (a0:List vV2) (a1:vV2) (a2:Unit):Option (Int×Bool×Unit) :=
(aJ (nb a0 a1) (0,(a0.length:Int),()):Option ((Int×Unit)⊕(Int×Bool×Unit))).bind (be fun v4 =>
 cond (decide (v4.1<(a0.length:Int))) ((atI a0 v4.1).bind fun x5 =>
(zbd x5 a1).bind fun r6 =>
 some (v4.1,(decide (r6=0)),())) (some (v4.1,false,())))
def aad:TFn:={ ps:=(.cons (.sl tT13) (.cons tT13 (.cons (.fn 242) .unit))),res:=(.tup (.cons (.int .i64) (.cons .bool .unit))),fn:=fun v=>zad v.1 v.2.1 v.2.2.1 }
def apq:TEnv:=(vZ [(242,zG)])
theorem apo:runY Tryz.prog aiN apr apq asd Tryz.f284 aad.ps aad.res=aad.fn:=by kernel_rfl
theorem aiL:aB Tryz.prog G0 284 aiM:=ai (ak ⟨ay,(aj ahc ae),ap,ae,an⟩ Tryz.func284 rfl (by kernel_rfl))
theorem apn:TOk aiM aad:=aC (E:=aiN) (ET:=apq) (EnvT.ofX (az (ah anm al)) am au aQ ar) apo rfl
def afk:Env:=(eZ [(284,aiM)] [274])
def akv:Hints:=(hZ [] [])
def afj:PFn:=aH (runF Tryz.prog afk akv Tryz.f217)
def aqW:TH:={ loops:=[],ro:=[3] }
def zcy (a0:List vV2) (a1:(Int×Int×Unit)):Option (Int×Bool×Unit) :=
(zad a0 (a1,0,()) ()).bind fun r1 =>
 some (r1.1,r1.2.1,())
def yn:TFn:={ ps:=(.cons (.sl tT13) (.cons (.agg (.cons (.int .i64) tT15)) .unit)),res:=(.tup (.cons (.int .i64) (.cons .bool .unit))),fn:=fun v=>zcy v.1 v.2.1 }
def aku:TEnv:=(vZ [(284,aad)])
theorem akt:runY Tryz.prog afk akv aku aqW Tryz.f217 yn.ps yn.res=yn.fn:=by kernel_rfl
theorem afi:aB Tryz.prog G0 217 afj:=ai (ak ⟨ay,(aj aiL ae),ap,ae,an⟩ Tryz.func217 rfl (by kernel_rfl))
theorem aks:TOk afj yn:=aC (E:=afk) (ET:=aku) (EnvT.ofX (az (ah apn al)) am au aQ ar) akt rfl
def afA:Env:=(eZ [(217,afj)] [274])
def akX:Hints:=(hZ [] [])
def afz:PFn:=aH (runF Tryz.prog afA akX Tryz.f145)
def aq4:TH:={ loops:=[],ro:=[3] }
def zcq (a0:List vV2) (a1:(Int×Int×Unit)):Option Int :=
(zcy a0 a1).bind fun r1 =>
 cond r1.2.1 (
(atI a0 r1.1).bind fun x2 =>
 some x2.2.1) (
 some 0)
def yB:TFn:={ ps:=(.cons (.sl tT13) (.cons (.agg (.cons (.int .i64) tT15)) .unit)),res:=(.int .i64),fn:=fun v=>zcq v.1 v.2.1 }
def akW:TEnv:=(vZ [(217,yn)])
theorem akV:runY Tryz.prog afA akX akW aq4 Tryz.f145 yB.ps yB.res=yB.fn:=by kernel_rfl
theorem afy:aB Tryz.prog G0 145 afz:=ai (ak ⟨ay,(aj afi ae),ap,ae,an⟩ Tryz.func145 rfl (by kernel_rfl))
theorem akU:TOk afz yB:=aC (E:=afA) (ET:=akW) (EnvT.ofX (az (ah aks al)) am au aQ ar) akV rfl
def afH:Env:=(eZ [(145,afz)] [274])
def ak8:Hints:=(hZ [] [])
def acP:PFn:=aH (runF Tryz.prog afH ak8 Tryz.f75)
def aq7:TH:={ loops:=[],ro:=[3] }
def zcn (a0:List vV2) (a1:(Int×Int×Unit)):Option Bool :=
(zcq a0 a1).bind fun r1 =>
(remT r1 2).bind fun t2 =>
 some (decide (t2=0))
def wI:TFn:={ ps:=(.cons (.sl tT13) (.cons (.agg (.cons (.int .i64) tT15)) .unit)),res:=.bool,fn:=fun v=>zcn v.1 v.2.1 }
def ak7:TEnv:=(vZ [(145,yB)])
theorem ak6:runY Tryz.prog afH ak8 ak7 aq7 Tryz.f75 wI.ps wI.res=wI.fn:=by kernel_rfl
theorem yE:aB Tryz.prog G0 75 acP:=ai (ak ⟨ay,(aj afy ae),ap,ae,an⟩ Tryz.func75 rfl (by kernel_rfl))
theorem aeG:TOk acP wI:=aC (E:=afH) (ET:=ak7) (EnvT.ofX (az (ah akU al)) am au aQ ar) ak6 rfl
def agY:Env:=(eZ [(75,acP)] [274])
def amZ:Hints:=(hZ [(3,[1,5,13,14,15]),(7,[1,5,13,14,15,25,26,27]),(10,[1,5,13,14,15,25,26,27,32,33,34])] [])
def agX:SFn:=runF Tryz.prog agY amZ Tryz.f74
def arF:TH:={ loops:=[(3,{ keep:=[(5,(.mp 0)),(15,(.int .i64))],mem:=[.map tT13 .bool] }),(7,{ keep:=[(5,(.mp 0)),(27,(.int .i64))],mem:=[.map tT13 .bool,.gone] }),(10,{ keep:=[(5,(.mp 0)),(34,(.int .i64))],mem:=[.map tT13 .bool,.gone,.gone] })],ro:=[] }
def oJ (y7:vV10) (x3:vV1) (y10:vV10):Option (vV10⊕(vV10⊕(vV10⊕(List (vV2×Bool))))) :=
 cond (decide (y10.1<(x3.2.2.2.2.1.length:Int))) (
(atI x3.2.2.2.2.1 y10.1).bind fun x4 =>
 some (.inl ((IntKind.wrap .i64 (y10.1+1)),(putK tT13 x4 true y10.2.1),()))) (
 some (.inr (.inl ((IntKind.wrap .i64 (y7.1+1)),y10.2.1,()))))
def uW (y3:vV10) (x1:vV4) (y7:vV10):Option (vV10⊕(vV10⊕(List (vV2×Bool)))) :=
 cond (decide (y7.1<(x1.2.2.2.2.1.length:Int))) (
(atI x1.2.2.2.2.1 y7.1).bind fun x3 =>
 aJ (oJ y7 x3) (0,y7.2.1,())) (
 some (.inr (.inl ((IntKind.wrap .i64 (y3.1+1)),y7.2.1,()))))
def uX (a0:List vV4) (a1:List vV2) (y3:vV10):Option (vV10⊕(List (vV2×Bool))) :=
 cond (decide (y3.1<(a0.length:Int))) (
(atI a0 y3.1).bind fun x1 =>
(zcn a1 x1.1).bind fun r2 =>
 cond (!r2) (
 some (.inl ((IntKind.wrap .i64 (y3.1+1)),y3.2.1,()))) (
 aJ (uW y3 x1) (0,y3.2.1,()))) (
 some (.inr y3.2.1))
def zbk (a0:List vV4) (a1:List vV2):Option (List (vV2×Bool)) :=
 aJ (uX a0 a1) (0,[],())
def acV:TNew:={ ps:=(.cons (.sl tT16) (.cons (.sl tT13) .unit)),e:=143,t:=(.sl (.cons tT13 .bool)),fn:=fun v=>zbk v.1 v.2.1,mp:=true }
def amY:TEnv:={ pure:=[(75,wI)],look:=[],glob:=G0T,ty:=[(4,.bool),(146,tT13)],raw:=[],fresh:=[] }
theorem amX:aqt Tryz.prog agY amZ amY arF Tryz.f74 acV.ps tT13 .bool=acV.fn:=by kernel_rfl
theorem agW:bL Tryz.prog G0 74 agX:=ak ⟨ay,(aj yE ae),ap,ae,an⟩ Tryz.func74 rfl (by kernel_rfl)
theorem amW:TNewOk agX acV:=ad1 (E:=agY) (ET:=amY) (EnvT.ofX (az (ah aeG al)) am au aQ ar) amX
def afl:Env:={ pure:=[(75,acP)],raw:=[(74,agX)],glob:=G0,same:=[274],look:=[],ext:=[] }
def aky:Hints:=(hZ [(4,[1,5,6,15,16,17]),(8,[1,5,6,8,15,16,17,27,28,29])] [])
def acM:PFn:=aH (runF Tryz.prog afl aky Tryz.f19)
def aqX:TH:={ loops:=[(4,{ keep:=[(5,(.mp 0)),(6,(.own 4)),(17,(.int .i64))],mem:=[.map tT13 .bool,.gone,.gone,.gone,.row true 148 tT18] }),(8,{ keep:=[(5,(.mp 0)),(6,(.own 4)),(8,(.bx 5 0)),(29,(.int .i64))],mem:=[.map tT13 .bool,.gone,.gone,.gone,.row true 148 tT18,.box 78 tT16] })],ro:=[] }
def uG (y4:(Int×List (vV2×Bool)×List vV6×Unit)) (x2:vV4) (y8:(Int×List (vV2×Bool)×List vV6×vV4×Unit)):Option ((Int×List (vV2×Bool)×List vV6×vV4×Unit)⊕((Int×List (vV2×Bool)×List vV6×Unit)⊕List vV6)) :=
 cond (decide (y8.1<(x2.2.2.2.2.1.length:Int))) (
(atI x2.2.2.2.2.1 y8.1).bind fun x4 =>
 cond (decide (x4.1=1)) (cond (!((getK tT13 false (y8.2.2.2.1.1,y8.1,()) y8.2.1).1)) (
(dN (y8.2.2.1.length+([((y8.2.2.2.1.1,y8.1,()),x4,y8.2.2.2.1.2.2.1,())]:List vV6).length)).bind fun u5 =>
 some (.inl ((IntKind.wrap .i64 (y8.1+1)),y8.2.1,(y8.2.2.1++([((y8.2.2.2.1.1,y8.1,()),x4,y8.2.2.2.1.2.2.1,())]:List vV6)),y8.2.2.2.1,()))) (
 some (.inl ((IntKind.wrap .i64 (y8.1+1)),y8.2.1,y8.2.2.1,y8.2.2.2.1,())))) (cond (decide (x4.1=2)) (cond (!((getK tT13 false (y8.2.2.2.1.1,y8.1,()) y8.2.1).1)) (
(dN (y8.2.2.1.length+([((y8.2.2.2.1.1,y8.1,()),x4,y8.2.2.2.1.2.2.1,())]:List vV6).length)).bind fun u6 =>
 some (.inl ((IntKind.wrap .i64 (y8.1+1)),y8.2.1,(y8.2.2.1++([((y8.2.2.2.1.1,y8.1,()),x4,y8.2.2.2.1.2.2.1,())]:List vV6)),y8.2.2.2.1,()))) (
 some (.inl ((IntKind.wrap .i64 (y8.1+1)),y8.2.1,y8.2.2.1,y8.2.2.2.1,())))) (cond (decide (x4.1=3)) (cond (!((getK tT13 false (y8.2.2.2.1.1,y8.1,()) y8.2.1).1)) (
(dN (y8.2.2.1.length+([((y8.2.2.2.1.1,y8.1,()),x4,y8.2.2.2.1.2.2.1,())]:List vV6).length)).bind fun u7 =>
 some (.inl ((IntKind.wrap .i64 (y8.1+1)),y8.2.1,(y8.2.2.1++([((y8.2.2.2.1.1,y8.1,()),x4,y8.2.2.2.1.2.2.1,())]:List vV6)),y8.2.2.2.1,()))) (
 some (.inl ((IntKind.wrap .i64 (y8.1+1)),y8.2.1,y8.2.2.1,y8.2.2.2.1,())))) (some (.inl ((IntKind.wrap .i64 (y8.1+1)),y8.2.1,y8.2.2.1,y8.2.2.2.1,())))))) (
 some (.inr (.inl ((IntKind.wrap .i64 (y4.1+1)),y8.2.1,y8.2.2.1,()))))
def uH (a0:List vV4) (a1:List vV2) (y4:(Int×List (vV2×Bool)×List vV6×Unit)):Option ((Int×List (vV2×Bool)×List vV6×Unit)⊕List vV6) :=
 cond (decide (y4.1<(a0.length:Int))) (
(atI a0 y4.1).bind fun x2 =>
(zcn a1 x2.1).bind fun r3 =>
 cond (!r3) (
 some (.inl ((IntKind.wrap .i64 (y4.1+1)),y4.2.1,y4.2.2.1,()))) (
 aJ (uG y4 x2) (0,y4.2.1,y4.2.2.1,x2,()))) (
 some (.inr y4.2.2.1))
def zcx (a0:List vV4) (a1:List vV2):Option (List vV6) :=
(zbk a0 a1).bind fun n1 =>
 aJ (uH a0 a1) (0,n1,[],())
def wG:TFn:={ ps:=(.cons (.sl tT16) (.cons (.sl tT13) .unit)),res:=(.sl tT18),fn:=fun v=>zcx v.1 v.2.1 }
def akx:TEnv:={ pure:=[(75,wI)],look:=[],glob:=G0T,ty:=[(148,tT18)],raw:=[],fresh:=[(74,acV)] }
theorem akw:runY Tryz.prog afl aky akx aqX Tryz.f19 wG.ps wG.res=wG.fn:=by kernel_rfl
theorem yp:aB Tryz.prog G0 19 acM:=ai (ak ⟨ay,(aj yE ae),(bv agW ap),ae,an⟩ Tryz.func19 rfl (by kernel_rfl))
theorem aeD:TOk acM wG:=aC (E:=afl) (ET:=akx) (EnvT.ofX (az (ah aeG al)) am (iG au rfl) aQ (iN amW rfl rfl rfl ar)) akw rfl
def agh:Env:=(eZ [] [274])
def al2:Hints:=(hZ [] [])
def acS:PFn:=aH (runF Tryz.prog agh al2 Tryz.f124)
def aro:TH:={ joins:=[(6,{ keep:=[(6,.bool)],mem:=[] })],loops:=[],ro:=[] }
def zc0 (a0:Int):Option Int :=
 cond (decide (a0=1)) (
 some 1) (
(cond (decide (a0=2)) (
 some (.inl ((decide (a0=2)),()))) (
 some (.inl ((decide (a0=4)),()))):Option ((Bool×Unit)⊕Int)).bind (be fun v1 =>
 cond v1.1 (
 some 2) (
 cond (decide (a0=3)) (
 some 3) (
 some 0))))
def wL:TFn:={ ps:=tT15,res:=(.int .i64),fn:=fun v=>zc0 v.1 }
def al1:TEnv:=(vZ [])
theorem al0:runY Tryz.prog agh al2 al1 aro Tryz.f124 wL.ps wL.res=wL.fn:=by kernel_rfl
theorem yT:aB Tryz.prog G0 124 acS:=ai (ak ⟨ay,ae,ap,ae,an⟩ Tryz.func124 rfl (by kernel_rfl))
theorem aeJ:TOk acS wL:=aC (E:=agh) (ET:=al1) (EnvT.ofX (az al) am au aQ ar) al0 rfl
def ai8:Env:=(eZ [] [274])
def ap3:Hints:=(hZ [] [])
def adn:PFn:=aH (runF Tryz.prog ai8 ap3 Tryz.f330)
def asn:TH:=yZ
def za2 (a0:List UInt8):Option Bool :=
 some (!decide (a0=a0))
def aan:TFn:={ ps:=(.cons .str .unit),res:=.bool,fn:=fun v=>za2 v.1 }
def ap2:TEnv:=(vZ [])
theorem ap1:runY Tryz.prog ai8 ap3 ap2 asn Tryz.f330 aan.ps aan.res=aan.fn:=by kernel_rfl
theorem ai7:aB Tryz.prog G0 330 adn:=ai (ak ⟨ay,ae,ap,ae,an⟩ Tryz.func330 rfl (by kernel_rfl))
theorem ap0:TOk adn aan:=aC (E:=ai8) (ET:=ap2) (EnvT.ofX (az al) am au aQ ar) ap1 rfl
def ahT:Env:=(eZ [(330,adn)] [274])
def aou:Hints:=(hZ [] [])
def ac5:PFn:=aH (runF Tryz.prog ahT aou Tryz.f287)
def ar3:TH:=yZ
def zaw (a0:List UInt8) (a1:List UInt8):Option Int :=
(za2 a0).bind fun r1 =>
(za2 a1).bind fun r2 =>
 cond r1 (
 cond r2 (
 some 0) (
 some (-1))) (
 cond r2 (
 some 1) (
 cond (Op.bytesLess a0 a1) (
 some (-1)) (
 cond (!(Op.bytesLess a0 a1||decide (a0=a1))) (
 some 1) (
 some 0))))
def zX:TFn:={ ps:=(.cons .str (.cons .str .unit)),res:=(.int .i64),fn:=fun v=>zaw v.1 v.2.1 }
def aot:TEnv:=(vZ [(330,aan)])
theorem aos:runY Tryz.prog ahT aou aot ar3 Tryz.f287 zX.ps zX.res=zX.fn:=by kernel_rfl
theorem ahS:aB Tryz.prog G0 287 ac5:=ai (ak ⟨ay,(aj ai7 ae),ap,ae,an⟩ Tryz.func287 rfl (by kernel_rfl))
theorem aor:TOk ac5 zX:=aC (E:=ahT) (ET:=aot) (EnvT.ofX (az (ah ap0 al)) am au aQ ar) aos rfl
def ah5:Env:=(eZ [(287,ac5)] [274])
def aoK:Hints:=(hZ [(2,[0,1,9,10,11])] [])
def ac8:PFn:=aH (runF Tryz.prog ah5 aoK Tryz.f225)
def ar7:TH:={ joins:=[(11,{ keep:=[],mem:=[] })],loops:=[(2,{ keep:=[(11,(.int .i64))],mem:=[] })],ro:=[] }
def iu (a0:List (List UInt8)) (a1:List (List UInt8)) (y2:(Int×Unit)):Option ((Int×Unit)⊕(Unit⊕Int)) :=
 cond (decide (y2.1<(a0.length:Int))) (
(atI a0 y2.1).bind fun x1 =>
 cond (decide (y2.1≥(a1.length:Int))) (
 some (.inr (.inr 1))) (
(atI a1 y2.1).bind fun x2 =>
(zaw x1 x2).bind fun r3 =>
 cond (!decide (r3=0)) (
 some (.inr (.inr r3))) (
 some (.inl ((IntKind.wrap .i64 (y2.1+1)),()))))) (
 some (.inr (.inl ())))
def zar (a0:List (List UInt8)) (a1:List (List UInt8)):Option Int :=
(aJ (iu a0 a1) (0,()):Option (Unit⊕Int)).bind (be fun v4 =>
 cond (decide ((a0.length:Int)<(a1.length:Int))) (
 some (-1)) (
 some 0))
def z8:TFn:={ ps:=(.cons (.sl .str) tT21),res:=(.int .i64),fn:=fun v=>zar v.1 v.2.1 }
def aoJ:TEnv:=(vZ [(287,zX)])
theorem aoI:runY Tryz.prog ah5 aoK aoJ ar7 Tryz.f225 z8.ps z8.res=z8.fn:=by kernel_rfl
theorem ah4:aB Tryz.prog G0 225 ac8:=ai (ak ⟨ay,(aj ahS ae),ap,ae,an⟩ Tryz.func225 rfl (by kernel_rfl))
theorem aoH:TOk ac8 z8:=aC (E:=ah5) (ET:=aoJ) (EnvT.ofX (az (ah aor al)) am au aQ ar) aoI rfl
def ag6:Env:=(eZ [(225,ac8)] [274])
def ane:Hints:=(hZ [] [])
def zB:PFn:=aH (runF Tryz.prog ag6 ane Tryz.f155)
def arJ:TH:=yZ
def zbg (a0:List (List UInt8)) (a1:List (List UInt8)):Option Int :=
(zar a0 a1).bind fun r1 =>
 some r1
def wP:TFn:={ ps:=(.cons (.sl .str) tT21),res:=(.int .i64),fn:=fun v=>zbg v.1 v.2.1 }
def anc:TEnv:=(vZ [(225,z8)])
theorem anb:runY Tryz.prog ag6 ane anc arJ Tryz.f155 wP.ps wP.res=wP.fn:=by kernel_rfl
theorem zA:aB Tryz.prog G0 155 zB:=ai (ak ⟨ay,(aj ah4 ae),ap,ae,an⟩ Tryz.func155 rfl (by kernel_rfl))
theorem aeN:TOk zB wP:=aC (E:=ag6) (ET:=anc) (EnvT.ofX (az (ah aoH al)) am au aQ ar) anb rfl
def ag8:Env:=(eZ [(154,sD),(155,zB),(156,sR)] [274])
def anh:Hints:=(hZ [] [])
def zD:PFn:=aH (runF Tryz.prog ag8 anh Tryz.f126)
def arK:TH:={ loops:=[],ro:=[2,3] }
def zbf (a0:vV5) (a1:vV5):Option Int :=
(zbg a0.1 a1.1).bind fun r1 =>
(za4 a0.2.1 a1.2.1).bind fun r2 =>
(zck ([r1,r2]:List Int)).bind fun r3 =>
 some r3
def zC:TFn:={ ps:=(.cons tT20 (.cons tT20 .unit)),res:=(.int .i64),fn:=fun v=>zbf v.1 v.2.1 }
def ang:TEnv:={ pure:=[(154,qk),(155,wP),(156,qr)],look:=[],glob:=G0T,ty:=[(3,(.int .i64))],raw:=[],fresh:=[] }
theorem anf:runY Tryz.prog ag8 anh ang arK Tryz.f126 zC.ps zC.res=zC.fn:=by kernel_rfl
theorem ag7:aB Tryz.prog G0 126 zD:=ai (ak ⟨ay,(aj oI (aj zA (aj oL ae))),ap,ae,an⟩ Tryz.func126 rfl (by kernel_rfl))
theorem aeO:TOk zD zC:=aC (E:=ag8) (ET:=ang) (EnvT.ofX (az (ah uJ (ah aeN (ah vg al)))) am au aQ ar) anf rfl
theorem acZ : @aB ⟨True⟩ Tryz.prog G0 226 ac0:=by
 letI:Drawn:=⟨True⟩
 exact ai (ak ⟨ay,ae,ap,ae,an⟩ Tryz.func226 rfl (by kernel_rfl))
theorem vh : @aB ⟨True⟩ Tryz.prog G0 156 sR:=by
 letI:Drawn:=⟨True⟩
 exact ai (ak ⟨ay,(aj acZ ae),ap,ae,an⟩ Tryz.func156 rfl (by kernel_rfl))
theorem uK : @aB ⟨True⟩ Tryz.prog G0 154 sD:=by
 letI:Drawn:=⟨True⟩
 exact ai (ak ⟨ay,ae,ap,ae,an⟩ Tryz.func154 rfl (by kernel_rfl))
theorem adm : @aB ⟨True⟩ Tryz.prog G0 330 adn:=by
 letI:Drawn:=⟨True⟩
 exact ai (ak ⟨ay,ae,ap,ae,an⟩ Tryz.func330 rfl (by kernel_rfl))
theorem ac4 : @aB ⟨True⟩ Tryz.prog G0 287 ac5:=by
 letI:Drawn:=⟨True⟩
 exact ai (ak ⟨ay,(aj adm ae),ap,ae,an⟩ Tryz.func287 rfl (by kernel_rfl))
theorem ac7 : @aB ⟨True⟩ Tryz.prog G0 225 ac8:=by
 letI:Drawn:=⟨True⟩
 exact ai (ak ⟨ay,(aj ac4 ae),ap,ae,an⟩ Tryz.func225 rfl (by kernel_rfl))
theorem acX : @aB ⟨True⟩ Tryz.prog G0 155 zB:=by
 letI:Drawn:=⟨True⟩
 exact ai (ak ⟨ay,(aj ac7 ae),ap,ae,an⟩ Tryz.func155 rfl (by kernel_rfl))
theorem acY : @aB ⟨True⟩ Tryz.prog G0 126 zD:=by
 letI:Drawn:=⟨True⟩
 exact ai (ak ⟨ay,(aj uK (aj acX (aj vh ae))),ap,ae,an⟩ Tryz.func126 rfl (by kernel_rfl))
def aiB:Go.Shelf.Ren:=⟨fun | 6=>125 | 14=>200 | 15=>201 | 20=>260 | 21=>261 | 22=>262 | 23=>263 | 24=>264 | 25=>265 | 26=>266 | 27=>267 | 28=>268 | 29=>269 | 46=>315 | 47=>316 | 48=>317 | 49=>318 | 50=>319 | 57=>351 | n=>n,fun | 0=>0 | 3=>3 | 4=>4 | 5=>5 | 9=>9 | 22=>104 | 24=>109 | 25=>199 | 39=>230 | 45=>314 | 46=>315 | 50=>161 | 53=>321 | 55=>323 | 66=>354 | 70=>358 | 76=>378 | 77=>283 | n=>n,fun | n=>n⟩
theorem adg:Go.Proofs.SlLaysF0.n6 Tryz.prog aiB:={
 mixed:=by kernel_rfl
 f6:=⟨Tryz.f125.name,by decide,Tryz.func125.trans (congrArg some (by kernel_rfl))⟩
 f14:=⟨Tryz.f200.name,by decide,Tryz.func200.trans (congrArg some (by kernel_rfl))⟩
 f15:=Tryz.func201.trans (congrArg some (by kernel_rfl))
 f20:=⟨Tryz.f260.name,by decide,Tryz.func260.trans (congrArg some (by kernel_rfl))⟩
 f21:=⟨Tryz.f261.name,by decide,Tryz.func261.trans (congrArg some (by kernel_rfl))⟩
 f22:=⟨Tryz.f262.name,by decide,Tryz.func262.trans (congrArg some (by kernel_rfl))⟩
 f23:=⟨Tryz.f263.name,by decide,Tryz.func263.trans (congrArg some (by kernel_rfl))⟩
 f24:=⟨Tryz.f264.name,by decide,Tryz.func264.trans (congrArg some (by kernel_rfl))⟩
 f25:=⟨Tryz.f265.name,by decide,Tryz.func265.trans (congrArg some (by kernel_rfl))⟩
 f26:=⟨Tryz.f266.name,by decide,Tryz.func266.trans (congrArg some (by kernel_rfl))⟩
 f27:=⟨Tryz.f267.name,by decide,Tryz.func267.trans (congrArg some (by kernel_rfl))⟩
 f28:=Tryz.func268.trans (congrArg some (by kernel_rfl))
 f29:=Tryz.func269.trans (congrArg some (by kernel_rfl))
 f46:=⟨Tryz.f315.name,by decide,Tryz.func315.trans (congrArg some (by kernel_rfl))⟩
 f47:=Tryz.func316.trans (congrArg some (by kernel_rfl))
 f48:=Tryz.func317.trans (congrArg some (by kernel_rfl))
 f49:=⟨Tryz.f318.name,by decide,Tryz.func318.trans (congrArg some (by kernel_rfl))⟩
 f50:=⟨Tryz.f319.name,by decide,Tryz.func319.trans (congrArg some (by kernel_rfl))⟩
 f57:=⟨Tryz.f351.name,by decide,Tryz.func351.trans (congrArg some (by kernel_rfl))⟩
 t0:=Tryz.underlying0
 a0:=Tryz.isAgg0
 z0:=Tryz.sizeOf0
 v0:=Tryz.zeroValue0
 t3:=Tryz.underlying3
 a3:=Tryz.isAgg3
 z3:=Tryz.sizeOf3
 v3:=Tryz.zeroValue3
 t4:=Tryz.underlying4
 a4:=Tryz.isAgg4
 z4:=Tryz.sizeOf4
 v4:=Tryz.zeroValue4
 t5:=Tryz.underlying5
 a5:=Tryz.isAgg5
 z5:=Tryz.sizeOf5
 v5:=Tryz.zeroValue5
 t9:=Tryz.underlying9
 a9:=Tryz.isAgg9
 z9:=Tryz.sizeOf9
 v9:=Tryz.zeroValue9
 t22:=Tryz.underlying104
 a22:=Tryz.isAgg104
 z22:=Tryz.sizeOf104
 v22:=Tryz.zeroValue104
 t25:=Tryz.underlying199
 a25:=Tryz.isAgg199
 z25:=Tryz.sizeOf199
 v25:=Tryz.zeroValue199
 t39:=Tryz.underlying230
 a39:=Tryz.isAgg230
 z39:=Tryz.sizeOf230
 v39:=Tryz.zeroValue230
 t45:=Tryz.underlying314
 a45:=Tryz.isAgg314
 z45:=Tryz.sizeOf314
 v45:=Tryz.zeroValue314
 t46:=Tryz.underlying315
 a46:=Tryz.isAgg315
 z46:=Tryz.sizeOf315
 v46:=Tryz.zeroValue315
 t50:=Tryz.underlying161
 a50:=Tryz.isAgg161
 z50:=Tryz.sizeOf161
 v50:=Tryz.zeroValue161
 t53:=Tryz.underlying321
 a53:=Tryz.isAgg321
 z53:=Tryz.sizeOf321
 v53:=Tryz.zeroValue321
 t55:=Tryz.underlying323
 a55:=Tryz.isAgg323
 z55:=Tryz.sizeOf323
 v55:=Tryz.zeroValue323
 t66:=Tryz.underlying354
 a66:=Tryz.isAgg354
 z66:=Tryz.sizeOf354
 v66:=Tryz.zeroValue354
 t70:=Tryz.underlying358
 a70:=Tryz.isAgg358
 z70:=Tryz.sizeOf358
 v70:=Tryz.zeroValue358
 t76:=Tryz.underlying378
 a76:=Tryz.isAgg378
 z76:=Tryz.sizeOf378
 v76:=Tryz.zeroValue378
 t77:=Tryz.underlying283
 a77:=Tryz.isAgg283
 z77:=Tryz.sizeOf283
 v77:=Tryz.zeroValue283 }
def aiD:SFn:=oS zD 126 2 109
theorem aiC:bL Tryz.prog G0 125 aiD:=kY (M:=2) (g:=126) adg (by decide) (fun w=>Tryz.isAgg109 w) (fun w=>Tryz.sizeOf109 w) acY ⟨Tryz.f125,Tryz.func125,rfl,by kernel_rfl⟩
def zag (w0:List vV5):Option (Unit×List vV5×Unit):=(mK (fun x y=>zbf x y) w0).map fun l=>((),(l,()))
def apf:TRaw:=aaB false 126 109 tT20 (fun x y=>zbf x y)
theorem ape:TRawOk aiD apf:=vn rfl rfl rfl rfl aeO
def ahh:Env:=(eZ [(126,zD)] [274])
def ant:Hints:=(hZ [] [])
def ahg:PFn:=aH (runF Tryz.prog ahh ant Tryz.f128)
def arN:TH:={ loops:=[],ro:=[2,3] }
def zbc (a0:vV5) (a1:vV5):Option Bool :=
(zbf a0 a1).bind fun r1 =>
 some (decide (r1=0))
def zH:TFn:={ ps:=(.cons tT20 (.cons tT20 .unit)),res:=.bool,fn:=fun v=>zbc v.1 v.2.1 }
def ans:TEnv:=(vZ [(126,zC)])
theorem anr:runY Tryz.prog ahh ant ans arN Tryz.f128 zH.ps zH.res=zH.fn:=by kernel_rfl
theorem ahf:aB Tryz.prog G0 128 ahg:=ai (ak ⟨ay,(aj ag7 ae),ap,ae,an⟩ Tryz.func128 rfl (by kernel_rfl))
theorem anq:TOk ahg zH:=aC (E:=ahh) (ET:=ans) (EnvT.ofX (az (ah aeO al)) am au aQ ar) anr rfl
def aiK:Env:=(eZ [(128,ahg)] [274])
def apm:Hints:=(hZ [(4,[0,1,5]),(9,[0,1,5,6,7])] [])
def aiJ:SFn:=pH (runF Tryz.prog aiK apm Tryz.f127)
def asc:TH:={ joins:=[(14,{ keep:=[(0,(.own 0)),(5,(.int .i64))],mem:=[.row false 109 tT20] })],loops:=[(4,{ keep:=[(0,(.own 0)),(5,(.int .i64))],mem:=[.row false 109 tT20] }),(9,{ keep:=[(0,(.own 0)),(5,(.int .i64)),(6,(.vw 0)),(7,(.int .i64))],mem:=[.row false 109 tT20] })],ro:=[] }
def na (y9:(Int×(Nat×Nat)×Int×List vV5×Unit)):Option ((Int×(Nat×Nat)×Int×List vV5×Unit)⊕((Int×List vV5×Unit)⊕((Int×List vV5×Unit)⊕(List vV5)))) :=
 cond (decide (y9.2.2.1<(y9.2.1.2:Int))) (
 cond y9.2.2.2.1.isEmpty (none) ((inI y9.2.1.2 y9.2.2.1).bind fun i7 =>
(y9.2.2.2.1[(y9.2.1.1+i7)]?).bind fun x8 =>
 cond y9.2.2.2.1.isEmpty (none) ((inI y9.2.1.2 (IntKind.wrap .i64 (y9.2.2.1-1))).bind fun i9 =>
(y9.2.2.2.1[(y9.2.1.1+i9)]?).bind fun x10 =>
(zbc x8 x10).bind fun r11 =>
 cond (!r11) (
 cond y9.2.2.2.1.isEmpty (none) ((inI y9.2.1.2 y9.2.2.1).bind fun i12 =>
(y9.2.2.2.1[(y9.2.1.1+i12)]?).bind fun x13 =>
(inI y9.2.2.2.1.length y9.1).bind fun i14 =>
(y9.2.2.2.1[i14]?).bind fun x15 =>
 some (.inl ((IntKind.wrap .i64 (y9.1+1)),y9.2.1,(IntKind.wrap .i64 (y9.2.2.1+1)),(y9.2.2.2.1.set i14 x13),())))) (
 some (.inl (y9.1,y9.2.1,(IntKind.wrap .i64 (y9.2.2.1+1)),y9.2.2.2.1,())))))) (
 some (.inr (.inl (y9.1,y9.2.2.2.1,()))))
def kL (y4:(Int×List vV5×Unit)):Option ((Int×List vV5×Unit)⊕(List vV5)) :=
 cond (decide (y4.1<(y4.2.1.length:Int))) (
(inI y4.2.1.length y4.1).bind fun i1 =>
(y4.2.1[i1]?).bind fun x2 =>
(inI y4.2.1.length (IntKind.wrap .i64 (y4.1-1))).bind fun i3 =>
(y4.2.1[i3]?).bind fun x4 =>
(zbc x2 x4).bind fun r5 =>
 cond r5 (
 cond y4.2.1.isEmpty (none) ((kR (y4.2.1.length) y4.1 (y4.2.1.length:Int)).bind fun p6 =>
(aJ (na) (y4.1,p6,1,y4.2.1,()):Option ((Int×List vV5×Unit)⊕((Int×List vV5×Unit)⊕(List vV5)))).bind (be fun v16 =>
 cond v16.2.1.isEmpty (none) ((kR (v16.2.1.length) v16.1 (v16.2.1.length:Int)).bind fun p17 =>
 cond v16.2.1.isEmpty (none) ((if p17.1+p17.2≤v16.2.1.length then some () else none).bind fun u18 =>
 cond (v16.2.1.take p17.1++List.replicate p17.2 ([],0,())++v16.2.1.drop (p17.1+p17.2)).isEmpty (none) ((kR ((v16.2.1.take p17.1++List.replicate p17.2 ([],0,())++v16.2.1.drop (p17.1+p17.2)).length) 0 v16.1).bind fun p19 =>
(cond (v16.2.1.take p17.1++List.replicate p17.2 ([],0,())++v16.2.1.drop (p17.1+p17.2)).isEmpty none (if p19.1+p19.2≤(v16.2.1.take p17.1++List.replicate p17.2 ([],0,())++v16.2.1.drop (p17.1+p17.2)).length then some (((v16.2.1.take p17.1++List.replicate p17.2 ([],0,())++v16.2.1.drop (p17.1+p17.2)).drop p19.1).take p19.2) else none)).map .inr)))))) (
 some (.inl ((IntKind.wrap .i64 (y4.1+1)),y4.2.1,())))) (
 some (.inr y4.2.1))
def aiH (w0:List vV5):Option (List vV5) :=
 cond (decide ((w0.length:Int)<2)) (
 some w0) (
 aJ (kL) (1,w0,()))
def zae (w0:List vV5):Option (List vV5×Unit):=(aiH w0).map fun l=>(l,())
def apl:TRaw:={ ps:=(.cons (.own 0) (.cons (.fn 128) .unit)),ins:=[.row false 109 tT20],res:=(.sl tT20),outs:=[.gone],fn:=fun v w=>zae w.1 }
def apk:TEnv:=(vZ [(128,zH)])
theorem apj:aei Tryz.prog aiK apm apk asc Tryz.f127 (.cons (.own 0) (.cons (.fn 128) .unit)) false 109 tT20=fun _ w=>aiH w:=by kernel_rfl
theorem aiI:bL Tryz.prog G0 127 aiJ:=lX (ak ⟨ay,(aj ahf ae),ap,ae,an⟩ Tryz.func127 rfl (by kernel_rfl))
theorem api:TRawOk aiJ apl:=vT (E:=aiK) (ET:=apk) (EnvT.ofX (az (ah anq al)) am au aQ ar) apj
def agL:Env:={ pure:=[(72,wR),(124,acS)],raw:=[(125,aiD),(127,aiJ)],glob:=G0,same:=[274],look:=[],ext:=[] }
def amG:Hints:=(hZ [(3,[3,6,7,8])] [])
def agK:PFn:=aH (runF Tryz.prog agL amG Tryz.f55)
def arA:TH:={ joins:=[(7,{ keep:=[(3,(.own 1))],mem:=[.gone,.row true 109 tT20] })],loops:=[(3,{ keep:=[(3,(.own 1)),(8,(.int .i64))],mem:=[.gone,.row true 109 tT20] })],ro:=[] }
def uS (a0:List vV6) (y3:(Int×List vV5×Unit)):Option ((Int×List vV5×Unit)⊕((List vV5×Unit)⊕List vV5)) :=
 cond (decide (y3.1<(a0.length:Int))) (
(atI a0 y3.1).bind fun x1 =>
(zat x1.2.1.2.1).bind fun r2 =>
(zc0 x1.2.1.1).bind fun r3 =>
(dN (y3.2.1.length+([(r2,r3,())]:List vV5).length)).bind fun u4 =>
 some (.inl ((IntKind.wrap .i64 (y3.1+1)),(y3.2.1++([(r2,r3,())]:List vV5)),()))) (
 some (.inr (.inl (y3.2.1,()))))
def zbp (a0:List vV6):Option (List vV5) :=
(aJ (uS a0) (0,[],()):Option ((List vV5×Unit)⊕List vV5)).bind (be fun v5 =>
(zag v5.1).bind fun q6 =>
(zae q6.2.1).bind fun q7 =>
 some q7.1)
def zo:TFn:={ ps:=(.cons (.sl tT18) .unit),res:=(.sl tT20),fn:=fun v=>zbp v.1 }
def amF:TEnv:={ pure:=[(72,z6),(124,wL)],look:=[],glob:=G0T,ty:=[(109,tT20)],raw:=[(125,apf),(127,apl)],fresh:=[] }
theorem amE:runY Tryz.prog agL amG amF arA Tryz.f55 zo.ps zo.res=zo.fn:=by kernel_rfl
theorem agJ:aB Tryz.prog G0 55 agK:=ai (ak ⟨ay,(aj oK (aj yT ae)),(bv aiC (bv aiI ap)),ae,an⟩ Tryz.func55 rfl (by kernel_rfl))
theorem amD:TOk agK zo:=aC (E:=agL) (ET:=amF) (EnvT.ofX (az (ah vd (ah aeJ al))) am (ci ape rfl rfl (ci api rfl rfl au)) aQ ar) amE rfl
def afo:Env:=(eZ [] [274])
def akC:Hints:=(hZ [(3,[0,1,5,6,7,8]),(14,[0,5])] [])
def afn:PFn:=aH (runF Tryz.prog afo akC Tryz.f331)
def aqY:TH:={ joins:=[(14,{ keep:=[(5,(.int .i64))],mem:=[] }),(12,{ keep:=[(6,(.int .i64)),(7,(.int .i64))],mem:=[] }),(5,{ keep:=[(13,.bool)],mem:=[] }),(16,{ keep:=[(5,(.int .i64))],mem:=[] })],loops:=[(3,{ keep:=[(5,(.int .i64)),(6,(.int .i64)),(7,(.int .i64)),(8,(.int .i64))],mem:=[] }),(14,{ keep:=[(5,(.int .i64))],mem:=[] })],ro:=[] }
def dY (a0:List (Int×Int×Unit)) (a1:List Int) (y3:(Int×Int×Int×Int×Unit)):Option ((Int×Int×Int×Int×Unit)⊕((Int×Unit)⊕Bool)) :=
 cond (decide (y3.2.2.2.1<(a1.length:Int))) (
((cond (decide (y3.1<(a0.length:Int))) ((atI a0 y3.1).bind fun x1 =>
 some (.inl ((decide (x1.1=2)),()))) (some (.inl (false,()))):Option ((Bool×Unit)⊕((Int×Int×Unit)⊕((Int×Int×Int×Int×Unit)⊕((Int×Unit)⊕Bool))))).bind (be fun v2 =>
 cond v2.1 (
 some (.inr (.inl ((IntKind.wrap .i64 (y3.1+1)),y3.1,y3.2.2.2.1,y3.2.2.2.1,())))) (
 cond (decide (y3.1<(a0.length:Int))) ((atI a0 y3.1).bind fun x3 =>
 cond (decide (x3.1=1)) (some (.inr (.inl ((IntKind.wrap .i64 (y3.1+1)),y3.2.1,y3.2.2.1,(IntKind.wrap .i64 (y3.2.2.2.1+1)),())))) ((atI a0 y3.1).bind fun x4 =>
(atI a1 y3.2.2.2.1).bind fun x5 =>
 cond (decide (x4.2.1=x5)) (
 some (.inr (.inl ((IntKind.wrap .i64 (y3.1+1)),y3.2.1,y3.2.2.1,(IntKind.wrap .i64 (y3.2.2.2.1+1)),())))) (
 cond (decide (y3.2.1<0)) (
 some (.inr (.inr (.inr false)))) (
 some (.inl (y3.2.1,y3.2.2.1,())))))) (cond (decide (y3.2.1<0)) (
 some (.inr (.inr (.inr false)))) (
 some (.inl (y3.2.1,y3.2.2.1,())))))):Option ((Int×Int×Unit)⊕((Int×Int×Int×Int×Unit)⊕((Int×Unit)⊕Bool)))).bind (be fun v6 =>
 some (.inl ((IntKind.wrap .i64 (v6.1+1)),v6.1,(IntKind.wrap .i64 (v6.2.1+1)),(IntKind.wrap .i64 (v6.2.1+1)),())))) (
 some (.inr (.inl (y3.1,()))))
def jq (a0:List (Int×Int×Unit)) (y14:(Int×Unit)):Option ((Int×Unit)⊕((Int×Unit)⊕Bool)) :=
 cond (decide (y14.1<(a0.length:Int))) ((atI a0 y14.1).bind fun x8 =>
 cond (decide (x8.1=2)) (
 some (.inl ((IntKind.wrap .i64 (y14.1+1)),()))) (
 some (.inr (.inl (y14.1,()))))) (some (.inr (.inl (y14.1,()))))
def zcw (a0:List (Int×Int×Unit)) (a1:List Int):Option Bool :=
(aJ (dY a0 a1) (0,(-1),0,0,()):Option ((Int×Unit)⊕Bool)).bind (be fun v7 =>
(aJ (jq a0) (v7.1,()):Option ((Int×Unit)⊕Bool)).bind (be fun v9 =>
 some (decide (v9.1=(a0.length:Int)))))
def yq:TFn:={ ps:=(.cons (.sl (.agg (.cons (.int .i64) (.cons (.int .i32) .unit)))) (.cons (.sl (.int .i32)) .unit)),res:=.bool,fn:=fun v=>zcw v.1 v.2.1 }
def akB:TEnv:=(vZ [])
theorem akA:runY Tryz.prog afo akC akB aqY Tryz.f331 yq.ps yq.res=yq.fn:=by kernel_rfl
theorem afm:aB Tryz.prog G0 331 afn:=ai (ak ⟨ay,ae,ap,ae,an⟩ Tryz.func331 rfl (by kernel_rfl))
theorem akz:TOk afn yq:=aC (E:=afo) (ET:=akB) (EnvT.ofX (az al) am au aQ ar) akA rfl
def agb:Env:={ pure:=[(215,acQ),(281,adl)],raw:=[],glob:=G0,same:=[274],look:=[(331,afn)],ext:=[] }
def alS:Hints:=(hZ [] [20])
def aga:PFn:=aH (runF Tryz.prog agb alS Tryz.f289)
def arl:TH:=yZ
def zcb (a0:List UInt8) (a1:List UInt8):Option Bool :=
(zcf a0).bind fun r1 =>
 cond r1.2.1 ((za3 a1).bind fun r2 =>
 cond r2 ((zcw r1.1 (qL a1)).bind fun r3 =>
 some r3) (some false)) (some false)
def yQ:TFn:={ ps:=(.cons .str (.cons .str .unit)),res:=.bool,fn:=fun v=>zcb v.1 v.2.1 }
def alR:TEnv:={ pure:=[(215,wJ),(281,wS)],look:=[(331,yq)],glob:=G0T,ty:=[],raw:=[],fresh:=[] }
theorem alQ:runY Tryz.prog agb alS alR arl Tryz.f289 yQ.ps yQ.res=yQ.fn:=by kernel_rfl
theorem af9:aB Tryz.prog G0 289 aga:=ai (ak ⟨ay,(aj yM (aj aam ae)),ap,(aj afm ae),an⟩ Tryz.func289 rfl (by kernel_rfl))
theorem alP:TOk aga yQ:=aC (E:=agb) (ET:=alR) (EnvT.ofX (az (ah aeH (ah aeR al))) (jI akz rfl am) au aQ ar) alQ rfl
def zh (F:PFn):Env:=(eZ [(289,aga),(228,F)] [274])
def agx:Hints:=(hZ [(1,[0,1]),(4,[0,1,15,16])] [])
def o6 (F:PFn):PFn:=aH (runF Tryz.prog (zh F) agx Tryz.f228)
def arw:TH:={ joins:=[(13,{ keep:=[(1,(.sl .str))],mem:=[] }),(10,{ keep:=[],mem:=[] })],loops:=[(1,{ keep:=[(0,(.sl .str)),(1,(.sl .str))],mem:=[] }),(4,{ keep:=[(16,(.int .i64))],mem:=[] })],ro:=[] }
def kI (y1:vV9) (rec:(List (List UInt8)×List (List UInt8)×Unit→Option Bool)) (y4:(Int×Unit)):Option ((Int×Unit)⊕(Unit⊕(vV9⊕((List (List UInt8)×Unit)⊕Bool)))) :=
 cond (decide (y4.1<(IntKind.wrap .i64 ((y1.2.1.length:Int)+1)))) (
(subI y1.1 1 (y1.1.length:Int)).bind fun s2 =>
(subI y1.2.1 y4.1 (y1.2.1.length:Int)).bind fun s3 =>
(rec (s2,s3,())).bind fun r4 =>
 cond r4 (
 some (.inr (.inr (.inr (.inr true))))) (
 some (.inl ((IntKind.wrap .i64 (y4.1+1)),())))) (
 some (.inr (.inr (.inr (.inr false)))))
def kJ (rec:(List (List UInt8)×List (List UInt8)×Unit→Option Bool)) (y1:vV9):Option (vV9⊕((List (List UInt8)×Unit)⊕Bool)) :=
 cond (decide ((y1.1.length:Int)>0)) (
((atI y1.1 0).bind fun x1 =>
 cond (decide (x1=[42,42])) (
 aJ (kI y1 rec) (0,())) (
 some (.inl ())):Option (Unit⊕(vV9⊕((List (List UInt8)×Unit)⊕Bool)))).bind (be fun v5 =>
 cond (decide ((y1.2.1.length:Int)=0)) (some (.inr (.inr false))) ((atI y1.1 0).bind fun x6 =>
(atI y1.2.1 0).bind fun x7 =>
(zcb x6 x7).bind fun r8 =>
 cond (!r8) (
 some (.inr (.inr false))) (
(subI y1.1 1 (y1.1.length:Int)).bind fun s9 =>
(subI y1.2.1 1 (y1.2.1.length:Int)).bind fun s10 =>
 some (.inl (s9,s10,())))))) (
 some (.inr (.inl (y1.2.1,()))))
def bP (rec:(vV9→Option Bool)) (a0:List (List UInt8)) (a1:List (List UInt8)):Option Bool :=
(aJ (kJ rec) (a0,a1,()):Option ((List (List UInt8)×Unit)⊕Bool)).bind (be fun v11 =>
 some (decide ((v11.1.length:Int)=0)))
def gj:(vV9→Option Bool):=fixT fun rec v=>bP rec v.1 v.2.1
def zbt (a0:List (List UInt8)) (a1:List (List UInt8)):Option Bool:=gj (a0,a1,())
def ze:TFn:={ ps:=(.cons (.sl .str) tT21),res:=.bool,fn:=fixT fun (rec:(vV9→Option Bool)) v=>bP rec v.1 v.2.1 }
def agz:PFn:=fixF o6 ze
def agw (rec:(vV9→Option Bool)):TEnv:=(vZ [(289,yQ),(228,{ ps:=(.cons (.sl .str) tT21),res:=.bool,fn:=rec })])
theorem amq (F:PFn) (rec:(vV9→Option Bool)):runY Tryz.prog (zh F) agx (agw rec) arw Tryz.f228 ze.ps ze.res=fun v=>bP rec v.1 v.2.1:=by kernel_rfl
theorem agy:aB Tryz.prog G0 228 agz:=aaV ⟨Tryz.f228,Tryz.func228,rfl,by kernel_rfl⟩ fun F hF=>ai (ak (P:=Tryz.prog) (E:=zh F) (h:=agx) (f:=228) (fn:=Tryz.f228) ⟨ay,(aj af9 (aj hF ae)),ap,ae,an⟩ Tryz.func228 rfl (by kernel_rfl))
theorem amp:TOk agz ze:=aqk rfl fun F rec hF=>aC (E:=zh F) (ET:=agw rec) (EnvT.ofX (E:=zh F) (ET:=agw rec) (az (ah alP (ah hF al))) am au aQ ar) (amq F rec) rfl
def agk:Env:=(eZ [(71,acT),(228,agz)] [274])
def al6:Hints:=(hZ [] [])
def agj:PFn:=aH (runF Tryz.prog agk al6 Tryz.f162)
def arp:TH:=yZ
def zbz (a0:List (List UInt8)) (a1:List (List UInt8)):Option Bool :=
(zbv a0).bind fun r1 =>
 cond (decide (r1=0)) ((zbt a0 a1).bind fun r2 =>
 some r2) (some false)
def yU:TFn:={ ps:=(.cons (.sl .str) tT21),res:=.bool,fn:=fun v=>zbz v.1 v.2.1 }
def al5:TEnv:=(vZ [(71,wM),(228,ze)])
theorem al4:runY Tryz.prog agk al6 al5 arp Tryz.f162 yU.ps yU.res=yU.fn:=by kernel_rfl
theorem agi:aB Tryz.prog G0 162 agj:=ai (ak ⟨ay,(aj zc (aj agy ae)),ap,ae,an⟩ Tryz.func162 rfl (by kernel_rfl))
theorem al3:TOk agj yU:=aC (E:=agk) (ET:=al5) (EnvT.ofX (az (ah aeK (ah amp al))) am au aQ ar) al4 rfl
def ag5:Env:=(eZ [(55,agK),(162,agj)] [274])
def ana:Hints:=(hZ [(3,[1,5,9,10,11])] [])
def ag4:PFn:=aH (runF Tryz.prog ag5 ana Tryz.f93)
def arI:TH:={ loops:=[(3,{ keep:=[(5,(.own 1)),(11,(.int .i64))],mem:=[.gone,.row true 109 tT20] })],ro:=[] }
def uY (a1:List (List UInt8)) (r1:List vV5) (y3:(Int×List vV5×Unit)):Option ((Int×List vV5×Unit)⊕List vV5) :=
 cond (decide (y3.1<(r1.length:Int))) (
(atI r1 y3.1).bind fun x2 =>
(zbz a1 x2.1).bind fun r3 =>
 cond r3 (
(dN (y3.2.1.length+([x2]:List vV5).length)).bind fun u4 =>
 some (.inl ((IntKind.wrap .i64 (y3.1+1)),(y3.2.1++([x2]:List vV5)),()))) (
 some (.inl ((IntKind.wrap .i64 (y3.1+1)),y3.2.1,())))) (
 some (.inr y3.2.1))
def zbh (a0:List vV6) (a1:List (List UInt8)):Option (List vV5) :=
(zbp a0).bind fun r1 =>
 aJ (uY a1 r1) (0,[],())
def zz:TFn:={ ps:=(.cons (.sl tT18) tT21),res:=(.sl tT20),fn:=fun v=>zbh v.1 v.2.1 }
def am9:TEnv:={ pure:=[(55,zo),(162,yU)],look:=[],glob:=G0T,ty:=[(109,tT20)],raw:=[],fresh:=[] }
theorem am8:runY Tryz.prog ag5 ana am9 arI Tryz.f93 zz.ps zz.res=zz.fn:=by kernel_rfl
theorem ag3:aB Tryz.prog G0 93 ag4:=ai (ak ⟨ay,(aj agJ (aj agi ae)),ap,ae,an⟩ Tryz.func93 rfl (by kernel_rfl))
theorem am7:TOk ag4 zz:=aC (E:=ag5) (ET:=am9) (EnvT.ofX (az (ah amD (ah al3 al))) am au aQ ar) am8 rfl
def ah3:Env:=(eZ [] [274])
def aoG:Hints:=(hZ [(4,[0,1,12,13])] [])
def ah2:PFn:=aH (runF Tryz.prog ah3 aoG Tryz.f196)
def ar6:TH:={ loops:=[(4,{ keep:=[(13,(.int .i64))],mem:=[] })],ro:=[] }
def ve (a0:List (List UInt8)) (a1:List (List UInt8)) (y4:(Int×Unit)):Option ((Int×Unit)⊕Bool) :=
 cond (decide (y4.1<(a0.length:Int))) (
(atI a0 y4.1).bind fun x1 =>
(atI a1 y4.1).bind fun x2 =>
 cond (!decide (x1=x2)) (
 some (.inr false)) (
 some (.inl ((IntKind.wrap .i64 (y4.1+1)),())))) (
 some (.inr true))
def zas (a0:List (List UInt8)) (a1:List (List UInt8)):Option Bool :=
 cond (!decide ((a0.length:Int)=(a1.length:Int))) (
 some false) (
 aJ (ve a0 a1) (0,()))
def z7:TFn:={ ps:=(.cons (.sl .str) tT21),res:=.bool,fn:=fun v=>zas v.1 v.2.1 }
def aoF:TEnv:=(vZ [])
theorem aoE:runY Tryz.prog ah3 aoG aoF ar6 Tryz.f196 z7.ps z7.res=z7.fn:=by kernel_rfl
theorem ah1:aB Tryz.prog G0 196 ah2:=ai (ak ⟨ay,ae,ap,ae,an⟩ Tryz.func196 rfl (by kernel_rfl))
theorem aoD:TOk ah2 z7:=aC (E:=ah3) (ET:=aoF) (EnvT.ofX (az al) am au aQ ar) aoE rfl
def aft:Env:=(eZ [(196,ah2)] [274])
def akM:Hints:=(hZ [] [])
def acN:PFn:=aH (runF Tryz.prog aft akM Tryz.f160)
def aq1:TH:=yZ
def zct (a0:List (List UInt8)) (a1:List (List UInt8)):Option Bool :=
(zas a0 a1).bind fun r1 =>
 some r1
def wH:TFn:={ ps:=(.cons (.sl .str) tT21),res:=.bool,fn:=fun v=>zct v.1 v.2.1 }
def akL:TEnv:=(vZ [(196,z7)])
theorem akK:runY Tryz.prog aft akM akL aq1 Tryz.f160 wH.ps wH.res=wH.fn:=by kernel_rfl
theorem yx:aB Tryz.prog G0 160 acN:=ai (ak ⟨ay,(aj ah1 ae),ap,ae,an⟩ Tryz.func160 rfl (by kernel_rfl))
theorem aeE:TOk acN wH:=aC (E:=aft) (ET:=akL) (EnvT.ofX (az (ah aoD al)) am au aQ ar) akK rfl
def afh:Env:=(eZ [(124,acS),(160,acN)] [274])
def akr:Hints:=(hZ [(3,[1,2,7,10,11,12])] [])
def ym:PFn:=aH (runF Tryz.prog afh akr Tryz.f229)
def aqV:TH:={ loops:=[(3,{ keep:=[(7,(.own 1)),(12,(.int .i64))],mem:=[.gone,.row true 148 tT18] })],ro:=[] }
def uF (a0:List vV6) (a1:List (List UInt8)) (a2:Int) (y3:(Int×List vV6×Unit)):Option ((Int×List vV6×Unit)⊕List vV6) :=
 cond (decide (y3.1<(a0.length:Int))) (
(atI a0 y3.1).bind fun x1 =>
(zc0 x1.2.1.1).bind fun r2 =>
 cond (decide (r2=a2)) ((zct x1.2.1.2.1 a1).bind fun r3 =>
 cond r3 (
(dN (y3.2.1.length+([x1]:List vV6).length)).bind fun u4 =>
 some (.inl ((IntKind.wrap .i64 (y3.1+1)),(y3.2.1++([x1]:List vV6)),()))) (
 some (.inl ((IntKind.wrap .i64 (y3.1+1)),y3.2.1,())))) (some (.inl ((IntKind.wrap .i64 (y3.1+1)),y3.2.1,())))) (
 some (.inr y3.2.1))
def zcz (a0:List vV6) (a1:List (List UInt8)) (a2:Int):Option (List vV6) :=
 aJ (uF a0 a1 a2) (0,[],())
def sy:TFn:={ ps:=(.cons (.sl tT18) (.cons (.sl .str) tT15)),res:=(.sl tT18),fn:=fun v=>zcz v.1 v.2.1 v.2.2.1 }
def akq:TEnv:={ pure:=[(124,wL),(160,wH)],look:=[],glob:=G0T,ty:=[(148,tT18)],raw:=[],fresh:=[] }
theorem akp:runY Tryz.prog afh akr akq aqV Tryz.f229 sy.ps sy.res=sy.fn:=by kernel_rfl
theorem sA:aB Tryz.prog G0 229 ym:=ai (ak ⟨ay,(aj yT (aj yx ae)),ap,ae,an⟩ Tryz.func229 rfl (by kernel_rfl))
theorem yl:TOk ym sy:=aC (E:=afh) (ET:=akq) (EnvT.ofX (az (ah aeJ (ah aeE al))) am au aQ ar) akp rfl
def adk:PFn:=cmpF
theorem ai4:aB Tryz.prog G0 291 adk:=rX ⟨Tryz.f291,Tryz.func291,rfl,by kernel_rfl⟩ Tryz.strings_Compare
def za5 (a0:List UInt8) (a1:List UInt8):Option Int:=cmpT a0 a1
def apT:TFn:=aci
theorem apS:TOk adk apT:=aj7
def ai1:Env:=(eZ [(154,sD),(156,sR),(291,adk)] [274])
def apK:Hints:=(hZ [] [])
def aaj:PFn:=aH (runF Tryz.prog ai1 apK Tryz.f231)
def asi:TH:={ loops:=[],ro:=[2,3] }
def za8 (a0:vV3) (a1:vV3):Option Int :=
(za4 a0.1 a1.1).bind fun r1 =>
(za4 a0.2.1 a1.2.1).bind fun r2 =>
(za5 a0.2.2.1 a1.2.2.1).bind fun r3 =>
(zck ([r1,r2,r3]:List Int)).bind fun r4 =>
 some r4
def aai:TFn:={ ps:=(.cons tT14 (.cons tT14 .unit)),res:=(.int .i64),fn:=fun v=>za8 v.1 v.2.1 }
def apJ:TEnv:={ pure:=[(154,qk),(156,qr),(291,apT)],look:=[],glob:=G0T,ty:=[(3,(.int .i64))],raw:=[],fresh:=[] }
theorem apI:runY Tryz.prog ai1 apK apJ asi Tryz.f231 aai.ps aai.res=aai.fn:=by kernel_rfl
theorem ai0:aB Tryz.prog G0 231 aaj:=ai (ak ⟨ay,(aj oI (aj oL (aj ai4 ae))),ap,ae,an⟩ Tryz.func231 rfl (by kernel_rfl))
theorem aeQ:TOk aaj aai:=aC (E:=ai1) (ET:=apJ) (EnvT.ofX (az (ah uJ (ah vg (ah apS al)))) am au aQ ar) apI rfl
theorem adj : @aB ⟨True⟩ Tryz.prog G0 291 adk:=by
 letI:Drawn:=⟨True⟩
 exact rX ⟨Tryz.f291,Tryz.func291,rfl,by kernel_rfl⟩ Tryz.strings_Compare
theorem adi : @aB ⟨True⟩ Tryz.prog G0 231 aaj:=by
 letI:Drawn:=⟨True⟩
 exact ai (ak ⟨ay,(aj uK (aj vh (aj adj ae))),ap,ae,an⟩ Tryz.func231 rfl (by kernel_rfl))
def aiE:Go.Shelf.Ren:=⟨fun | 6=>230 | 14=>290 | 15=>201 | 20=>332 | 21=>333 | 22=>334 | 23=>335 | 24=>336 | 25=>337 | 26=>338 | 27=>339 | 28=>268 | 29=>269 | 46=>359 | 47=>316 | 48=>317 | 49=>360 | 50=>361 | 57=>374 | n=>n,fun | 0=>0 | 3=>3 | 4=>4 | 5=>5 | 9=>9 | 22=>123 | 24=>132 | 25=>296 | 39=>230 | 45=>314 | 46=>315 | 50=>161 | 53=>321 | 55=>323 | 66=>354 | 70=>358 | 76=>378 | 77=>283 | n=>n,fun | n=>n⟩
theorem adh:Go.Proofs.SlLaysF0.n6 Tryz.prog aiE:={
 mixed:=by kernel_rfl
 f6:=⟨Tryz.f230.name,by decide,Tryz.func230.trans (congrArg some (by kernel_rfl))⟩
 f14:=⟨Tryz.f290.name,by decide,Tryz.func290.trans (congrArg some (by kernel_rfl))⟩
 f15:=Tryz.func201.trans (congrArg some (by kernel_rfl))
 f20:=⟨Tryz.f332.name,by decide,Tryz.func332.trans (congrArg some (by kernel_rfl))⟩
 f21:=⟨Tryz.f333.name,by decide,Tryz.func333.trans (congrArg some (by kernel_rfl))⟩
 f22:=⟨Tryz.f334.name,by decide,Tryz.func334.trans (congrArg some (by kernel_rfl))⟩
 f23:=⟨Tryz.f335.name,by decide,Tryz.func335.trans (congrArg some (by kernel_rfl))⟩
 f24:=⟨Tryz.f336.name,by decide,Tryz.func336.trans (congrArg some (by kernel_rfl))⟩
 f25:=⟨Tryz.f337.name,by decide,Tryz.func337.trans (congrArg some (by kernel_rfl))⟩
 f26:=⟨Tryz.f338.name,by decide,Tryz.func338.trans (congrArg some (by kernel_rfl))⟩
 f27:=⟨Tryz.f339.name,by decide,Tryz.func339.trans (congrArg some (by kernel_rfl))⟩
 f28:=Tryz.func268.trans (congrArg some (by kernel_rfl))
 f29:=Tryz.func269.trans (congrArg some (by kernel_rfl))
 f46:=⟨Tryz.f359.name,by decide,Tryz.func359.trans (congrArg some (by kernel_rfl))⟩
 f47:=Tryz.func316.trans (congrArg some (by kernel_rfl))
 f48:=Tryz.func317.trans (congrArg some (by kernel_rfl))
 f49:=⟨Tryz.f360.name,by decide,Tryz.func360.trans (congrArg some (by kernel_rfl))⟩
 f50:=⟨Tryz.f361.name,by decide,Tryz.func361.trans (congrArg some (by kernel_rfl))⟩
 f57:=⟨Tryz.f374.name,by decide,Tryz.func374.trans (congrArg some (by kernel_rfl))⟩
 t0:=Tryz.underlying0
 a0:=Tryz.isAgg0
 z0:=Tryz.sizeOf0
 v0:=Tryz.zeroValue0
 t3:=Tryz.underlying3
 a3:=Tryz.isAgg3
 z3:=Tryz.sizeOf3
 v3:=Tryz.zeroValue3
 t4:=Tryz.underlying4
 a4:=Tryz.isAgg4
 z4:=Tryz.sizeOf4
 v4:=Tryz.zeroValue4
 t5:=Tryz.underlying5
 a5:=Tryz.isAgg5
 z5:=Tryz.sizeOf5
 v5:=Tryz.zeroValue5
 t9:=Tryz.underlying9
 a9:=Tryz.isAgg9
 z9:=Tryz.sizeOf9
 v9:=Tryz.zeroValue9
 t22:=Tryz.underlying123
 a22:=Tryz.isAgg123
 z22:=Tryz.sizeOf123
 v22:=Tryz.zeroValue123
 t25:=Tryz.underlying296
 a25:=Tryz.isAgg296
 z25:=Tryz.sizeOf296
 v25:=Tryz.zeroValue296
 t39:=Tryz.underlying230
 a39:=Tryz.isAgg230
 z39:=Tryz.sizeOf230
 v39:=Tryz.zeroValue230
 t45:=Tryz.underlying314
 a45:=Tryz.isAgg314
 z45:=Tryz.sizeOf314
 v45:=Tryz.zeroValue314
 t46:=Tryz.underlying315
 a46:=Tryz.isAgg315
 z46:=Tryz.sizeOf315
 v46:=Tryz.zeroValue315
 t50:=Tryz.underlying161
 a50:=Tryz.isAgg161
 z50:=Tryz.sizeOf161
 v50:=Tryz.zeroValue161
 t53:=Tryz.underlying321
 a53:=Tryz.isAgg321
 z53:=Tryz.sizeOf321
 v53:=Tryz.zeroValue321
 t55:=Tryz.underlying323
 a55:=Tryz.isAgg323
 z55:=Tryz.sizeOf323
 v55:=Tryz.zeroValue323
 t66:=Tryz.underlying354
 a66:=Tryz.isAgg354
 z66:=Tryz.sizeOf354
 v66:=Tryz.zeroValue354
 t70:=Tryz.underlying358
 a70:=Tryz.isAgg358
 z70:=Tryz.sizeOf358
 v70:=Tryz.zeroValue358
 t76:=Tryz.underlying378
 a76:=Tryz.isAgg378
 z76:=Tryz.sizeOf378
 v76:=Tryz.zeroValue378
 t77:=Tryz.underlying283
 a77:=Tryz.isAgg283
 z77:=Tryz.sizeOf283
 v77:=Tryz.zeroValue283 }
def aiG:SFn:=oS aaj 231 3 132
theorem aiF:bL Tryz.prog G0 230 aiG:=kY (M:=3) (g:=231) adh (by decide) (fun w=>Tryz.isAgg132 w) (fun w=>Tryz.sizeOf132 w) adi ⟨Tryz.f230,Tryz.func230,rfl,by kernel_rfl⟩
def zaf (w0:List vV3):Option (Unit×List vV3×Unit):=(mK (fun x y=>za8 x y) w0).map fun l=>((),(l,()))
def aph:TRaw:=aaB false 231 132 tT14 (fun x y=>za8 x y)
theorem apg:TRawOk aiG aph:=vn rfl rfl rfl rfl aeQ
def ail:Env:=(eZ [] [274])
def aoZ:Hints:=(hZ [(4,[0,3]),(9,[0,3,4,5])] [])
def aik:SFn:=pH (runF Tryz.prog ail aoZ Tryz.f232)
def ar9:TH:={ joins:=[(14,{ keep:=[(0,(.own 0)),(3,(.int .i64))],mem:=[.row false 132 tT14] })],loops:=[(4,{ keep:=[(0,(.own 0)),(3,(.int .i64))],mem:=[.row false 132 tT14] }),(9,{ keep:=[(0,(.own 0)),(3,(.int .i64)),(4,(.vw 0)),(5,(.int .i64))],mem:=[.row false 132 tT14] })],ro:=[] }
def mZ (y9:(Int×(Nat×Nat)×Int×List vV3×Unit)):Option ((Int×(Nat×Nat)×Int×List vV3×Unit)⊕((Int×List vV3×Unit)⊕((Int×List vV3×Unit)⊕(List vV3)))) :=
 cond (decide (y9.2.2.1<(y9.2.1.2:Int))) (
 cond y9.2.2.2.1.isEmpty (none) ((inI y9.2.1.2 y9.2.2.1).bind fun i6 =>
(y9.2.2.2.1[(y9.2.1.1+i6)]?).bind fun x7 =>
 cond y9.2.2.2.1.isEmpty (none) ((inI y9.2.1.2 (IntKind.wrap .i64 (y9.2.2.1-1))).bind fun i8 =>
(y9.2.2.2.1[(y9.2.1.1+i8)]?).bind fun x9 =>
 cond (!(eqV tT14 x7 x9)) (
 cond y9.2.2.2.1.isEmpty (none) ((inI y9.2.1.2 y9.2.2.1).bind fun i10 =>
(y9.2.2.2.1[(y9.2.1.1+i10)]?).bind fun x11 =>
(inI y9.2.2.2.1.length y9.1).bind fun i12 =>
(y9.2.2.2.1[i12]?).bind fun x13 =>
 some (.inl ((IntKind.wrap .i64 (y9.1+1)),y9.2.1,(IntKind.wrap .i64 (y9.2.2.1+1)),(y9.2.2.2.1.set i12 x11),())))) (
 some (.inl (y9.1,y9.2.1,(IntKind.wrap .i64 (y9.2.2.1+1)),y9.2.2.2.1,())))))) (
 some (.inr (.inl (y9.1,y9.2.2.2.1,()))))
def kK (y4:(Int×List vV3×Unit)):Option ((Int×List vV3×Unit)⊕(List vV3)) :=
 cond (decide (y4.1<(y4.2.1.length:Int))) (
(inI y4.2.1.length y4.1).bind fun i1 =>
(y4.2.1[i1]?).bind fun x2 =>
(inI y4.2.1.length (IntKind.wrap .i64 (y4.1-1))).bind fun i3 =>
(y4.2.1[i3]?).bind fun x4 =>
 cond (eqV tT14 x2 x4) (
 cond y4.2.1.isEmpty (none) ((kR (y4.2.1.length) y4.1 (y4.2.1.length:Int)).bind fun p5 =>
(aJ (mZ) (y4.1,p5,1,y4.2.1,()):Option ((Int×List vV3×Unit)⊕((Int×List vV3×Unit)⊕(List vV3)))).bind (be fun v14 =>
 cond v14.2.1.isEmpty (none) ((kR (v14.2.1.length) v14.1 (v14.2.1.length:Int)).bind fun p15 =>
 cond v14.2.1.isEmpty (none) ((if p15.1+p15.2≤v14.2.1.length then some () else none).bind fun u16 =>
 cond (v14.2.1.take p15.1++List.replicate p15.2 (0,0,[],())++v14.2.1.drop (p15.1+p15.2)).isEmpty (none) ((kR ((v14.2.1.take p15.1++List.replicate p15.2 (0,0,[],())++v14.2.1.drop (p15.1+p15.2)).length) 0 v14.1).bind fun p17 =>
(cond (v14.2.1.take p15.1++List.replicate p15.2 (0,0,[],())++v14.2.1.drop (p15.1+p15.2)).isEmpty none (if p17.1+p17.2≤(v14.2.1.take p15.1++List.replicate p15.2 (0,0,[],())++v14.2.1.drop (p15.1+p15.2)).length then some (((v14.2.1.take p15.1++List.replicate p15.2 (0,0,[],())++v14.2.1.drop (p15.1+p15.2)).drop p17.1).take p17.2) else none)).map .inr)))))) (
 some (.inl ((IntKind.wrap .i64 (y4.1+1)),y4.2.1,())))) (
 some (.inr y4.2.1))
def aii (w0:List vV3):Option (List vV3) :=
 cond (decide ((w0.length:Int)<2)) (
 some w0) (
 aJ (kK) (1,w0,()))
def zam (w0:List vV3):Option (List vV3×Unit):=(aii w0).map fun l=>(l,())
def aoY:TRaw:={ ps:=(.cons (.own 0) .unit),ins:=[.row false 132 tT14],res:=(.sl tT14),outs:=[.gone],fn:=fun v w=>zam w.1 }
def aoX:TEnv:=(vZ [])
theorem aoW:aei Tryz.prog ail aoZ aoX ar9 Tryz.f232 (.cons (.own 0) .unit) false 132 tT14=fun _ w=>aii w:=by kernel_rfl
theorem aij:bL Tryz.prog G0 232 aik:=lX (ak ⟨ay,ae,ap,ae,an⟩ Tryz.func232 rfl (by kernel_rfl))
theorem aoV:TRawOk aik aoY:=vT (E:=ail) (ET:=aoX) (EnvT.ofX (az al) am au aQ ar) aoW
def ahq:Env:={ pure:=[(229,ym)],raw:=[(230,aiG),(232,aik)],glob:=G0,same:=[274],look:=[],ext:=[] }
def anJ:Hints:=(hZ [(3,[5,10,11,12])] [])
def ahp:PFn:=aH (runF Tryz.prog ahq anJ Tryz.f163)
def arR:TH:={ joins:=[(7,{ keep:=[(5,(.own 1))],mem:=[.gone,.row true 132 tT14] })],loops:=[(3,{ keep:=[(5,(.own 1)),(12,(.int .i64))],mem:=[.gone,.row true 132 tT14] })],ro:=[] }
def uZ (r1:List vV6) (y3:(Int×List vV3×Unit)):Option ((Int×List vV3×Unit)⊕((List vV3×Unit)⊕List vV3)) :=
 cond (decide (y3.1<(r1.length:Int))) (
(atI r1 y3.1).bind fun x2 =>
(dN (y3.2.1.length+([x2.2.1.2.2.1]:List vV3).length)).bind fun u3 =>
 some (.inl ((IntKind.wrap .i64 (y3.1+1)),(y3.2.1++([x2.2.1.2.2.1]:List vV3)),()))) (
 some (.inr (.inl (y3.2.1,()))))
def zb8 (a0:List vV6) (a1:List (List UInt8)):Option (List vV3) :=
((zcz a0 a1 1).bind fun r1 =>
 aJ (uZ r1) (0,[],()):Option ((List vV3×Unit)⊕List vV3)).bind (be fun v4 =>
(zaf v4.1).bind fun q5 =>
(zam q5.2.1).bind fun q6 =>
 some q6.1)
def zM:TFn:={ ps:=(.cons (.sl tT18) tT21),res:=(.sl tT14),fn:=fun v=>zb8 v.1 v.2.1 }
def anI:TEnv:={ pure:=[(229,sy)],look:=[],glob:=G0T,ty:=[(132,tT14)],raw:=[(230,aph),(232,aoY)],fresh:=[] }
theorem anH:runY Tryz.prog ahq anJ anI arR Tryz.f163 zM.ps zM.res=zM.fn:=by kernel_rfl
theorem aho:aB Tryz.prog G0 163 ahp:=ai (ak ⟨ay,(aj sA ae),(bv aiF (bv aij ap)),ae,an⟩ Tryz.func163 rfl (by kernel_rfl))
theorem anG:TOk ahp zM:=aC (E:=ahq) (ET:=anI) (EnvT.ofX (az (ah yl al)) am (ci apg rfl rfl (ci aoV rfl rfl au)) aQ ar) anH rfl
def aic:Go.Shelf.Ren:=⟨fun | 22=>234 | 29=>292 | 30=>293 | n=>n,fun | 24=>123 | 9=>132 | 0=>0 | 3=>3 | 4=>4 | n=>n,fun | n=>n⟩
theorem ada:InsL Tryz.prog aic:={
 mixed:=by kernel_rfl
 f22:=⟨Tryz.f234.name,by decide,Tryz.func234.trans (congrArg some (by kernel_rfl))⟩
 f29:=⟨Tryz.f292.name,by decide,by kernel_rfl,by kernel_rfl,Tryz.func292.trans (congrArg some (by kernel_rfl))⟩
 t0:=Tryz.underlying0
 a0:=Tryz.isAgg0
 z0:=Tryz.sizeOf0
 v0:=Tryz.zeroValue0
 t3:=Tryz.underlying3
 a3:=Tryz.isAgg3
 z3:=Tryz.sizeOf3
 v3:=Tryz.zeroValue3
 t4:=Tryz.underlying4
 a4:=Tryz.isAgg4
 z4:=Tryz.sizeOf4
 v4:=Tryz.zeroValue4
 t24:=Tryz.underlying123
 a24:=Tryz.isAgg123
 z24:=Tryz.sizeOf123
 v24:=Tryz.zeroValue123 }
def aie:SFn:=ey 3 132
theorem aid:bL Tryz.prog G0 234 aie:=nW ada rfl rfl rfl (iZ (P:=Tryz.prog) (te:=132) (M:=3) (by kernel_rfl) (by kernel_rfl) (by kernel_rfl) (by kernel_rfl) (by kernel_rfl) (by kernel_rfl) (by kernel_rfl) (by kernel_rfl)) true Tryz.isAgg132 ⟨Tryz.f234,Tryz.func234,rfl,by kernel_rfl⟩
def zao (a1:Int) (a2:List vV3) (w0:List vV3):Option (Unit×List vV3×Unit):=(insT w0 a1 a2).map fun l=>((),(l,()))
def aoS:TRaw:=insR false 132 tT14
theorem aoR:TRawOk aie aoS:=abI rfl rfl rfl rfl (by decide)
def aiQ:Env:=(eZ [(231,aaj)] [274])
def apv:Hints:=(hZ [(3,[0,2,4,8,9,10])] [])
def aiP:PFn:=aH (runF Tryz.prog aiQ apv Tryz.f233)
def ase:TH:={ joins:=[(8,{ keep:=[(4,(.bx 0 0)),(9,(.int .i64))],mem:=[.same] })],loops:=[(3,{ keep:=[(4,(.bx 0 0)),(9,(.int .i64)),(10,(.int .i64))],mem:=[.same] })],ro:=[4] }
def nc (a0:List vV3) (a1:vV3) (y3:(Int×Int×Unit)):Option ((Int×Int×Unit)⊕((Int×Unit)⊕(Int×Bool×Unit))) :=
 cond (decide (y3.1<y3.2.1)) (
(shrT .u64 (IntKind.wrap .u64 (IntKind.wrap .i64 (y3.1+y3.2.1))) 1).bind fun t1 =>
(atI a0 (IntKind.wrap .i64 t1)).bind fun x2 =>
(za8 x2 a1).bind fun r3 =>
 cond (decide (r3<0)) (
 some (.inl ((IntKind.wrap .i64 ((IntKind.wrap .i64 t1)+1)),y3.2.1,()))) (
 some (.inl (y3.1,(IntKind.wrap .i64 t1),())))) (
 some (.inr (.inl (y3.1,()))))
def zac (a0:List vV3) (a1:vV3) (a2:Unit):Option (Int×Bool×Unit) :=
(aJ (nc a0 a1) (0,(a0.length:Int),()):Option ((Int×Unit)⊕(Int×Bool×Unit))).bind (be fun v4 =>
 cond (decide (v4.1<(a0.length:Int))) ((atI a0 v4.1).bind fun x5 =>
(za8 x5 a1).bind fun r6 =>
 some (v4.1,(decide (r6=0)),())) (some (v4.1,false,())))
def aae:TFn:={ ps:=(.cons (.sl tT14) (.cons tT14 (.cons (.fn 231) .unit))),res:=(.tup (.cons (.int .i64) (.cons .bool .unit))),fn:=fun v=>zac v.1 v.2.1 v.2.2.1 }
def apu:TEnv:=(vZ [(231,aai)])
theorem apt:runY Tryz.prog aiQ apv apu ase Tryz.f233 aae.ps aae.res=aae.fn:=by kernel_rfl
theorem aiO:aB Tryz.prog G0 233 aiP:=ai (ak ⟨ay,(aj ai0 ae),ap,ae,an⟩ Tryz.func233 rfl (by kernel_rfl))
theorem aps:TOk aiP aae:=aC (E:=aiQ) (ET:=apu) (EnvT.ofX (az (ah aeQ al)) am au aQ ar) apt rfl
def afR:Env:={ pure:=[(229,ym)],raw:=[(234,aie)],glob:=G0,same:=[274],look:=[(233,aiP)],ext:=[] }
def alo:Hints:=(hZ [(3,[5,12,13,14])] [])
def afQ:PFn:=aH (runF Tryz.prog afR alo Tryz.f164)
def arb:TH:={ loops:=[(3,{ keep:=[(5,(.own 1)),(14,(.int .i64))],mem:=[.gone,.row false 132 tT14] })],ro:=[] }
def uL (r1:List vV6) (y3:(Int×List vV3×Unit)):Option ((Int×List vV3×Unit)⊕List vV3) :=
 cond (decide (y3.1<(r1.length:Int))) (
(atI r1 y3.1).bind fun x2 =>
(zac y3.2.1 x2.2.1.2.2.1 ()).bind fun r3 =>
 cond (!r3.2.1) (
(zao r3.1 ([x2.2.1.2.2.1]:List vV3) y3.2.1).bind fun q4 =>
 some (.inl ((IntKind.wrap .i64 (y3.1+1)),q4.2.1,()))) (
 some (.inl ((IntKind.wrap .i64 (y3.1+1)),y3.2.1,())))) (
 some (.inr y3.2.1))
def zcj (a0:List vV6) (a1:List (List UInt8)):Option (List vV3) :=
(zcz a0 a1 2).bind fun r1 =>
 aJ (uL r1) (0,[],())
def yH:TFn:={ ps:=(.cons (.sl tT18) tT21),res:=(.sl tT14),fn:=fun v=>zcj v.1 v.2.1 }
def aln:TEnv:={ pure:=[(229,sy)],look:=[(233,aae)],glob:=G0T,ty:=[(132,tT14)],raw:=[(234,aoS)],fresh:=[] }
theorem alm:runY Tryz.prog afR alo aln arb Tryz.f164 yH.ps yH.res=yH.fn:=by kernel_rfl
theorem afP:aB Tryz.prog G0 164 afQ:=ai (ak ⟨ay,(aj sA ae),(bv aid ap),(aj aiO ae),an⟩ Tryz.func164 rfl (by kernel_rfl))
theorem alk:TOk afQ yH:=aC (E:=afR) (ET:=aln) (EnvT.ofX (az (ah yl al)) (jI aps rfl am) (ci aoR rfl rfl au) aQ ar) alm rfl
def afx:Env:=(eZ [(229,ym)] [274])
def akT:Hints:=(hZ [(3,[5,10,11,12])] [])
def afw:PFn:=aH (runF Tryz.prog afx akT Tryz.f165)
def aq3:TH:={ loops:=[(3,{ keep:=[(5,(.int .i64)),(12,(.int .i64))],mem:=[] })],ro:=[] }
def uI (r1:List vV6) (y3:(Int×Int×Unit)):Option ((Int×Int×Unit)⊕Int) :=
 cond (decide (y3.2.1<(r1.length:Int))) (
(atI r1 y3.2.1).bind fun x2 =>
 some (.inl ((IntKind.wrap .i64 (y3.1+x2.2.1.2.2.2.1)),(IntKind.wrap .i64 (y3.2.1+1)),()))) (
 some (.inr y3.1))
def zcr (a0:List vV6) (a1:List (List UInt8)):Option Int :=
(zcz a0 a1 3).bind fun r1 =>
 aJ (uI r1) (0,0,())
def yA:TFn:={ ps:=(.cons (.sl tT18) tT21),res:=(.int .i64),fn:=fun v=>zcr v.1 v.2.1 }
def akS:TEnv:=(vZ [(229,sy)])
theorem akR:runY Tryz.prog afx akT akS aq3 Tryz.f165 yA.ps yA.res=yA.fn:=by kernel_rfl
theorem afv:aB Tryz.prog G0 165 afw:=ai (ak ⟨ay,(aj sA ae),ap,ae,an⟩ Tryz.func165 rfl (by kernel_rfl))
theorem akQ:TOk afw yA:=aC (E:=afx) (ET:=akS) (EnvT.ofX (az (ah yl al)) am au aQ ar) akR rfl
def agf:Env:=(eZ [(72,wR),(163,ahp),(164,afQ),(165,afw)] [274])
def alZ:Hints:=(hZ [] [])
def age:PFn:=aH (runF Tryz.prog agf alZ Tryz.f94)
def arn:TH:=yZ
def zc1 (a0:List vV6) (a1:List (List UInt8)) (a2:Int):Option vV0 :=
(zat a1).bind fun r1 =>
 cond (decide (a2=1)) (
(zb8 a0 a1).bind fun r2 =>
 some (r1,a2,r2,0,())) (
 cond (decide (a2=2)) (
(zcj a0 a1).bind fun r3 =>
 some (r1,a2,r3,0,())) (
 cond (decide (a2=3)) (
(zcr a0 a1).bind fun r4 =>
 some (r1,a2,[],r4,())) (
 some (r1,a2,[],0,()))))
def yS:TFn:={ ps:=(.cons (.sl tT18) (.cons (.sl .str) tT15)),res:=tT11,fn:=fun v=>zc1 v.1 v.2.1 v.2.2.1 }
def alY:TEnv:=(vZ [(72,z6),(163,zM),(164,yH),(165,yA)])
theorem alX:runY Tryz.prog agf alZ alY arn Tryz.f94 yS.ps yS.res=yS.fn:=by kernel_rfl
theorem agd:aB Tryz.prog G0 94 age:=ai (ak ⟨ay,(aj oK (aj aho (aj afP (aj afv ae)))),ap,ae,an⟩ Tryz.func94 rfl (by kernel_rfl))
theorem alW:TOk age yS:=aC (E:=agf) (ET:=alY) (EnvT.ofX (az (ah vd (ah anG (ah alk (ah akQ al))))) am au aQ ar) alX rfl
def afS:Env:=(eZ [(93,ag4),(94,age)] [274])
def alr:Hints:=(hZ [(3,[0,5,10,11,12])] [])
def yJ:PFn:=aH (runF Tryz.prog afS alr Tryz.f32)
def arc:TH:={ loops:=[(3,{ keep:=[(5,(.own 1)),(12,(.int .i64))],mem:=[.gone,.row true 125 tT11] })],ro:=[] }
def uM (a0:List vV6) (r1:List vV5) (y3:(Int×List vV0×Unit)):Option ((Int×List vV0×Unit)⊕List vV0) :=
 cond (decide (y3.1<(r1.length:Int))) (
(atI r1 y3.1).bind fun x2 =>
(zc1 a0 x2.1 x2.2.1).bind fun r3 =>
(dN (y3.2.1.length+([r3]:List vV0).length)).bind fun u4 =>
 some (.inl ((IntKind.wrap .i64 (y3.1+1)),(y3.2.1++([r3]:List vV0)),()))) (
 some (.inr y3.2.1))
def zci (a0:List vV6) (a1:List (List UInt8)):Option (List vV0) :=
(zbh a0 a1).bind fun r1 =>
 aJ (uM a0 r1) (0,[],())
def sE:TFn:={ ps:=(.cons (.sl tT18) tT21),res:=(.sl tT11),fn:=fun v=>zci v.1 v.2.1 }
def alq:TEnv:={ pure:=[(93,zz),(94,yS)],look:=[],glob:=G0T,ty:=[(125,tT11)],raw:=[],fresh:=[] }
theorem alp:runY Tryz.prog afS alr alq arc Tryz.f32 sE.ps sE.res=sE.fn:=by kernel_rfl
theorem sF:aB Tryz.prog G0 32 yJ:=ai (ak ⟨ay,(aj ag3 (aj agd ae)),ap,ae,an⟩ Tryz.func32 rfl (by kernel_rfl))
theorem yI:TOk yJ sE:=aC (E:=afS) (ET:=alq) (EnvT.ofX (az (ah am7 (ah alW al))) am au aQ ar) alp rfl
def ai2:Env:=(eZ [(154,sD),(155,zB),(156,sR)] [274])
def apN:Hints:=(hZ [] [])
def aal:PFn:=aH (runF Tryz.prog ai2 apN Tryz.f86)
def asj:TH:={ loops:=[],ro:=[2,3] }
def za7 (a0:vV0) (a1:vV0):Option Int :=
(zbg a0.1 a1.1).bind fun r1 =>
(za4 a0.2.1 a1.2.1).bind fun r2 =>
(zck ([r1,r2]:List Int)).bind fun r3 =>
 some r3
def sO:TFn:={ ps:=(.cons tT11 (.cons tT11 .unit)),res:=(.int .i64),fn:=fun v=>za7 v.1 v.2.1 }
def apM:TEnv:={ pure:=[(154,qk),(155,wP),(156,qr)],look:=[],glob:=G0T,ty:=[(3,(.int .i64))],raw:=[],fresh:=[] }
theorem apL:runY Tryz.prog ai2 apN apM asj Tryz.f86 sO.ps sO.res=sO.fn:=by kernel_rfl
theorem sP:aB Tryz.prog G0 86 aal:=ai (ak ⟨ay,(aj oI (aj zA (aj oL ae))),ap,ae,an⟩ Tryz.func86 rfl (by kernel_rfl))
theorem aak:TOk aal sO:=aC (E:=ai2) (ET:=apM) (EnvT.ofX (az (ah uJ (ah aeN (ah vg al)))) am au aQ ar) apL rfl
def ah6:Go.Shelf.Ren:=⟨fun | 41=>159 | n=>n,fun | 22=>123 | 23=>132 | 4=>4 | n=>n,fun | n=>n⟩
theorem ac9:Go.Proofs.SlLaysE0.n41 Tryz.prog ah6:={
 mixed:=by kernel_rfl
 f41:=⟨Tryz.f159.name,by decide,Tryz.func159.trans (congrArg some (by kernel_rfl))⟩
 t4:=Tryz.underlying4
 a4:=Tryz.isAgg4
 z4:=Tryz.sizeOf4
 v4:=Tryz.zeroValue4
 t22:=Tryz.underlying123
 a22:=Tryz.isAgg123
 z22:=Tryz.sizeOf123
 v22:=Tryz.zeroValue123 }
def ah8:PFn:=(j9 3)
theorem ah7:aB Tryz.prog G0 159 ah8:=clone_lays ac9 3 ⟨Tryz.f159,Tryz.func159,rfl,by kernel_rfl⟩ (by kernel_rfl) (by kernel_rfl) (by kernel_rfl) (by kernel_rfl) (by kernel_rfl) (by decide) (fun w=>Tryz.sizeOf132 w)
def zaq (a0:List vV3):Option (List vV3):=eR a0
def aoM:TFn:=fM tT14
theorem aoL:TOk ah8 aoM:=mm rfl rfl rfl
def ag2:Env:=(eZ [(72,wR),(159,ah8)] [274])
def am6:Hints:=(hZ [] [])
def acW:PFn:=aH (runF Tryz.prog ag2 am6 Tryz.f89)
def arH:TH:=yZ
def zbi (a0:vV0):Option vV0 :=
(zat a0.1).bind fun r1 =>
(zaq a0.2.2.1).bind fun r2 =>
 some (r1,a0.2.1,r2,a0.2.2.2.1,())
def wO:TFn:={ ps:=(.cons tT11 .unit),res:=tT11,fn:=fun v=>zbi v.1 }
def am5:TEnv:=(vZ [(72,z6),(159,aoM)])
theorem am4:runY Tryz.prog ag2 am6 am5 arH Tryz.f89 wO.ps wO.res=wO.fn:=by kernel_rfl
theorem zy:aB Tryz.prog G0 89 acW:=ai (ak ⟨ay,(aj oK (aj ah7 ae)),ap,ae,an⟩ Tryz.func89 rfl (by kernel_rfl))
theorem aeM:TOk acW wO:=aC (E:=ag2) (ET:=am5) (EnvT.ofX (az (ah vd (ah aoL al))) am au aQ ar) am4 rfl
def aib:Env:=(eZ [] [274])
def aoQ:Hints:=(hZ [(4,[0,1,12,13])] [])
def aia:PFn:=aH (runF Tryz.prog aib aoQ Tryz.f161)
def ar8:TH:={ loops:=[(4,{ keep:=[(13,(.int .i64))],mem:=[] })],ro:=[] }
def vf (a0:List vV3) (a1:List vV3) (y4:(Int×Unit)):Option ((Int×Unit)⊕Bool) :=
 cond (decide (y4.1<(a0.length:Int))) (
(atI a0 y4.1).bind fun x1 =>
(atI a1 y4.1).bind fun x2 =>
 cond (!(eqV tT14 x1 x2)) (
 some (.inr false)) (
 some (.inl ((IntKind.wrap .i64 (y4.1+1)),())))) (
 some (.inr true))
def zap (a0:List vV3) (a1:List vV3):Option Bool :=
 cond (!decide ((a0.length:Int)=(a1.length:Int))) (
 some false) (
 aJ (vf a0 a1) (0,()))
def aaa:TFn:={ ps:=(.cons (.sl tT14) (.cons (.sl tT14) .unit)),res:=.bool,fn:=fun v=>zap v.1 v.2.1 }
def aoP:TEnv:=(vZ [])
theorem aoO:runY Tryz.prog aib aoQ aoP ar8 Tryz.f161 aaa.ps aaa.res=aaa.fn:=by kernel_rfl
theorem ah9:aB Tryz.prog G0 161 aia:=ai (ak ⟨ay,ae,ap,ae,an⟩ Tryz.func161 rfl (by kernel_rfl))
theorem aoN:TOk aia aaa:=aC (E:=aib) (ET:=aoP) (EnvT.ofX (az al) am au aQ ar) aoO rfl
def afr:Env:=(eZ [(160,acN),(161,aia)] [274])
def akG:Hints:=(hZ [] [])
def afq:PFn:=aH (runF Tryz.prog afr akG Tryz.f92)
def aqZ:TH:={ loops:=[],cuts:=[(1,[(12,{ keep:=[(2,(.bx 0 0)),(3,(.bx 1 0)),(16,.bool)],mem:=[.same,.same] })])],ro:=[2,3],news:=[] }
def zcv (a0:vV0) (a1:vV0):Option Bool :=
(cond (decide (a0.2.1=a1.2.1)) (some ((decide (a0.2.2.2.1=a1.2.2.2.1)),())) (some (false,())):Option (Bool×Unit)).bind fun v1 =>
 cond v1.1 ((zct a0.1 a1.1).bind fun r2 =>
 cond r2 ((zap a0.2.2.1 a1.2.2.1).bind fun r3 =>
 some r3) (some false)) (some false)
def yr:TFn:={ ps:=(.cons tT11 (.cons tT11 .unit)),res:=.bool,fn:=fun v=>zcv v.1 v.2.1 }
def akF:TEnv:=(vZ [(160,wH),(161,aaa)])
theorem akE:runY Tryz.prog afr akG akF aqZ Tryz.f92 yr.ps yr.res=yr.fn:=by kernel_rfl
theorem afp:aB Tryz.prog G0 92 afq:=ai (ak ⟨ay,(aj yx (aj ah9 ae)),ap,ae,an⟩ Tryz.func92 rfl (by kernel_rfl))
theorem akD:TOk afq yr:=aC (E:=afr) (ET:=akF) (EnvT.ofX (az (ah aeE (ah aoN al))) am au aQ ar) akE rfl
def aiW:Env:=(eZ [(92,afq)] [274])
def apD:Hints:=(hZ [(4,[1,2,15,16,17])] [])
def aiV:PFn:=aH (runF Tryz.prog aiW apD Tryz.f91)
def asg:TH:={ loops:=[(4,{ keep:=[(17,(.int .i64))],mem:=[] })],ro:=[] }
def kM (a0:List vV0) (a1:List vV0) (y4:(Int×Unit)):Option ((Int×Unit)⊕Bool) :=
 cond (decide (y4.1<(a0.length:Int))) (
(atI a0 y4.1).bind fun x1 =>
(atI a1 y4.1).bind fun x2 =>
(zcv x1 x2).bind fun r3 =>
 cond (!r3) (
 some (.inr false)) (
 some (.inl ((IntKind.wrap .i64 (y4.1+1)),())))) (
 some (.inr true))
def zaa (a0:List vV0) (a1:List vV0) (a2:Unit):Option Bool :=
 cond (!decide ((a0.length:Int)=(a1.length:Int))) (
 some false) (
 aJ (kM a0 a1) (0,()))
def aag:TFn:={ ps:=(.cons (.sl tT11) (.cons (.sl tT11) (.cons (.fn 92) .unit))),res:=.bool,fn:=fun v=>zaa v.1 v.2.1 v.2.2.1 }
def apC:TEnv:=(vZ [(92,yr)])
theorem apB:runY Tryz.prog aiW apD apC asg Tryz.f91 aag.ps aag.res=aag.fn:=by kernel_rfl
theorem aiU:aB Tryz.prog G0 91 aiV:=ai (ak ⟨ay,(aj afp ae),ap,ae,an⟩ Tryz.func91 rfl (by kernel_rfl))
theorem apA:TOk aiV aag:=aC (E:=aiW) (ET:=apC) (EnvT.ofX (az (ah akD al)) am au aQ ar) apB rfl
def afs:Env:=(eZ [(91,aiV)] [274])
def akJ:Hints:=(hZ [] [])
def yw:PFn:=aH (runF Tryz.prog afs akJ Tryz.f31)
def aq0:TH:=yZ
def zcu (a0:List vV0) (a1:List vV0):Option Bool :=
(zaa a0 a1 ()).bind fun r1 =>
 some r1
def sB:TFn:={ ps:=(.cons (.sl tT11) (.cons (.sl tT11) .unit)),res:=.bool,fn:=fun v=>zcu v.1 v.2.1 }
def akI:TEnv:=(vZ [(91,aag)])
theorem akH:runY Tryz.prog afs akJ akI aq0 Tryz.f31 sB.ps sB.res=sB.fn:=by kernel_rfl
theorem sC:aB Tryz.prog G0 31 yw:=ai (ak ⟨ay,(aj aiU ae),ap,ae,an⟩ Tryz.func31 rfl (by kernel_rfl))
theorem yu:TOk yw sB:=aC (E:=afs) (ET:=akI) (EnvT.ofX (az (ah apA al)) am au aQ ar) akH rfl
def ahE:Env:=(eZ [(31,yw)] [274])
def an5:Hints:=(hZ [] [])
def ac1:PFn:=aH (runF Tryz.prog ahE an5 Tryz.f87)
def arX:TH:={ loops:=[],ro:=[2,3] }
def zb2 (a0:vV0) (a1:vV0):Option Bool :=
(zcu ([a0]:List vV0) ([a1]:List vV0)).bind fun r1 =>
 some r1
def wQ:TFn:={ ps:=(.cons tT11 (.cons tT11 .unit)),res:=.bool,fn:=fun v=>zb2 v.1 v.2.1 }
def an4:TEnv:={ pure:=[(31,sB)],look:=[],glob:=G0T,ty:=[(125,tT11)],raw:=[],fresh:=[] }
theorem an3:runY Tryz.prog ahE an5 an4 arX Tryz.f87 wQ.ps wQ.res=wQ.fn:=by kernel_rfl
theorem zT:aB Tryz.prog G0 87 ac1:=ai (ak ⟨ay,(aj sC ae),ap,ae,an⟩ Tryz.func87 rfl (by kernel_rfl))
theorem aeP:TOk ac1 wQ:=aC (E:=ahE) (ET:=an4) (EnvT.ofX (az (ah yu al)) am au aQ ar) an3 rfl
def ahD:Env:=(eZ [(86,aal),(87,ac1),(89,acW)] [274])
def an2:Hints:=(hZ [(2,[0,1,5])] [41,45,60,73])
def ahC:PFn:=aH (runF Tryz.prog ahD an2 Tryz.f76)
def arW:TH:={ joins:=[(3,{ keep:=[(5,(.own 0))],mem:=[.row true 127 tT19] }),(11,{ keep:=[(5,(.own 0)),(6,(.int .i64))],mem:=[.row true 127 tT19] }),(10,{ keep:=[(5,(.own 0))],mem:=[.row true 127 tT19] })],loops:=[(2,{ keep:=[(0,(.sl tT11)),(1,(.sl tT11)),(5,(.own 0))],mem:=[.row true 127 tT19] })],ro:=[] }
def ir (y2:(List vV0×List vV0×List vV8×Unit)):Option ((List vV0×List vV0×List vV8×Unit)⊕List vV8) :=
(cond (decide ((y2.1.length:Int)>0)) (some (.inl (y2.2.2.1,()))) (cond (decide ((y2.2.1.length:Int)>0)) (
 some (.inl (y2.2.2.1,()))) (
 some (.inr (.inr y2.2.2.1)))):Option ((List vV8×Unit)⊕((List vV0×List vV0×List vV8×Unit)⊕List vV8))).bind (be fun v1 =>
(cond (decide ((y2.2.1.length:Int)=0)) (
 some (.inl ((-1),v1.1,()))) (
 cond (decide ((y2.1.length:Int)>0)) (
(atI y2.1 0).bind fun x2 =>
(atI y2.2.1 0).bind fun x3 =>
(za7 x2 x3).bind fun r4 =>
 some (.inl (r4,v1.1,()))) (
 some (.inl (1,v1.1,())))):Option ((Int×List vV8×Unit)⊕((List vV0×List vV0×List vV8×Unit)⊕List vV8))).bind (be fun v5 =>
 cond (decide (v5.1<0)) (
(atI y2.1 0).bind fun x6 =>
(zbi x6).bind fun r7 =>
(dN (v5.2.1.length+([(2,r7,([],0,[],0,()),())]:List vV8).length)).bind fun u8 =>
(subI y2.1 1 (y2.1.length:Int)).bind fun s9 =>
 some (.inl (s9,y2.2.1,(v5.2.1++([(2,r7,([],0,[],0,()),())]:List vV8)),()))) (
 cond (decide (v5.1>0)) (
(atI y2.2.1 0).bind fun x10 =>
(zbi x10).bind fun r11 =>
(dN (v5.2.1.length+([(1,([],0,[],0,()),r11,())]:List vV8).length)).bind fun u12 =>
(subI y2.2.1 1 (y2.2.1.length:Int)).bind fun s13 =>
 some (.inl (y2.1,s13,(v5.2.1++([(1,([],0,[],0,()),r11,())]:List vV8)),()))) (
((atI y2.1 0).bind fun x14 =>
(atI y2.2.1 0).bind fun x15 =>
(zb2 x14 x15).bind fun r16 =>
 cond (!r16) (
(atI y2.1 0).bind fun x17 =>
(zbi x17).bind fun r18 =>
(atI y2.2.1 0).bind fun x19 =>
(zbi x19).bind fun r20 =>
(dN (v5.2.1.length+([(3,r18,r20,())]:List vV8).length)).bind fun u21 =>
 some (.inl ((v5.2.1++([(3,r18,r20,())]:List vV8)),()))) (
 some (.inl (v5.2.1,()))):Option ((List vV8×Unit)⊕((List vV0×List vV0×List vV8×Unit)⊕List vV8))).bind (be fun v22 =>
(subI y2.1 1 (y2.1.length:Int)).bind fun s23 =>
(subI y2.2.1 1 (y2.2.1.length:Int)).bind fun s24 =>
 some (.inl (s23,s24,v22.1,())))))))
def zb3 (a0:List vV0) (a1:List vV0):Option (List vV8) :=
 aJ (ir) (a0,a1,[],())
def zS:TFn:={ ps:=(.cons (.sl tT11) (.cons (.sl tT11) .unit)),res:=(.sl tT19),fn:=fun v=>zb3 v.1 v.2.1 }
def an1:TEnv:={ pure:=[(86,sO),(87,wQ),(89,wO)],look:=[],glob:=G0T,ty:=[(127,tT19)],raw:=[],fresh:=[] }
theorem an0:runY Tryz.prog ahD an2 an1 arW Tryz.f76 zS.ps zS.res=zS.fn:=by kernel_rfl
theorem ahB:aB Tryz.prog G0 76 ahC:=ai (ak ⟨ay,(aj sP (aj zT (aj zy ae))),ap,ae,an⟩ Tryz.func76 rfl (by kernel_rfl))
theorem anZ:TOk ahC zS:=aC (E:=ahD) (ET:=an1) (EnvT.ofX (az (ah aak (ah aeP (ah aeM al)))) am au aQ ar) an0 rfl
def ajb:Env:=(eZ [(32,yJ),(76,ahC)] [274])
def aqa:Hints:=(hZ [] [8])
def adp:SFn:=runF Tryz.prog ajb aqa Tryz.f21
def asq:TH:=yZ
def za0 (a1:List vV6) (w0:vV7):Option (List vV8×vV7×Unit) :=
(zci a1 w0.1).bind fun r1 =>
(zb3 w0.2.1 r1).bind fun r2 =>
 some (r2,(w0.1,r1,(IntKind.wrap .i64 (w0.2.2.1+1)),()),())
def qs:TRaw:={ ps:=(.cons (.bx 0 0) (.cons (.sl tT18) .unit)),ins:=[.box 139 tT17],res:=(.sl tT19),outs:=[.box 139 tT17],fn:=fun v w=>za0 v.2.1 w.1 }
def ap9:TEnv:=(vZ [(32,sE),(76,zS)])
theorem ap8:rawY Tryz.prog ajb aqa ap9 asq [(0,0)] Tryz.f21 qs.ps qs.ins qs.res qs.outs=qs.fn:=by kernel_rfl
theorem aao:bL Tryz.prog G0 21 adp:=ak ⟨ay,(aj sF (aj ahB ae)),ap,ae,an⟩ Tryz.func21 rfl (by kernel_rfl)
theorem aeS:TRawOk adp qs:=o5 (E:=ajb) (ET:=ap9) (EnvT.ofX (az (ah yI (ah anZ al))) am au aQ ar) ap8
def ahR:Env:=(eZ [] [274])
def aoq:Hints:=(hZ [] [4])
def ac3:SFn:=runF Tryz.prog ahR aoq Tryz.f28
def ar2:TH:=yZ
def zax (w0:vV7):Option (Int×vV7×Unit) :=
 some (w0.2.2.1,w0,())
def sN:TRaw:={ ps:=(.cons (.bx 0 0) .unit),ins:=[.box 139 tT17],res:=(.int .i64),outs:=[.box 139 tT17],fn:=fun v w=>zax w.1 }
def aoo:TEnv:=(vZ [])
theorem aon:rawY Tryz.prog ahR aoq aoo ar2 [(0,0)] Tryz.f28 sN.ps sN.ins sN.res sN.outs=sN.fn:=by kernel_rfl
theorem ahQ:bL Tryz.prog G0 28 ac3:=ak ⟨ay,ae,ap,ae,an⟩ Tryz.func28 rfl (by kernel_rfl)
theorem aom:TRawOk ac3 sN:=o5 (E:=ahR) (ET:=aoo) (EnvT.ofX (az al) am au aQ ar) aon
theorem fx:∀ xs st p,ac3 xs st=some p→p.2=st:=fun xs st p hp=>jx (by kernel_rfl) hp
def agC:Env:={ pure:=[(19,acM)],raw:=[(17,acO),(21,adp),(28,ac3)],glob:=G0,same:=[274],look:=[],ext:=[],quiet:=[28] }
def amu:Hints:=(hZ [] [])
def agB:PFn:=aH (runF Tryz.prog agC amu Tryz.f16)
def arx:TH:={ loops:=[],cuts:=[(4,[(7,{ keep:=[(1,(.bx 0 0)),(30,.bool)],mem:=[.box 139 tT17] })])],ro:=[],news:=[] }
def zbs:Option Bool :=
(zcs ([[97]]:List (List UInt8))).bind fun p1 =>
 cond p1.1.isEmpty (
(zcx ([((0,1,()),0,1,false,([(3,([[97]]:List (List UInt8)),(0,0,[],()),1,[],())]:List vV1),())]:List vV4) []).bind fun r9 =>
 none) (
((p1.1.head? : Option vV7)).bind fun x2 =>
(zcx ([((0,1,()),0,1,false,([(3,([[97]]:List (List UInt8)),(0,0,[],()),1,[],())]:List vV1),())]:List vV4) []).bind fun r3 =>
(za0 r3 x2).bind fun q4 =>
(za0 r3 q4.2.1).bind fun q5 =>
(cond (decide (p1.2.1=0)) (some ((decide ((q4.1.length:Int)=1)),q5.2.1,())) (some (false,q5.2.1,())):Option (Bool×vV7×Unit)).bind fun v6 =>
 cond v6.1 ((atI q4.1 0).bind fun x7 =>
 cond (decide (x7.1=1)) (cond (decide ((q5.1.length:Int)=0)) ((zax v6.2.1).bind fun q8 =>
 some (decide (q8.1=2))) (some false)) (some false)) (some false))
def zi:TFn:={ ps:=.unit,res:=.bool,fn:=fun v=>zbs  }
def amt:TEnv:={ pure:=[(19,wG)],look:=[],glob:=G0T,ty:=[(9,.str),(78,tT16),(135,tT12)],raw:=[(21,qs),(28,sN)],fresh:=[(17,yz)] }
theorem ams:runY Tryz.prog agC amu amt arx Tryz.f16 zi.ps zi.res=zi.fn:=by kernel_rfl
theorem agA:aB Tryz.prog G0 16 agB:=ai (ak ⟨ay,(aj yp ae),(bv yy (bv aao (bv ahQ ap))),ae,an⟩ Tryz.func16 rfl (by kernel_rfl))
theorem amr:TOk agB zi:=aC (E:=agC) (ET:=amt) (EnvT.ofX (az (ah aeD al)) am (iG (ci aeS rfl rfl (ci aom rfl rfl au)) rfl) aQ (iN aeF rfl rfl rfl ar) (jA fx rfl rfl rfl lq)) ams rfl
def ahz:Env:=(eZ [(144,yY)] [274])
def anV:Hints:=(hZ [(6,[4,6,7])] [])
def ahy:PFn:=aH (runF Tryz.prog ahz anV Tryz.f73)
def arU:TH:={ joins:=[(18,{ keep:=[(6,(.own 0)),(7,(.int .i64)),(8,(.int .i64))],mem:=[.row true 3 (.int .i64)] }),(17,{ keep:=[(6,(.own 0))],mem:=[.row true 3 (.int .i64)] })],loops:=[(6,{ keep:=[(6,(.own 0)),(7,(.int .i64))],mem:=[.row true 3 (.int .i64)] })],ro:=[] }
def fU (r1:(List Int×Bool×Unit)) (y6:(Int×List Int×Unit)):Option ((Int×List Int×Unit)⊕(List Int×Bool×Unit)) :=
 cond (decide (y6.1<(r1.1.length:Int))) (
(atI r1.1 y6.1).bind fun x2 =>
 cond (decide (x2=42)) (
(dN (y6.2.1.length+([(-2)]:List Int).length)).bind fun u3 =>
 some (.inl ((IntKind.wrap .i64 (y6.1+1)),(y6.2.1++([(-2)]:List Int)),()))) (
 cond (decide (x2=63)) (
(dN (y6.2.1.length+([(-1)]:List Int).length)).bind fun u4 =>
 some (.inl ((IntKind.wrap .i64 (y6.1+1)),(y6.2.1++([(-1)]:List Int)),()))) (
(cond (decide (x2=92)) (
(cond (decide ((IntKind.wrap .i64 (y6.1+1))=(r1.1.length:Int))) (some (.inr (.inr (.inr ([],false,()))))) ((atI r1.1 (IntKind.wrap .i64 (y6.1+1))).bind fun x5 =>
 cond (!decide (x5=92)) ((atI r1.1 (IntKind.wrap .i64 (y6.1+1))).bind fun x6 =>
 cond (!decide (x6=42)) ((atI r1.1 (IntKind.wrap .i64 (y6.1+1))).bind fun x7 =>
 cond (!decide (x7=63)) (
 some (.inr (.inr (.inr ([],false,()))))) (
 some (.inl (y6.2.1,())))) (some (.inl (y6.2.1,())))) (some (.inl (y6.2.1,())))):Option ((List Int×Unit)⊕((Int×Int×List Int×Unit)⊕((Int×List Int×Unit)⊕(List Int×Bool×Unit))))).bind (be fun v8 =>
(atI r1.1 (IntKind.wrap .i64 (y6.1+1))).bind fun x9 =>
 some (.inl ((IntKind.wrap .i64 (y6.1+1)),x9,v8.1,())))) (
 some (.inl (y6.1,x2,y6.2.1,()))):Option ((Int×Int×List Int×Unit)⊕((Int×List Int×Unit)⊕(List Int×Bool×Unit)))).bind (be fun v10 =>
(dN (v10.2.2.1.length+([v10.2.1]:List Int).length)).bind fun u11 =>
 some (.inl ((IntKind.wrap .i64 (v10.1+1)),(v10.2.2.1++([v10.2.1]:List Int)),())))))) (
 some (.inr (y6.2.1,true,())))
def zb5 (a0:List UInt8):Option (List Int×Bool×Unit) :=
(zbw a0).bind fun r1 =>
 cond (!r1.2.1) (some ([],false,())) (cond (decide ((r1.1.length:Int)>64)) (
 some ([],false,())) (
 aJ (fU r1) (0,[],())))
def zP:TFn:={ ps:=(.cons .str .unit),res:=(.tup (.cons (.sl (.int .i64)) (.cons .bool .unit))),fn:=fun v=>zb5 v.1 }
def anU:TEnv:={ pure:=[(144,sG)],look:=[],glob:=G0T,ty:=[(3,(.int .i64))],raw:=[],fresh:=[] }
theorem anT:runY Tryz.prog ahz anV anU arU Tryz.f73 zP.ps zP.res=zP.fn:=by kernel_rfl
theorem ahx:aB Tryz.prog G0 73 ahy:=ai (ak ⟨ay,(aj sH ae),ap,ae,an⟩ Tryz.func73 rfl (by kernel_rfl))
theorem anS:TOk ahy zP:=aC (E:=ahz) (ET:=anU) (EnvT.ofX (az (ah yX al)) am au aQ ar) anT rfl
def agO:Env:=(eZ [(73,ahy)] [274])
def amK:Hints:=(hZ [(6,[0,3])] [])
def agN:PFn:=aH (runF Tryz.prog agO amK Tryz.f18)
def arB:TH:={ loops:=[(6,{ keep:=[(3,(.int .i64))],mem:=[] })],ro:=[] }
def qn (a0:List (List UInt8)) (y6:(Int×Unit)):Option ((Int×Unit)⊕Int) :=
 cond (decide (y6.1<(a0.length:Int))) (
(atI a0 y6.1).bind fun x1 =>
(zb5 x1).bind fun r2 =>
(atI a0 y6.1).bind fun x3 =>
 cond (decide (x3=[])) (some (.inr 8)) (cond (!r2.2.1) (
 some (.inr 8)) (
 some (.inl ((IntKind.wrap .i64 (y6.1+1)),()))))) (
 some (.inr 0))
def zbo (a0:List (List UInt8)):Option Int :=
 cond (decide ((a0.length:Int)=0)) (
 some 8) (
 cond (decide ((a0.length:Int)>8)) (
 some 9) (
 aJ (qn a0) (0,())))
def zq:TFn:={ ps:=tT21,res:=(.int .i64),fn:=fun v=>zbo v.1 }
def amJ:TEnv:=(vZ [(73,zP)])
theorem amI:runY Tryz.prog agO amK amJ arB Tryz.f18 zq.ps zq.res=zq.fn:=by kernel_rfl
theorem agM:aB Tryz.prog G0 18 agN:=ai (ak ⟨ay,(aj ahx ae),ap,ae,an⟩ Tryz.func18 rfl (by kernel_rfl))
theorem amH:TOk agN zq:=aC (E:=agO) (ET:=amJ) (EnvT.ofX (az (ah anS al)) am au aQ ar) amI rfl
def aja:Env:=(eZ [(31,yw),(32,yJ)] [274])
def ap7:Hints:=(hZ [] [6])
def ado:SFn:=runF Tryz.prog aja ap7 Tryz.f20
def aso:TH:=yZ
def za1 (a1:List vV6) (w0:vV7):Option (Bool×vV7×Unit) :=
(zci a1 w0.1).bind fun r1 =>
(zcu r1 w0.2.1).bind fun r2 =>
 some ((!r2),w0,())
def sS:TRaw:={ ps:=(.cons (.bx 0 0) (.cons (.sl tT18) .unit)),ins:=[.box 139 tT17],res:=.bool,outs:=[.box 139 tT17],fn:=fun v w=>za1 v.2.1 w.1 }
def ap6:TEnv:=(vZ [(31,sB),(32,sE)])
theorem ap5:rawY Tryz.prog aja ap7 ap6 aso [(0,0)] Tryz.f20 sS.ps sS.ins sS.res sS.outs=sS.fn:=by kernel_rfl
theorem ai9:bL Tryz.prog G0 20 ado:=ak ⟨ay,(aj sC (aj sF ae)),ap,ae,an⟩ Tryz.func20 rfl (by kernel_rfl)
theorem ap4:TRawOk ado sS:=o5 (E:=aja) (ET:=ap6) (EnvT.ofX (az (ah yu (ah yI al))) am au aQ ar) ap5
theorem f7:∀ xs st p,ado xs st=some p→p.2=st:=fun xs st p hp=>jx (by kernel_rfl) hp
def bW (y8:(Int×List Bool×Unit)) (r1:(List Int×Bool×Unit)) (r2:(List Int×Bool×Unit)) (y12:(Int×List Bool×List Bool×Unit)):Option ((Int×List Bool×List Bool×Unit)⊕((Int×List Bool×Unit)⊕((List Bool×Unit)⊕Bool))) :=
 cond (decide (y12.1≤(r2.1.length:Int))) (
(atI r1.1 y8.1).bind fun x7 =>
 cond (decide (x7=(-2))) (
(inI y12.2.1.length y12.1).bind fun i8 =>
(y12.2.1[i8]?).bind fun x9 =>
 cond x9 ((inI y12.2.2.1.length y12.1).bind fun i10 =>
(y12.2.2.1[i10]?).bind fun x11 =>
 some (.inl ((IntKind.wrap .i64 (y12.1+1)),y12.2.1,(y12.2.2.1.set i10 true),()))) (cond (decide (y12.1>0)) ((inI y12.2.2.1.length (IntKind.wrap .i64 (y12.1-1))).bind fun i12 =>
(y12.2.2.1[i12]?).bind fun x13 =>
(inI y12.2.2.1.length y12.1).bind fun i14 =>
(y12.2.2.1[i14]?).bind fun x15 =>
 some (.inl ((IntKind.wrap .i64 (y12.1+1)),y12.2.1,(y12.2.2.1.set i14 x13),()))) ((inI y12.2.2.1.length y12.1).bind fun i16 =>
(y12.2.2.1[i16]?).bind fun x17 =>
 some (.inl ((IntKind.wrap .i64 (y12.1+1)),y12.2.1,(y12.2.2.1.set i16 false),()))))) (
(cond (decide (y12.1>0)) ((inI y12.2.1.length (IntKind.wrap .i64 (y12.1-1))).bind fun i18 =>
(y12.2.1[i18]?).bind fun x19 =>
 some (y12.1,x19,y12.2.1,y12.2.2.1,())) (some (y12.1,false,y12.2.1,y12.2.2.1,())):Option (Int×Bool×List Bool×List Bool×Unit)).bind fun v20 =>
 cond v20.2.1 ((atI r1.1 y8.1).bind fun x21 =>
 cond (decide (x21=(-1))) ((inI v20.2.2.2.1.length v20.1).bind fun i22 =>
(v20.2.2.2.1[i22]?).bind fun x23 =>
 some (.inl ((IntKind.wrap .i64 (y12.1+1)),v20.2.2.1,(v20.2.2.2.1.set i22 true),()))) ((atI r1.1 y8.1).bind fun x24 =>
(atI r2.1 (IntKind.wrap .i64 (y12.1-1))).bind fun x25 =>
(inI v20.2.2.2.1.length v20.1).bind fun i26 =>
(v20.2.2.2.1[i26]?).bind fun x27 =>
 some (.inl ((IntKind.wrap .i64 (y12.1+1)),v20.2.2.1,(v20.2.2.2.1.set i26 (decide (x24=x25))),())))) ((inI v20.2.2.2.1.length v20.1).bind fun i28 =>
(v20.2.2.2.1[i28]?).bind fun x29 =>
 some (.inl ((IntKind.wrap .i64 (y12.1+1)),v20.2.2.1,(v20.2.2.2.1.set i28 false),()))))) (
 some (.inr (.inl ((IntKind.wrap .i64 (y8.1+1)),y12.2.2.1,()))))
def dJ (r1:(List Int×Bool×Unit)) (r2:(List Int×Bool×Unit)) (y8:(Int×List Bool×Unit)):Option ((Int×List Bool×Unit)⊕((List Bool×Unit)⊕Bool)) :=
 cond (decide (y8.1<(r1.1.length:Int))) (
(mkT (IntKind.wrap .i64 ((r2.1.length:Int)+1)) (IntKind.wrap .i64 ((r2.1.length:Int)+1))).bind fun u6 =>
 aJ (bW y8 r1 r2) (0,y8.2.1,(List.replicate (IntKind.wrap .i64 ((r2.1.length:Int)+1)).toNat false),())) (
 some (.inr (.inl (y8.2.1,()))))
def aif:Go.Shelf.Ren:=⟨fun | 41=>81 | n=>n,fun | 22=>52 | 23=>125 | 4=>4 | n=>n,fun | n=>n⟩
theorem adb:Go.Proofs.SlLaysE0.n41 Tryz.prog aif:={
 mixed:=by kernel_rfl
 f41:=⟨Tryz.f81.name,by decide,Tryz.func81.trans (congrArg some (by kernel_rfl))⟩
 t4:=Tryz.underlying4
 a4:=Tryz.isAgg4
 z4:=Tryz.sizeOf4
 v4:=Tryz.zeroValue4
 t22:=Tryz.underlying52
 a22:=Tryz.isAgg52
 z22:=Tryz.sizeOf52
 v22:=Tryz.zeroValue52 }
def aih:SFn:=og 4 125
theorem aig:bL Tryz.prog G0 81 aih:=ack adb rfl rfl (iZ (P:=Tryz.prog) (te:=125) (M:=4) (by kernel_rfl) (by kernel_rfl) (by kernel_rfl) (by kernel_rfl) (by kernel_rfl) (by kernel_rfl) (by kernel_rfl) (by kernel_rfl)) ⟨Tryz.f81,Tryz.func81,rfl,by kernel_rfl⟩
def zan (a0:List vV0):Option (List vV0):=eR a0
def aoU:TNew:=sf 125 tT11
theorem aoT:TNewOk aih aoU:=acl rfl rfl rfl
def ais:Go.Shelf.Ren:=⟨fun | 41=>81 | n=>n,fun | 22=>52 | 23=>125 | 4=>4 | n=>n,fun | n=>n⟩
theorem adf:Go.Proofs.SlLaysE0.n41 Tryz.prog ais:={
 mixed:=by kernel_rfl
 f41:=⟨Tryz.f81.name,by decide,Tryz.func81.trans (congrArg some (by kernel_rfl))⟩
 t4:=Tryz.underlying4
 a4:=Tryz.isAgg4
 z4:=Tryz.sizeOf4
 v4:=Tryz.zeroValue4
 t22:=Tryz.underlying52
 a22:=Tryz.isAgg52
 z22:=Tryz.sizeOf52
 v22:=Tryz.zeroValue52 }
def aiu:PFn:=(j9 4)
theorem ait:aB Tryz.prog G0 81 aiu:=clone_lays adf 4 ⟨Tryz.f81,Tryz.func81,rfl,by kernel_rfl⟩ (by kernel_rfl) (by kernel_rfl) (by kernel_rfl) (by kernel_rfl) (by kernel_rfl) (by decide) (fun w=>Tryz.sizeOf125 w)
def zaj (a0:List vV0):Option (List vV0):=eR a0
def ao5:TFn:=fM tT11
theorem ao4:TOk aiu ao5:=mm rfl rfl rfl
def ahM:Env:=(eZ [(81,aiu)] [274])
def aoh:Hints:=(hZ [] [4])
def ac2:SFn:=runF Tryz.prog ahM aoh Tryz.f27
def ar0:TH:=yZ
def zaz (w0:vV7):Option (List vV0×vV7×Unit) :=
(zaj w0.2.1).bind fun r1 =>
 some (r1,w0,())
def sM:TRaw:={ ps:=(.cons (.bx 0 0) .unit),ins:=[.box 139 tT17],res:=(.sl tT11),outs:=[.box 139 tT17],fn:=fun v w=>zaz w.1 }
def aog:TEnv:=(vZ [(81,ao5)])
theorem aof:rawY Tryz.prog ahM aoh aog ar0 [(0,0)] Tryz.f27 sM.ps sM.ins sM.res sM.outs=sM.fn:=by kernel_rfl
theorem ahL:bL Tryz.prog G0 27 ac2:=ak ⟨ay,(aj ait ae),ap,ae,an⟩ Tryz.func27 rfl (by kernel_rfl)
theorem aoe:TRawOk ac2 sM:=o5 (E:=ahM) (ET:=aog) (EnvT.ofX (az (ah ao4 al)) am au aQ ar) aof
theorem f0:∀ xs st p,ac2 xs st=some p→p.2=st:=fun xs st p hp=>jx (by kernel_rfl) hp
def ahW:Env:=(eZ [] [274])
def aoy:Hints:=(hZ [] [])
def ahV:PFn:=aH (runF Tryz.prog ahW aoy Tryz.f85)
def ar4:TH:={ loops:=[],ro:=[1] }
def zav (a0:vV8):Option vV0 :=
 cond (decide (a0.1=1)) (
 some a0.2.2.1) (
 some a0.2.1)
def zY:TFn:={ ps:=(.cons tT19 .unit),res:=tT11,fn:=fun v=>zav v.1 }
def aox:TEnv:=(vZ [])
theorem aow:runY Tryz.prog ahW aoy aox ar4 Tryz.f85 zY.ps zY.res=zY.fn:=by kernel_rfl
theorem ahU:aB Tryz.prog G0 85 ahV:=ai (ak ⟨ay,ae,ap,ae,an⟩ Tryz.func85 rfl (by kernel_rfl))
theorem aov:TOk ahV zY:=aC (E:=ahW) (ET:=aox) (EnvT.ofX (az al) am au aQ ar) aow rfl
def aim:Go.Shelf.Ren:=⟨fun | 22=>88 | 29=>157 | 30=>158 | n=>n,fun | 24=>52 | 9=>125 | 0=>0 | 3=>3 | 4=>4 | n=>n,fun | n=>n⟩
theorem adc:InsL Tryz.prog aim:={
 mixed:=by kernel_rfl
 f22:=⟨Tryz.f88.name,by decide,Tryz.func88.trans (congrArg some (by kernel_rfl))⟩
 f29:=⟨Tryz.f157.name,by decide,by kernel_rfl,by kernel_rfl,Tryz.func157.trans (congrArg some (by kernel_rfl))⟩
 t0:=Tryz.underlying0
 a0:=Tryz.isAgg0
 z0:=Tryz.sizeOf0
 v0:=Tryz.zeroValue0
 t3:=Tryz.underlying3
 a3:=Tryz.isAgg3
 z3:=Tryz.sizeOf3
 v3:=Tryz.zeroValue3
 t4:=Tryz.underlying4
 a4:=Tryz.isAgg4
 z4:=Tryz.sizeOf4
 v4:=Tryz.zeroValue4
 t24:=Tryz.underlying52
 a24:=Tryz.isAgg52
 z24:=Tryz.sizeOf52
 v24:=Tryz.zeroValue52 }
def aio:SFn:=ey 4 125
theorem ain:bL Tryz.prog G0 88 aio:=nW adc rfl rfl rfl (iZ (P:=Tryz.prog) (te:=125) (M:=4) (by kernel_rfl) (by kernel_rfl) (by kernel_rfl) (by kernel_rfl) (by kernel_rfl) (by kernel_rfl) (by kernel_rfl) (by kernel_rfl)) true Tryz.isAgg125 ⟨Tryz.f88,Tryz.func88,rfl,by kernel_rfl⟩
def zal (a1:Int) (a2:List vV0) (w0:List vV0):Option (Unit×List vV0×Unit):=(insT w0 a1 a2).map fun l=>((),(l,()))
def ao1:TRaw:=insR false 125 tT11
theorem ao0:TRawOk aio ao1:=abI rfl rfl rfl rfl (by decide)
def aip:Go.Shelf.Ren:=⟨fun | 45=>90 | n=>n,fun | 22=>52 | 23=>125 | 0=>0 | 3=>3 | 4=>4 | n=>n,fun | n=>n⟩
theorem ade:Go.Proofs.SlLaysE0.n45 Tryz.prog aip:={
 mixed:=by kernel_rfl
 f45:=⟨Tryz.f90.name,by decide,Tryz.func90.trans (congrArg some (by kernel_rfl))⟩
 t0:=Tryz.underlying0
 a0:=Tryz.isAgg0
 z0:=Tryz.sizeOf0
 v0:=Tryz.zeroValue0
 t3:=Tryz.underlying3
 a3:=Tryz.isAgg3
 z3:=Tryz.sizeOf3
 v3:=Tryz.zeroValue3
 t4:=Tryz.underlying4
 a4:=Tryz.isAgg4
 z4:=Tryz.sizeOf4
 v4:=Tryz.zeroValue4
 t22:=Tryz.underlying52
 a22:=Tryz.isAgg52
 z22:=Tryz.sizeOf52
 v22:=Tryz.zeroValue52 }
def air:SFn:=ij 4 125
theorem aiq:bL Tryz.prog G0 90 air:=xY ade rfl rfl (iZ (P:=Tryz.prog) (te:=125) (M:=4) (by kernel_rfl) (by kernel_rfl) (by kernel_rfl) (by kernel_rfl) (by kernel_rfl) (by kernel_rfl) (by kernel_rfl) (by kernel_rfl)) true Tryz.isAgg125 ⟨Tryz.f90,Tryz.func90,rfl,by kernel_rfl⟩
def zak (a1:Int) (a2:Int) (w0:List vV0):Option (Unit×List vV0×Unit):=(delT w0 a1 a2).map fun l=>((),(l,()))
def ao3:TRaw:=delR 125 tT11
theorem ao2:TRawOk air ao3:=aj0 rfl rfl rfl rfl (by decide)
def aiT:Env:=(eZ [(86,aal)] [274])
def apz:Hints:=(hZ [(3,[0,2,4,8,9,10])] [])
def aiS:PFn:=aH (runF Tryz.prog aiT apz Tryz.f84)
def asf:TH:={ joins:=[(8,{ keep:=[(4,(.bx 0 0)),(9,(.int .i64))],mem:=[.same] })],loops:=[(3,{ keep:=[(4,(.bx 0 0)),(9,(.int .i64)),(10,(.int .i64))],mem:=[.same] })],ro:=[4] }
def nd (a0:List vV0) (a1:vV0) (y3:(Int×Int×Unit)):Option ((Int×Int×Unit)⊕((Int×Unit)⊕(Int×Bool×Unit))) :=
 cond (decide (y3.1<y3.2.1)) (
(shrT .u64 (IntKind.wrap .u64 (IntKind.wrap .i64 (y3.1+y3.2.1))) 1).bind fun t1 =>
(atI a0 (IntKind.wrap .i64 t1)).bind fun x2 =>
(za7 x2 a1).bind fun r3 =>
 cond (decide (r3<0)) (
 some (.inl ((IntKind.wrap .i64 ((IntKind.wrap .i64 t1)+1)),y3.2.1,()))) (
 some (.inl (y3.1,(IntKind.wrap .i64 t1),())))) (
 some (.inr (.inl (y3.1,()))))
def zab (a0:List vV0) (a1:vV0) (a2:Unit):Option (Int×Bool×Unit) :=
(aJ (nd a0 a1) (0,(a0.length:Int),()):Option ((Int×Unit)⊕(Int×Bool×Unit))).bind (be fun v4 =>
 cond (decide (v4.1<(a0.length:Int))) ((atI a0 v4.1).bind fun x5 =>
(za7 x5 a1).bind fun r6 =>
 some (v4.1,(decide (r6=0)),())) (some (v4.1,false,())))
def aaf:TFn:={ ps:=(.cons (.sl tT11) (.cons tT11 (.cons (.fn 86) .unit))),res:=(.tup (.cons (.int .i64) (.cons .bool .unit))),fn:=fun v=>zab v.1 v.2.1 v.2.2.1 }
def apy:TEnv:=(vZ [(86,sO)])
theorem apx:runY Tryz.prog aiT apz apy asf Tryz.f84 aaf.ps aaf.res=aaf.fn:=by kernel_rfl
theorem aiR:aB Tryz.prog G0 84 aiS:=ai (ak ⟨ay,(aj sP ae),ap,ae,an⟩ Tryz.func84 rfl (by kernel_rfl))
theorem apw:TOk aiS aaf:=aC (E:=aiT) (ET:=apy) (EnvT.ofX (az (ah aak al)) am au aQ ar) apx rfl
def ag1:Env:={ pure:=[(85,ahV),(86,aal),(87,ac1),(89,acW)],raw:=[(81,aih),(88,aio),(90,air)],glob:=G0,same:=[274],look:=[(84,aiS)],ext:=[] }
def am3:Hints:=(hZ [(3,[6,13,14,15])] [])
def ag0:PFn:=aH (runF Tryz.prog ag1 am3 Tryz.f30)
def arG:TH:={ joins:=[(12,{ keep:=[(6,(.own 0)),(8,(.bx 1 0))],mem:=[.row false 125 tT11,.box 127 tT19] })],loops:=[(3,{ keep:=[(6,(.own 0)),(15,(.int .i64))],mem:=[.row false 125 tT11] })],ro:=[] }
def qo (a1:List vV8) (y3:(Int×List vV0×Unit)):Option ((Int×List vV0×Unit)⊕(List vV0×Int×Unit)) :=
 cond (decide (y3.1<(a1.length:Int))) (
(atI a1 y3.1).bind fun x2 =>
(zav x2).bind fun r3 =>
(zab y3.2.1 r3 ()).bind fun r4 =>
(cond (decide (x2.1<1)) (some (.inr (.inr ([],18,())))) (cond (decide (x2.1>3)) (
 some (.inr (.inr ([],18,())))) (
 cond (!(r4.2.1==(!decide (x2.1=1)))) (some (.inr (.inr ([],12,())))) (cond r4.2.1 ((inI y3.2.1.length r4.1).bind fun i5 =>
(y3.2.1[i5]?).bind fun x6 =>
(zb2 x6 x2.2.1).bind fun r7 =>
 cond (!r7) (
 some (.inr (.inr ([],12,())))) (
 cond (decide (x2.1=3)) ((za7 x2.2.1 x2.2.2.1).bind fun r8 =>
 cond (!decide (r8=0)) (
 some (.inr (.inr ([],2,())))) (
 some (.inl (y3.2.1,x2,())))) (some (.inl (y3.2.1,x2,()))))) (cond (decide (x2.1=3)) ((za7 x2.2.1 x2.2.2.1).bind fun r9 =>
 cond (!decide (r9=0)) (
 some (.inr (.inr ([],2,())))) (
 some (.inl (y3.2.1,x2,())))) (some (.inl (y3.2.1,x2,()))))))):Option ((List vV0×vV8×Unit)⊕((Int×List vV0×Unit)⊕(List vV0×Int×Unit)))).bind (be fun v10 =>
 cond (decide (v10.2.1.1=1)) (
(zbi v10.2.1.2.2.1).bind fun r11 =>
(zal r4.1 ([r11]:List vV0) v10.1).bind fun q12 =>
 some (.inl ((IntKind.wrap .i64 (y3.1+1)),q12.2.1,()))) (
 cond (decide (v10.2.1.1=2)) (
(zak r4.1 (IntKind.wrap .i64 (r4.1+1)) v10.1).bind fun q13 =>
 some (.inl ((IntKind.wrap .i64 (y3.1+1)),q13.2.1,()))) (
(zbi v10.2.1.2.2.1).bind fun r14 =>
(inI v10.1.length r4.1).bind fun i15 =>
(v10.1[i15]?).bind fun x16 =>
 some (.inl ((IntKind.wrap .i64 (y3.1+1)),(v10.1.set i15 r14),())))))) (
 some (.inr (y3.2.1,0,())))
def zbj (a0:List vV0) (a1:List vV8):Option (List vV0×Int×Unit) :=
(zan a0).bind fun n1 =>
 aJ (qo a1) (0,n1,())
def zx:TFn:={ ps:=(.cons (.sl tT11) (.cons (.sl tT19) .unit)),res:=(.tup (.cons (.sl tT11) tT15)),fn:=fun v=>zbj v.1 v.2.1 }
def am2:TEnv:={ pure:=[(85,zY),(86,sO),(87,wQ),(89,wO)],look:=[(84,aaf)],glob:=G0T,ty:=[(125,tT11)],raw:=[(88,ao1),(90,ao3)],fresh:=[(81,aoU)] }
theorem am1:runY Tryz.prog ag1 am3 am2 arG Tryz.f30 zx.ps zx.res=zx.fn:=by kernel_rfl
theorem agZ:aB Tryz.prog G0 30 ag0:=ai (ak ⟨ay,(aj ahU (aj sP (aj zT (aj zy ae)))),(bv aig (bv ain (bv aiq ap))),(aj aiR ae),an⟩ Tryz.func30 rfl (by kernel_rfl))
theorem am0:TOk ag0 zx:=aC (E:=ag1) (ET:=am2) (EnvT.ofX (az (ah aov (ah aak (ah aeP (ah aeM al))))) (jI apw rfl am) (iG (ci ao0 rfl rfl (ci ao2 rfl rfl au)) rfl) aQ (iN aoT rfl rfl rfl ar)) am1 rfl
def ai3:Env:={ pure:=[(14,af1),(15,acU),(16,agB),(18,agN),(19,acM),(30,ag0),(31,yw),(32,yJ)],raw:=[(17,acO),(20,ado),(21,adp),(27,ac2)],glob:=G0,same:=[274],look:=[],ext:=[],quiet:=[20,27] }
def apQ:Hints:=(hZ [(8,[0,1,2,7,9,10])] [])
def apR:PFn:=aH (runF Tryz.prog ai3 apQ Tryz.f5)
def ask:TH:={ joins:=[(15,{ keep:=[(7,(.bx 0 0)),(9,(.sl tT11))],mem:=[.box 139 tT17] })],loops:=[(8,{ keep:=[(7,(.bx 0 0)),(9,(.sl tT11)),(10,(.int .i64))],mem:=[.box 139 tT17] })],ro:=[] }
def ne (a0:List vV4) (a1:List (List vV2×Unit)) (a2:List (List UInt8)) (y8:(List vV0×Int×vV7×Unit)):Option ((List vV0×Int×vV7×Unit)⊕((List vV0×vV7×Unit)⊕Bool)) :=
 cond (decide (y8.2.1<(a1.length:Int))) (
(atI a1 y8.2.1).bind fun x9 =>
(zcx a0 x9.1).bind fun r10 =>
(za0 r10 y8.2.2.1).bind fun q11 =>
(zbj y8.1 q11.1).bind fun r12 =>
 cond (!decide (r12.2.1=0)) (some (.inr (.inr false))) ((zci r10 a2).bind fun r13 =>
(zcu r12.1 r13).bind fun r14 =>
 cond (!r14) (some (.inr (.inr false))) ((za0 r10 q11.2.1).bind fun q15 =>
 cond (!decide ((q15.1.length:Int)=0)) (some (.inr (.inr false))) ((za1 r10 q15.2.1).bind fun q16 =>
 cond q16.1 (
 some (.inr (.inr false))) (
 some (.inl (r12.1,(IntKind.wrap .i64 (y8.2.1+1)),q16.2.1,()))))))) (
 some (.inr (.inl (y8.1,y8.2.2.1,()))))
def za6 (a0:List vV4) (a1:List (List vV2×Unit)) (a2:List (List UInt8)):Option Bool :=
(zce a0 a1).bind fun r1 =>
 cond (!r1) ((zbs).bind fun r2 =>
 some r2) ((zbl a2).bind fun r3 =>
 cond (!r3) ((zbs).bind fun r4 =>
 some r4) ((zbo a2).bind fun r5 =>
 cond (!decide (r5=0)) (
(zbs).bind fun r6 =>
 some r6) (
(zcs a2).bind fun p7 =>
 cond p7.1.isEmpty (
 cond (!decide (p7.2.1=0)) (
 some false) (
 none)) (
((p7.1.head? : Option vV7)).bind fun x8 =>
 cond (!decide (p7.2.1=0)) (
 some false) (
(aJ (ne a0 a1 a2) ([],0,x8,()):Option ((List vV0×vV7×Unit)⊕Bool)).bind (be fun v17 =>
(zaz v17.2.1).bind fun q18 =>
(zcu v17.1 q18.1).bind fun r19 =>
 cond r19 ((zbs).bind fun r20 =>
 some r20) (some false)))))))
def sQ:TFn:={ ps:=(.cons (.sl tT16) (.cons (.sl (.agg (.cons (.sl tT13) .unit))) tT21)),res:=.bool,fn:=fun v=>za6 v.1 v.2.1 v.2.2.1 }
def apP:TEnv:={ pure:=[(14,yN),(15,wN),(16,zi),(18,zq),(19,wG),(30,zx),(31,sB),(32,sE)],look:=[],glob:=G0T,ty:=[],raw:=[(20,sS),(21,qs),(27,sM)],fresh:=[(17,yz)] }
theorem apO:runY Tryz.prog ai3 apQ apP ask Tryz.f5 sQ.ps sQ.res=sQ.fn:=by kernel_rfl
theorem za6_Fok:aB Tryz.prog G0 5 apR:=ai (ak ⟨ay,(aj af0 (aj zw (aj agA (aj agM (aj yp (aj agZ (aj sC (aj sF ae)))))))),(bv yy (bv ai9 (bv aao (bv ahL ap)))),ae,an⟩ Tryz.func5 rfl (by kernel_rfl))
theorem za6_ok:TOk apR sQ:=aC (E:=ai3) (ET:=apP) (EnvT.ofX (az (ah alD (ah aeL (ah amr (ah amH (ah aeD (ah am0 (ah yu (ah yI al))))))))) am (iG (ci ap4 rfl rfl (ci aeS rfl rfl (ci aoe rfl rfl au))) rfl) aQ (iN aeF rfl rfl rfl ar) (jA f7 rfl rfl rfl (jA f0 rfl rfl rfl lq))) apO rfl
end
end Go.Proofs.YtnbgkhdcidbkaaaGreatDoor.Y
