import Derived.Test.YtnbgkhdcidbkaaaGreatDoorS
import Derived.Test.YtnbgkhdcidbkaaaGreatDoorT29
import GoSem.PinnedTables
set_option linter.unusedVariables false
set_option maxRecDepth 100000
namespace Go.Proofs.YtnbgkhdcidbkaaaGreatDoor.Y
open Go.EM Go.TY Go.Proofs
theorem zb.{u,v}{A:Type u}{B:Type v} (a:A) (f:A→Option B):(some a).bind f=f a:=rfl
theorem zg.{u}{A:Type u}{l:List A}{i:Nat} (h:i<l.length):l[i]? = some l[i]:=List.getElem?_eq_getElem h
theorem zl.{u}{A:Type u}{a:A}{l:List A}:(a::l).length=l.length+1:=rfl
theorem zf {p:Prop} [Decidable p] (h:¬p):decide p=false:=decide_eq_false h
theorem zn.{u}{c:Prop}{h:Decidable c} (hc:¬c) {A:Sort u}{t e:A}:ite c t e=e:=if_neg hc
theorem zp.{u}{c:Prop}{h:Decidable c} (hc:c) {A:Sort u}{t e:A}:ite c t e=t:=if_pos hc
theorem zm.{u}{A:Type u}{l:List A}{n:Nat} (h:n<l.length):l[n]∈l:=List.getElem_mem h
theorem zt {p:Prop} [Decidable p] (h:p):decide p=true:=decide_eq_true h
noncomputable section
def gO:List Int:=Go.Pinned.utf8FirstZ.map fun (n:Nat)=>(n:Int)
def fq:List (Int×Int×Unit):=[(128,191,()),(160,191,()),(128,159,()),(144,191,()),(128,143,()),(0,0,()),(0,0,()),(0,0,()),(0,0,()),(0,0,()),(0,0,()),(0,0,()),(0,0,()),(0,0,()),(0,0,()),(0,0,())]
def G0:List (Nat×AVal):=[(0,.rptr (gO.map (AVal.int .u8))),(1,.rptr (fq.flatMap fun p=>[AVal.int .u8 p.1,AVal.int .u8 p.2.1]))]
def G0T:List (Nat×TV):=[(0,⟨.rp (.arr 256 (.int .u8)) 0,gO⟩),(1,⟨.rp (.arr 16 (.agg (.cons (.int .u8) (.cons (.int .u8) .unit)))) 0,fq⟩)]
theorem aJ:ko G0 G0T:=oV rfl rfl (ad3 (by kernel_rfl)) (oV rfl rfl (aae (by kernel_rfl)) ad2)
theorem au:∀ f,memN f [274]=true→Same Tryz.prog f:=by
 intro f h
 by_cases e274:f=274
 · subst e274; exact ⟨Tryz.f274,Tryz.func274,by kernel_rfl,by kernel_rfl,by kernel_rfl,by kernel_rfl⟩
 simp_all [memN]
def eZ (l:List (Nat×PFn)) (s:List Nat):Env:={ pure:=l,raw:=[],glob:=G0,same:=s,look:=[],ext:=[] }
def vZ (l:List (Nat×TFn)):TEnv:={ pure:=l,look:=[],glob:=G0T,ty:=[],raw:=[],fresh:=[] }
def hZ (l:List (Nat×List Nat)) (o:List Nat):Hints:={ seqs:=[],loops:=l,own:=o }
def yZ:TH:={ joins:=[],loops:=[],cuts:=[],ro:=[],news:=[] }
abbrev vV0:=(List (List UInt8)×Int×List (Int×Int×List UInt8×Unit)×Int×Unit)
abbrev vV1:=(Int×List (List UInt8)×(Int×Int×List UInt8×Unit)×Int×List ((Int×Int×Unit)×Int×Unit)×Unit)
abbrev vV2:=((Int×Int×Unit)×Int×Unit)
abbrev vV3:=(Int×Int×List UInt8×Unit)
abbrev vV4:=(List (List UInt8)×Int×Unit)
abbrev vV5:=((Int×Int×Unit)×Int×Int×Bool×List vV1×Unit)
abbrev vV6:=(vV2×vV1×Int×Unit)
abbrev vV7:=(Int×vV0×vV0×Unit)
abbrev vV8:=(List (List UInt8)×List vV0×Int×Unit)
abbrev vV9:=(List (List UInt8)×List (List UInt8)×Unit)
abbrev vV10:=(Int×List vV4×Unit)
abbrev vV11:=(Int×List (vV2×Bool)×Unit)
abbrev tT12:Ty:=(.agg (.cons (.sl .str) (.cons (.int .i64) (.cons (.sl (.agg (.cons (.int .i64) (.cons (.int .i64) (.cons .str .unit))))) (.cons (.int .i64) .unit)))))
abbrev tT13:Ty:=(.agg (.cons (.int .i64) (.cons (.sl .str) (.cons (.agg (.cons (.int .i64) (.cons (.int .i64) (.cons .str .unit)))) (.cons (.int .i64) (.cons (.sl (.agg (.cons (.agg (.cons (.int .i64) (.cons (.int .i64) .unit))) (.cons (.int .i64) .unit)))) .unit))))))
abbrev tT14:Ty:=(.agg (.cons (.agg (.cons (.int .i64) (.cons (.int .i64) .unit))) (.cons (.int .i64) .unit)))
abbrev tT15:Ty:=(.agg (.cons (.int .i64) (.cons (.int .i64) (.cons .str .unit))))
abbrev tT16:Ty:=(.cons (.int .i64) .unit)
abbrev tT17:Ty:=(.agg (.cons (.agg (.cons (.int .i64) tT16)) (.cons (.int .i64) (.cons (.int .i64) (.cons .bool (.cons (.sl tT13) .unit))))))
abbrev tT18:Ty:=(.agg (.cons (.int .i64) (.cons tT12 (.cons tT12 .unit))))
abbrev tT19:Ty:=(.agg (.cons tT14 (.cons tT13 tT16)))
abbrev tT20:Ty:=(.agg (.cons (.sl .str) tT16))
abbrev tT21:Ty:=(.agg (.cons (.sl .str) (.cons (.sl tT12) tT16)))
abbrev tT22:Ty:=(.cons (.sl .str) .unit)
abbrev tT23:Ty:=(.cons (.agg (.cons (.int .i64) tT16)) .unit)
def aiI:Env:=(eZ [] [274])
def apG:Hints:=(hZ [] [])
def ae3:PFn:=aF (runF Tryz.prog aiI apG Tryz.f172)
def axl:TH:=yZ
def zcz (a0:Int) (a1:Int):Option Int :=
 cond (decide (a0<a1)) (
 some (-1)) (
 cond (decide (a0>a1)) (
 some 1) (
 some 0))
def yB:TFn:={ ps:=(.cons (.int .i64) tT16),res:=(.int .i64),fn:=fun v=>zcz v.1 v.2.1 }
def apF:TEnv:=(vZ [])
theorem apE:runY Tryz.prog aiI apG apF axl Tryz.f172 yB.ps yB.res=yB.fn:=by kernel_rfl
theorem aa4:aA Tryz.prog G0 172 ae3:=ai (ak ⟨au,ac,ap,ac,an⟩ Tryz.func172 rfl (by kernel_rfl))
theorem ag3:TOk ae3 yB:=az (E:=aiI) (ET:=apF) (EnvT.ofX (ax al) am ar aJ aq) apE rfl
def akQ:Env:=(eZ [(172,ae3)] [274])
def asW:Hints:=(hZ [] [])
def abX:PFn:=aF (runF Tryz.prog akQ asW Tryz.f101)
def ayd:TH:={ loops:=[],ro:=[2,3] }
def zbh (a0:(Int×Int×Unit)) (a1:(Int×Int×Unit)):Option Int :=
 cond (!decide (a0.1=a1.1)) (
(zcz a0.1 a1.1).bind fun r1 =>
 some r1) (
(zcz a0.2.1 a1.2.1).bind fun r2 =>
 some r2)
def uh:TFn:={ ps:=(.cons (.agg (.cons (.int .i64) tT16)) tT23),res:=(.int .i64),fn:=fun v=>zbh v.1 v.2.1 }
def asV:TEnv:=(vZ [(172,yB)])
theorem asU:runY Tryz.prog akQ asW asV ayd Tryz.f101 uh.ps uh.res=uh.fn:=by kernel_rfl
theorem ui:aA Tryz.prog G0 101 abX:=ai (ak ⟨au,(aj aa4 ac),ap,ac,an⟩ Tryz.func101 rfl (by kernel_rfl))
theorem abW:TOk abX uh:=az (E:=akQ) (ET:=asV) (EnvT.ofX (ax (ah ag3 al)) am ar aJ aq) asU rfl
def alm:Env:=(eZ [(101,abX)] [274])
def atL:Hints:=(hZ [(2,[0,3])] [])
def alk:PFn:=aF (runF Tryz.prog alm atL Tryz.f152)
def ayq:TH:={ loops:=[(2,{ keep:=[(3,(.int .i64))],mem:=[] })],ro:=[] }
def wT (a0:List vV5) (y2:(Int×Unit)):Option ((Int×Unit)⊕Bool) :=
 cond (decide (y2.1<(a0.length:Int))) (
(atI a0 (IntKind.wrap .i64 (y2.1-1))).bind fun x1 =>
(atI a0 y2.1).bind fun x2 =>
(zbh x1.1 x2.1).bind fun r3 =>
 cond (!decide (r3=(-1))) (
 some (.inr false)) (
 some (.inl ((IntKind.wrap .i64 (y2.1+1)),())))) (
 some (.inr true))
def zb4 (a0:List vV5):Option Bool :=
 aH (wT a0) (1,())
def acb:TFn:={ ps:=(.cons (.sl tT17) .unit),res:=.bool,fn:=fun v=>zb4 v.1 }
def atK:TEnv:=(vZ [(101,uh)])
theorem atJ:runY Tryz.prog alm atL atK ayq Tryz.f152 acb.ps acb.res=acb.fn:=by kernel_rfl
theorem alj:aA Tryz.prog G0 152 alk:=ai (ak ⟨au,(aj ui ac),ap,ac,an⟩ Tryz.func152 rfl (by kernel_rfl))
theorem atH:TOk alk acb:=az (E:=alm) (ET:=atK) (EnvT.ofX (ax (ah abW al)) am ar aJ aq) atJ rfl
def als:Env:=(eZ [] [274])
def atZ:Hints:=(hZ [(4,[0,3])] [])
def afo:PFn:=aF (runF Tryz.prog als atZ Tryz.f15)
def ayu:TH:={ loops:=[(4,{ keep:=[(3,(.int .i64))],mem:=[] })],ro:=[] }
def wV (a0:List (List UInt8)) (y4:(Int×Unit)):Option ((Int×Unit)⊕Bool) :=
 cond (decide (y4.1<(a0.length:Int))) (
(atI a0 y4.1).bind fun x1 =>
 cond (decide ((x1.length:Int)>120)) (
 some (.inr false)) (
 some (.inl ((IntKind.wrap .i64 (y4.1+1)),())))) (
 some (.inr true))
def zb0 (a0:List (List UInt8)):Option Bool :=
 cond (decide ((a0.length:Int)>12)) (
 some false) (
 aH (wV a0) (0,()))
def yT:TFn:={ ps:=tT22,res:=.bool,fn:=fun v=>zb0 v.1 }
def atY:TEnv:=(vZ [])
theorem atX:runY Tryz.prog als atZ atY ayu Tryz.f15 yT.ps yT.res=yT.fn:=by kernel_rfl
theorem acg:aA Tryz.prog G0 15 afo:=ai (ak ⟨au,ac,ap,ac,an⟩ Tryz.func15 rfl (by kernel_rfl))
theorem ahl:TOk afo yT:=az (E:=als) (ET:=atY) (EnvT.ofX (ax al) am ar aJ aq) atX rfl
def alg:Env:=(eZ [(15,afo)] [274])
def atA:Hints:=(hZ [] [])
def alf:PFn:=aF (runF Tryz.prog alg atA Tryz.f108)
def ayn:TH:={ loops:=[],ro:=[1] }
def zb7 (a0:vV1):Option Bool :=
(zb0 a0.2.1).bind fun r1 =>
 cond r1 (cond (decide ((a0.2.2.1.2.2.1.length:Int)≤200)) (some (decide ((a0.2.2.2.2.1.length:Int)≤300))) (some false)) (some false)
def ab8:TFn:={ ps:=(.cons tT13 .unit),res:=.bool,fn:=fun v=>zb7 v.1 }
def atz:TEnv:=(vZ [(15,yT)])
theorem aty:runY Tryz.prog alg atA atz ayn Tryz.f108 ab8.ps ab8.res=ab8.fn:=by kernel_rfl
theorem ale:aA Tryz.prog G0 108 alf:=ai (ak ⟨au,(aj acg ac),ap,ac,an⟩ Tryz.func108 rfl (by kernel_rfl))
theorem atx:TOk alf ab8:=az (E:=alg) (ET:=atz) (EnvT.ofX (ax (ah ahl al)) am ar aJ aq) aty rfl
def ajo:Env:=(eZ [(108,alf)] [274])
def aqK:Hints:=(hZ [(4,[1,3])] [])
def ajn:PFn:=aF (runF Tryz.prog ajo aqK Tryz.f41)
def axD:TH:={ loops:=[(4,{ keep:=[(1,(.bx 0 0)),(3,(.int .i64))],mem:=[.same] })],ro:=[1] }
def wC (a0:vV5) (y4:(Int×Unit)):Option ((Int×Unit)⊕Bool) :=
 cond (decide (y4.1<(a0.2.2.2.2.1.length:Int))) (
(atI a0.2.2.2.2.1 y4.1).bind fun x1 =>
(zb7 x1).bind fun r2 =>
 cond (!r2) (
 some (.inr false)) (
 some (.inl ((IntKind.wrap .i64 (y4.1+1)),())))) (
 some (.inr true))
def zch (a0:vV5):Option Bool :=
 cond (decide ((a0.2.2.2.2.1.length:Int)>20)) (
 some false) (
 aH (wC a0) (0,()))
def abk:TFn:={ ps:=(.cons tT17 .unit),res:=.bool,fn:=fun v=>zch v.1 }
def aqJ:TEnv:=(vZ [(108,ab8)])
theorem aqI:runY Tryz.prog ajo aqK aqJ axD Tryz.f41 abk.ps abk.res=abk.fn:=by kernel_rfl
theorem ajm:aA Tryz.prog G0 41 ajn:=ai (ak ⟨au,(aj ale ac),ap,ac,an⟩ Tryz.func41 rfl (by kernel_rfl))
theorem aqH:TOk ajn abk:=az (E:=ajo) (ET:=aqJ) (EnvT.ofX (ax (ah atx al)) am ar aJ aq) aqI rfl
def ali:Env:=(eZ [] [274])
def atG:Hints:=(hZ [] [])
def aca:PFn:=aF (runF Tryz.prog ali atG Tryz.f109)
def ayp:TH:={ loops:=[],ro:=[1] }
def zb5 (a0:(Int×Int×Unit)):Option Bool :=
 cond (decide (a0.1≥0)) (cond (decide (a0.1≤15)) (cond (decide (a0.2.1≥1)) (some (decide (a0.2.1≤1048576))) (some false)) (some false)) (some false)
def uj:TFn:={ ps:=tT23,res:=.bool,fn:=fun v=>zb5 v.1 }
def atF:TEnv:=(vZ [])
theorem atE:runY Tryz.prog ali atG atF ayp Tryz.f109 uj.ps uj.res=uj.fn:=by kernel_rfl
theorem un:aA Tryz.prog G0 109 aca:=ai (ak ⟨au,ac,ap,ac,an⟩ Tryz.func109 rfl (by kernel_rfl))
theorem ab9:TOk aca uj:=az (E:=ali) (ET:=atF) (EnvT.ofX (ax al) am ar aJ aq) atE rfl
def ai7:Env:=(eZ [] [274])
def aqk:Hints:=(hZ [(17,[0,4,5,6,7])] [])
def ai6:PFn:=aF (runF Tryz.prog ai7 aqk Tryz.f216)
def axw:TH:={ joins:=[(14,{ keep:=[(4,(.int .i64)),(5,(.int .i64)),(6,(.int .i64))],mem:=[] }),(9,{ keep:=[(18,.bool)],mem:=[] }),(22,{ keep:=[(4,(.int .i64))],mem:=[] }),(24,{ keep:=[],mem:=[] })],loops:=[(17,{ keep:=[(4,(.int .i64)),(7,(.int .i64))],mem:=[] })],ro:=[] }
def ge (a0:List UInt8) (v3:(Int×Int×Int×Unit)) (y17:(Int×Int×Unit)):Option ((Int×Int×Unit)⊕((Int×Unit)⊕(Int×Int×Unit))) :=
 cond (decide (y17.2.1<v3.2.1)) (
(atI a0 y17.2.1).bind fun b4 =>
 cond (decide ((b4.toNat:Int)<128)) (some (.inr (.inr (0,0,())))) ((atI a0 y17.2.1).bind fun b5 =>
 cond (decide ((b5.toNat:Int)>191)) (
 some (.inr (.inr (0,0,())))) (
(atI a0 y17.2.1).bind fun b6 =>
 some (.inl ((IntKind.wrap .i64 ((IntKind.wrap .i64 ((IntKind.wrap .i64 (64*y17.1))+(IntKind.wrap .i64 (b6.toNat:Int))))-128)),(IntKind.wrap .i64 (y17.2.1+1)),()))))) (
 some (.inr (.inl (y17.1,()))))
def zco (a0:List UInt8):Option (Int×Int×Unit) :=
 cond (decide ((a0.length:Int)=0)) (
 some (0,0,())) (
(atI a0 0).bind fun b1 =>
(cond (decide ((IntKind.wrap .i64 (b1.toNat:Int))<128)) (
 some (.inr ((IntKind.wrap .i64 (b1.toNat:Int)),1,()))) (
(cond (decide ((IntKind.wrap .i64 (b1.toNat:Int))≥194)) (some (.inl ((decide ((IntKind.wrap .i64 (b1.toNat:Int))<224)),()))) (some (.inl (false,()))):Option ((Bool×Unit)⊕((Int×Int×Int×Unit)⊕(Int×Int×Unit)))).bind (aU fun v2 =>
 cond v2.1 (
 some (.inl ((IntKind.wrap .i64 ((IntKind.wrap .i64 (b1.toNat:Int))-192)),2,128,()))) (
 cond (decide ((IntKind.wrap .i64 (b1.toNat:Int))≥224)) (cond (decide ((IntKind.wrap .i64 (b1.toNat:Int))<240)) (
 some (.inl ((IntKind.wrap .i64 ((IntKind.wrap .i64 (b1.toNat:Int))-224)),3,2048,()))) (
 cond (decide ((IntKind.wrap .i64 (b1.toNat:Int))≥240)) (cond (decide ((IntKind.wrap .i64 (b1.toNat:Int))<245)) (
 some (.inl ((IntKind.wrap .i64 ((IntKind.wrap .i64 (b1.toNat:Int))-240)),4,65536,()))) (
 some (.inr (0,0,())))) (some (.inr (0,0,()))))) (cond (decide ((IntKind.wrap .i64 (b1.toNat:Int))≥240)) (cond (decide ((IntKind.wrap .i64 (b1.toNat:Int))<245)) (
 some (.inl ((IntKind.wrap .i64 ((IntKind.wrap .i64 (b1.toNat:Int))-240)),4,65536,()))) (
 some (.inr (0,0,())))) (some (.inr (0,0,()))))))):Option ((Int×Int×Int×Unit)⊕(Int×Int×Unit))).bind (aU fun v3 =>
 cond (decide ((a0.length:Int)<v3.2.1)) (
 some (0,0,())) (
(aH (ge a0 v3) (v3.1,1,()):Option ((Int×Unit)⊕(Int×Int×Unit))).bind (aU fun v7 =>
(cond (decide (v7.1<v3.2.2.1)) (some (.inr (0,0,()))) (cond (decide (v7.1>1114111)) (some (.inr (0,0,()))) (cond (decide (v7.1≥55296)) (cond (decide (v7.1≤57343)) (
 some (.inr (0,0,()))) (
 some (.inl ()))) (some (.inl ())))):Option (Unit⊕(Int×Int×Unit))).bind (aU fun v8 =>
 some (v7.1,v3.2.1,()))))))
def abd:TFn:={ ps:=(.cons .str .unit),res:=(.tup (.cons (.int .i64) tT16)),fn:=fun v=>zco v.1 }
def aqj:TEnv:=(vZ [])
theorem aqi:runY Tryz.prog ai7 aqk aqj axw Tryz.f216 abd.ps abd.res=abd.fn:=by kernel_rfl
theorem ai5:aA Tryz.prog G0 216 ai6:=ai (ak ⟨au,ac,ap,ac,an⟩ Tryz.func216 rfl (by kernel_rfl))
theorem aqh:TOk ai6 abd:=az (E:=ai7) (ET:=aqj) (EnvT.ofX (ax al) am ar aJ aq) aqi rfl
def alh:Env:=(eZ [(216,ai6)] [274])
def atD:Hints:=(hZ [(3,[0,4,5])] [])
def yQ:PFn:=aF (runF Tryz.prog alh atD Tryz.f144)
def ayo:TH:={ loops:=[(3,{ keep:=[(4,(.own 0)),(5,(.int .i64))],mem:=[.row true 3 (.int .i64)] })],ro:=[] }
def nZ (a0:List UInt8) (y3:(Int×List Int×Unit)):Option ((Int×List Int×Unit)⊕(List Int×Bool×Unit)) :=
 cond (decide (y3.1<(a0.length:Int))) (
(subI a0 y3.1 (a0.length:Int)).bind fun s1 =>
(zco s1).bind fun r2 =>
 cond (decide (r2.2.1=0)) (
 some (.inr ([],false,()))) (
(ch (y3.2.1.length+([r2.1]:List Int).length)).bind fun u3 =>
 some (.inl ((IntKind.wrap .i64 (y3.1+r2.2.1)),(y3.2.1++([r2.1]:List Int)),())))) (
 some (.inr (y3.2.1,true,())))
def zb6 (a0:List UInt8):Option (List Int×Bool×Unit) :=
 aH (nZ a0) (0,[],())
def rx:TFn:={ ps:=(.cons .str .unit),res:=(.tup (.cons (.sl (.int .i64)) (.cons .bool .unit))),fn:=fun v=>zb6 v.1 }
def atC:TEnv:={ pure:=[(216,abd)],look:=[],glob:=G0T,ty:=[(3,(.int .i64))],raw:=[],fresh:=[] }
theorem atB:runY Tryz.prog alh atD atC ayo Tryz.f144 rx.ps rx.res=rx.fn:=by kernel_rfl
theorem pw:aA Tryz.prog G0 144 yQ:=ai (ak ⟨au,(aj ai5 ac),ap,ac,an⟩ Tryz.func144 rfl (by kernel_rfl))
theorem wS:TOk yQ rx:=az (E:=alh) (ET:=atC) (EnvT.ofX (ax (ah aqh al)) am ar aJ aq) atB rfl
def ah5:Env:=(eZ [] [274])
def aoF:Hints:=(hZ [] [])
def ah4:PFn:=aF (runF Tryz.prog ah5 aoF Tryz.f306)
def aw4:TH:=yZ
def zdq (a0:Int):Option Bool :=
 cond (decide (a0≥32)) (cond (decide (a0<127)) (some (!decide (a0=65533))) (cond (decide (a0>159)) (some (!decide (a0=65533))) (some false))) (some false)
def aaK:TFn:={ ps:=tT16,res:=.bool,fn:=fun v=>zdq v.1 }
def aoE:TEnv:=(vZ [])
theorem aoD:runY Tryz.prog ah5 aoF aoE aw4 Tryz.f306 aaK.ps aaK.res=aaK.fn:=by kernel_rfl
theorem ah3:aA Tryz.prog G0 306 ah4:=ai (ak ⟨au,ac,ap,ac,an⟩ Tryz.func306 rfl (by kernel_rfl))
theorem aoC:TOk ah4 aaK:=az (E:=ah5) (ET:=aoE) (EnvT.ofX (ax al) am ar aJ aq) aoD rfl
def aj7:Env:=(eZ [(144,yQ),(306,ah4)] [274])
def arQ:Hints:=(hZ [(3,[3,4,5])] [])
def aj6:PFn:=aF (runF Tryz.prog aj7 arQ Tryz.f253)
def axV:TH:={ joins:=[(7,{ keep:=[],mem:=[] })],loops:=[(3,{ keep:=[(5,(.int .i64))],mem:=[] })],ro:=[] }
def rt (r1:(List Int×Bool×Unit)) (y3:(Int×Unit)):Option ((Int×Unit)⊕(Unit⊕Bool)) :=
 cond (decide (y3.1<(r1.1.length:Int))) (
(atI r1.1 y3.1).bind fun x2 =>
(zdq x2).bind fun r3 =>
 cond (!r3) (
 some (.inr (.inr false))) (
 some (.inl ((IntKind.wrap .i64 (y3.1+1)),())))) (
 some (.inr (.inl ())))
def zbz (a0:List UInt8):Option Bool :=
(zb6 a0).bind fun r1 =>
(aH (rt r1) (0,()):Option (Unit⊕Bool)).bind (aU fun v4 =>
 cond r1.2.1 (cond (decide ((r1.1.length:Int)≥1)) (some (decide ((r1.1.length:Int)≤24))) (some false)) (some false))
def abD:TFn:={ ps:=(.cons .str .unit),res:=.bool,fn:=fun v=>zbz v.1 }
def arP:TEnv:=(vZ [(144,rx),(306,aaK)])
theorem arO:runY Tryz.prog aj7 arQ arP axV Tryz.f253 abD.ps abD.res=abD.fn:=by kernel_rfl
theorem aj5:aA Tryz.prog G0 253 aj6:=ai (ak ⟨au,(aj pw (aj ah3 ac)),ap,ac,an⟩ Tryz.func253 rfl (by kernel_rfl))
theorem arN:TOk aj6 abD:=az (E:=aj7) (ET:=arP) (EnvT.ofX (ax (ah wS (ah aoC al))) am ar aJ aq) arO rfl
def ajd:Env:=(eZ [(253,aj6)] [274])
def aqs:Hints:=(hZ [(6,[0,3])] [])
def ajc:PFn:=aF (runF Tryz.prog ajd aqs Tryz.f183)
def axy:TH:={ loops:=[(6,{ keep:=[(3,(.int .i64))],mem:=[] })],ro:=[] }
def wB (a0:List (List UInt8)) (y6:(Int×Unit)):Option ((Int×Unit)⊕Int) :=
 cond (decide (y6.1<(a0.length:Int))) (
(atI a0 y6.1).bind fun x1 =>
(zbz x1).bind fun r2 =>
 cond (!r2) (
 some (.inr 8)) (
 some (.inl ((IntKind.wrap .i64 (y6.1+1)),())))) (
 some (.inr 0))
def zcm (a0:List (List UInt8)):Option Int :=
 cond (decide ((a0.length:Int)=0)) (
 some 8) (
 cond (decide ((a0.length:Int)>8)) (
 some 9) (
 aH (wB a0) (0,())))
def abf:TFn:={ ps:=tT22,res:=(.int .i64),fn:=fun v=>zcm v.1 }
def aqr:TEnv:=(vZ [(253,abD)])
theorem aqq:runY Tryz.prog ajd aqs aqr axy Tryz.f183 abf.ps abf.res=abf.fn:=by kernel_rfl
theorem ajb:aA Tryz.prog G0 183 ajc:=ai (ak ⟨au,(aj aj5 ac),ap,ac,an⟩ Tryz.func183 rfl (by kernel_rfl))
theorem aqp:TOk ajc abf:=az (E:=ajd) (ET:=aqr) (EnvT.ofX (ax (ah arN al)) am ar aJ aq) aqq rfl
def ajw:Env:=(eZ [(144,yQ)] [274])
def aqY:Hints:=(hZ [] [])
def ajv:PFn:=aF (runF Tryz.prog ajw aqY Tryz.f184)
def axH:TH:={ loops:=[],ro:=[1] }
def zcd (a0:vV3):Option Bool :=
 cond (decide (a0.1=1)) (
 cond (decide (a0.2.2.1=[])) (cond (decide (a0.2.1≥(-2147483647))) (some (decide (a0.2.1≤2147483647))) (some false)) (some false)) (
 cond (decide (a0.1=2)) (
(zb6 a0.2.2.1).bind fun r1 =>
 cond (decide (a0.2.1=0)) (cond r1.2.1 (some (decide ((a0.2.2.1.length:Int)≤64))) (some false)) (some false)) (
 cond (decide (a0.1=3)) (cond (decide (a0.2.2.1=[])) (cond (decide (a0.2.1≥0)) (some (decide (a0.2.1≤1))) (some false)) (some false)) (some false)))
def abo:TFn:={ ps:=(.cons tT15 .unit),res:=.bool,fn:=fun v=>zcd v.1 }
def aqX:TEnv:=(vZ [(144,rx)])
theorem aqW:runY Tryz.prog ajw aqY aqX axH Tryz.f184 abo.ps abo.res=abo.fn:=by kernel_rfl
theorem aju:aA Tryz.prog G0 184 ajv:=ai (ak ⟨au,(aj pw ac),ap,ac,an⟩ Tryz.func184 rfl (by kernel_rfl))
theorem aqV:TOk ajv abo:=az (E:=ajw) (ET:=aqX) (EnvT.ofX (ax (ah wS al)) am ar aJ aq) aqW rfl
def aiH:Env:=(eZ [(101,abX),(172,ae3)] [274])
def apD:Hints:=(hZ [] [])
def aiG:PFn:=aF (runF Tryz.prog aiH apD Tryz.f254)
def axk:TH:={ loops:=[],ro:=[2,3] }
def zda (a0:vV2) (a1:vV2):Option Int :=
(zbh a0.1 a1.1).bind fun r1 =>
 cond (!decide (r1=0)) (
(zbh a0.1 a1.1).bind fun r2 =>
 some r2) (
(zcz a0.2.1 a1.2.1).bind fun r3 =>
 some r3)
def aa3:TFn:={ ps:=(.cons tT14 (.cons tT14 .unit)),res:=(.int .i64),fn:=fun v=>zda v.1 v.2.1 }
def apC:TEnv:=(vZ [(101,uh),(172,yB)])
theorem apB:runY Tryz.prog aiH apD apC axk Tryz.f254 aa3.ps aa3.res=aa3.fn:=by kernel_rfl
theorem aiF:aA Tryz.prog G0 254 aiG:=ai (ak ⟨au,(aj ui (aj aa4 ac)),ap,ac,an⟩ Tryz.func254 rfl (by kernel_rfl))
theorem apA:TOk aiG aa3:=az (E:=aiH) (ET:=apC) (EnvT.ofX (ax (ah abW (ah ag3 al))) am ar aJ aq) apB rfl
def ajN:Env:=(eZ [(109,aca),(254,aiG)] [274])
def arl:Hints:=(hZ [(2,[0,3])] [])
def ajM:PFn:=aF (runF Tryz.prog ajN arl Tryz.f185)
def axN:TH:={ loops:=[(2,{ keep:=[(3,(.int .i64))],mem:=[] })],ro:=[] }
def wF (a0:List vV2) (y2:(Int×Unit)):Option ((Int×Unit)⊕Bool) :=
 cond (decide (y2.1<(a0.length:Int))) (
(atI a0 y2.1).bind fun x1 =>
(zb5 x1.1).bind fun r2 =>
 cond (!r2) (some (.inr false)) ((atI a0 y2.1).bind fun x3 =>
 cond (decide (x3.2.1<0)) (some (.inr false)) ((atI a0 y2.1).bind fun x4 =>
 cond (decide (x4.2.1>15)) (
 some (.inr false)) (
 cond (decide (y2.1>0)) ((atI a0 (IntKind.wrap .i64 (y2.1-1))).bind fun x5 =>
(atI a0 y2.1).bind fun x6 =>
(zda x5 x6).bind fun r7 =>
 cond (!decide (r7=(-1))) (
 some (.inr false)) (
 some (.inl ((IntKind.wrap .i64 (y2.1+1)),())))) (some (.inl ((IntKind.wrap .i64 (y2.1+1)),()))))))) (
 some (.inr true))
def zc7 (a0:List vV2):Option Bool :=
 aH (wF a0) (0,())
def abv:TFn:={ ps:=(.cons (.sl tT14) .unit),res:=.bool,fn:=fun v=>zc7 v.1 }
def ark:TEnv:=(vZ [(109,uj),(254,aa3)])
theorem arj:runY Tryz.prog ajN arl ark axN Tryz.f185 abv.ps abv.res=abv.fn:=by kernel_rfl
theorem ajL:aA Tryz.prog G0 185 ajM:=ai (ak ⟨au,(aj un (aj aiF ac)),ap,ac,an⟩ Tryz.func185 rfl (by kernel_rfl))
theorem ari:TOk ajM abv:=az (E:=ajN) (ET:=ark) (EnvT.ofX (ax (ah ab9 (ah apA al))) am ar aJ aq) arj rfl
def akd:Env:=(eZ [(183,ajc),(184,ajv),(185,ajM)] [274])
def arY:Hints:=(hZ [] [])
def akc:PFn:=aF (runF Tryz.prog akd arY Tryz.f110)
def axX:TH:={ joins:=[(9,{ keep:=[(1,(.bx 0 0))],mem:=[.same,.gone] }),(11,{ keep:=[(1,(.bx 0 0))],mem:=[.same,.gone] }),(13,{ keep:=[(1,(.bx 0 0))],mem:=[.same,.gone] }),(15,{ keep:=[(1,(.bx 0 0))],mem:=[.same,.gone] })],loops:=[],cuts:=[(11,[(8,{ keep:=[(1,(.bx 0 0)),(55,.bool)],mem:=[.same,.gone] })])],ro:=[1],news:=[] }
def zbx (a0:vV1):Option Int :=
 cond (decide (a0.1<1)) (some 18) (cond (decide (a0.1>5)) (
 some 18) (
(zcm a0.2.1).bind fun r1 =>
 cond (!decide (r1=0)) (
 some r1) (
(cond (decide (a0.1=3)) (cond (!(eqV tT15 a0.2.2.1 (0,0,[],()))) (
 some (.inr 2)) (
 some (.inl ()))) (cond (decide (a0.1=5)) (cond (!(eqV tT15 a0.2.2.1 (0,0,[],()))) (
 some (.inr 2)) (
 some (.inl ()))) (some (.inl ()))):Option (Unit⊕Int)).bind (aU fun v2 =>
(cond (!decide (a0.1=3)) (cond (!decide (a0.1=5)) ((zcd a0.2.2.1).bind fun r3 =>
 cond (!r3) (
 some (.inr 2)) (
 some (.inl ()))) (some (.inl ()))) (some (.inl ())):Option (Unit⊕Int)).bind (aU fun v4 =>
((cond (!decide (a0.1=3)) (some ((!decide (a0.2.2.2.1=0)),())) (some (false,())):Option (Bool×Unit)).bind fun v5 =>
 cond v5.1 (some (.inr 2)) (cond (decide (a0.1=3)) (cond (decide (a0.2.2.2.1=0)) (some (.inr 2)) (cond (decide (a0.2.2.2.1>2147483647)) (some (.inr 2)) (cond (decide (a0.2.2.2.1<(-2147483647))) (
 some (.inr 2)) (
 some (.inl ()))))) (some (.inl ()))):Option (Unit⊕Int)).bind (aU fun v6 =>
(cond (decide (a0.1=2)) (cond (decide ((a0.2.2.2.2.1.length:Int)>0)) (
 some (.inr 2)) (
 some (.inl ()))) (cond (decide (a0.1=3)) (cond (decide ((a0.2.2.2.2.1.length:Int)>0)) (
 some (.inr 2)) (
 some (.inl ()))) (some (.inl ()))):Option (Unit⊕Int)).bind (aU fun v7 =>
 cond (decide ((a0.2.2.2.2.1.length:Int)>256)) (
 some 7) (
(zc7 a0.2.2.2.2.1).bind fun r8 =>
 cond (!r8) (
 some 2) (
 some 0)))))))))
def abF:TFn:={ ps:=(.cons tT13 .unit),res:=(.int .i64),fn:=fun v=>zbx v.1 }
def arX:TEnv:=(vZ [(183,abf),(184,abo),(185,abv)])
theorem arW:runY Tryz.prog akd arY arX axX Tryz.f110 abF.ps abF.res=abF.fn:=by kernel_rfl
theorem akb:aA Tryz.prog G0 110 akc:=ai (ak ⟨au,(aj ajb (aj aju (aj ajL ac))),ap,ac,an⟩ Tryz.func110 rfl (by kernel_rfl))
theorem arV:TOk akc abF:=az (E:=akd) (ET:=arX) (EnvT.ofX (ax (ah aqp (ah aqV (ah ari al)))) am ar aJ aq) arW rfl
def aiM:Env:=(eZ [] [274])
def apN:Hints:=(hZ [] [])
def aiL:PFn:=aF (runF Tryz.prog aiM apN Tryz.f111)
def axn:TH:={ loops:=[],cuts:=[(2,[(9,{ keep:=[(1,(.bx 0 0)),(3,(.bx 1 0)),(13,.bool)],mem:=[.same,.box 132 tT15] })])],ro:=[1],news:=[] }
def zcx (a0:vV1):Option Bool :=
(cond (decide (a0.1=0)) (some ((decide ((a0.2.1.length:Int)=0)),(0,0,[],()),())) (some (false,(0,0,[],()),())):Option (Bool×vV3×Unit)).bind fun v1 =>
 cond v1.1 (cond (eqV tT15 a0.2.2.1 v1.2.1) (cond (decide (a0.2.2.2.1=0)) (some (decide ((a0.2.2.2.2.1.length:Int)=0))) (some false)) (some false)) (some false)
def aa5:TFn:={ ps:=(.cons tT13 .unit),res:=.bool,fn:=fun v=>zcx v.1 }
def apM:TEnv:=(vZ [])
theorem apL:runY Tryz.prog aiM apN apM axn Tryz.f111 aa5.ps aa5.res=aa5.fn:=by kernel_rfl
theorem aiK:aA Tryz.prog G0 111 aiL:=ai (ak ⟨au,ac,ap,ac,an⟩ Tryz.func111 rfl (by kernel_rfl))
theorem apK:TOk aiL aa5:=az (E:=aiM) (ET:=apM) (EnvT.ofX (ax al) am ar aJ aq) apL rfl
def ajg:Env:=(eZ [(109,aca),(110,akc),(111,aiL)] [274])
def aqw:Hints:=(hZ [(8,[1,3])] [])
def ajf:PFn:=aF (runF Tryz.prog ajg aqw Tryz.f42)
def axz:TH:={ loops:=[(8,{ keep:=[(1,(.bx 0 0)),(3,(.int .i64))],mem:=[.same] })],cuts:=[(1,[(9,{ keep:=[(1,(.bx 0 0)),(13,.bool)],mem:=[.same] })])],ro:=[1],news:=[] }
def rn (a0:vV5) (y8:(Int×Unit)):Option ((Int×Unit)⊕Int) :=
 cond (decide (y8.1<(a0.2.2.2.2.1.length:Int))) (
(atI a0.2.2.2.2.1 y8.1).bind fun x3 =>
(zbx x3).bind fun r4 =>
 cond (!decide (r4=0)) (cond a0.2.2.2.1 ((atI a0.2.2.2.2.1 y8.1).bind fun x5 =>
(zcx x5).bind fun r6 =>
 cond (!r6) (
 some (.inr r4)) (
 some (.inl ((IntKind.wrap .i64 (y8.1+1)),())))) (some (.inr r4))) (some (.inl ((IntKind.wrap .i64 (y8.1+1)),())))) (
 some (.inr 0))
def zcl (a0:vV5):Option Int :=
((zb5 a0.1).bind fun r1 =>
 cond (!r1) (some (true,())) (some ((decide (a0.2.1<0)),())):Option (Bool×Unit)).bind fun v2 =>
 cond v2.1 (some 2) (cond (decide (a0.2.1>7)) (some 2) (cond (decide (a0.2.2.1<1)) (some 2) (cond (decide (a0.2.2.1>1099511627776)) (
 some 2) (
 cond (decide ((a0.2.2.2.2.1.length:Int)=0)) (
 some 11) (
 cond (decide ((a0.2.2.2.2.1.length:Int)>16)) (
 some 7) (
 aH (rn a0) (0,())))))))
def abg:TFn:={ ps:=(.cons tT17 .unit),res:=(.int .i64),fn:=fun v=>zcl v.1 }
def aqv:TEnv:=(vZ [(109,uj),(110,abF),(111,aa5)])
theorem aqu:runY Tryz.prog ajg aqw aqv axz Tryz.f42 abg.ps abg.res=abg.fn:=by kernel_rfl
theorem aje:aA Tryz.prog G0 42 ajf:=ai (ak ⟨au,(aj un (aj akb (aj aiK ac))),ap,ac,an⟩ Tryz.func42 rfl (by kernel_rfl))
theorem aqt:TOk ajf abg:=az (E:=ajg) (ET:=aqv) (EnvT.ofX (ax (ah ab9 (ah arV (ah apK al)))) am ar aJ aq) aqu rfl
def aj0:Env:=(eZ [(41,ajn),(42,ajf),(152,alk)] [274])
def arF:Hints:=(hZ [(4,[0,5])] [])
def ajZ:PFn:=aF (runF Tryz.prog aj0 arF Tryz.f82)
def axS:TH:={ loops:=[(4,{ keep:=[(5,(.int .i64))],mem:=[] })],ro:=[] }
def wH (a0:List vV5) (y4:(Int×Unit)):Option ((Int×Unit)⊕Bool) :=
 cond (decide (y4.1<(a0.length:Int))) (
(atI a0 y4.1).bind fun x2 =>
(zch x2).bind fun r3 =>
 cond (!r3) (some (.inr false)) ((atI a0 y4.1).bind fun x4 =>
(zcl x4).bind fun r5 =>
 cond (!decide (r5=0)) (
 some (.inr false)) (
 some (.inl ((IntKind.wrap .i64 (y4.1+1)),()))))) (
 some (.inr true))
def zc2 (a0:List vV5) (a1:Int):Option Bool :=
 cond (decide ((a0.length:Int)>a1)) (some false) ((zb4 a0).bind fun r1 =>
 cond (!r1) (
 some false) (
 aH (wH a0) (0,())))
def abA:TFn:={ ps:=(.cons (.sl tT17) tT16),res:=.bool,fn:=fun v=>zc2 v.1 v.2.1 }
def arE:TEnv:=(vZ [(41,abk),(42,abg),(152,acb)])
theorem arD:runY Tryz.prog aj0 arF arE axS Tryz.f82 abA.ps abA.res=abA.fn:=by kernel_rfl
theorem ajY:aA Tryz.prog G0 82 ajZ:=ai (ak ⟨au,(aj ajm (aj aje (aj alj ac))),ap,ac,an⟩ Tryz.func82 rfl (by kernel_rfl))
theorem arC:TOk ajZ abA:=az (E:=aj0) (ET:=arE) (EnvT.ofX (ax (ah aqH (ah aqt (ah atH al)))) am ar aJ aq) arD rfl
def aiq:Env:=(eZ [(109,aca)] [274])
def apc:Hints:=(hZ [] [])
def aip:PFn:=aF (runF Tryz.prog aiq apc Tryz.f224)
def axd:TH:={ loops:=[],ro:=[1] }
def zdh (a0:vV2):Option Bool :=
(zb5 a0.1).bind fun r1 =>
 cond r1 (cond (decide (a0.2.1≥1)) (some (decide (a0.2.1≤64))) (some false)) (some false)
def aaV:TFn:={ ps:=(.cons tT14 .unit),res:=.bool,fn:=fun v=>zdh v.1 }
def apb:TEnv:=(vZ [(109,uj)])
theorem apa:runY Tryz.prog aiq apc apb axd Tryz.f224 aaV.ps aaV.res=aaV.fn:=by kernel_rfl
theorem aio:aA Tryz.prog G0 224 aip:=ai (ak ⟨au,(aj un ac),ap,ac,an⟩ Tryz.func224 rfl (by kernel_rfl))
theorem ao9:TOk aip aaV:=az (E:=aiq) (ET:=apb) (EnvT.ofX (ax (ah ab9 al)) am ar aJ aq) apa rfl
def ald:Env:=(eZ [(101,abX),(224,aip)] [274])
def atw:Hints:=(hZ [(2,[0,3])] [])
def alc:PFn:=aF (runF Tryz.prog ald atw Tryz.f153)
def aym:TH:={ loops:=[(2,{ keep:=[(3,(.int .i64))],mem:=[] })],ro:=[] }
def wR (a0:List vV2) (y2:(Int×Unit)):Option ((Int×Unit)⊕Bool) :=
 cond (decide (y2.1<(a0.length:Int))) (
(atI a0 y2.1).bind fun x1 =>
(zdh x1).bind fun r2 =>
 cond (!r2) (some (.inr false)) (cond (decide (y2.1>0)) ((atI a0 (IntKind.wrap .i64 (y2.1-1))).bind fun x3 =>
(atI a0 y2.1).bind fun x4 =>
(zbh x3.1 x4.1).bind fun r5 =>
 cond (!decide (r5=(-1))) (
 some (.inr false)) (
 some (.inl ((IntKind.wrap .i64 (y2.1+1)),())))) (some (.inl ((IntKind.wrap .i64 (y2.1+1)),()))))) (
 some (.inr true))
def zb8 (a0:List vV2):Option Bool :=
 aH (wR a0) (0,())
def ab7:TFn:={ ps:=(.cons (.sl tT14) .unit),res:=.bool,fn:=fun v=>zb8 v.1 }
def atv:TEnv:=(vZ [(101,uh),(224,aaV)])
theorem atu:runY Tryz.prog ald atw atv aym Tryz.f153 ab7.ps ab7.res=ab7.fn:=by kernel_rfl
theorem alb:aA Tryz.prog G0 153 alc:=ai (ak ⟨au,(aj ui (aj aio ac)),ap,ac,an⟩ Tryz.func153 rfl (by kernel_rfl))
theorem att:TOk alc ab7:=az (E:=ald) (ET:=atv) (EnvT.ofX (ax (ah abW (ah ao9 al))) am ar aJ aq) atu rfl
def ajX:Env:=(eZ [(153,alc)] [274])
def arB:Hints:=(hZ [] [])
def ajW:PFn:=aF (runF Tryz.prog ajX arB Tryz.f83)
def axR:TH:=yZ
def zc3 (a0:List vV2):Option Bool :=
 cond (decide ((a0.length:Int)≤100)) ((zb8 a0).bind fun r1 =>
 some r1) (some false)
def abz:TFn:={ ps:=(.cons (.sl tT14) .unit),res:=.bool,fn:=fun v=>zc3 v.1 }
def arA:TEnv:=(vZ [(153,ab7)])
theorem arz:runY Tryz.prog ajX arB arA axR Tryz.f83 abz.ps abz.res=abz.fn:=by kernel_rfl
theorem ajV:aA Tryz.prog G0 83 ajW:=ai (ak ⟨au,(aj alb ac),ap,ac,an⟩ Tryz.func83 rfl (by kernel_rfl))
theorem ary:TOk ajW abz:=az (E:=ajX) (ET:=arA) (EnvT.ofX (ax (ah att al)) am ar aJ aq) arz rfl
def ajO:Env:=(eZ [(82,ajZ),(83,ajW)] [274])
def aro:Hints:=(hZ [] [])
def afb:PFn:=aF (runF Tryz.prog ajO aro Tryz.f29)
def axO:TH:=yZ
def zc6 (a0:List vV5) (a1:List vV2):Option Bool :=
(zc2 a0 20).bind fun r1 =>
 cond r1 ((zc3 a1).bind fun r2 =>
 some r2) (some false)
def yK:TFn:={ ps:=(.cons (.sl tT17) (.cons (.sl tT14) .unit)),res:=.bool,fn:=fun v=>zc6 v.1 v.2.1 }
def arn:TEnv:=(vZ [(82,abA),(83,abz)])
theorem arm:runY Tryz.prog ajO aro arn axO Tryz.f29 yK.ps yK.res=yK.fn:=by kernel_rfl
theorem abw:aA Tryz.prog G0 29 afb:=ai (ak ⟨au,(aj ajY (aj ajV ac)),ap,ac,an⟩ Tryz.func29 rfl (by kernel_rfl))
theorem ahb:TOk afb yK:=az (E:=ajO) (ET:=arn) (EnvT.ofX (ax (ah arC (ah ary al))) am ar aJ aq) arm rfl
def ajR:Env:=(eZ [(29,afb)] [274])
def art:Hints:=(hZ [(4,[0,1,5])] [])
def ajQ:PFn:=aF (runF Tryz.prog ajR art Tryz.f14)
def axP:TH:={ loops:=[(4,{ keep:=[(5,(.int .i64))],mem:=[] })],ro:=[] }
def wG (a0:List vV5) (a1:List (List vV2×Unit)) (y4:(Int×Unit)):Option ((Int×Unit)⊕Bool) :=
 cond (decide (y4.1<(a1.length:Int))) (
(atI a1 y4.1).bind fun x1 =>
(zc6 a0 x1.1).bind fun r2 =>
 cond (!r2) (
 some (.inr false)) (
 some (.inl ((IntKind.wrap .i64 (y4.1+1)),())))) (
 some (.inr true))
def zc5 (a0:List vV5) (a1:List (List vV2×Unit)):Option Bool :=
 cond (decide ((a1.length:Int)>6)) (
 some false) (
 aH (wG a0 a1) (0,()))
def abx:TFn:={ ps:=(.cons (.sl tT17) (.cons (.sl (.agg (.cons (.sl tT14) .unit))) .unit)),res:=.bool,fn:=fun v=>zc5 v.1 v.2.1 }
def ars:TEnv:=(vZ [(29,yK)])
theorem arq:runY Tryz.prog ajR art ars axP Tryz.f14 abx.ps abx.res=abx.fn:=by kernel_rfl
theorem ajP:aA Tryz.prog G0 14 ajQ:=ai (ak ⟨au,(aj abw ac),ap,ac,an⟩ Tryz.func14 rfl (by kernel_rfl))
theorem arp:TOk ajQ abx:=az (E:=ajR) (ET:=ars) (EnvT.ofX (ax (ah ahb al)) am ar aJ aq) arq rfl
def aly:Env:=(eZ [] [274])
def auf:Hints:=(hZ [] [])
def alx:PFn:=aF (runF Tryz.prog aly auf Tryz.f328)
def ayx:TH:=yZ
def zax (a0:List UInt8):Option Int :=
(atI a0 0).bind fun b1 =>
(atI a0 1).bind fun b2 =>
(shlT .u64 (IntKind.wrap .u64 (b2.toNat:Int)) 8).bind fun t3 =>
(atI a0 2).bind fun b4 =>
(shlT .u64 (IntKind.wrap .u64 (b4.toNat:Int)) 16).bind fun t5 =>
(atI a0 3).bind fun b6 =>
(shlT .u64 (IntKind.wrap .u64 (b6.toNat:Int)) 24).bind fun t7 =>
(atI a0 4).bind fun b8 =>
(shlT .u64 (IntKind.wrap .u64 (b8.toNat:Int)) 32).bind fun t9 =>
(atI a0 5).bind fun b10 =>
(shlT .u64 (IntKind.wrap .u64 (b10.toNat:Int)) 40).bind fun t11 =>
(atI a0 6).bind fun b12 =>
(shlT .u64 (IntKind.wrap .u64 (b12.toNat:Int)) 48).bind fun t13 =>
(atI a0 7).bind fun b14 =>
(shlT .u64 (IntKind.wrap .u64 (b14.toNat:Int)) 56).bind fun t15 =>
 some (IntKind.wrap .u64 ((BitVec.ofInt (IntKind.bits .u64) (IntKind.wrap .u64 ((BitVec.ofInt (IntKind.bits .u64) (IntKind.wrap .u64 ((BitVec.ofInt (IntKind.bits .u64) (IntKind.wrap .u64 ((BitVec.ofInt (IntKind.bits .u64) (IntKind.wrap .u64 ((BitVec.ofInt (IntKind.bits .u64) (IntKind.wrap .u64 ((BitVec.ofInt (IntKind.bits .u64) (IntKind.wrap .u64 ((BitVec.ofInt (IntKind.bits .u64) (IntKind.wrap .u64 (b1.toNat:Int)) ||| BitVec.ofInt (IntKind.bits .u64) t3).toNat)) ||| BitVec.ofInt (IntKind.bits .u64) t5).toNat)) ||| BitVec.ofInt (IntKind.bits .u64) t7).toNat)) ||| BitVec.ofInt (IntKind.bits .u64) t9).toNat)) ||| BitVec.ofInt (IntKind.bits .u64) t11).toNat)) ||| BitVec.ofInt (IntKind.bits .u64) t13).toNat)) ||| BitVec.ofInt (IntKind.bits .u64) t15).toNat))
def aci:TFn:={ ps:=(.cons .str .unit),res:=(.int .u64),fn:=fun v=>zax v.1 }
def aue:TEnv:=(vZ [])
theorem aud:runY Tryz.prog aly auf aue ayx Tryz.f328 aci.ps aci.res=aci.fn:=by kernel_rfl
theorem alw:aA Tryz.prog G0 328 alx:=ai (ak ⟨au,ac,ap,ac,an⟩ Tryz.func328 rfl (by kernel_rfl))
theorem auc:TOk alx aci:=az (E:=aly) (ET:=aue) (EnvT.ofX (ax al) am ar aJ aq) aud rfl
def amR:Env:=(eZ [(328,alx)] [274])
def av3:Hints:=(hZ [(1,[0]),(9,[0])] [])
def afF:PFn:=aF (runF Tryz.prog amR av3 Tryz.f281)
def ayW:TH:={ joins:=[(11,{ keep:=[(0,.str),(3,(.int .u8))],mem:=[] })],loops:=[(1,{ keep:=[(0,.str)],mem:=[] }),(9,{ keep:=[(0,.str)],mem:=[] })],cuts:=[(21,[(10,{ keep:=[(6,(.bx 0 0)),(108,.bool)],mem:=[.box 367 (.agg (.cons (.int .u8) (.cons (.int .u8) .unit)))] })]),(25,[(10,{ keep:=[(6,(.bx 0 0)),(139,.bool)],mem:=[.box 367 (.agg (.cons (.int .u8) (.cons (.int .u8) .unit)))] }),(7,{ keep:=[(146,.bool)],mem:=[.gone] }),(5,{ keep:=[(151,.bool)],mem:=[.gone] })])],ro:=[],news:=[] }
def iS (y9:(List UInt8×Unit)):Option ((List UInt8×Unit)⊕((List UInt8×Int×Unit)⊕((List UInt8×Unit)⊕Bool))) :=
 cond (decide ((y9.1.length:Int)>32)) ((zax y9.1).bind fun r9 =>
(subI y9.1 8 (y9.1.length:Int)).bind fun s10 =>
(zax s10).bind fun r11 =>
(subI y9.1 16 (y9.1.length:Int)).bind fun s12 =>
(zax s12).bind fun r13 =>
(subI y9.1 24 (y9.1.length:Int)).bind fun s14 =>
(zax s14).bind fun r15 =>
 cond (decide ((IntKind.wrap .u64 ((BitVec.ofInt (IntKind.bits .u64) (IntKind.wrap .u64 ((BitVec.ofInt (IntKind.bits .u64) (IntKind.wrap .u64 ((BitVec.ofInt (IntKind.bits .u64) r9 ||| BitVec.ofInt (IntKind.bits .u64) r11).toNat)) ||| BitVec.ofInt (IntKind.bits .u64) (IntKind.wrap .u64 ((BitVec.ofInt (IntKind.bits .u64) r13 ||| BitVec.ofInt (IntKind.bits .u64) r15).toNat))).toNat)) &&& BitVec.ofInt (IntKind.bits .u64) 9259542123273814144).toNat))=0)) (
(subI y9.1 32 (y9.1.length:Int)).bind fun s16 =>
 some (.inl (s16,()))) (
 some (.inr (.inr (.inl (y9.1,())))))) (some (.inr (.inr (.inl (y9.1,())))))
def iT (y1:(List UInt8×Unit)):Option ((List UInt8×Unit)⊕Bool) :=
 cond (decide ((y1.1.length:Int)>0)) (
(atI y1.1 0).bind fun b1 =>
(cond (decide ((b1.toNat:Int)<128)) (
(subI y1.1 1 (y1.1.length:Int)).bind fun s2 =>
 cond (decide ((s2.length:Int)>8)) ((zax s2).bind fun r3 =>
 cond (decide ((IntKind.wrap .u64 ((BitVec.ofInt (IntKind.bits .u64) r3 &&& BitVec.ofInt (IntKind.bits .u64) 9259542123273814144).toNat))=0)) (
(subI s2 8 (s2.length:Int)).bind fun s4 =>
 cond (decide ((s4.length:Int)>16)) ((zax s4).bind fun r5 =>
(subI s4 8 (s4.length:Int)).bind fun s6 =>
(zax s6).bind fun r7 =>
 cond (decide ((IntKind.wrap .u64 ((BitVec.ofInt (IntKind.bits .u64) (IntKind.wrap .u64 ((BitVec.ofInt (IntKind.bits .u64) r5 ||| BitVec.ofInt (IntKind.bits .u64) r7).toNat)) &&& BitVec.ofInt (IntKind.bits .u64) 9259542123273814144).toNat))=0)) (
(subI s4 16 (s4.length:Int)).bind fun s8 =>
 aH (iS) (s8,())) (
 some (.inr (.inl (s4,()))))) (some (.inr (.inl (s4,()))))) (
 some (.inr (.inl (s2,()))))) (some (.inr (.inl (s2,()))))) (
 some (.inl (y1.1,(b1.toNat:Int),()))):Option ((List UInt8×Int×Unit)⊕((List UInt8×Unit)⊕Bool))).bind (aU fun v17 =>
(atI gO v17.2.1).bind fun x18 =>
(shrT .u8 x18 4).bind fun t19 =>
(atI fq t19).bind fun x20 =>
 cond (decide ((IntKind.wrap .i64 (IntKind.wrap .u8 ((BitVec.ofInt (IntKind.bits .u8) x18 &&& BitVec.ofInt (IntKind.bits .u8) 7).toNat)))=2)) (
 cond (decide ((v17.1.length:Int)<2)) (some (.inr false)) ((atI v17.1 1).bind fun b21 =>
 cond (decide ((b21.toNat:Int)<x20.1)) (some (.inr false)) ((atI v17.1 1).bind fun b22 =>
 cond (decide (x20.2.1<(b22.toNat:Int))) (
 some (.inr false)) (
(subI v17.1 2 (v17.1.length:Int)).bind fun s23 =>
 some (.inl (s23,())))))) (
 cond (decide ((IntKind.wrap .i64 (IntKind.wrap .u8 ((BitVec.ofInt (IntKind.bits .u8) x18 &&& BitVec.ofInt (IntKind.bits .u8) 7).toNat)))=3)) (
(cond (decide ((v17.1.length:Int)<3)) (some (true,x20,())) ((atI v17.1 1).bind fun b24 =>
 some ((decide ((b24.toNat:Int)<x20.1)),x20,())):Option (Bool×(Int×Int×Unit)×Unit)).bind fun v25 =>
 cond v25.1 (some (.inr false)) ((atI v17.1 1).bind fun b26 =>
 cond (decide (v25.2.1.2.1<(b26.toNat:Int))) (some (.inr false)) ((atI v17.1 2).bind fun b27 =>
 cond (decide ((b27.toNat:Int)<128)) (some (.inr false)) ((atI v17.1 2).bind fun b28 =>
 cond (decide (191<(b28.toNat:Int))) (
 some (.inr false)) (
(subI v17.1 3 (v17.1.length:Int)).bind fun s29 =>
 some (.inl (s29,()))))))) (
 cond (decide ((IntKind.wrap .i64 (IntKind.wrap .u8 ((BitVec.ofInt (IntKind.bits .u8) x18 &&& BitVec.ofInt (IntKind.bits .u8) 7).toNat)))=4)) (
(cond (decide ((v17.1.length:Int)<4)) (some (true,x20,())) ((atI v17.1 1).bind fun b30 =>
 some ((decide ((b30.toNat:Int)<x20.1)),x20,())):Option (Bool×(Int×Int×Unit)×Unit)).bind fun v31 =>
(cond v31.1 (some (true,())) ((atI v17.1 1).bind fun b32 =>
 some ((decide (v31.2.1.2.1<(b32.toNat:Int))),())):Option (Bool×Unit)).bind fun v33 =>
(cond v33.1 (some (true,())) ((atI v17.1 2).bind fun b34 =>
 some ((decide ((b34.toNat:Int)<128)),())):Option (Bool×Unit)).bind fun v35 =>
 cond v35.1 (some (.inr false)) ((atI v17.1 2).bind fun b36 =>
 cond (decide (191<(b36.toNat:Int))) (some (.inr false)) ((atI v17.1 3).bind fun b37 =>
 cond (decide ((b37.toNat:Int)<128)) (some (.inr false)) ((atI v17.1 3).bind fun b38 =>
 cond (decide (191<(b38.toNat:Int))) (
 some (.inr false)) (
(subI v17.1 4 (v17.1.length:Int)).bind fun s39 =>
 some (.inl (s39,()))))))) (
 some (.inr false)))))) (
 some (.inr true))
def za1 (a0:List UInt8):Option Bool :=
 aH (iT) (a0,())
def yV:TFn:={ ps:=(.cons .str .unit),res:=.bool,fn:=fun v=>za1 v.1 }
def av2:TEnv:=(vZ [(328,aci)])
theorem av1:runY Tryz.prog amR av3 av2 ayW Tryz.f281 yV.ps yV.res=yV.fn:=by kernel_rfl
theorem acD:aA Tryz.prog G0 281 afF:=ai (ak ⟨au,(aj alw ac),ap,ac,an⟩ Tryz.func281 rfl (by kernel_rfl))
theorem ahn:TOk afF yV:=az (E:=amR) (ET:=av2) (EnvT.ofX (ax (ah auc al)) am ar aJ aq) av1 rfl
def alN:Env:=(eZ [] [274])
def auD:Hints:=(hZ [(2,[2,4])] [])
def alM:PFn:=aF (runF Tryz.prog alN auD Tryz.f282)
def ayD:TH:={ loops:=[(2,{ keep:=[(2,(.int .i64)),(4,(.it 0))],mem:=[.iter] })],ro:=[] }
def rz (a0:List UInt8) (y2:(Int×Nat×Unit)):Option ((Int×Nat×Unit)⊕Int) :=
 cond (decide (y2.2.1<a0.length)) (some (.inl ((IntKind.wrap .i64 (y2.1+1)),(y2.2.1+(Utf8.decode ⟨a0.toArray⟩ y2.2.1).2),()))) (some (.inr y2.1))
def zar (a0:List UInt8):Option Int :=
 aH (rz a0) (0,0,())
def acp:TFn:={ ps:=(.cons .str .unit),res:=(.int .i64),fn:=fun v=>zar v.1 }
def auC:TEnv:=(vZ [])
theorem auB:runY Tryz.prog alN auD auC ayD Tryz.f282 acp.ps acp.res=acp.fn:=by kernel_rfl
theorem alL:aA Tryz.prog G0 282 alM:=ai (ak ⟨au,ac,ap,ac,an⟩ Tryz.func282 rfl (by kernel_rfl))
theorem auA:TOk alM acp:=az (E:=alN) (ET:=auC) (EnvT.ofX (ax al) am ar aJ aq) auB rfl
def akx:Env:=(eZ [] [274])
def ast:Hints:=(hZ [] [])
def akw:PFn:=aF (runF Tryz.prog akx ast Tryz.f283)
def ax5:TH:=yZ
def zbp (a0:Int):Option Bool :=
 cond (decide (a0=42)) (some true) (cond (decide (a0=63)) (some true) (some (decide (a0=92))))
def abM:TFn:={ ps:=(.cons (.int .i32) .unit),res:=.bool,fn:=fun v=>zbp v.1 }
def ass:TEnv:=(vZ [])
theorem asr:runY Tryz.prog akx ast ass ax5 Tryz.f283 abM.ps abM.res=abM.fn:=by kernel_rfl
theorem akv:aA Tryz.prog G0 283 akw:=ai (ak ⟨au,ac,ap,ac,an⟩ Tryz.func283 rfl (by kernel_rfl))
theorem asq:TOk akw abM:=az (E:=akx) (ET:=ass) (EnvT.ofX (ax al) am ar aJ aq) asr rfl
def ajH:Env:=(eZ [(281,afF),(282,alM),(283,akw)] [274])
def arb:Hints:=(hZ [(6,[4,5,17])] [])
def afa:PFn:=aF (runF Tryz.prog ajH arb Tryz.f215)
def axL:TH:={ joins:=[(18,{ keep:=[(4,(.own 1)),(5,.bool)],mem:=[.gone,.row true 336 (.agg (.cons (.int .i64) (.cons (.int .i32) .unit)))] }),(10,{ keep:=[(4,(.own 1)),(17,(.it 0)),(25,.bool)],mem:=[.iter,.row true 336 (.agg (.cons (.int .i64) (.cons (.int .i32) .unit)))] })],loops:=[(6,{ keep:=[(4,(.own 1)),(5,.bool),(17,(.it 0))],mem:=[.iter,.row true 336 (.agg (.cons (.int .i64) (.cons (.int .i32) .unit)))] })],ro:=[] }
def fZ (a0:List UInt8) (y6:(Bool×Nat×List (Int×Int×Unit)×Unit)):Option ((Bool×Nat×List (Int×Int×Unit)×Unit)⊕((Bool×List (Int×Int×Unit)×Unit)⊕(List (Int×Int×Unit)×Bool×Unit))) :=
 cond (decide (y6.2.1<a0.length)) ((cond y6.1 ((zbp ((Utf8.decode ⟨a0.toArray⟩ y6.2.1).1:Int)).bind fun r3 =>
 some (.inl ((!r3),(y6.2.1+(Utf8.decode ⟨a0.toArray⟩ y6.2.1).2),y6.2.2.1,()))) (some (.inl (false,(y6.2.1+(Utf8.decode ⟨a0.toArray⟩ y6.2.1).2),y6.2.2.1,()))):Option ((Bool×Nat×List (Int×Int×Unit)×Unit)⊕((Bool×Nat×List (Int×Int×Unit)×Unit)⊕((Bool×List (Int×Int×Unit)×Unit)⊕(List (Int×Int×Unit)×Bool×Unit))))).bind (aU fun v4 =>
 cond v4.1 (
 some (.inr (.inr ([],false,())))) (
 cond y6.1 ((ch (v4.2.2.1.length+([(0,((Utf8.decode ⟨a0.toArray⟩ y6.2.1).1:Int),())]:List (Int×Int×Unit)).length)).bind fun u5 =>
 some (.inl (false,v4.2.1,(v4.2.2.1++([(0,((Utf8.decode ⟨a0.toArray⟩ y6.2.1).1:Int),())]:List (Int×Int×Unit))),()))) ((zbp ((Utf8.decode ⟨a0.toArray⟩ y6.2.1).1:Int)).bind fun r6 =>
 cond (!r6) (
(ch (v4.2.2.1.length+([(0,((Utf8.decode ⟨a0.toArray⟩ y6.2.1).1:Int),())]:List (Int×Int×Unit)).length)).bind fun u7 =>
 some (.inl (false,v4.2.1,(v4.2.2.1++([(0,((Utf8.decode ⟨a0.toArray⟩ y6.2.1).1:Int),())]:List (Int×Int×Unit))),()))) (
 cond (decide (((Utf8.decode ⟨a0.toArray⟩ y6.2.1).1:Int)=92)) (
 some (.inl (true,v4.2.1,v4.2.2.1,()))) (
 cond (decide (((Utf8.decode ⟨a0.toArray⟩ y6.2.1).1:Int)=63)) (
(ch (v4.2.2.1.length+([(1,0,())]:List (Int×Int×Unit)).length)).bind fun u8 =>
 some (.inl (y6.1,v4.2.1,(v4.2.2.1++([(1,0,())]:List (Int×Int×Unit))),()))) (
(ch (v4.2.2.1.length+([(2,0,())]:List (Int×Int×Unit)).length)).bind fun u9 =>
 some (.inl (y6.1,v4.2.1,(v4.2.2.1++([(2,0,())]:List (Int×Int×Unit))),()))))))))) (some (.inr (.inl (y6.1,y6.2.2.1,()))))
def zc9 (a0:List UInt8):Option (List (Int×Int×Unit)×Bool×Unit) :=
(za1 a0).bind fun r1 =>
 cond (!r1) (some ([],false,())) ((zar a0).bind fun r2 =>
 cond (decide (r2>64)) (
 some ([],false,())) (
(aH (fZ a0) (false,0,[],()):Option ((Bool×List (Int×Int×Unit)×Unit)⊕(List (Int×Int×Unit)×Bool×Unit))).bind (aU fun v10 =>
 cond v10.1 (
 some ([],false,())) (
 some (v10.2.1,true,())))))
def yJ:TFn:={ ps:=(.cons .str .unit),res:=(.tup (.cons (.sl (.agg (.cons (.int .i64) (.cons (.int .i32) .unit)))) (.cons .bool .unit))),fn:=fun v=>zc9 v.1 }
def ara:TEnv:={ pure:=[(281,yV),(282,acp),(283,abM)],look:=[],glob:=G0T,ty:=[(336,(.agg (.cons (.int .i64) (.cons (.int .i32) .unit))))],raw:=[],fresh:=[] }
theorem aq9:runY Tryz.prog ajH arb ara axL Tryz.f215 yJ.ps yJ.res=yJ.fn:=by kernel_rfl
theorem abt:aA Tryz.prog G0 215 afa:=ai (ak ⟨au,(aj acD (aj alL (aj akv ac))),ap,ac,an⟩ Tryz.func215 rfl (by kernel_rfl))
theorem aha:TOk afa yJ:=az (E:=ajH) (ET:=ara) (EnvT.ofX (ax (ah ahn (ah auA (ah asq al)))) am ar aJ aq) aq9 rfl
def ai1:Env:=(eZ [(215,afa)] [274])
def aqc:Hints:=(hZ [] [])
def ai0:PFn:=aF (runF Tryz.prog ai1 aqc Tryz.f143)
def axu:TH:=yZ
def zcq (a0:List UInt8):Option Bool :=
(zc9 a0).bind fun r1 =>
 some r1.2.1
def abb:TFn:={ ps:=(.cons .str .unit),res:=.bool,fn:=fun v=>zcq v.1 }
def aqb:TEnv:=(vZ [(215,yJ)])
theorem aqa:runY Tryz.prog ai1 aqc aqb axu Tryz.f143 abb.ps abb.res=abb.fn:=by kernel_rfl
theorem aiZ:aA Tryz.prog G0 143 ai0:=ai (ak ⟨au,(aj abt ac),ap,ac,an⟩ Tryz.func143 rfl (by kernel_rfl))
theorem ap9:TOk ai0 abb:=az (E:=ai1) (ET:=aqb) (EnvT.ofX (ax (ah aha al)) am ar aJ aq) aqa rfl
def akX:Env:=(eZ [(143,ai0)] [274])
def as9:Hints:=(hZ [] [])
def akW:PFn:=aF (runF Tryz.prog akX as9 Tryz.f142)
def ayg:TH:=yZ
def zbe (a0:List UInt8):Option Bool :=
 cond (decide (a0=[])) (some true) ((zcq a0).bind fun r1 =>
 some (!r1))
def ab0:TFn:={ ps:=(.cons .str .unit),res:=.bool,fn:=fun v=>zbe v.1 }
def as8:TEnv:=(vZ [(143,abb)])
theorem as7:runY Tryz.prog akX as9 as8 ayg Tryz.f142 ab0.ps ab0.res=ab0.fn:=by kernel_rfl
theorem akV:aA Tryz.prog G0 142 akW:=ai (ak ⟨au,(aj aiZ ac),ap,ac,an⟩ Tryz.func142 rfl (by kernel_rfl))
theorem as6:TOk akW ab0:=az (E:=akX) (ET:=as8) (EnvT.ofX (ax (ah ap9 al)) am ar aJ aq) as7 rfl
def amf:Env:=(eZ [(142,akW)] [274])
def au8:Hints:=(hZ [(2,[0,1,7,8])] [])
def ame:PFn:=aF (runF Tryz.prog amf au8 Tryz.f214)
def ayJ:TH:={ loops:=[(2,{ keep:=[(8,(.int .i64))],mem:=[] })],ro:=[] }
def rA (a0:List (List UInt8)) (y2:(Int×Unit)):Option ((Int×Unit)⊕Int) :=
 cond (decide (y2.1<(a0.length:Int))) (
(atI a0 y2.1).bind fun x1 =>
(zbe x1).bind fun r2 =>
 cond r2 (
 some (.inr y2.1)) (
 some (.inl ((IntKind.wrap .i64 (y2.1+1)),())))) (
 some (.inr (-1)))
def zah (a0:List (List UInt8)) (a1:Unit):Option Int :=
 aH (rA a0) (0,())
def acv:TFn:={ ps:=(.cons (.sl .str) (.cons (.fn 142) .unit)),res:=(.int .i64),fn:=fun v=>zah v.1 v.2.1 }
def au7:TEnv:=(vZ [(142,ab0)])
theorem au6:runY Tryz.prog amf au8 au7 ayJ Tryz.f214 acv.ps acv.res=acv.fn:=by kernel_rfl
theorem amd:aA Tryz.prog G0 214 ame:=ai (ak ⟨au,(aj akV ac),ap,ac,an⟩ Tryz.func214 rfl (by kernel_rfl))
theorem au5:TOk ame acv:=az (E:=amf) (ET:=au7) (EnvT.ofX (ax (ah as6 al)) am ar aJ aq) au6 rfl
def ami:Env:=(eZ [(214,ame)] [274])
def avc:Hints:=(hZ [] [])
def amh:PFn:=aF (runF Tryz.prog ami avc Tryz.f141)
def ayK:TH:=yZ
def zag (a0:List (List UInt8)) (a1:Unit):Option Bool :=
(zah a0 a1).bind fun r1 =>
 some (decide (r1≥0))
def acw:TFn:={ ps:=(.cons (.sl .str) (.cons (.fn 142) .unit)),res:=.bool,fn:=fun v=>zag v.1 v.2.1 }
def avb:TEnv:=(vZ [(214,acv)])
theorem ava:runY Tryz.prog ami avc avb ayK Tryz.f141 acw.ps acw.res=acw.fn:=by kernel_rfl
theorem amg:aA Tryz.prog G0 141 amh:=ai (ak ⟨au,(aj amd ac),ap,ac,an⟩ Tryz.func141 rfl (by kernel_rfl))
theorem au9:TOk amh acw:=az (E:=ami) (ET:=avb) (EnvT.ofX (ax (ah au5 al)) am ar aJ aq) ava rfl
def ajt:Env:=(eZ [(141,amh)] [274])
def aqU:Hints:=(hZ [] [])
def ae9:PFn:=aF (runF Tryz.prog ajt aqU Tryz.f71)
def axG:TH:=yZ
def zce (a0:List (List UInt8)):Option Int :=
 cond (decide ((a0.length:Int)=0)) (
 some 8) (
 cond (decide ((a0.length:Int)>8)) (
 some 9) (
(zag a0 ()).bind fun r1 =>
 cond r1 (
 some 8) (
 some 0)))
def yI:TFn:={ ps:=tT22,res:=(.int .i64),fn:=fun v=>zce v.1 }
def aqT:TEnv:=(vZ [(141,acw)])
theorem aqS:runY Tryz.prog ajt aqU aqT axG Tryz.f71 yI.ps yI.res=yI.fn:=by kernel_rfl
theorem abn:aA Tryz.prog G0 71 ae9:=ai (ak ⟨au,(aj amg ac),ap,ac,an⟩ Tryz.func71 rfl (by kernel_rfl))
theorem ag9:TOk ae9 yI:=az (E:=ajt) (ET:=aqT) (EnvT.ofX (ax (ah au9 al)) am ar aJ aq) aqS rfl
def alR:Go.Shelf.Ren:=⟨fun | 41=>72 | n=>n,fun | 22=>24 | 23=>9 | 4=>4 | n=>n,fun | n=>n⟩
theorem aft:Go.Proofs.SlLaysE0.n41 Tryz.prog alR:={
 mixed:=by kernel_rfl
 f41:=⟨Tryz.f72.name,by decide,Tryz.func72.trans (congrArg some (by kernel_rfl))⟩
 t4:=Tryz.underlying4
 a4:=Tryz.isAgg4
 z4:=Tryz.sizeOf4
 v4:=Tryz.zeroValue4
 t22:=Tryz.underlying24
 a22:=Tryz.isAgg24
 z22:=Tryz.sizeOf24
 v22:=Tryz.zeroValue24 }
def yU:PFn:=(kF 1)
theorem px:aA Tryz.prog G0 72 yU:=clone_lays aft 1 ⟨Tryz.f72,Tryz.func72,rfl,by kernel_rfl⟩ (by kernel_rfl) (by kernel_rfl) (by kernel_rfl) (by kernel_rfl) (by kernel_rfl) (by decide) (fun w=>Tryz.sizeOf9 w)
def zap (a0:List (List UInt8)):Option (List (List UInt8)):=iv a0
def acr:TFn:=fR .str
theorem wW:TOk yU acr:=nf rfl rfl rfl
def ah6:Env:=(eZ [(71,ae9),(72,yU)] [274])
def aoI:Hints:=(hZ [] [])
def ae0:SFn:=runF Tryz.prog ah6 aoI Tryz.f17
def aw5:TH:=yZ
def zdp (a0:List (List UInt8)):Option (List vV8×Int×Unit) :=
(zce a0).bind fun r1 =>
 cond (!decide (r1=0)) (
 some ([],r1,())) (
(zap a0).bind fun r2 =>
 some ([(r2,[],0,())],0,()))
def aaM:TNew:={ ps:=tT22,e:=139,t:=(.cons (.sl tT21) tT16),fn:=fun v=>zdp v.1,pair:=true }
def aoH:TEnv:=(vZ [(71,yI),(72,acr)])
theorem aoG:awq Tryz.prog ah6 aoI aoH aw5 Tryz.f17 aaM.ps 139 tT21 tT16=aaM.fn:=by kernel_rfl
theorem aaL:cB Tryz.prog G0 17 ae0:=ak ⟨au,(aj abn (aj px ac)),ap,ac,an⟩ Tryz.func17 rfl (by kernel_rfl)
theorem ag0:TNewOk ae0 aaM:=agk (E:=ah6) (ET:=aoH) (EnvT.ofX (ax (ah ag9 (ah wW al))) am ar aJ aq) aoG
def ak7:Env:=(eZ [] [274])
def ato:Hints:=(hZ [] [])
def afl:PFn:=aF (runF Tryz.prog ak7 ato Tryz.f226)
def ayk:TH:=yZ
def zba (a0:Int):Option Bool :=
 some (!decide (a0=a0))
def ab5:TFn:={ ps:=tT16,res:=.bool,fn:=fun v=>zba v.1 }
def atn:TEnv:=(vZ [])
theorem atm:runY Tryz.prog ak7 ato atn ayk Tryz.f226 ab5.ps ab5.res=ab5.fn:=by kernel_rfl
theorem ak6:aA Tryz.prog G0 226 afl:=ai (ak ⟨au,ac,ap,ac,an⟩ Tryz.func226 rfl (by kernel_rfl))
theorem atl:TOk afl ab5:=az (E:=ak7) (ET:=atn) (EnvT.ofX (ax al) am ar aJ aq) atm rfl
def amJ:Env:=(eZ [(226,afl)] [274])
def avO:Hints:=(hZ [] [])
def uu:PFn:=aF (runF Tryz.prog amJ avO Tryz.f156)
def ayS:TH:=yZ
def za5 (a0:Int) (a1:Int):Option Int :=
(zba a0).bind fun r1 =>
(zba a1).bind fun r2 =>
 cond r1 (
 cond r2 (
 some 0) (
 some (-1))) (
 cond r2 (
 some 1) (
 cond (decide (a0<a1)) (
 some (-1)) (
 cond (decide (a0>a1)) (
 some 1) (
 some 0))))
def rB:TFn:={ ps:=(.cons (.int .i64) tT16),res:=(.int .i64),fn:=fun v=>za5 v.1 v.2.1 }
def avN:TEnv:=(vZ [(226,ab5)])
theorem avM:runY Tryz.prog amJ avO avN ayS Tryz.f156 rB.ps rB.res=rB.fn:=by kernel_rfl
theorem py:aA Tryz.prog G0 156 uu:=ai (ak ⟨au,(aj ak6 ac),ap,ac,an⟩ Tryz.func156 rfl (by kernel_rfl))
theorem wZ:TOk uu rB:=az (E:=amJ) (ET:=avN) (EnvT.ofX (ax (ah atl al)) am ar aJ aq) avM rfl
def aiT:Env:=(eZ [] [274])
def apY:Hints:=(hZ [(3,[3,6,7,8])] [])
def ug:PFn:=aF (runF Tryz.prog aiT apY Tryz.f154)
def axq:TH:={ loops:=[(3,{ keep:=[(8,(.int .i64))],mem:=[] })],ro:=[] }
def fX (a0:List Int) (y3:(Int×Unit)):Option ((Int×Unit)⊕Int) :=
 cond (decide (y3.1<(a0.length:Int))) (
(atI a0 y3.1).bind fun x1 =>
 cond (!decide (x1=0)) (
 some (.inr x1)) (
 some (.inl ((IntKind.wrap .i64 (y3.1+1)),())))) (
 some (.inr 0))
def zcu (a0:List Int):Option Int :=
 aH (fX a0) (0,())
def rk:TFn:={ ps:=(.cons (.sl (.int .i64)) .unit),res:=(.int .i64),fn:=fun v=>zcu v.1 }
def apX:TEnv:=(vZ [])
theorem apW:runY Tryz.prog aiT apY apX axq Tryz.f154 rk.ps rk.res=rk.fn:=by kernel_rfl
theorem pp:aA Tryz.prog G0 154 ug:=ai (ak ⟨au,ac,ap,ac,an⟩ Tryz.func154 rfl (by kernel_rfl))
theorem wx:TOk ug rk:=az (E:=aiT) (ET:=apX) (EnvT.ofX (ax al) am ar aJ aq) apW rfl
def ala:Env:=(eZ [(154,ug),(156,uu)] [274])
def ats:Hints:=(hZ [] [])
def ak9:PFn:=aF (runF Tryz.prog ala ats Tryz.f171)
def ayl:TH:={ loops:=[],ro:=[2,3] }
def zb9 (a0:(Int×Int×Unit)) (a1:(Int×Int×Unit)):Option Int :=
(za5 a0.1 a1.1).bind fun r1 =>
(za5 a0.2.1 a1.2.1).bind fun r2 =>
(zcu ([r1,r2]:List Int)).bind fun r3 =>
 some r3
def ab6:TFn:={ ps:=(.cons (.agg (.cons (.int .i64) tT16)) tT23),res:=(.int .i64),fn:=fun v=>zb9 v.1 v.2.1 }
def atr:TEnv:={ pure:=[(154,rk),(156,rB)],look:=[],glob:=G0T,ty:=[(3,(.int .i64))],raw:=[],fresh:=[] }
theorem atq:runY Tryz.prog ala ats atr ayl Tryz.f171 ab6.ps ab6.res=ab6.fn:=by kernel_rfl
theorem ak8:aA Tryz.prog G0 171 ak9:=ai (ak ⟨au,(aj pp (aj py ac)),ap,ac,an⟩ Tryz.func171 rfl (by kernel_rfl))
theorem atp:TOk ak9 ab6:=az (E:=ala) (ET:=atr) (EnvT.ofX (ax (ah wx (ah wZ al))) am ar aJ aq) atq rfl
def akM:Env:=(eZ [(171,ak9)] [274])
def asP:Hints:=(hZ [] [])
def akL:PFn:=aF (runF Tryz.prog akM asP Tryz.f242)
def ayb:TH:={ loops:=[],ro:=[2,3] }
def zbj (a0:vV2) (a1:vV2):Option Int :=
(zb9 a0.1 a1.1).bind fun r1 =>
 some r1
def abU:TFn:={ ps:=(.cons tT14 (.cons tT14 .unit)),res:=(.int .i64),fn:=fun v=>zbj v.1 v.2.1 }
def asO:TEnv:=(vZ [(171,ab6)])
theorem asN:runY Tryz.prog akM asP asO ayb Tryz.f242 abU.ps abU.res=abU.fn:=by kernel_rfl
theorem akK:aA Tryz.prog G0 242 akL:=ai (ak ⟨au,(aj ak8 ac),ap,ac,an⟩ Tryz.func242 rfl (by kernel_rfl))
theorem asM:TOk akL abU:=az (E:=akM) (ET:=asO) (EnvT.ofX (ax (ah atp al)) am ar aJ aq) asN rfl
def amv:Env:=(eZ [(242,akL)] [274])
def avp:Hints:=(hZ [(3,[0,2,4,8,9,10])] [])
def amu:PFn:=aF (runF Tryz.prog amv avp Tryz.f284)
def ayM:TH:={ joins:=[(8,{ keep:=[(4,(.bx 0 0)),(9,(.int .i64))],mem:=[.same] })],loops:=[(3,{ keep:=[(4,(.bx 0 0)),(9,(.int .i64)),(10,(.int .i64))],mem:=[.same] })],ro:=[4] }
def oc (a0:List vV2) (a1:vV2) (y3:(Int×Int×Unit)):Option ((Int×Int×Unit)⊕((Int×Unit)⊕(Int×Bool×Unit))) :=
 cond (decide (y3.1<y3.2.1)) (
(shrT .u64 (IntKind.wrap .u64 (IntKind.wrap .i64 (y3.1+y3.2.1))) 1).bind fun t1 =>
(atI a0 (IntKind.wrap .i64 t1)).bind fun x2 =>
(zbj x2 a1).bind fun r3 =>
 cond (decide (r3<0)) (
 some (.inl ((IntKind.wrap .i64 ((IntKind.wrap .i64 t1)+1)),y3.2.1,()))) (
 some (.inl (y3.1,(IntKind.wrap .i64 t1),())))) (
 some (.inr (.inl (y3.1,()))))
def zac (a0:List vV2) (a1:vV2) (a2:Unit):Option (Int×Bool×Unit) :=
(aH (oc a0 a1) (0,(a0.length:Int),()):Option ((Int×Unit)⊕(Int×Bool×Unit))).bind (aU fun v4 =>
 cond (decide (v4.1<(a0.length:Int))) ((atI a0 v4.1).bind fun x5 =>
(zbj x5 a1).bind fun r6 =>
 some (v4.1,(decide (r6=0)),())) (some (v4.1,false,())))
def acx:TFn:={ ps:=(.cons (.sl tT14) (.cons tT14 (.cons (.fn 242) .unit))),res:=(.tup (.cons (.int .i64) (.cons .bool .unit))),fn:=fun v=>zac v.1 v.2.1 v.2.2.1 }
def avo:TEnv:=(vZ [(242,abU)])
theorem avn:runY Tryz.prog amv avp avo ayM Tryz.f284 acx.ps acx.res=acx.fn:=by kernel_rfl
theorem amt:aA Tryz.prog G0 284 amu:=ai (ak ⟨au,(aj akK ac),ap,ac,an⟩ Tryz.func284 rfl (by kernel_rfl))
theorem avm:TOk amu acx:=az (E:=amv) (ET:=avo) (EnvT.ofX (ax (ah asM al)) am ar aJ aq) avn rfl
def ah2:Env:=(eZ [(284,amu)] [274])
def aoB:Hints:=(hZ [] [])
def ah1:PFn:=aF (runF Tryz.prog ah2 aoB Tryz.f217)
def aw3:TH:={ loops:=[],ro:=[3] }
def zdr (a0:List vV2) (a1:(Int×Int×Unit)):Option (Int×Bool×Unit) :=
(zac a0 (a1,0,()) ()).bind fun r1 =>
 some (r1.1,r1.2.1,())
def aaJ:TFn:={ ps:=(.cons (.sl tT14) tT23),res:=(.tup (.cons (.int .i64) (.cons .bool .unit))),fn:=fun v=>zdr v.1 v.2.1 }
def aoA:TEnv:=(vZ [(284,acx)])
theorem aoz:runY Tryz.prog ah2 aoB aoA aw3 Tryz.f217 aaJ.ps aaJ.res=aaJ.fn:=by kernel_rfl
theorem ah0:aA Tryz.prog G0 217 ah1:=ai (ak ⟨au,(aj amt ac),ap,ac,an⟩ Tryz.func217 rfl (by kernel_rfl))
theorem aoy:TOk ah1 aaJ:=az (E:=ah2) (ET:=aoA) (EnvT.ofX (ax (ah avm al)) am ar aJ aq) aoz rfl
def aif:Env:=(eZ [(217,ah1)] [274])
def aoU:Hints:=(hZ [] [])
def aie:PFn:=aF (runF Tryz.prog aif aoU Tryz.f145)
def aw8:TH:={ loops:=[],ro:=[3] }
def zdm (a0:List vV2) (a1:(Int×Int×Unit)):Option Int :=
(zdr a0 a1).bind fun r1 =>
 cond r1.2.1 (
(atI a0 r1.1).bind fun x2 =>
 some x2.2.1) (
 some 0)
def aaP:TFn:={ ps:=(.cons (.sl tT14) tT23),res:=(.int .i64),fn:=fun v=>zdm v.1 v.2.1 }
def aoT:TEnv:=(vZ [(217,aaJ)])
theorem aoS:runY Tryz.prog aif aoU aoT aw8 Tryz.f145 aaP.ps aaP.res=aaP.fn:=by kernel_rfl
theorem aid:aA Tryz.prog G0 145 aie:=ai (ak ⟨au,(aj ah0 ac),ap,ac,an⟩ Tryz.func145 rfl (by kernel_rfl))
theorem aoR:TOk aie aaP:=az (E:=aif) (ET:=aoT) (EnvT.ofX (ax (ah aoy al)) am ar aJ aq) aoS rfl
def aiU:Env:=(eZ [(145,aie)] [274])
def ap1:Hints:=(hZ [] [])
def ae4:PFn:=aF (runF Tryz.prog aiU ap1 Tryz.f75)
def axr:TH:={ loops:=[],ro:=[3] }
def zct (a0:List vV2) (a1:(Int×Int×Unit)):Option Bool :=
(zdm a0 a1).bind fun r1 =>
(remT r1 2).bind fun t2 =>
 some (decide (t2=0))
def yD:TFn:={ ps:=(.cons (.sl tT14) tT23),res:=.bool,fn:=fun v=>zct v.1 v.2.1 }
def ap0:TEnv:=(vZ [(145,aaP)])
theorem apZ:runY Tryz.prog aiU ap1 ap0 axr Tryz.f75 yD.ps yD.res=yD.fn:=by kernel_rfl
theorem aa8:aA Tryz.prog G0 75 ae4:=ai (ak ⟨au,(aj aid ac),ap,ac,an⟩ Tryz.func75 rfl (by kernel_rfl))
theorem ag4:TOk ae4 yD:=az (E:=aiU) (ET:=ap0) (EnvT.ofX (ax (ah aoR al)) am ar aJ aq) apZ rfl
def akk:Env:=(eZ [(75,ae4)] [274])
def ar9:Hints:=(hZ [(3,[1,5,13,14,15]),(7,[1,5,13,14,15,25,26,27]),(10,[1,5,13,14,15,25,26,27,32,33,34])] [])
def akj:SFn:=runF Tryz.prog akk ar9 Tryz.f74
def ax0:TH:={ loops:=[(3,{ keep:=[(5,(.mp 0)),(15,(.int .i64))],mem:=[.map tT14 .bool] }),(7,{ keep:=[(5,(.mp 0)),(27,(.int .i64))],mem:=[.map tT14 .bool,.gone] }),(10,{ keep:=[(5,(.mp 0)),(34,(.int .i64))],mem:=[.map tT14 .bool,.gone,.gone] })],ro:=[] }
def pr (y7:vV11) (x3:vV1) (y10:vV11):Option (vV11⊕(vV11⊕(vV11⊕(List (vV2×Bool))))) :=
 cond (decide (y10.1<(x3.2.2.2.2.1.length:Int))) (
(atI x3.2.2.2.2.1 y10.1).bind fun x4 =>
 some (.inl ((IntKind.wrap .i64 (y10.1+1)),(putK tT14 x4 true y10.2.1),()))) (
 some (.inr (.inl ((IntKind.wrap .i64 (y7.1+1)),y10.2.1,()))))
def wJ (y3:vV11) (x1:vV5) (y7:vV11):Option (vV11⊕(vV11⊕(List (vV2×Bool)))) :=
 cond (decide (y7.1<(x1.2.2.2.2.1.length:Int))) (
(atI x1.2.2.2.2.1 y7.1).bind fun x3 =>
 aH (pr y7 x3) (0,y7.2.1,())) (
 some (.inr (.inl ((IntKind.wrap .i64 (y3.1+1)),y7.2.1,()))))
def wK (a0:List vV5) (a1:List vV2) (y3:vV11):Option (vV11⊕(List (vV2×Bool))) :=
 cond (decide (y3.1<(a0.length:Int))) (
(atI a0 y3.1).bind fun x1 =>
(zct a1 x1.1).bind fun r2 =>
 cond (!r2) (
 some (.inl ((IntKind.wrap .i64 (y3.1+1)),y3.2.1,()))) (
 aH (wJ y3 x1) (0,y3.2.1,()))) (
 some (.inr y3.2.1))
def zbu (a0:List vV5) (a1:List vV2):Option (List (vV2×Bool)) :=
 aH (wK a0 a1) (0,[],())
def afe:TNew:={ ps:=(.cons (.sl tT17) (.cons (.sl tT14) .unit)),e:=143,t:=(.sl (.cons tT14 .bool)),fn:=fun v=>zbu v.1 v.2.1,mp:=true }
def ar8:TEnv:={ pure:=[(75,yD)],look:=[],glob:=G0T,ty:=[(4,.bool),(146,tT14)],raw:=[],fresh:=[] }
theorem ar7:awr Tryz.prog akk ar9 ar8 ax0 Tryz.f74 afe.ps tT14 .bool=afe.fn:=by kernel_rfl
theorem aki:cB Tryz.prog G0 74 akj:=ak ⟨au,(aj aa8 ac),ap,ac,an⟩ Tryz.func74 rfl (by kernel_rfl)
theorem ar6:TNewOk akj afe:=agl (E:=akk) (ET:=ar8) (EnvT.ofX (ax (ah ag4 al)) am ar aJ aq) ar7
def ahW:Env:={ pure:=[(75,ae4)],raw:=[(74,akj)],glob:=G0,same:=[274],look:=[],ext:=[] }
def aot:Hints:=(hZ [(4,[1,5,6,15,16,17]),(8,[1,5,6,8,15,16,17,27,28,29])] [])
def aaH:PFn:=aF (runF Tryz.prog ahW aot Tryz.f19)
def aw1:TH:={ loops:=[(4,{ keep:=[(5,(.mp 0)),(6,(.own 4)),(17,(.int .i64))],mem:=[.map tT14 .bool,.gone,.gone,.gone,.row true 148 tT19] }),(8,{ keep:=[(5,(.mp 0)),(6,(.own 4)),(8,(.bx 5 0)),(29,(.int .i64))],mem:=[.map tT14 .bool,.gone,.gone,.gone,.row true 148 tT19,.box 78 tT17] })],ro:=[] }
def wj (y4:(Int×List (vV2×Bool)×List vV6×Unit)) (x2:vV5) (y8:(Int×List (vV2×Bool)×List vV6×vV5×Unit)):Option ((Int×List (vV2×Bool)×List vV6×vV5×Unit)⊕((Int×List (vV2×Bool)×List vV6×Unit)⊕List vV6)) :=
 cond (decide (y8.1<(x2.2.2.2.2.1.length:Int))) (
(atI x2.2.2.2.2.1 y8.1).bind fun x4 =>
 cond (decide (x4.1=1)) (cond (!((getK tT14 false (y8.2.2.2.1.1,y8.1,()) y8.2.1).1)) (
(ch (y8.2.2.1.length+([((y8.2.2.2.1.1,y8.1,()),x4,y8.2.2.2.1.2.2.1,())]:List vV6).length)).bind fun u5 =>
 some (.inl ((IntKind.wrap .i64 (y8.1+1)),y8.2.1,(y8.2.2.1++([((y8.2.2.2.1.1,y8.1,()),x4,y8.2.2.2.1.2.2.1,())]:List vV6)),y8.2.2.2.1,()))) (
 some (.inl ((IntKind.wrap .i64 (y8.1+1)),y8.2.1,y8.2.2.1,y8.2.2.2.1,())))) (cond (decide (x4.1=2)) (cond (!((getK tT14 false (y8.2.2.2.1.1,y8.1,()) y8.2.1).1)) (
(ch (y8.2.2.1.length+([((y8.2.2.2.1.1,y8.1,()),x4,y8.2.2.2.1.2.2.1,())]:List vV6).length)).bind fun u6 =>
 some (.inl ((IntKind.wrap .i64 (y8.1+1)),y8.2.1,(y8.2.2.1++([((y8.2.2.2.1.1,y8.1,()),x4,y8.2.2.2.1.2.2.1,())]:List vV6)),y8.2.2.2.1,()))) (
 some (.inl ((IntKind.wrap .i64 (y8.1+1)),y8.2.1,y8.2.2.1,y8.2.2.2.1,())))) (cond (decide (x4.1=3)) (cond (!((getK tT14 false (y8.2.2.2.1.1,y8.1,()) y8.2.1).1)) (
(ch (y8.2.2.1.length+([((y8.2.2.2.1.1,y8.1,()),x4,y8.2.2.2.1.2.2.1,())]:List vV6).length)).bind fun u7 =>
 some (.inl ((IntKind.wrap .i64 (y8.1+1)),y8.2.1,(y8.2.2.1++([((y8.2.2.2.1.1,y8.1,()),x4,y8.2.2.2.1.2.2.1,())]:List vV6)),y8.2.2.2.1,()))) (
 some (.inl ((IntKind.wrap .i64 (y8.1+1)),y8.2.1,y8.2.2.1,y8.2.2.2.1,())))) (some (.inl ((IntKind.wrap .i64 (y8.1+1)),y8.2.1,y8.2.2.1,y8.2.2.2.1,())))))) (
 some (.inr (.inl ((IntKind.wrap .i64 (y4.1+1)),y8.2.1,y8.2.2.1,()))))
def wk (a0:List vV5) (a1:List vV2) (y4:(Int×List (vV2×Bool)×List vV6×Unit)):Option ((Int×List (vV2×Bool)×List vV6×Unit)⊕List vV6) :=
 cond (decide (y4.1<(a0.length:Int))) (
(atI a0 y4.1).bind fun x2 =>
(zct a1 x2.1).bind fun r3 =>
 cond (!r3) (
 some (.inl ((IntKind.wrap .i64 (y4.1+1)),y4.2.1,y4.2.2.1,()))) (
 aH (wj y4 x2) (0,y4.2.1,y4.2.2.1,x2,()))) (
 some (.inr y4.2.2.1))
def zdt (a0:List vV5) (a1:List vV2):Option (List vV6) :=
(zbu a0 a1).bind fun n1 =>
 aH (wk a0 a1) (0,n1,[],())
def tX:TFn:={ ps:=(.cons (.sl tT17) (.cons (.sl tT14) .unit)),res:=(.sl tT19),fn:=fun v=>zdt v.1 v.2.1 }
def aos:TEnv:={ pure:=[(75,yD)],look:=[],glob:=G0T,ty:=[(148,tT19)],raw:=[],fresh:=[(74,afe)] }
theorem aor:runY Tryz.prog ahW aot aos aw1 Tryz.f19 tX.ps tX.res=tX.fn:=by kernel_rfl
theorem tY:aA Tryz.prog G0 19 aaH:=ai (ak ⟨au,(aj aa8 ac),(bN aki ap),ac,an⟩ Tryz.func19 rfl (by kernel_rfl))
theorem aaG:TOk aaH tX:=az (E:=ahW) (ET:=aos) (EnvT.ofX (ax (ah ag4 al)) am (mh ar rfl) aJ (mD ar6 rfl rfl rfl aq)) aor rfl
def ahQ:Env:=(eZ [] [274])
def aof:Hints:=(hZ [] [])
def aeZ:PFn:=aF (runF Tryz.prog ahQ aof Tryz.f124)
def awX:TH:={ joins:=[(6,{ keep:=[(6,.bool)],mem:=[] })],loops:=[],ro:=[] }
def zdx (a0:Int):Option Int :=
 cond (decide (a0=1)) (
 some 1) (
(cond (decide (a0=2)) (
 some (.inl ((decide (a0=2)),()))) (
 some (.inl ((decide (a0=4)),()))):Option ((Bool×Unit)⊕Int)).bind (aU fun v1 =>
 cond v1.1 (
 some 2) (
 cond (decide (a0=3)) (
 some 3) (
 some 0))))
def yy:TFn:={ ps:=tT16,res:=(.int .i64),fn:=fun v=>zdx v.1 }
def aoe:TEnv:=(vZ [])
theorem aod:runY Tryz.prog ahQ aof aoe awX Tryz.f124 yy.ps yy.res=yy.fn:=by kernel_rfl
theorem aaA:aA Tryz.prog G0 124 aeZ:=ai (ak ⟨au,ac,ap,ac,an⟩ Tryz.func124 rfl (by kernel_rfl))
theorem agZ:TOk aeZ yy:=az (E:=ahQ) (ET:=aoe) (EnvT.ofX (ax al) am ar aJ aq) aod rfl
def alu:Env:=(eZ [] [274])
def at7:Hints:=(hZ [] [])
def afq:PFn:=aF (runF Tryz.prog alu at7 Tryz.f330)
def ayv:TH:=yZ
def zaz (a0:List UInt8):Option Bool :=
 some (!decide (a0=a0))
def ach:TFn:={ ps:=(.cons .str .unit),res:=.bool,fn:=fun v=>zaz v.1 }
def at6:TEnv:=(vZ [])
theorem at5:runY Tryz.prog alu at7 at6 ayv Tryz.f330 ach.ps ach.res=ach.fn:=by kernel_rfl
theorem alt:aA Tryz.prog G0 330 afq:=ai (ak ⟨au,ac,ap,ac,an⟩ Tryz.func330 rfl (by kernel_rfl))
theorem at4:TOk afq ach:=az (E:=alu) (ET:=at6) (EnvT.ofX (ax al) am ar aJ aq) at5 rfl
def alB:Env:=(eZ [(330,afq)] [274])
def aum:Hints:=(hZ [] [])
def afs:PFn:=aF (runF Tryz.prog alB aum Tryz.f287)
def ayz:TH:=yZ
def zav (a0:List UInt8) (a1:List UInt8):Option Int :=
(zaz a0).bind fun r1 =>
(zaz a1).bind fun r2 =>
 cond r1 (
 cond r2 (
 some 0) (
 some (-1))) (
 cond r2 (
 some 1) (
 cond (Op.bytesLess a0 a1) (
 some (-1)) (
 cond (!(Op.bytesLess a0 a1||decide (a0=a1))) (
 some 1) (
 some 0))))
def acl:TFn:={ ps:=(.cons .str (.cons .str .unit)),res:=(.int .i64),fn:=fun v=>zav v.1 v.2.1 }
def aul:TEnv:=(vZ [(330,ach)])
theorem auk:runY Tryz.prog alB aum aul ayz Tryz.f287 acl.ps acl.res=acl.fn:=by kernel_rfl
theorem alA:aA Tryz.prog G0 287 afs:=ai (ak ⟨au,(aj alt ac),ap,ac,an⟩ Tryz.func287 rfl (by kernel_rfl))
theorem auj:TOk afs acl:=az (E:=alB) (ET:=aul) (EnvT.ofX (ax (ah at4 al)) am ar aJ aq) auk rfl
def alW:Env:=(eZ [(287,afs)] [274])
def auP:Hints:=(hZ [(2,[0,1,9,10,11])] [])
def afv:PFn:=aF (runF Tryz.prog alW auP Tryz.f225)
def ayG:TH:={ joins:=[(11,{ keep:=[],mem:=[] })],loops:=[(2,{ keep:=[(11,(.int .i64))],mem:=[] })],ro:=[] }
def iR (a0:List (List UInt8)) (a1:List (List UInt8)) (y2:(Int×Unit)):Option ((Int×Unit)⊕(Unit⊕Int)) :=
 cond (decide (y2.1<(a0.length:Int))) (
(atI a0 y2.1).bind fun x1 =>
 cond (decide (y2.1≥(a1.length:Int))) (
 some (.inr (.inr 1))) (
(atI a1 y2.1).bind fun x2 =>
(zav x1 x2).bind fun r3 =>
 cond (!decide (r3=0)) (
 some (.inr (.inr r3))) (
 some (.inl ((IntKind.wrap .i64 (y2.1+1)),()))))) (
 some (.inr (.inl ())))
def zan (a0:List (List UInt8)) (a1:List (List UInt8)):Option Int :=
(aH (iR a0 a1) (0,()):Option (Unit⊕Int)).bind (aU fun v4 =>
 cond (decide ((a0.length:Int)<(a1.length:Int))) (
 some (-1)) (
 some 0))
def act:TFn:={ ps:=(.cons (.sl .str) tT22),res:=(.int .i64),fn:=fun v=>zan v.1 v.2.1 }
def auO:TEnv:=(vZ [(287,acl)])
theorem auN:runY Tryz.prog alW auP auO ayG Tryz.f225 act.ps act.res=act.fn:=by kernel_rfl
theorem alV:aA Tryz.prog G0 225 afv:=ai (ak ⟨au,(aj alA ac),ap,ac,an⟩ Tryz.func225 rfl (by kernel_rfl))
theorem auM:TOk afv act:=az (E:=alW) (ET:=auO) (EnvT.ofX (ax (ah auj al)) am ar aJ aq) auN rfl
def akD:Env:=(eZ [(225,afv)] [274])
def asD:Hints:=(hZ [] [])
def abR:PFn:=aF (runF Tryz.prog akD asD Tryz.f155)
def ax8:TH:=yZ
def zbm (a0:List (List UInt8)) (a1:List (List UInt8)):Option Int :=
(zan a0 a1).bind fun r1 =>
 some r1
def yO:TFn:={ ps:=(.cons (.sl .str) tT22),res:=(.int .i64),fn:=fun v=>zbm v.1 v.2.1 }
def asC:TEnv:=(vZ [(225,act)])
theorem asB:runY Tryz.prog akD asD asC ax8 Tryz.f155 yO.ps yO.res=yO.fn:=by kernel_rfl
theorem abQ:aA Tryz.prog G0 155 abR:=ai (ak ⟨au,(aj alV ac),ap,ac,an⟩ Tryz.func155 rfl (by kernel_rfl))
theorem ahg:TOk abR yO:=az (E:=akD) (ET:=asC) (EnvT.ofX (ax (ah auM al)) am ar aJ aq) asB rfl
def akz:Env:=(eZ [(154,ug),(155,abR),(156,uu)] [274])
def asw:Hints:=(hZ [] [])
def abO:PFn:=aF (runF Tryz.prog akz asw Tryz.f126)
def ax6:TH:={ loops:=[],ro:=[2,3] }
def zbo (a0:vV4) (a1:vV4):Option Int :=
(zbm a0.1 a1.1).bind fun r1 =>
(za5 a0.2.1 a1.2.1).bind fun r2 =>
(zcu ([r1,r2]:List Int)).bind fun r3 =>
 some r3
def abN:TFn:={ ps:=(.cons tT20 (.cons tT20 .unit)),res:=(.int .i64),fn:=fun v=>zbo v.1 v.2.1 }
def asv:TEnv:={ pure:=[(154,rk),(155,yO),(156,rB)],look:=[],glob:=G0T,ty:=[(3,(.int .i64))],raw:=[],fresh:=[] }
theorem asu:runY Tryz.prog akz asw asv ax6 Tryz.f126 abN.ps abN.res=abN.fn:=by kernel_rfl
theorem aky:aA Tryz.prog G0 126 abO:=ai (ak ⟨au,(aj pp (aj abQ (aj py ac))),ap,ac,an⟩ Tryz.func126 rfl (by kernel_rfl))
theorem ahf:TOk abO abN:=az (E:=akz) (ET:=asv) (EnvT.ofX (ax (ah wx (ah ahg (ah wZ al)))) am ar aJ aq) asu rfl
theorem afk : @aA ⟨True⟩ Tryz.prog G0 226 afl:=by
 letI:Drawn:=⟨True⟩
 exact ai (ak ⟨au,ac,ap,ac,an⟩ Tryz.func226 rfl (by kernel_rfl))
theorem w7 : @aA ⟨True⟩ Tryz.prog G0 156 uu:=by
 letI:Drawn:=⟨True⟩
 exact ai (ak ⟨au,(aj afk ac),ap,ac,an⟩ Tryz.func156 rfl (by kernel_rfl))
theorem wy : @aA ⟨True⟩ Tryz.prog G0 154 ug:=by
 letI:Drawn:=⟨True⟩
 exact ai (ak ⟨au,ac,ap,ac,an⟩ Tryz.func154 rfl (by kernel_rfl))
theorem afp : @aA ⟨True⟩ Tryz.prog G0 330 afq:=by
 letI:Drawn:=⟨True⟩
 exact ai (ak ⟨au,ac,ap,ac,an⟩ Tryz.func330 rfl (by kernel_rfl))
theorem afr : @aA ⟨True⟩ Tryz.prog G0 287 afs:=by
 letI:Drawn:=⟨True⟩
 exact ai (ak ⟨au,(aj afp ac),ap,ac,an⟩ Tryz.func287 rfl (by kernel_rfl))
theorem afu : @aA ⟨True⟩ Tryz.prog G0 225 afv:=by
 letI:Drawn:=⟨True⟩
 exact ai (ak ⟨au,(aj afr ac),ap,ac,an⟩ Tryz.func225 rfl (by kernel_rfl))
theorem afh : @aA ⟨True⟩ Tryz.prog G0 155 abR:=by
 letI:Drawn:=⟨True⟩
 exact ai (ak ⟨au,(aj afu ac),ap,ac,an⟩ Tryz.func155 rfl (by kernel_rfl))
theorem afg : @aA ⟨True⟩ Tryz.prog G0 126 abO:=by
 letI:Drawn:=⟨True⟩
 exact ai (ak ⟨au,(aj wy (aj afh (aj w7 ac))),ap,ac,an⟩ Tryz.func126 rfl (by kernel_rfl))
def amj:Go.Shelf.Ren:=⟨fun | 6=>125 | 14=>200 | 15=>201 | 20=>260 | 21=>261 | 22=>262 | 23=>263 | 24=>264 | 25=>265 | 26=>266 | 27=>267 | 28=>268 | 29=>269 | 46=>315 | 47=>316 | 48=>317 | 49=>318 | 50=>319 | 57=>351 | n=>n,fun | 0=>0 | 3=>3 | 4=>4 | 5=>5 | 9=>9 | 22=>104 | 24=>109 | 25=>199 | 39=>230 | 45=>314 | 46=>315 | 50=>161 | 53=>321 | 55=>323 | 66=>354 | 70=>358 | 76=>378 | 77=>283 | n=>n,fun | n=>n⟩
theorem afz:Go.Proofs.SlLaysF0.n6 Tryz.prog amj:={
 mixed:=by kernel_rfl
 f6:=⟨Tryz.f125.name,by decide,Tryz.func125.trans (congrArg some (by kernel_rfl))⟩
 f14:=⟨Tryz.f200.name,by decide,Tryz.func200.trans (congrArg some (by kernel_rfl))⟩
 f15:=Tryz.func201.trans (congrArg some (by kernel_rfl))
 f20:=⟨Tryz.f260.name,by decide,Tryz.func260.trans (congrArg some (by kernel_rfl))⟩
 f21:=⟨Tryz.f261.name,by decide,Tryz.func261.trans (congrArg some (by kernel_rfl))⟩
 f22:=⟨Tryz.f262.name,by decide,Tryz.func262.trans (congrArg some (by kernel_rfl))⟩
 f23:=⟨Tryz.f263.name,by decide,Tryz.func263.trans (congrArg some (by kernel_rfl))⟩
 f24:=⟨Tryz.f264.name,by decide,Tryz.func264.trans (congrArg some (by kernel_rfl))⟩
 f25:=⟨Tryz.f265.name,by decide,Tryz.func265.trans (congrArg some (by kernel_rfl))⟩
 f26:=⟨Tryz.f266.name,by decide,Tryz.func266.trans (congrArg some (by kernel_rfl))⟩
 f27:=⟨Tryz.f267.name,by decide,Tryz.func267.trans (congrArg some (by kernel_rfl))⟩
 f28:=Tryz.func268.trans (congrArg some (by kernel_rfl))
 f29:=Tryz.func269.trans (congrArg some (by kernel_rfl))
 f46:=⟨Tryz.f315.name,by decide,Tryz.func315.trans (congrArg some (by kernel_rfl))⟩
 f47:=Tryz.func316.trans (congrArg some (by kernel_rfl))
 f48:=Tryz.func317.trans (congrArg some (by kernel_rfl))
 f49:=⟨Tryz.f318.name,by decide,Tryz.func318.trans (congrArg some (by kernel_rfl))⟩
 f50:=⟨Tryz.f319.name,by decide,Tryz.func319.trans (congrArg some (by kernel_rfl))⟩
 f57:=⟨Tryz.f351.name,by decide,Tryz.func351.trans (congrArg some (by kernel_rfl))⟩
 t0:=Tryz.underlying0
 a0:=Tryz.isAgg0
 z0:=Tryz.sizeOf0
 v0:=Tryz.zeroValue0
 t3:=Tryz.underlying3
 a3:=Tryz.isAgg3
 z3:=Tryz.sizeOf3
 v3:=Tryz.zeroValue3
 t4:=Tryz.underlying4
 a4:=Tryz.isAgg4
 z4:=Tryz.sizeOf4
 v4:=Tryz.zeroValue4
 t5:=Tryz.underlying5
 a5:=Tryz.isAgg5
 z5:=Tryz.sizeOf5
 v5:=Tryz.zeroValue5
 t9:=Tryz.underlying9
 a9:=Tryz.isAgg9
 z9:=Tryz.sizeOf9
 v9:=Tryz.zeroValue9
 t22:=Tryz.underlying104
 a22:=Tryz.isAgg104
 z22:=Tryz.sizeOf104
 v22:=Tryz.zeroValue104
 t25:=Tryz.underlying199
 a25:=Tryz.isAgg199
 z25:=Tryz.sizeOf199
 v25:=Tryz.zeroValue199
 t39:=Tryz.underlying230
 a39:=Tryz.isAgg230
 z39:=Tryz.sizeOf230
 v39:=Tryz.zeroValue230
 t45:=Tryz.underlying314
 a45:=Tryz.isAgg314
 z45:=Tryz.sizeOf314
 v45:=Tryz.zeroValue314
 t46:=Tryz.underlying315
 a46:=Tryz.isAgg315
 z46:=Tryz.sizeOf315
 v46:=Tryz.zeroValue315
 t50:=Tryz.underlying161
 a50:=Tryz.isAgg161
 z50:=Tryz.sizeOf161
 v50:=Tryz.zeroValue161
 t53:=Tryz.underlying321
 a53:=Tryz.isAgg321
 z53:=Tryz.sizeOf321
 v53:=Tryz.zeroValue321
 t55:=Tryz.underlying323
 a55:=Tryz.isAgg323
 z55:=Tryz.sizeOf323
 v55:=Tryz.zeroValue323
 t66:=Tryz.underlying354
 a66:=Tryz.isAgg354
 z66:=Tryz.sizeOf354
 v66:=Tryz.zeroValue354
 t70:=Tryz.underlying358
 a70:=Tryz.isAgg358
 z70:=Tryz.sizeOf358
 v70:=Tryz.zeroValue358
 t76:=Tryz.underlying378
 a76:=Tryz.isAgg378
 z76:=Tryz.sizeOf378
 v76:=Tryz.zeroValue378
 t77:=Tryz.underlying283
 a77:=Tryz.isAgg283
 z77:=Tryz.sizeOf283
 v77:=Tryz.zeroValue283 }
def aml:SFn:=pH abO 126 2 109
theorem amk:cB Tryz.prog G0 125 aml:=lN (M:=2) (g:=126) afz (by decide) (fun w=>Tryz.isAgg109 w) (fun w=>Tryz.sizeOf109 w) afg ⟨Tryz.f125,Tryz.func125,rfl,by kernel_rfl⟩
def zaf (w0:List vV4):Option (Unit×List vV4×Unit):=(nF (fun x y=>zbo x y) w0).map fun l=>((),(l,()))
def ave:TRaw:=acP false 126 109 tT20 (fun x y=>zbo x y)
theorem avd:TRawOk aml ave:=xc rfl rfl rfl rfl ahf
def akT:Env:=(eZ [(126,abO)] [274])
def as0:Hints:=(hZ [] [])
def akS:PFn:=aF (runF Tryz.prog akT as0 Tryz.f128)
def aye:TH:={ loops:=[],ro:=[2,3] }
def zbg (a0:vV4) (a1:vV4):Option Bool :=
(zbo a0 a1).bind fun r1 =>
 some (decide (r1=0))
def abY:TFn:={ ps:=(.cons tT20 (.cons tT20 .unit)),res:=.bool,fn:=fun v=>zbg v.1 v.2.1 }
def asZ:TEnv:=(vZ [(126,abN)])
theorem asY:runY Tryz.prog akT as0 asZ aye Tryz.f128 abY.ps abY.res=abY.fn:=by kernel_rfl
theorem akR:aA Tryz.prog G0 128 akS:=ai (ak ⟨au,(aj aky ac),ap,ac,an⟩ Tryz.func128 rfl (by kernel_rfl))
theorem asX:TOk akS abY:=az (E:=akT) (ET:=asZ) (EnvT.ofX (ax (ah ahf al)) am ar aJ aq) asY rfl
def ams:Env:=(eZ [(128,akS)] [274])
def avl:Hints:=(hZ [(4,[0,1,5]),(9,[0,1,5,6,7])] [])
def amr:SFn:=qB (runF Tryz.prog ams avl Tryz.f127)
def ayL:TH:={ joins:=[(14,{ keep:=[(0,(.own 0)),(5,(.int .i64))],mem:=[.row false 109 tT20] })],loops:=[(4,{ keep:=[(0,(.own 0)),(5,(.int .i64))],mem:=[.row false 109 tT20] }),(9,{ keep:=[(0,(.own 0)),(5,(.int .i64)),(6,(.vw 0)),(7,(.int .i64))],mem:=[.row false 109 tT20] })],ro:=[] }
def ob (y9:(Int×(Nat×Nat)×Int×List vV4×Unit)):Option ((Int×(Nat×Nat)×Int×List vV4×Unit)⊕(vV10⊕(vV10⊕(List vV4)))) :=
 cond (decide (y9.2.2.1<(y9.2.1.2:Int))) (
 cond y9.2.2.2.1.isEmpty (none) ((inI y9.2.1.2 y9.2.2.1).bind fun i7 =>
(y9.2.2.2.1[(y9.2.1.1+i7)]?).bind fun x8 =>
 cond y9.2.2.2.1.isEmpty (none) ((inI y9.2.1.2 (IntKind.wrap .i64 (y9.2.2.1-1))).bind fun i9 =>
(y9.2.2.2.1[(y9.2.1.1+i9)]?).bind fun x10 =>
(zbg x8 x10).bind fun r11 =>
 cond (!r11) (
 cond y9.2.2.2.1.isEmpty (none) ((inI y9.2.1.2 y9.2.2.1).bind fun i12 =>
(y9.2.2.2.1[(y9.2.1.1+i12)]?).bind fun x13 =>
(inI y9.2.2.2.1.length y9.1).bind fun i14 =>
(y9.2.2.2.1[i14]?).bind fun x15 =>
 some (.inl ((IntKind.wrap .i64 (y9.1+1)),y9.2.1,(IntKind.wrap .i64 (y9.2.2.1+1)),(y9.2.2.2.1.set i14 x13),())))) (
 some (.inl (y9.1,y9.2.1,(IntKind.wrap .i64 (y9.2.2.1+1)),y9.2.2.2.1,())))))) (
 some (.inr (.inl (y9.1,y9.2.2.2.1,()))))
def lu (y4:vV10):Option (vV10⊕(List vV4)) :=
 cond (decide (y4.1<(y4.2.1.length:Int))) (
(inI y4.2.1.length y4.1).bind fun i1 =>
(y4.2.1[i1]?).bind fun x2 =>
(inI y4.2.1.length (IntKind.wrap .i64 (y4.1-1))).bind fun i3 =>
(y4.2.1[i3]?).bind fun x4 =>
(zbg x2 x4).bind fun r5 =>
 cond r5 (
 cond y4.2.1.isEmpty (none) ((lG (y4.2.1.length) y4.1 (y4.2.1.length:Int)).bind fun p6 =>
(aH (ob) (y4.1,p6,1,y4.2.1,()):Option (vV10⊕(vV10⊕(List vV4)))).bind (aU fun v16 =>
 cond v16.2.1.isEmpty (none) ((lG (v16.2.1.length) v16.1 (v16.2.1.length:Int)).bind fun p17 =>
 cond v16.2.1.isEmpty (none) ((if p17.1+p17.2≤v16.2.1.length then some () else none).bind fun u18 =>
 cond (v16.2.1.take p17.1++List.replicate p17.2 ([],0,())++v16.2.1.drop (p17.1+p17.2)).isEmpty (none) ((lG ((v16.2.1.take p17.1++List.replicate p17.2 ([],0,())++v16.2.1.drop (p17.1+p17.2)).length) 0 v16.1).bind fun p19 =>
(cond (v16.2.1.take p17.1++List.replicate p17.2 ([],0,())++v16.2.1.drop (p17.1+p17.2)).isEmpty none (if p19.1+p19.2≤(v16.2.1.take p17.1++List.replicate p17.2 ([],0,())++v16.2.1.drop (p17.1+p17.2)).length then some (((v16.2.1.take p17.1++List.replicate p17.2 ([],0,())++v16.2.1.drop (p17.1+p17.2)).drop p19.1).take p19.2) else none)).map .inr)))))) (
 some (.inl ((IntKind.wrap .i64 (y4.1+1)),y4.2.1,())))) (
 some (.inr y4.2.1))
def amp (w0:List vV4):Option (List vV4) :=
 cond (decide ((w0.length:Int)<2)) (
 some w0) (
 aH (lu) (1,w0,()))
def zad (w0:List vV4):Option (List vV4×Unit):=(amp w0).map fun l=>(l,())
def avk:TRaw:={ ps:=(.cons (.own 0) (.cons (.fn 128) .unit)),ins:=[.row false 109 tT20],res:=(.sl tT20),outs:=[.gone],fn:=fun v w=>zad w.1 }
def avj:TEnv:=(vZ [(128,abY)])
theorem avi:agC Tryz.prog ams avl avj ayL Tryz.f127 (.cons (.own 0) (.cons (.fn 128) .unit)) false 109 tT20=fun _ w=>amp w:=by kernel_rfl
theorem amq:cB Tryz.prog G0 127 amr:=mT (ak ⟨au,(aj akR ac),ap,ac,an⟩ Tryz.func127 rfl (by kernel_rfl))
theorem avh:TRawOk amr avk:=xN (E:=ams) (ET:=avj) (EnvT.ofX (ax (ah asX al)) am ar aJ aq) avi
def alq:Env:={ pure:=[(72,yU),(124,aeZ)],raw:=[(125,aml),(127,amr)],glob:=G0,same:=[274],look:=[],ext:=[] }
def atT:Hints:=(hZ [(3,[3,6,7,8])] [])
def alp:PFn:=aF (runF Tryz.prog alq atT Tryz.f55)
def ays:TH:={ joins:=[(7,{ keep:=[(3,(.own 1))],mem:=[.gone,.row true 109 tT20] })],loops:=[(3,{ keep:=[(3,(.own 1)),(8,(.int .i64))],mem:=[.gone,.row true 109 tT20] })],ro:=[] }
def wU (a0:List vV6) (y3:vV10):Option (vV10⊕((List vV4×Unit)⊕List vV4)) :=
 cond (decide (y3.1<(a0.length:Int))) (
(atI a0 y3.1).bind fun x1 =>
(zap x1.2.1.2.1).bind fun r2 =>
(zdx x1.2.1.1).bind fun r3 =>
(ch (y3.2.1.length+([(r2,r3,())]:List vV4).length)).bind fun u4 =>
 some (.inl ((IntKind.wrap .i64 (y3.1+1)),(y3.2.1++([(r2,r3,())]:List vV4)),()))) (
 some (.inr (.inl (y3.2.1,()))))
def zb2 (a0:List vV6):Option (List vV4) :=
(aH (wU a0) (0,[],()):Option ((List vV4×Unit)⊕List vV4)).bind (aU fun v5 =>
(zaf v5.1).bind fun q6 =>
(zad q6.2.1).bind fun q7 =>
 some q7.1)
def ace:TFn:={ ps:=(.cons (.sl tT19) .unit),res:=(.sl tT20),fn:=fun v=>zb2 v.1 }
def atS:TEnv:={ pure:=[(72,acr),(124,yy)],look:=[],glob:=G0T,ty:=[(109,tT20)],raw:=[(125,ave),(127,avk)],fresh:=[] }
theorem atR:runY Tryz.prog alq atT atS ays Tryz.f55 ace.ps ace.res=ace.fn:=by kernel_rfl
theorem alo:aA Tryz.prog G0 55 alp:=ai (ak ⟨au,(aj px (aj aaA ac)),(bN amk (bN amq ap)),ac,an⟩ Tryz.func55 rfl (by kernel_rfl))
theorem atQ:TOk alp ace:=az (E:=alq) (ET:=atS) (EnvT.ofX (ax (ah wW (ah agZ al))) am (ck avd rfl rfl (ck avh rfl rfl ar)) aJ aq) atR rfl
def aii:Env:=(eZ [] [274])
def aoY:Hints:=(hZ [(3,[0,1,5,6,7,8]),(14,[0,5])] [])
def aih:PFn:=aF (runF Tryz.prog aii aoY Tryz.f331)
def aw9:TH:={ joins:=[(14,{ keep:=[(5,(.int .i64))],mem:=[] }),(12,{ keep:=[(6,(.int .i64)),(7,(.int .i64))],mem:=[] }),(5,{ keep:=[(13,.bool)],mem:=[] }),(16,{ keep:=[(5,(.int .i64))],mem:=[] })],loops:=[(3,{ keep:=[(5,(.int .i64)),(6,(.int .i64)),(7,(.int .i64)),(8,(.int .i64))],mem:=[] }),(14,{ keep:=[(5,(.int .i64))],mem:=[] })],ro:=[] }
def d7 (a0:List (Int×Int×Unit)) (a1:List Int) (y3:(Int×Int×Int×Int×Unit)):Option ((Int×Int×Int×Int×Unit)⊕((Int×Unit)⊕Bool)) :=
 cond (decide (y3.2.2.2.1<(a1.length:Int))) (
((cond (decide (y3.1<(a0.length:Int))) ((atI a0 y3.1).bind fun x1 =>
 some (.inl ((decide (x1.1=2)),()))) (some (.inl (false,()))):Option ((Bool×Unit)⊕((Int×Int×Unit)⊕((Int×Int×Int×Int×Unit)⊕((Int×Unit)⊕Bool))))).bind (aU fun v2 =>
 cond v2.1 (
 some (.inr (.inl ((IntKind.wrap .i64 (y3.1+1)),y3.1,y3.2.2.2.1,y3.2.2.2.1,())))) (
 cond (decide (y3.1<(a0.length:Int))) ((atI a0 y3.1).bind fun x3 =>
 cond (decide (x3.1=1)) (some (.inr (.inl ((IntKind.wrap .i64 (y3.1+1)),y3.2.1,y3.2.2.1,(IntKind.wrap .i64 (y3.2.2.2.1+1)),())))) ((atI a0 y3.1).bind fun x4 =>
(atI a1 y3.2.2.2.1).bind fun x5 =>
 cond (decide (x4.2.1=x5)) (
 some (.inr (.inl ((IntKind.wrap .i64 (y3.1+1)),y3.2.1,y3.2.2.1,(IntKind.wrap .i64 (y3.2.2.2.1+1)),())))) (
 cond (decide (y3.2.1<0)) (
 some (.inr (.inr (.inr false)))) (
 some (.inl (y3.2.1,y3.2.2.1,())))))) (cond (decide (y3.2.1<0)) (
 some (.inr (.inr (.inr false)))) (
 some (.inl (y3.2.1,y3.2.2.1,())))))):Option ((Int×Int×Unit)⊕((Int×Int×Int×Int×Unit)⊕((Int×Unit)⊕Bool)))).bind (aU fun v6 =>
 some (.inl ((IntKind.wrap .i64 (v6.1+1)),v6.1,(IntKind.wrap .i64 (v6.2.1+1)),(IntKind.wrap .i64 (v6.2.1+1)),())))) (
 some (.inr (.inl (y3.1,()))))
def jI (a0:List (Int×Int×Unit)) (y14:(Int×Unit)):Option ((Int×Unit)⊕((Int×Unit)⊕Bool)) :=
 cond (decide (y14.1<(a0.length:Int))) ((atI a0 y14.1).bind fun x8 =>
 cond (decide (x8.1=2)) (
 some (.inl ((IntKind.wrap .i64 (y14.1+1)),()))) (
 some (.inr (.inl (y14.1,()))))) (some (.inr (.inl (y14.1,()))))
def zdl (a0:List (Int×Int×Unit)) (a1:List Int):Option Bool :=
(aH (d7 a0 a1) (0,(-1),0,0,()):Option ((Int×Unit)⊕Bool)).bind (aU fun v7 =>
(aH (jI a0) (v7.1,()):Option ((Int×Unit)⊕Bool)).bind (aU fun v9 =>
 some (decide (v9.1=(a0.length:Int)))))
def aaQ:TFn:={ ps:=(.cons (.sl (.agg (.cons (.int .i64) (.cons (.int .i32) .unit)))) (.cons (.sl (.int .i32)) .unit)),res:=.bool,fn:=fun v=>zdl v.1 v.2.1 }
def aoX:TEnv:=(vZ [])
theorem aoW:runY Tryz.prog aii aoY aoX aw9 Tryz.f331 aaQ.ps aaQ.res=aaQ.fn:=by kernel_rfl
theorem aig:aA Tryz.prog G0 331 aih:=ai (ak ⟨au,ac,ap,ac,an⟩ Tryz.func331 rfl (by kernel_rfl))
theorem aoV:TOk aih aaQ:=az (E:=aii) (ET:=aoX) (EnvT.ofX (ax al) am ar aJ aq) aoW rfl
def aj3:Env:={ pure:=[(215,afa),(281,afF)],raw:=[],glob:=G0,same:=[274],look:=[(331,aih)],ext:=[] }
def arJ:Hints:=(hZ [] [20])
def aj2:PFn:=aF (runF Tryz.prog aj3 arJ Tryz.f289)
def axT:TH:=yZ
def zc1 (a0:List UInt8) (a1:List UInt8):Option Bool :=
(zc9 a0).bind fun r1 =>
 cond r1.2.1 ((za1 a1).bind fun r2 =>
 cond r2 ((zdl r1.1 (rU a1)).bind fun r3 =>
 some r3) (some false)) (some false)
def abB:TFn:={ ps:=(.cons .str (.cons .str .unit)),res:=.bool,fn:=fun v=>zc1 v.1 v.2.1 }
def arI:TEnv:={ pure:=[(215,yJ),(281,yV)],look:=[(331,aaQ)],glob:=G0T,ty:=[],raw:=[],fresh:=[] }
theorem arH:runY Tryz.prog aj3 arJ arI axT Tryz.f289 abB.ps abB.res=abB.fn:=by kernel_rfl
theorem aj1:aA Tryz.prog G0 289 aj2:=ai (ak ⟨au,(aj abt (aj acD ac)),ap,(aj aig ac),an⟩ Tryz.func289 rfl (by kernel_rfl))
theorem arG:TOk aj2 abB:=az (E:=aj3) (ET:=arI) (EnvT.ofX (ax (ah aha (ah ahn al))) (oN aoV rfl am) ar aJ aq) arH rfl
def abq (F:PFn):Env:=(eZ [(289,aj2),(228,F)] [274])
def ajy:Hints:=(hZ [(1,[0,1]),(4,[0,1,15,16])] [])
def pV (F:PFn):PFn:=aF (runF Tryz.prog (abq F) ajy Tryz.f228)
def axI:TH:={ joins:=[(13,{ keep:=[(1,(.sl .str))],mem:=[] }),(10,{ keep:=[],mem:=[] })],loops:=[(1,{ keep:=[(0,(.sl .str)),(1,(.sl .str))],mem:=[] }),(4,{ keep:=[(16,(.int .i64))],mem:=[] })],ro:=[] }
def lm (y1:vV9) (rec:(List (List UInt8)×List (List UInt8)×Unit→Option Bool)) (y4:(Int×Unit)):Option ((Int×Unit)⊕(Unit⊕(vV9⊕((List (List UInt8)×Unit)⊕Bool)))) :=
 cond (decide (y4.1<(IntKind.wrap .i64 ((y1.2.1.length:Int)+1)))) (
(subI y1.1 1 (y1.1.length:Int)).bind fun s2 =>
(subI y1.2.1 y4.1 (y1.2.1.length:Int)).bind fun s3 =>
(rec (s2,s3,())).bind fun r4 =>
 cond r4 (
 some (.inr (.inr (.inr (.inr true))))) (
 some (.inl ((IntKind.wrap .i64 (y4.1+1)),())))) (
 some (.inr (.inr (.inr (.inr false)))))
def lp (rec:(List (List UInt8)×List (List UInt8)×Unit→Option Bool)) (y1:vV9):Option (vV9⊕((List (List UInt8)×Unit)⊕Bool)) :=
 cond (decide ((y1.1.length:Int)>0)) (
((atI y1.1 0).bind fun x1 =>
 cond (decide (x1=[42,42])) (
 aH (lm y1 rec) (0,())) (
 some (.inl ())):Option (Unit⊕(vV9⊕((List (List UInt8)×Unit)⊕Bool)))).bind (aU fun v5 =>
 cond (decide ((y1.2.1.length:Int)=0)) (some (.inr (.inr false))) ((atI y1.1 0).bind fun x6 =>
(atI y1.2.1 0).bind fun x7 =>
(zc1 x6 x7).bind fun r8 =>
 cond (!r8) (
 some (.inr (.inr false))) (
(subI y1.1 1 (y1.1.length:Int)).bind fun s9 =>
(subI y1.2.1 1 (y1.2.1.length:Int)).bind fun s10 =>
 some (.inl (s9,s10,())))))) (
 some (.inr (.inl (y1.2.1,()))))
def bT (rec:(vV9→Option Bool)) (a0:List (List UInt8)) (a1:List (List UInt8)):Option Bool :=
(aH (lp rec) (a0,a1,()):Option ((List (List UInt8)×Unit)⊕Bool)).bind (aU fun v11 =>
 some (decide ((v11.1.length:Int)=0)))
def gt:(vV9→Option Bool):=fixT fun rec v=>bT rec v.1 v.2.1
def zcc (a0:List (List UInt8)) (a1:List (List UInt8)):Option Bool:=gt (a0,a1,())
def abp:TFn:={ ps:=(.cons (.sl .str) tT22),res:=.bool,fn:=fixT fun (rec:(vV9→Option Bool)) v=>bT rec v.1 v.2.1 }
def ajA:PFn:=fixF pV abp
def ajx (rec:(vV9→Option Bool)):TEnv:=(vZ [(289,abB),(228,{ ps:=(.cons (.sl .str) tT22),res:=.bool,fn:=rec })])
theorem aq0 (F:PFn) (rec:(vV9→Option Bool)):runY Tryz.prog (abq F) ajy (ajx rec) axI Tryz.f228 abp.ps abp.res=fun v=>bT rec v.1 v.2.1:=by kernel_rfl
theorem ajz:aA Tryz.prog G0 228 ajA:=adb ⟨Tryz.f228,Tryz.func228,rfl,by kernel_rfl⟩ fun F hF=>ai (ak (P:=Tryz.prog) (E:=abq F) (h:=ajy) (f:=228) (fn:=Tryz.f228) ⟨au,(aj aj1 (aj hF ac)),ap,ac,an⟩ Tryz.func228 rfl (by kernel_rfl))
theorem aqZ:TOk ajA abp:=awh rfl fun F rec hF=>az (E:=abq F) (ET:=ajx rec) (EnvT.ofX (E:=abq F) (ET:=ajx rec) (ax (ah arG (ah hF al))) am ar aJ aq) (aq0 F rec) rfl
def ajG:Env:=(eZ [(71,ae9),(228,ajA)] [274])
def aq8:Hints:=(hZ [] [])
def ajF:PFn:=aF (runF Tryz.prog ajG aq8 Tryz.f162)
def axK:TH:=yZ
def zca (a0:List (List UInt8)) (a1:List (List UInt8)):Option Bool :=
(zce a0).bind fun r1 =>
 cond (decide (r1=0)) ((zcc a0 a1).bind fun r2 =>
 some r2) (some false)
def abs:TFn:={ ps:=(.cons (.sl .str) tT22),res:=.bool,fn:=fun v=>zca v.1 v.2.1 }
def aq7:TEnv:=(vZ [(71,yI),(228,abp)])
theorem aq6:runY Tryz.prog ajG aq8 aq7 axK Tryz.f162 abs.ps abs.res=abs.fn:=by kernel_rfl
theorem ajE:aA Tryz.prog G0 162 ajF:=ai (ak ⟨au,(aj abn (aj ajz ac)),ap,ac,an⟩ Tryz.func162 rfl (by kernel_rfl))
theorem aq5:TOk ajF abs:=az (E:=ajG) (ET:=aq7) (EnvT.ofX (ax (ah ag9 (ah aqZ al))) am ar aJ aq) aq6 rfl
def akn:Env:=(eZ [(55,alp),(162,ajF)] [274])
def asd:Hints:=(hZ [(3,[1,5,9,10,11])] [])
def akm:PFn:=aF (runF Tryz.prog akn asd Tryz.f93)
def ax1:TH:={ loops:=[(3,{ keep:=[(5,(.own 1)),(11,(.int .i64))],mem:=[.gone,.row true 109 tT20] })],ro:=[] }
def wL (a1:List (List UInt8)) (r1:List vV4) (y3:vV10):Option (vV10⊕List vV4) :=
 cond (decide (y3.1<(r1.length:Int))) (
(atI r1 y3.1).bind fun x2 =>
(zca a1 x2.1).bind fun r3 =>
 cond r3 (
(ch (y3.2.1.length+([x2]:List vV4).length)).bind fun u4 =>
 some (.inl ((IntKind.wrap .i64 (y3.1+1)),(y3.2.1++([x2]:List vV4)),()))) (
 some (.inl ((IntKind.wrap .i64 (y3.1+1)),y3.2.1,())))) (
 some (.inr y3.2.1))
def zbt (a0:List vV6) (a1:List (List UInt8)):Option (List vV4) :=
(zb2 a0).bind fun r1 =>
 aH (wL a1 r1) (0,[],())
def abI:TFn:={ ps:=(.cons (.sl tT19) tT22),res:=(.sl tT20),fn:=fun v=>zbt v.1 v.2.1 }
def asc:TEnv:={ pure:=[(55,ace),(162,abs)],look:=[],glob:=G0T,ty:=[(109,tT20)],raw:=[],fresh:=[] }
theorem asb:runY Tryz.prog akn asd asc ax1 Tryz.f93 abI.ps abI.res=abI.fn:=by kernel_rfl
theorem akl:aA Tryz.prog G0 93 akm:=ai (ak ⟨au,(aj alo (aj ajE ac)),ap,ac,an⟩ Tryz.func93 rfl (by kernel_rfl))
theorem asa:TOk akm abI:=az (E:=akn) (ET:=asc) (EnvT.ofX (ax (ah atQ (ah aq5 al))) am ar aJ aq) asb rfl
def alU:Env:=(eZ [] [274])
def auL:Hints:=(hZ [(4,[0,1,12,13])] [])
def alT:PFn:=aF (runF Tryz.prog alU auL Tryz.f196)
def ayF:TH:={ loops:=[(4,{ keep:=[(13,(.int .i64))],mem:=[] })],ro:=[] }
def wX (a0:List (List UInt8)) (a1:List (List UInt8)) (y4:(Int×Unit)):Option ((Int×Unit)⊕Bool) :=
 cond (decide (y4.1<(a0.length:Int))) (
(atI a0 y4.1).bind fun x1 =>
(atI a1 y4.1).bind fun x2 =>
 cond (!decide (x1=x2)) (
 some (.inr false)) (
 some (.inl ((IntKind.wrap .i64 (y4.1+1)),())))) (
 some (.inr true))
def zao (a0:List (List UInt8)) (a1:List (List UInt8)):Option Bool :=
 cond (!decide ((a0.length:Int)=(a1.length:Int))) (
 some false) (
 aH (wX a0 a1) (0,()))
def acs:TFn:={ ps:=(.cons (.sl .str) tT22),res:=.bool,fn:=fun v=>zao v.1 v.2.1 }
def auK:TEnv:=(vZ [])
theorem auJ:runY Tryz.prog alU auL auK ayF Tryz.f196 acs.ps acs.res=acs.fn:=by kernel_rfl
theorem alS:aA Tryz.prog G0 196 alT:=ai (ak ⟨au,ac,ap,ac,an⟩ Tryz.func196 rfl (by kernel_rfl))
theorem auI:TOk alT acs:=az (E:=alU) (ET:=auK) (EnvT.ofX (ax al) am ar aJ aq) auJ rfl
def aim:Env:=(eZ [(196,alT)] [274])
def ao5:Hints:=(hZ [] [])
def ae1:PFn:=aF (runF Tryz.prog aim ao5 Tryz.f160)
def axb:TH:=yZ
def zdj (a0:List (List UInt8)) (a1:List (List UInt8)):Option Bool :=
(zao a0 a1).bind fun r1 =>
 some r1
def yz:TFn:={ ps:=(.cons (.sl .str) tT22),res:=.bool,fn:=fun v=>zdj v.1 v.2.1 }
def ao4:TEnv:=(vZ [(196,acs)])
theorem ao3:runY Tryz.prog aim ao5 ao4 axb Tryz.f160 yz.ps yz.res=yz.fn:=by kernel_rfl
theorem aaS:aA Tryz.prog G0 160 ae1:=ai (ak ⟨au,(aj alS ac),ap,ac,an⟩ Tryz.func160 rfl (by kernel_rfl))
theorem ag1:TOk ae1 yz:=az (E:=aim) (ET:=ao4) (EnvT.ofX (ax (ah auI al)) am ar aJ aq) ao3 rfl
def ahU:Env:=(eZ [(124,aeZ),(160,ae1)] [274])
def aom:Hints:=(hZ [(3,[1,2,7,10,11,12])] [])
def aaD:PFn:=aF (runF Tryz.prog ahU aom Tryz.f229)
def awZ:TH:={ loops:=[(3,{ keep:=[(7,(.own 1)),(12,(.int .i64))],mem:=[.gone,.row true 148 tT19] })],ro:=[] }
def wh (a0:List vV6) (a1:List (List UInt8)) (a2:Int) (y3:(Int×List vV6×Unit)):Option ((Int×List vV6×Unit)⊕List vV6) :=
 cond (decide (y3.1<(a0.length:Int))) (
(atI a0 y3.1).bind fun x1 =>
(zdx x1.2.1.1).bind fun r2 =>
 cond (decide (r2=a2)) ((zdj x1.2.1.2.1 a1).bind fun r3 =>
 cond r3 (
(ch (y3.2.1.length+([x1]:List vV6).length)).bind fun u4 =>
 some (.inl ((IntKind.wrap .i64 (y3.1+1)),(y3.2.1++([x1]:List vV6)),()))) (
 some (.inl ((IntKind.wrap .i64 (y3.1+1)),y3.2.1,())))) (some (.inl ((IntKind.wrap .i64 (y3.1+1)),y3.2.1,())))) (
 some (.inr y3.2.1))
def zdv (a0:List vV6) (a1:List (List UInt8)) (a2:Int):Option (List vV6) :=
 aH (wh a0 a1 a2) (0,[],())
def tT:TFn:={ ps:=(.cons (.sl tT19) (.cons (.sl .str) tT16)),res:=(.sl tT19),fn:=fun v=>zdv v.1 v.2.1 v.2.2.1 }
def aol:TEnv:={ pure:=[(124,yy),(160,yz)],look:=[],glob:=G0T,ty:=[(148,tT19)],raw:=[],fresh:=[] }
theorem aok:runY Tryz.prog ahU aom aol awZ Tryz.f229 tT.ps tT.res=tT.fn:=by kernel_rfl
theorem tU:aA Tryz.prog G0 229 aaD:=ai (ak ⟨au,(aj aaA (aj aaS ac)),ap,ac,an⟩ Tryz.func229 rfl (by kernel_rfl))
theorem aaC:TOk aaD tT:=az (E:=ahU) (ET:=aol) (EnvT.ofX (ax (ah agZ (ah ag1 al))) am ar aJ aq) aok rfl
def afC:PFn:=cmpF
theorem amI:aA Tryz.prog G0 291 afC:=tm ⟨Tryz.f291,Tryz.func291,rfl,by kernel_rfl⟩ Tryz.strings_Compare
def za6 (a0:List UInt8) (a1:List UInt8):Option Int:=cmpT a0 a1
def avL:TFn:=aex
theorem avK:TOk afC avL:=anV
def ak5:Env:=(eZ [(154,ug),(156,uu),(291,afC)] [274])
def atk:Hints:=(hZ [] [])
def ab4:PFn:=aF (runF Tryz.prog ak5 atk Tryz.f231)
def ayj:TH:={ loops:=[],ro:=[2,3] }
def zbb (a0:vV3) (a1:vV3):Option Int :=
(za5 a0.1 a1.1).bind fun r1 =>
(za5 a0.2.1 a1.2.1).bind fun r2 =>
(za6 a0.2.2.1 a1.2.2.1).bind fun r3 =>
(zcu ([r1,r2,r3]:List Int)).bind fun r4 =>
 some r4
def ab3:TFn:={ ps:=(.cons tT15 (.cons tT15 .unit)),res:=(.int .i64),fn:=fun v=>zbb v.1 v.2.1 }
def atj:TEnv:={ pure:=[(154,rk),(156,rB),(291,avL)],look:=[],glob:=G0T,ty:=[(3,(.int .i64))],raw:=[],fresh:=[] }
theorem ati:runY Tryz.prog ak5 atk atj ayj Tryz.f231 ab3.ps ab3.res=ab3.fn:=by kernel_rfl
theorem ak4:aA Tryz.prog G0 231 ab4:=ai (ak ⟨au,(aj pp (aj py (aj amI ac))),ap,ac,an⟩ Tryz.func231 rfl (by kernel_rfl))
theorem ahi:TOk ab4 ab3:=az (E:=ak5) (ET:=atj) (EnvT.ofX (ax (ah wx (ah wZ (ah avK al)))) am ar aJ aq) ati rfl
theorem afB : @aA ⟨True⟩ Tryz.prog G0 291 afC:=by
 letI:Drawn:=⟨True⟩
 exact tm ⟨Tryz.f291,Tryz.func291,rfl,by kernel_rfl⟩ Tryz.strings_Compare
theorem afj : @aA ⟨True⟩ Tryz.prog G0 231 ab4:=by
 letI:Drawn:=⟨True⟩
 exact ai (ak ⟨au,(aj wy (aj w7 (aj afB ac))),ap,ac,an⟩ Tryz.func231 rfl (by kernel_rfl))
def amm:Go.Shelf.Ren:=⟨fun | 6=>230 | 14=>290 | 15=>201 | 20=>332 | 21=>333 | 22=>334 | 23=>335 | 24=>336 | 25=>337 | 26=>338 | 27=>339 | 28=>268 | 29=>269 | 46=>359 | 47=>316 | 48=>317 | 49=>360 | 50=>361 | 57=>374 | n=>n,fun | 0=>0 | 3=>3 | 4=>4 | 5=>5 | 9=>9 | 22=>123 | 24=>132 | 25=>296 | 39=>230 | 45=>314 | 46=>315 | 50=>161 | 53=>321 | 55=>323 | 66=>354 | 70=>358 | 76=>378 | 77=>283 | n=>n,fun | n=>n⟩
theorem afA:Go.Proofs.SlLaysF0.n6 Tryz.prog amm:={
 mixed:=by kernel_rfl
 f6:=⟨Tryz.f230.name,by decide,Tryz.func230.trans (congrArg some (by kernel_rfl))⟩
 f14:=⟨Tryz.f290.name,by decide,Tryz.func290.trans (congrArg some (by kernel_rfl))⟩
 f15:=Tryz.func201.trans (congrArg some (by kernel_rfl))
 f20:=⟨Tryz.f332.name,by decide,Tryz.func332.trans (congrArg some (by kernel_rfl))⟩
 f21:=⟨Tryz.f333.name,by decide,Tryz.func333.trans (congrArg some (by kernel_rfl))⟩
 f22:=⟨Tryz.f334.name,by decide,Tryz.func334.trans (congrArg some (by kernel_rfl))⟩
 f23:=⟨Tryz.f335.name,by decide,Tryz.func335.trans (congrArg some (by kernel_rfl))⟩
 f24:=⟨Tryz.f336.name,by decide,Tryz.func336.trans (congrArg some (by kernel_rfl))⟩
 f25:=⟨Tryz.f337.name,by decide,Tryz.func337.trans (congrArg some (by kernel_rfl))⟩
 f26:=⟨Tryz.f338.name,by decide,Tryz.func338.trans (congrArg some (by kernel_rfl))⟩
 f27:=⟨Tryz.f339.name,by decide,Tryz.func339.trans (congrArg some (by kernel_rfl))⟩
 f28:=Tryz.func268.trans (congrArg some (by kernel_rfl))
 f29:=Tryz.func269.trans (congrArg some (by kernel_rfl))
 f46:=⟨Tryz.f359.name,by decide,Tryz.func359.trans (congrArg some (by kernel_rfl))⟩
 f47:=Tryz.func316.trans (congrArg some (by kernel_rfl))
 f48:=Tryz.func317.trans (congrArg some (by kernel_rfl))
 f49:=⟨Tryz.f360.name,by decide,Tryz.func360.trans (congrArg some (by kernel_rfl))⟩
 f50:=⟨Tryz.f361.name,by decide,Tryz.func361.trans (congrArg some (by kernel_rfl))⟩
 f57:=⟨Tryz.f374.name,by decide,Tryz.func374.trans (congrArg some (by kernel_rfl))⟩
 t0:=Tryz.underlying0
 a0:=Tryz.isAgg0
 z0:=Tryz.sizeOf0
 v0:=Tryz.zeroValue0
 t3:=Tryz.underlying3
 a3:=Tryz.isAgg3
 z3:=Tryz.sizeOf3
 v3:=Tryz.zeroValue3
 t4:=Tryz.underlying4
 a4:=Tryz.isAgg4
 z4:=Tryz.sizeOf4
 v4:=Tryz.zeroValue4
 t5:=Tryz.underlying5
 a5:=Tryz.isAgg5
 z5:=Tryz.sizeOf5
 v5:=Tryz.zeroValue5
 t9:=Tryz.underlying9
 a9:=Tryz.isAgg9
 z9:=Tryz.sizeOf9
 v9:=Tryz.zeroValue9
 t22:=Tryz.underlying123
 a22:=Tryz.isAgg123
 z22:=Tryz.sizeOf123
 v22:=Tryz.zeroValue123
 t25:=Tryz.underlying296
 a25:=Tryz.isAgg296
 z25:=Tryz.sizeOf296
 v25:=Tryz.zeroValue296
 t39:=Tryz.underlying230
 a39:=Tryz.isAgg230
 z39:=Tryz.sizeOf230
 v39:=Tryz.zeroValue230
 t45:=Tryz.underlying314
 a45:=Tryz.isAgg314
 z45:=Tryz.sizeOf314
 v45:=Tryz.zeroValue314
 t46:=Tryz.underlying315
 a46:=Tryz.isAgg315
 z46:=Tryz.sizeOf315
 v46:=Tryz.zeroValue315
 t50:=Tryz.underlying161
 a50:=Tryz.isAgg161
 z50:=Tryz.sizeOf161
 v50:=Tryz.zeroValue161
 t53:=Tryz.underlying321
 a53:=Tryz.isAgg321
 z53:=Tryz.sizeOf321
 v53:=Tryz.zeroValue321
 t55:=Tryz.underlying323
 a55:=Tryz.isAgg323
 z55:=Tryz.sizeOf323
 v55:=Tryz.zeroValue323
 t66:=Tryz.underlying354
 a66:=Tryz.isAgg354
 z66:=Tryz.sizeOf354
 v66:=Tryz.zeroValue354
 t70:=Tryz.underlying358
 a70:=Tryz.isAgg358
 z70:=Tryz.sizeOf358
 v70:=Tryz.zeroValue358
 t76:=Tryz.underlying378
 a76:=Tryz.isAgg378
 z76:=Tryz.sizeOf378
 v76:=Tryz.zeroValue378
 t77:=Tryz.underlying283
 a77:=Tryz.isAgg283
 z77:=Tryz.sizeOf283
 v77:=Tryz.zeroValue283 }
def amo:SFn:=pH ab4 231 3 132
theorem amn:cB Tryz.prog G0 230 amo:=lN (M:=3) (g:=231) afA (by decide) (fun w=>Tryz.isAgg132 w) (fun w=>Tryz.sizeOf132 w) afj ⟨Tryz.f230,Tryz.func230,rfl,by kernel_rfl⟩
def zae (w0:List vV3):Option (Unit×List vV3×Unit):=(nF (fun x y=>zbb x y) w0).map fun l=>((),(l,()))
def avg:TRaw:=acP false 231 132 tT15 (fun x y=>zbb x y)
theorem avf:TRawOk amo avg:=xc rfl rfl rfl rfl ahi
def al9:Env:=(eZ [] [274])
def au2:Hints:=(hZ [(4,[0,3]),(9,[0,3,4,5])] [])
def al8:SFn:=qB (runF Tryz.prog al9 au2 Tryz.f232)
def ayI:TH:={ joins:=[(14,{ keep:=[(0,(.own 0)),(3,(.int .i64))],mem:=[.row false 132 tT15] })],loops:=[(4,{ keep:=[(0,(.own 0)),(3,(.int .i64))],mem:=[.row false 132 tT15] }),(9,{ keep:=[(0,(.own 0)),(3,(.int .i64)),(4,(.vw 0)),(5,(.int .i64))],mem:=[.row false 132 tT15] })],ro:=[] }
def oa (y9:(Int×(Nat×Nat)×Int×List vV3×Unit)):Option ((Int×(Nat×Nat)×Int×List vV3×Unit)⊕((Int×List vV3×Unit)⊕((Int×List vV3×Unit)⊕(List vV3)))) :=
 cond (decide (y9.2.2.1<(y9.2.1.2:Int))) (
 cond y9.2.2.2.1.isEmpty (none) ((inI y9.2.1.2 y9.2.2.1).bind fun i6 =>
(y9.2.2.2.1[(y9.2.1.1+i6)]?).bind fun x7 =>
 cond y9.2.2.2.1.isEmpty (none) ((inI y9.2.1.2 (IntKind.wrap .i64 (y9.2.2.1-1))).bind fun i8 =>
(y9.2.2.2.1[(y9.2.1.1+i8)]?).bind fun x9 =>
 cond (!(eqV tT15 x7 x9)) (
 cond y9.2.2.2.1.isEmpty (none) ((inI y9.2.1.2 y9.2.2.1).bind fun i10 =>
(y9.2.2.2.1[(y9.2.1.1+i10)]?).bind fun x11 =>
(inI y9.2.2.2.1.length y9.1).bind fun i12 =>
(y9.2.2.2.1[i12]?).bind fun x13 =>
 some (.inl ((IntKind.wrap .i64 (y9.1+1)),y9.2.1,(IntKind.wrap .i64 (y9.2.2.1+1)),(y9.2.2.2.1.set i12 x11),())))) (
 some (.inl (y9.1,y9.2.1,(IntKind.wrap .i64 (y9.2.2.1+1)),y9.2.2.2.1,())))))) (
 some (.inr (.inl (y9.1,y9.2.2.2.1,()))))
def lr (y4:(Int×List vV3×Unit)):Option ((Int×List vV3×Unit)⊕(List vV3)) :=
 cond (decide (y4.1<(y4.2.1.length:Int))) (
(inI y4.2.1.length y4.1).bind fun i1 =>
(y4.2.1[i1]?).bind fun x2 =>
(inI y4.2.1.length (IntKind.wrap .i64 (y4.1-1))).bind fun i3 =>
(y4.2.1[i3]?).bind fun x4 =>
 cond (eqV tT15 x2 x4) (
 cond y4.2.1.isEmpty (none) ((lG (y4.2.1.length) y4.1 (y4.2.1.length:Int)).bind fun p5 =>
(aH (oa) (y4.1,p5,1,y4.2.1,()):Option ((Int×List vV3×Unit)⊕((Int×List vV3×Unit)⊕(List vV3)))).bind (aU fun v14 =>
 cond v14.2.1.isEmpty (none) ((lG (v14.2.1.length) v14.1 (v14.2.1.length:Int)).bind fun p15 =>
 cond v14.2.1.isEmpty (none) ((if p15.1+p15.2≤v14.2.1.length then some () else none).bind fun u16 =>
 cond (v14.2.1.take p15.1++List.replicate p15.2 (0,0,[],())++v14.2.1.drop (p15.1+p15.2)).isEmpty (none) ((lG ((v14.2.1.take p15.1++List.replicate p15.2 (0,0,[],())++v14.2.1.drop (p15.1+p15.2)).length) 0 v14.1).bind fun p17 =>
(cond (v14.2.1.take p15.1++List.replicate p15.2 (0,0,[],())++v14.2.1.drop (p15.1+p15.2)).isEmpty none (if p17.1+p17.2≤(v14.2.1.take p15.1++List.replicate p15.2 (0,0,[],())++v14.2.1.drop (p15.1+p15.2)).length then some (((v14.2.1.take p15.1++List.replicate p15.2 (0,0,[],())++v14.2.1.drop (p15.1+p15.2)).drop p17.1).take p17.2) else none)).map .inr)))))) (
 some (.inl ((IntKind.wrap .i64 (y4.1+1)),y4.2.1,())))) (
 some (.inr y4.2.1))
def al6 (w0:List vV3):Option (List vV3) :=
 cond (decide ((w0.length:Int)<2)) (
 some w0) (
 aH (lr) (1,w0,()))
def zaj (w0:List vV3):Option (List vV3×Unit):=(al6 w0).map fun l=>(l,())
def au1:TRaw:={ ps:=(.cons (.own 0) .unit),ins:=[.row false 132 tT15],res:=(.sl tT15),outs:=[.gone],fn:=fun v w=>zaj w.1 }
def au0:TEnv:=(vZ [])
theorem auZ:agC Tryz.prog al9 au2 au0 ayI Tryz.f232 (.cons (.own 0) .unit) false 132 tT15=fun _ w=>al6 w:=by kernel_rfl
theorem al7:cB Tryz.prog G0 232 al8:=mT (ak ⟨au,ac,ap,ac,an⟩ Tryz.func232 rfl (by kernel_rfl))
theorem auY:TRawOk al8 au1:=xN (E:=al9) (ET:=au0) (EnvT.ofX (ax al) am ar aJ aq) auZ
def aiE:Env:={ pure:=[(229,aaD)],raw:=[(230,amo),(232,al8)],glob:=G0,same:=[274],look:=[],ext:=[] }
def apz:Hints:=(hZ [(3,[5,10,11,12])] [])
def aiD:PFn:=aF (runF Tryz.prog aiE apz Tryz.f163)
def axj:TH:={ joins:=[(7,{ keep:=[(5,(.own 1))],mem:=[.gone,.row true 132 tT15] })],loops:=[(3,{ keep:=[(5,(.own 1)),(12,(.int .i64))],mem:=[.gone,.row true 132 tT15] })],ro:=[] }
def wq (r1:List vV6) (y3:(Int×List vV3×Unit)):Option ((Int×List vV3×Unit)⊕((List vV3×Unit)⊕List vV3)) :=
 cond (decide (y3.1<(r1.length:Int))) (
(atI r1 y3.1).bind fun x2 =>
(ch (y3.2.1.length+([x2.2.1.2.2.1]:List vV3).length)).bind fun u3 =>
 some (.inl ((IntKind.wrap .i64 (y3.1+1)),(y3.2.1++([x2.2.1.2.2.1]:List vV3)),()))) (
 some (.inr (.inl (y3.2.1,()))))
def zdb (a0:List vV6) (a1:List (List UInt8)):Option (List vV3) :=
((zdv a0 a1 1).bind fun r1 =>
 aH (wq r1) (0,[],()):Option ((List vV3×Unit)⊕List vV3)).bind (aU fun v4 =>
(zae v4.1).bind fun q5 =>
(zaj q5.2.1).bind fun q6 =>
 some q6.1)
def aa2:TFn:={ ps:=(.cons (.sl tT19) tT22),res:=(.sl tT15),fn:=fun v=>zdb v.1 v.2.1 }
def apy:TEnv:={ pure:=[(229,tT)],look:=[],glob:=G0T,ty:=[(132,tT15)],raw:=[(230,avg),(232,au1)],fresh:=[] }
theorem apx:runY Tryz.prog aiE apz apy axj Tryz.f163 aa2.ps aa2.res=aa2.fn:=by kernel_rfl
theorem aiC:aA Tryz.prog G0 163 aiD:=ai (ak ⟨au,(aj tU ac),(bN amn (bN al7 ap)),ac,an⟩ Tryz.func163 rfl (by kernel_rfl))
theorem apw:TOk aiD aa2:=az (E:=aiE) (ET:=apy) (EnvT.ofX (ax (ah aaC al)) am (ck avf rfl rfl (ck auY rfl rfl ar)) aJ aq) apx rfl
def al3:Go.Shelf.Ren:=⟨fun | 22=>234 | 29=>292 | 30=>293 | n=>n,fun | 24=>123 | 9=>132 | 0=>0 | 3=>3 | 4=>4 | n=>n,fun | n=>n⟩
theorem afx:InsL Tryz.prog al3:={
 mixed:=by kernel_rfl
 f22:=⟨Tryz.f234.name,by decide,Tryz.func234.trans (congrArg some (by kernel_rfl))⟩
 f29:=⟨Tryz.f292.name,by decide,by kernel_rfl,by kernel_rfl,Tryz.func292.trans (congrArg some (by kernel_rfl))⟩
 t0:=Tryz.underlying0
 a0:=Tryz.isAgg0
 z0:=Tryz.sizeOf0
 v0:=Tryz.zeroValue0
 t3:=Tryz.underlying3
 a3:=Tryz.isAgg3
 z3:=Tryz.sizeOf3
 v3:=Tryz.zeroValue3
 t4:=Tryz.underlying4
 a4:=Tryz.isAgg4
 z4:=Tryz.sizeOf4
 v4:=Tryz.zeroValue4
 t24:=Tryz.underlying123
 a24:=Tryz.isAgg123
 z24:=Tryz.sizeOf123
 v24:=Tryz.zeroValue123 }
def al5:SFn:=fm 3 132
theorem al4:cB Tryz.prog G0 234 al5:=aab afx rfl rfl rfl (ael (P:=Tryz.prog) (te:=132) (M:=3) (by kernel_rfl) (by kernel_rfl) (by kernel_rfl) (by kernel_rfl) (by kernel_rfl) (by kernel_rfl) (by kernel_rfl) (by kernel_rfl)) true Tryz.isAgg132 ⟨Tryz.f234,Tryz.func234,rfl,by kernel_rfl⟩
def zak (a1:Int) (a2:List vV3) (w0:List vV3):Option (Unit×List vV3×Unit):=(insT w0 a1 a2).map fun l=>((),(l,()))
def auX:TRaw:=insR false 132 tT15
theorem auW:TRawOk al5 auX:=anw rfl rfl rfl rfl (by decide)
def amy:Env:=(eZ [(231,ab4)] [274])
def avt:Hints:=(hZ [(3,[0,2,4,8,9,10])] [])
def amx:PFn:=aF (runF Tryz.prog amy avt Tryz.f233)
def ayN:TH:={ joins:=[(8,{ keep:=[(4,(.bx 0 0)),(9,(.int .i64))],mem:=[.same] })],loops:=[(3,{ keep:=[(4,(.bx 0 0)),(9,(.int .i64)),(10,(.int .i64))],mem:=[.same] })],ro:=[4] }
def od (a0:List vV3) (a1:vV3) (y3:(Int×Int×Unit)):Option ((Int×Int×Unit)⊕((Int×Unit)⊕(Int×Bool×Unit))) :=
 cond (decide (y3.1<y3.2.1)) (
(shrT .u64 (IntKind.wrap .u64 (IntKind.wrap .i64 (y3.1+y3.2.1))) 1).bind fun t1 =>
(atI a0 (IntKind.wrap .i64 t1)).bind fun x2 =>
(zbb x2 a1).bind fun r3 =>
 cond (decide (r3<0)) (
 some (.inl ((IntKind.wrap .i64 ((IntKind.wrap .i64 t1)+1)),y3.2.1,()))) (
 some (.inl (y3.1,(IntKind.wrap .i64 t1),())))) (
 some (.inr (.inl (y3.1,()))))
def zab (a0:List vV3) (a1:vV3) (a2:Unit):Option (Int×Bool×Unit) :=
(aH (od a0 a1) (0,(a0.length:Int),()):Option ((Int×Unit)⊕(Int×Bool×Unit))).bind (aU fun v4 =>
 cond (decide (v4.1<(a0.length:Int))) ((atI a0 v4.1).bind fun x5 =>
(zbb x5 a1).bind fun r6 =>
 some (v4.1,(decide (r6=0)),())) (some (v4.1,false,())))
def acy:TFn:={ ps:=(.cons (.sl tT15) (.cons tT15 (.cons (.fn 231) .unit))),res:=(.tup (.cons (.int .i64) (.cons .bool .unit))),fn:=fun v=>zab v.1 v.2.1 v.2.2.1 }
def avs:TEnv:=(vZ [(231,ab3)])
theorem avr:runY Tryz.prog amy avt avs ayN Tryz.f233 acy.ps acy.res=acy.fn:=by kernel_rfl
theorem amw:aA Tryz.prog G0 233 amx:=ai (ak ⟨au,(aj ak4 ac),ap,ac,an⟩ Tryz.func233 rfl (by kernel_rfl))
theorem avq:TOk amx acy:=az (E:=amy) (ET:=avs) (EnvT.ofX (ax (ah ahi al)) am ar aJ aq) avr rfl
def aiY:Env:={ pure:=[(229,aaD)],raw:=[(234,al5)],glob:=G0,same:=[274],look:=[(233,amx)],ext:=[] }
def ap8:Hints:=(hZ [(3,[5,12,13,14])] [])
def aiX:PFn:=aF (runF Tryz.prog aiY ap8 Tryz.f164)
def axt:TH:={ loops:=[(3,{ keep:=[(5,(.own 1)),(14,(.int .i64))],mem:=[.gone,.row false 132 tT15] })],ro:=[] }
def wz (r1:List vV6) (y3:(Int×List vV3×Unit)):Option ((Int×List vV3×Unit)⊕List vV3) :=
 cond (decide (y3.1<(r1.length:Int))) (
(atI r1 y3.1).bind fun x2 =>
(zab y3.2.1 x2.2.1.2.2.1 ()).bind fun r3 =>
 cond (!r3.2.1) (
(zak r3.1 ([x2.2.1.2.2.1]:List vV3) y3.2.1).bind fun q4 =>
 some (.inl ((IntKind.wrap .i64 (y3.1+1)),q4.2.1,()))) (
 some (.inl ((IntKind.wrap .i64 (y3.1+1)),y3.2.1,())))) (
 some (.inr y3.2.1))
def zcr (a0:List vV6) (a1:List (List UInt8)):Option (List vV3) :=
(zdv a0 a1 2).bind fun r1 =>
 aH (wz r1) (0,[],())
def aba:TFn:={ ps:=(.cons (.sl tT19) tT22),res:=(.sl tT15),fn:=fun v=>zcr v.1 v.2.1 }
def ap7:TEnv:={ pure:=[(229,tT)],look:=[(233,acy)],glob:=G0T,ty:=[(132,tT15)],raw:=[(234,auX)],fresh:=[] }
theorem ap6:runY Tryz.prog aiY ap8 ap7 axt Tryz.f164 aba.ps aba.res=aba.fn:=by kernel_rfl
theorem aiW:aA Tryz.prog G0 164 aiX:=ai (ak ⟨au,(aj tU ac),(bN al4 ap),(aj amw ac),an⟩ Tryz.func164 rfl (by kernel_rfl))
theorem ap5:TOk aiX aba:=az (E:=aiY) (ET:=ap7) (EnvT.ofX (ax (ah aaC al)) (oN avq rfl am) (ck auW rfl rfl ar) aJ aq) ap6 rfl
def aic:Env:=(eZ [(229,aaD)] [274])
def aoQ:Hints:=(hZ [(3,[5,10,11,12])] [])
def aib:PFn:=aF (runF Tryz.prog aic aoQ Tryz.f165)
def aw7:TH:={ loops:=[(3,{ keep:=[(5,(.int .i64)),(12,(.int .i64))],mem:=[] })],ro:=[] }
def wl (r1:List vV6) (y3:(Int×Int×Unit)):Option ((Int×Int×Unit)⊕Int) :=
 cond (decide (y3.2.1<(r1.length:Int))) (
(atI r1 y3.2.1).bind fun x2 =>
 some (.inl ((IntKind.wrap .i64 (y3.1+x2.2.1.2.2.2.1)),(IntKind.wrap .i64 (y3.2.1+1)),()))) (
 some (.inr y3.1))
def zdn (a0:List vV6) (a1:List (List UInt8)):Option Int :=
(zdv a0 a1 3).bind fun r1 =>
 aH (wl r1) (0,0,())
def aaO:TFn:={ ps:=(.cons (.sl tT19) tT22),res:=(.int .i64),fn:=fun v=>zdn v.1 v.2.1 }
def aoP:TEnv:=(vZ [(229,tT)])
theorem aoO:runY Tryz.prog aic aoQ aoP aw7 Tryz.f165 aaO.ps aaO.res=aaO.fn:=by kernel_rfl
theorem aia:aA Tryz.prog G0 165 aib:=ai (ak ⟨au,(aj tU ac),ap,ac,an⟩ Tryz.func165 rfl (by kernel_rfl))
theorem aoN:TOk aib aaO:=az (E:=aic) (ET:=aoP) (EnvT.ofX (ax (ah aaC al)) am ar aJ aq) aoO rfl
def ahT:Env:=(eZ [(72,yU),(163,aiD),(164,aiX),(165,aib)] [274])
def aoj:Hints:=(hZ [] [])
def ahS:PFn:=aF (runF Tryz.prog ahT aoj Tryz.f94)
def awY:TH:=yZ
def zdw (a0:List vV6) (a1:List (List UInt8)) (a2:Int):Option vV0 :=
(zap a1).bind fun r1 =>
 cond (decide (a2=1)) (
(zdb a0 a1).bind fun r2 =>
 some (r1,a2,r2,0,())) (
 cond (decide (a2=2)) (
(zcr a0 a1).bind fun r3 =>
 some (r1,a2,r3,0,())) (
 cond (decide (a2=3)) (
(zdn a0 a1).bind fun r4 =>
 some (r1,a2,[],r4,())) (
 some (r1,a2,[],0,()))))
def aaB:TFn:={ ps:=(.cons (.sl tT19) (.cons (.sl .str) tT16)),res:=tT12,fn:=fun v=>zdw v.1 v.2.1 v.2.2.1 }
def aoi:TEnv:=(vZ [(72,acr),(163,aa2),(164,aba),(165,aaO)])
theorem aoh:runY Tryz.prog ahT aoj aoi awY Tryz.f94 aaB.ps aaB.res=aaB.fn:=by kernel_rfl
theorem ahR:aA Tryz.prog G0 94 ahS:=ai (ak ⟨au,(aj px (aj aiC (aj aiW (aj aia ac)))),ap,ac,an⟩ Tryz.func94 rfl (by kernel_rfl))
theorem aog:TOk ahS aaB:=az (E:=ahT) (ET:=aoi) (EnvT.ofX (ax (ah wW (ah apw (ah ap5 (ah aoN al))))) am ar aJ aq) aoh rfl
def aiJ:Env:=(eZ [(93,akm),(94,ahS)] [274])
def apJ:Hints:=(hZ [(3,[0,5,10,11,12])] [])
def yC:PFn:=aF (runF Tryz.prog aiJ apJ Tryz.f32)
def axm:TH:={ loops:=[(3,{ keep:=[(5,(.own 1)),(12,(.int .i64))],mem:=[.gone,.row true 125 tT12] })],ro:=[] }
def wu (a0:List vV6) (r1:List vV4) (y3:(Int×List vV0×Unit)):Option ((Int×List vV0×Unit)⊕List vV0) :=
 cond (decide (y3.1<(r1.length:Int))) (
(atI r1 y3.1).bind fun x2 =>
(zdw a0 x2.1 x2.2.1).bind fun r3 =>
(ch (y3.2.1.length+([r3]:List vV0).length)).bind fun u4 =>
 some (.inl ((IntKind.wrap .i64 (y3.1+1)),(y3.2.1++([r3]:List vV0)),()))) (
 some (.inr y3.2.1))
def zcy (a0:List vV6) (a1:List (List UInt8)):Option (List vV0) :=
(zbt a0 a1).bind fun r1 =>
 aH (wu a0 r1) (0,[],())
def rg:TFn:={ ps:=(.cons (.sl tT19) tT22),res:=(.sl tT12),fn:=fun v=>zcy v.1 v.2.1 }
def apI:TEnv:={ pure:=[(93,abI),(94,aaB)],look:=[],glob:=G0T,ty:=[(125,tT12)],raw:=[],fresh:=[] }
theorem apH:runY Tryz.prog aiJ apJ apI axm Tryz.f32 rg.ps rg.res=rg.fn:=by kernel_rfl
theorem po:aA Tryz.prog G0 32 yC:=ai (ak ⟨au,(aj akl (aj ahR ac)),ap,ac,an⟩ Tryz.func32 rfl (by kernel_rfl))
theorem wr:TOk yC rg:=az (E:=aiJ) (ET:=apI) (EnvT.ofX (ax (ah asa (ah aog al))) am ar aJ aq) apH rfl
def amF:Env:=(eZ [(154,ug),(155,abR),(156,uu)] [274])
def avE:Hints:=(hZ [] [])
def amE:PFn:=aF (runF Tryz.prog amF avE Tryz.f86)
def ayQ:TH:={ loops:=[],ro:=[2,3] }
def za8 (a0:vV0) (a1:vV0):Option Int :=
(zbm a0.1 a1.1).bind fun r1 =>
(za5 a0.2.1 a1.2.1).bind fun r2 =>
(zcu ([r1,r2]:List Int)).bind fun r3 =>
 some r3
def acC:TFn:={ ps:=(.cons tT12 (.cons tT12 .unit)),res:=(.int .i64),fn:=fun v=>za8 v.1 v.2.1 }
def avD:TEnv:={ pure:=[(154,rk),(155,yO),(156,rB)],look:=[],glob:=G0T,ty:=[(3,(.int .i64))],raw:=[],fresh:=[] }
theorem avC:runY Tryz.prog amF avE avD ayQ Tryz.f86 acC.ps acC.res=acC.fn:=by kernel_rfl
theorem amD:aA Tryz.prog G0 86 amE:=ai (ak ⟨au,(aj pp (aj abQ (aj py ac))),ap,ac,an⟩ Tryz.func86 rfl (by kernel_rfl))
theorem avB:TOk amE acC:=az (E:=amF) (ET:=avD) (EnvT.ofX (ax (ah wx (ah ahg (ah wZ al)))) am ar aJ aq) avC rfl
def alX:Go.Shelf.Ren:=⟨fun | 41=>159 | n=>n,fun | 22=>123 | 23=>132 | 4=>4 | n=>n,fun | n=>n⟩
theorem afw:Go.Proofs.SlLaysE0.n41 Tryz.prog alX:={
 mixed:=by kernel_rfl
 f41:=⟨Tryz.f159.name,by decide,Tryz.func159.trans (congrArg some (by kernel_rfl))⟩
 t4:=Tryz.underlying4
 a4:=Tryz.isAgg4
 z4:=Tryz.sizeOf4
 v4:=Tryz.zeroValue4
 t22:=Tryz.underlying123
 a22:=Tryz.isAgg123
 z22:=Tryz.sizeOf123
 v22:=Tryz.zeroValue123 }
def alZ:PFn:=(kF 3)
theorem alY:aA Tryz.prog G0 159 alZ:=clone_lays afw 3 ⟨Tryz.f159,Tryz.func159,rfl,by kernel_rfl⟩ (by kernel_rfl) (by kernel_rfl) (by kernel_rfl) (by kernel_rfl) (by kernel_rfl) (by decide) (fun w=>Tryz.sizeOf132 w)
def zam (a0:List vV3):Option (List vV3):=iv a0
def auR:TFn:=fR tT15
theorem auQ:TOk alZ auR:=nf rfl rfl rfl
def akG:Env:=(eZ [(72,yU),(159,alZ)] [274])
def asH:Hints:=(hZ [] [])
def akF:PFn:=aF (runF Tryz.prog akG asH Tryz.f89)
def ax9:TH:=yZ
def zbl (a0:vV0):Option vV0 :=
(zap a0.1).bind fun r1 =>
(zam a0.2.2.1).bind fun r2 =>
 some (r1,a0.2.1,r2,a0.2.2.2.1,())
def abS:TFn:={ ps:=(.cons tT12 .unit),res:=tT12,fn:=fun v=>zbl v.1 }
def asG:TEnv:=(vZ [(72,acr),(159,auR)])
theorem asF:runY Tryz.prog akG asH asG ax9 Tryz.f89 abS.ps abS.res=abS.fn:=by kernel_rfl
theorem akE:aA Tryz.prog G0 89 akF:=ai (ak ⟨au,(aj px (aj alY ac)),ap,ac,an⟩ Tryz.func89 rfl (by kernel_rfl))
theorem asE:TOk akF abS:=az (E:=akG) (ET:=asG) (EnvT.ofX (ax (ah wW (ah auQ al))) am ar aJ aq) asF rfl
def al2:Env:=(eZ [] [274])
def auV:Hints:=(hZ [(4,[0,1,12,13])] [])
def al1:PFn:=aF (runF Tryz.prog al2 auV Tryz.f161)
def ayH:TH:={ loops:=[(4,{ keep:=[(13,(.int .i64))],mem:=[] })],ro:=[] }
def wY (a0:List vV3) (a1:List vV3) (y4:(Int×Unit)):Option ((Int×Unit)⊕Bool) :=
 cond (decide (y4.1<(a0.length:Int))) (
(atI a0 y4.1).bind fun x1 =>
(atI a1 y4.1).bind fun x2 =>
 cond (!(eqV tT15 x1 x2)) (
 some (.inr false)) (
 some (.inl ((IntKind.wrap .i64 (y4.1+1)),())))) (
 some (.inr true))
def zal (a0:List vV3) (a1:List vV3):Option Bool :=
 cond (!decide ((a0.length:Int)=(a1.length:Int))) (
 some false) (
 aH (wY a0 a1) (0,()))
def acu:TFn:={ ps:=(.cons (.sl tT15) (.cons (.sl tT15) .unit)),res:=.bool,fn:=fun v=>zal v.1 v.2.1 }
def auU:TEnv:=(vZ [])
theorem auT:runY Tryz.prog al2 auV auU ayH Tryz.f161 acu.ps acu.res=acu.fn:=by kernel_rfl
theorem al0:aA Tryz.prog G0 161 al1:=ai (ak ⟨au,ac,ap,ac,an⟩ Tryz.func161 rfl (by kernel_rfl))
theorem auS:TOk al1 acu:=az (E:=al2) (ET:=auU) (EnvT.ofX (ax al) am ar aJ aq) auT rfl
def ait:Env:=(eZ [(160,ae1),(161,al1)] [274])
def apg:Hints:=(hZ [] [])
def ais:PFn:=aF (runF Tryz.prog ait apg Tryz.f92)
def axe:TH:={ loops:=[],cuts:=[(1,[(12,{ keep:=[(2,(.bx 0 0)),(3,(.bx 1 0)),(16,.bool)],mem:=[.same,.same] })])],ro:=[2,3],news:=[] }
def zdg (a0:vV0) (a1:vV0):Option Bool :=
(cond (decide (a0.2.1=a1.2.1)) (some ((decide (a0.2.2.2.1=a1.2.2.2.1)),())) (some (false,())):Option (Bool×Unit)).bind fun v1 =>
 cond v1.1 ((zdj a0.1 a1.1).bind fun r2 =>
 cond r2 ((zal a0.2.2.1 a1.2.2.1).bind fun r3 =>
 some r3) (some false)) (some false)
def aaW:TFn:={ ps:=(.cons tT12 (.cons tT12 .unit)),res:=.bool,fn:=fun v=>zdg v.1 v.2.1 }
def apf:TEnv:=(vZ [(160,yz),(161,acu)])
theorem ape:runY Tryz.prog ait apg apf axe Tryz.f92 aaW.ps aaW.res=aaW.fn:=by kernel_rfl
theorem air:aA Tryz.prog G0 92 ais:=ai (ak ⟨au,(aj aaS (aj al0 ac)),ap,ac,an⟩ Tryz.func92 rfl (by kernel_rfl))
theorem apd:TOk ais aaW:=az (E:=ait) (ET:=apf) (EnvT.ofX (ax (ah ag1 (ah auS al))) am ar aJ aq) ape rfl
def amB:Env:=(eZ [(92,ais)] [274])
def avx:Hints:=(hZ [(4,[1,2,15,16,17])] [])
def amA:PFn:=aF (runF Tryz.prog amB avx Tryz.f91)
def ayO:TH:={ loops:=[(4,{ keep:=[(17,(.int .i64))],mem:=[] })],ro:=[] }
def lw (a0:List vV0) (a1:List vV0) (y4:(Int×Unit)):Option ((Int×Unit)⊕Bool) :=
 cond (decide (y4.1<(a0.length:Int))) (
(atI a0 y4.1).bind fun x1 =>
(atI a1 y4.1).bind fun x2 =>
(zdg x1 x2).bind fun r3 =>
 cond (!r3) (
 some (.inr false)) (
 some (.inl ((IntKind.wrap .i64 (y4.1+1)),())))) (
 some (.inr true))
def zaa (a0:List vV0) (a1:List vV0) (a2:Unit):Option Bool :=
 cond (!decide ((a0.length:Int)=(a1.length:Int))) (
 some false) (
 aH (lw a0 a1) (0,()))
def acz:TFn:={ ps:=(.cons (.sl tT12) (.cons (.sl tT12) (.cons (.fn 92) .unit))),res:=.bool,fn:=fun v=>zaa v.1 v.2.1 v.2.2.1 }
def avw:TEnv:=(vZ [(92,aaW)])
theorem avv:runY Tryz.prog amB avx avw ayO Tryz.f91 acz.ps acz.res=acz.fn:=by kernel_rfl
theorem amz:aA Tryz.prog G0 91 amA:=ai (ak ⟨au,(aj air ac),ap,ac,an⟩ Tryz.func91 rfl (by kernel_rfl))
theorem avu:TOk amA acz:=az (E:=amB) (ET:=avw) (EnvT.ofX (ax (ah apd al)) am ar aJ aq) avv rfl
def ain:Env:=(eZ [(91,amA)] [274])
def ao8:Hints:=(hZ [] [])
def aaU:PFn:=aF (runF Tryz.prog ain ao8 Tryz.f31)
def axc:TH:=yZ
def zdi (a0:List vV0) (a1:List vV0):Option Bool :=
(zaa a0 a1 ()).bind fun r1 =>
 some r1
def tZ:TFn:={ ps:=(.cons (.sl tT12) (.cons (.sl tT12) .unit)),res:=.bool,fn:=fun v=>zdi v.1 v.2.1 }
def ao7:TEnv:=(vZ [(91,acz)])
theorem ao6:runY Tryz.prog ain ao8 ao7 axc Tryz.f31 tZ.ps tZ.res=tZ.fn:=by kernel_rfl
theorem t8:aA Tryz.prog G0 31 aaU:=ai (ak ⟨au,(aj amz ac),ap,ac,an⟩ Tryz.func31 rfl (by kernel_rfl))
theorem aaT:TOk aaU tZ:=az (E:=ain) (ET:=ao7) (EnvT.ofX (ax (ah avu al)) am ar aJ aq) ao6 rfl
def ajD:Env:=(eZ [(31,aaU)] [274])
def aq4:Hints:=(hZ [] [])
def ajC:PFn:=aF (runF Tryz.prog ajD aq4 Tryz.f87)
def axJ:TH:={ loops:=[],ro:=[2,3] }
def zcb (a0:vV0) (a1:vV0):Option Bool :=
(zdi ([a0]:List vV0) ([a1]:List vV0)).bind fun r1 =>
 some r1
def abr:TFn:={ ps:=(.cons tT12 (.cons tT12 .unit)),res:=.bool,fn:=fun v=>zcb v.1 v.2.1 }
def aq3:TEnv:={ pure:=[(31,tZ)],look:=[],glob:=G0T,ty:=[(125,tT12)],raw:=[],fresh:=[] }
theorem aq2:runY Tryz.prog ajD aq4 aq3 axJ Tryz.f87 abr.ps abr.res=abr.fn:=by kernel_rfl
theorem ajB:aA Tryz.prog G0 87 ajC:=ai (ak ⟨au,(aj t8 ac),ap,ac,an⟩ Tryz.func87 rfl (by kernel_rfl))
theorem aq1:TOk ajC abr:=az (E:=ajD) (ET:=aq3) (EnvT.ofX (ax (ah aaT al)) am ar aJ aq) aq2 rfl
def alr:Env:=(eZ [(86,amE),(87,ajC),(89,akF)] [274])
def atW:Hints:=(hZ [(2,[0,1,5])] [41,45,60,73])
def afn:PFn:=aF (runF Tryz.prog alr atW Tryz.f76)
def ayt:TH:={ joins:=[(3,{ keep:=[(5,(.own 0))],mem:=[.row true 127 tT18] }),(11,{ keep:=[(5,(.own 0)),(6,(.int .i64))],mem:=[.row true 127 tT18] }),(10,{ keep:=[(5,(.own 0))],mem:=[.row true 127 tT18] })],loops:=[(2,{ keep:=[(0,(.sl tT12)),(1,(.sl tT12)),(5,(.own 0))],mem:=[.row true 127 tT18] })],ro:=[] }
def iQ (y2:(List vV0×List vV0×List vV7×Unit)):Option ((List vV0×List vV0×List vV7×Unit)⊕List vV7) :=
(cond (decide ((y2.1.length:Int)>0)) (some (.inl (y2.2.2.1,()))) (cond (decide ((y2.2.1.length:Int)>0)) (
 some (.inl (y2.2.2.1,()))) (
 some (.inr (.inr y2.2.2.1)))):Option ((List vV7×Unit)⊕((List vV0×List vV0×List vV7×Unit)⊕List vV7))).bind (aU fun v1 =>
(cond (decide ((y2.2.1.length:Int)=0)) (
 some (.inl ((-1),v1.1,()))) (
 cond (decide ((y2.1.length:Int)>0)) (
(atI y2.1 0).bind fun x2 =>
(atI y2.2.1 0).bind fun x3 =>
(za8 x2 x3).bind fun r4 =>
 some (.inl (r4,v1.1,()))) (
 some (.inl (1,v1.1,())))):Option ((Int×List vV7×Unit)⊕((List vV0×List vV0×List vV7×Unit)⊕List vV7))).bind (aU fun v5 =>
 cond (decide (v5.1<0)) (
(atI y2.1 0).bind fun x6 =>
(zbl x6).bind fun r7 =>
(ch (v5.2.1.length+([(2,r7,([],0,[],0,()),())]:List vV7).length)).bind fun u8 =>
(subI y2.1 1 (y2.1.length:Int)).bind fun s9 =>
 some (.inl (s9,y2.2.1,(v5.2.1++([(2,r7,([],0,[],0,()),())]:List vV7)),()))) (
 cond (decide (v5.1>0)) (
(atI y2.2.1 0).bind fun x10 =>
(zbl x10).bind fun r11 =>
(ch (v5.2.1.length+([(1,([],0,[],0,()),r11,())]:List vV7).length)).bind fun u12 =>
(subI y2.2.1 1 (y2.2.1.length:Int)).bind fun s13 =>
 some (.inl (y2.1,s13,(v5.2.1++([(1,([],0,[],0,()),r11,())]:List vV7)),()))) (
((atI y2.1 0).bind fun x14 =>
(atI y2.2.1 0).bind fun x15 =>
(zcb x14 x15).bind fun r16 =>
 cond (!r16) (
(atI y2.1 0).bind fun x17 =>
(zbl x17).bind fun r18 =>
(atI y2.2.1 0).bind fun x19 =>
(zbl x19).bind fun r20 =>
(ch (v5.2.1.length+([(3,r18,r20,())]:List vV7).length)).bind fun u21 =>
 some (.inl ((v5.2.1++([(3,r18,r20,())]:List vV7)),()))) (
 some (.inl (v5.2.1,()))):Option ((List vV7×Unit)⊕((List vV0×List vV0×List vV7×Unit)⊕List vV7))).bind (aU fun v22 =>
(subI y2.1 1 (y2.1.length:Int)).bind fun s23 =>
(subI y2.2.1 1 (y2.2.1.length:Int)).bind fun s24 =>
 some (.inl (s23,s24,v22.1,())))))))
def zb1 (a0:List vV0) (a1:List vV0):Option (List vV7) :=
 aH (iQ) (a0,a1,[],())
def yS:TFn:={ ps:=(.cons (.sl tT12) (.cons (.sl tT12) .unit)),res:=(.sl tT18),fn:=fun v=>zb1 v.1 v.2.1 }
def atV:TEnv:={ pure:=[(86,acC),(87,abr),(89,abS)],look:=[],glob:=G0T,ty:=[(127,tT18)],raw:=[],fresh:=[] }
theorem atU:runY Tryz.prog alr atW atV ayt Tryz.f76 yS.ps yS.res=yS.fn:=by kernel_rfl
theorem acf:aA Tryz.prog G0 76 afn:=ai (ak ⟨au,(aj amD (aj ajB (aj akE ac))),ap,ac,an⟩ Tryz.func76 rfl (by kernel_rfl))
theorem ahk:TOk afn yS:=az (E:=alr) (ET:=atV) (EnvT.ofX (ax (ah avB (ah aq1 (ah asE al)))) am ar aJ aq) atU rfl
def amS:Env:=(eZ [(32,yC),(76,afn)] [274])
def av6:Hints:=(hZ [] [8])
def afG:SFn:=runF Tryz.prog amS av6 Tryz.f21
def ayX:TH:=yZ
def za0 (a1:List vV6) (w0:vV8):Option (List vV7×vV8×Unit) :=
(zcy a1 w0.1).bind fun r1 =>
(zb1 w0.2.1 r1).bind fun r2 =>
 some (r2,(w0.1,r1,(IntKind.wrap .i64 (w0.2.2.1+1)),()),())
def rC:TRaw:={ ps:=(.cons (.bx 0 0) (.cons (.sl tT19) .unit)),ins:=[.box 139 tT21],res:=(.sl tT18),outs:=[.box 139 tT21],fn:=fun v w=>za0 v.2.1 w.1 }
def av5:TEnv:=(vZ [(32,rg),(76,yS)])
theorem av4:rawY Tryz.prog amS av6 av5 ayX [(0,0)] Tryz.f21 rC.ps rC.ins rC.res rC.outs=rC.fn:=by kernel_rfl
theorem acE:cB Tryz.prog G0 21 afG:=ak ⟨au,(aj po (aj acf ac)),ap,ac,an⟩ Tryz.func21 rfl (by kernel_rfl)
theorem aho:TRawOk afG rC:=mi (E:=amS) (ET:=av5) (EnvT.ofX (ax (ah wr (ah ahk al))) am ar aJ aq) av4
def alz:Env:=(eZ [] [274])
def aui:Hints:=(hZ [] [4])
def ack:SFn:=runF Tryz.prog alz aui Tryz.f28
def ayy:TH:=yZ
def zaw (w0:vV8):Option (Int×vV8×Unit) :=
 some (w0.2.2.1,w0,())
def ry:TRaw:={ ps:=(.cons (.bx 0 0) .unit),ins:=[.box 139 tT21],res:=(.int .i64),outs:=[.box 139 tT21],fn:=fun v w=>zaw w.1 }
def auh:TEnv:=(vZ [])
theorem aug:rawY Tryz.prog alz aui auh ayy [(0,0)] Tryz.f28 ry.ps ry.ins ry.res ry.outs=ry.fn:=by kernel_rfl
theorem acj:cB Tryz.prog G0 28 ack:=ak ⟨au,ac,ap,ac,an⟩ Tryz.func28 rfl (by kernel_rfl)
theorem ahm:TRawOk ack ry:=mi (E:=alz) (ET:=auh) (EnvT.ofX (ax al) am ar aJ aq) aug
theorem dg:∀ xs st p,ack xs st=some p→p.2=st:=fun xs st p hp=>jQ (by kernel_rfl) hp
def ajl:Env:={ pure:=[(19,aaH)],raw:=[(17,ae0),(21,afG),(28,ack)],glob:=G0,same:=[274],look:=[],ext:=[],quiet:=[28] }
def aqG:Hints:=(hZ [] [])
def ae7:PFn:=aF (runF Tryz.prog ajl aqG Tryz.f16)
def axC:TH:={ loops:=[],cuts:=[(4,[(7,{ keep:=[(1,(.bx 0 0)),(30,.bool)],mem:=[.box 139 tT21] })])],ro:=[],news:=[] }
def zci:Option Bool :=
(zdp ([[97]]:List (List UInt8))).bind fun p1 =>
 cond p1.1.isEmpty (
(zdt ([((0,1,()),0,1,false,([(3,([[97]]:List (List UInt8)),(0,0,[],()),1,[],())]:List vV1),())]:List vV5) []).bind fun r9 =>
 none) (
((p1.1.head? : Option vV8)).bind fun x2 =>
(zdt ([((0,1,()),0,1,false,([(3,([[97]]:List (List UInt8)),(0,0,[],()),1,[],())]:List vV1),())]:List vV5) []).bind fun r3 =>
(za0 r3 x2).bind fun q4 =>
(za0 r3 q4.2.1).bind fun q5 =>
(cond (decide (p1.2.1=0)) (some ((decide ((q4.1.length:Int)=1)),q5.2.1,())) (some (false,q5.2.1,())):Option (Bool×vV8×Unit)).bind fun v6 =>
 cond v6.1 ((atI q4.1 0).bind fun x7 =>
 cond (decide (x7.1=1)) (cond (decide ((q5.1.length:Int)=0)) ((zaw v6.2.1).bind fun q8 =>
 some (decide (q8.1=2))) (some false)) (some false)) (some false))
def yG:TFn:={ ps:=.unit,res:=.bool,fn:=fun v=>zci  }
def aqF:TEnv:={ pure:=[(19,tX)],look:=[],glob:=G0T,ty:=[(9,.str),(78,tT17),(135,tT13)],raw:=[(21,rC),(28,ry)],fresh:=[(17,aaM)] }
theorem aqE:runY Tryz.prog ajl aqG aqF axC Tryz.f16 yG.ps yG.res=yG.fn:=by kernel_rfl
theorem abj:aA Tryz.prog G0 16 ae7:=ai (ak ⟨au,(aj tY ac),(bN aaL (bN acE (bN acj ap))),ac,an⟩ Tryz.func16 rfl (by kernel_rfl))
theorem ag7:TOk ae7 yG:=az (E:=ajl) (ET:=aqF) (EnvT.ofX (ax (ah aaG al)) am (mh (ck aho rfl rfl (ck ahm rfl rfl ar)) rfl) aJ (mD ag0 rfl rfl rfl aq) (gV dg rfl rfl rfl mj)) aqE rfl
def ajs:Env:=(eZ [(144,yQ)] [274])
def aqR:Hints:=(hZ [(6,[4,6,7])] [])
def ae8:PFn:=aF (runF Tryz.prog ajs aqR Tryz.f73)
def axF:TH:={ joins:=[(18,{ keep:=[(6,(.own 0)),(7,(.int .i64)),(8,(.int .i64))],mem:=[.row true 3 (.int .i64)] }),(17,{ keep:=[(6,(.own 0))],mem:=[.row true 3 (.int .i64)] })],loops:=[(6,{ keep:=[(6,(.own 0)),(7,(.int .i64))],mem:=[.row true 3 (.int .i64)] })],ro:=[] }
def fY (r1:(List Int×Bool×Unit)) (y6:(Int×List Int×Unit)):Option ((Int×List Int×Unit)⊕(List Int×Bool×Unit)) :=
 cond (decide (y6.1<(r1.1.length:Int))) (
(atI r1.1 y6.1).bind fun x2 =>
 cond (decide (x2=42)) (
(ch (y6.2.1.length+([(-2)]:List Int).length)).bind fun u3 =>
 some (.inl ((IntKind.wrap .i64 (y6.1+1)),(y6.2.1++([(-2)]:List Int)),()))) (
 cond (decide (x2=63)) (
(ch (y6.2.1.length+([(-1)]:List Int).length)).bind fun u4 =>
 some (.inl ((IntKind.wrap .i64 (y6.1+1)),(y6.2.1++([(-1)]:List Int)),()))) (
(cond (decide (x2=92)) (
(cond (decide ((IntKind.wrap .i64 (y6.1+1))=(r1.1.length:Int))) (some (.inr (.inr (.inr ([],false,()))))) ((atI r1.1 (IntKind.wrap .i64 (y6.1+1))).bind fun x5 =>
 cond (!decide (x5=92)) ((atI r1.1 (IntKind.wrap .i64 (y6.1+1))).bind fun x6 =>
 cond (!decide (x6=42)) ((atI r1.1 (IntKind.wrap .i64 (y6.1+1))).bind fun x7 =>
 cond (!decide (x7=63)) (
 some (.inr (.inr (.inr ([],false,()))))) (
 some (.inl (y6.2.1,())))) (some (.inl (y6.2.1,())))) (some (.inl (y6.2.1,())))):Option ((List Int×Unit)⊕((Int×Int×List Int×Unit)⊕((Int×List Int×Unit)⊕(List Int×Bool×Unit))))).bind (aU fun v8 =>
(atI r1.1 (IntKind.wrap .i64 (y6.1+1))).bind fun x9 =>
 some (.inl ((IntKind.wrap .i64 (y6.1+1)),x9,v8.1,())))) (
 some (.inl (y6.1,x2,y6.2.1,()))):Option ((Int×Int×List Int×Unit)⊕((Int×List Int×Unit)⊕(List Int×Bool×Unit)))).bind (aU fun v10 =>
(ch (v10.2.2.1.length+([v10.2.1]:List Int).length)).bind fun u11 =>
 some (.inl ((IntKind.wrap .i64 (v10.1+1)),(v10.2.2.1++([v10.2.1]:List Int)),())))))) (
 some (.inr (y6.2.1,true,())))
def zcf (a0:List UInt8):Option (List Int×Bool×Unit) :=
(zb6 a0).bind fun r1 =>
 cond (!r1.2.1) (some ([],false,())) (cond (decide ((r1.1.length:Int)>64)) (
 some ([],false,())) (
 aH (fY r1) (0,[],())))
def yH:TFn:={ ps:=(.cons .str .unit),res:=(.tup (.cons (.sl (.int .i64)) (.cons .bool .unit))),fn:=fun v=>zcf v.1 }
def aqQ:TEnv:={ pure:=[(144,rx)],look:=[],glob:=G0T,ty:=[(3,(.int .i64))],raw:=[],fresh:=[] }
theorem aqP:runY Tryz.prog ajs aqR aqQ axF Tryz.f73 yH.ps yH.res=yH.fn:=by kernel_rfl
theorem abm:aA Tryz.prog G0 73 ae8:=ai (ak ⟨au,(aj pw ac),ap,ac,an⟩ Tryz.func73 rfl (by kernel_rfl))
theorem ag8:TOk ae8 yH:=az (E:=ajs) (ET:=aqQ) (EnvT.ofX (ax (ah wS al)) am ar aJ aq) aqP rfl
def ajk:Env:=(eZ [(73,ae8)] [274])
def aqD:Hints:=(hZ [(6,[0,3])] [])
def ae6:PFn:=aF (runF Tryz.prog ajk aqD Tryz.f18)
def axB:TH:={ loops:=[(6,{ keep:=[(3,(.int .i64))],mem:=[] })],ro:=[] }
def rq (a0:List (List UInt8)) (y6:(Int×Unit)):Option ((Int×Unit)⊕Int) :=
 cond (decide (y6.1<(a0.length:Int))) (
(atI a0 y6.1).bind fun x1 =>
(zcf x1).bind fun r2 =>
(atI a0 y6.1).bind fun x3 =>
 cond (decide (x3=[])) (some (.inr 8)) (cond (!r2.2.1) (
 some (.inr 8)) (
 some (.inl ((IntKind.wrap .i64 (y6.1+1)),()))))) (
 some (.inr 0))
def zcj (a0:List (List UInt8)):Option Int :=
 cond (decide ((a0.length:Int)=0)) (
 some 8) (
 cond (decide ((a0.length:Int)>8)) (
 some 9) (
 aH (rq a0) (0,())))
def yF:TFn:={ ps:=tT22,res:=(.int .i64),fn:=fun v=>zcj v.1 }
def aqC:TEnv:=(vZ [(73,yH)])
theorem aqB:runY Tryz.prog ajk aqD aqC axB Tryz.f18 yF.ps yF.res=yF.fn:=by kernel_rfl
theorem abi:aA Tryz.prog G0 18 ae6:=ai (ak ⟨au,(aj abm ac),ap,ac,an⟩ Tryz.func18 rfl (by kernel_rfl))
theorem ag6:TOk ae6 yF:=az (E:=ajk) (ET:=aqC) (EnvT.ofX (ax (ah ag8 al)) am ar aJ aq) aqB rfl
def amL:Env:=(eZ [(31,aaU),(32,yC)] [274])
def avS:Hints:=(hZ [] [6])
def afD:SFn:=runF Tryz.prog amL avS Tryz.f20
def ayT:TH:=yZ
def za4 (a1:List vV6) (w0:vV8):Option (Bool×vV8×Unit) :=
(zcy a1 w0.1).bind fun r1 =>
(zdi r1 w0.2.1).bind fun r2 =>
 some ((!r2),w0,())
def uw:TRaw:={ ps:=(.cons (.bx 0 0) (.cons (.sl tT19) .unit)),ins:=[.box 139 tT21],res:=.bool,outs:=[.box 139 tT21],fn:=fun v w=>za4 v.2.1 w.1 }
def avR:TEnv:=(vZ [(31,tZ),(32,rg)])
theorem avQ:rawY Tryz.prog amL avS avR ayT [(0,0)] Tryz.f20 uw.ps uw.ins uw.res uw.outs=uw.fn:=by kernel_rfl
theorem amK:cB Tryz.prog G0 20 afD:=ak ⟨au,(aj t8 (aj po ac)),ap,ac,an⟩ Tryz.func20 rfl (by kernel_rfl)
theorem avP:TRawOk afD uw:=mi (E:=amL) (ET:=avR) (EnvT.ofX (ax (ah aaT (ah wr al))) am ar aJ aq) avQ
theorem gb:∀ xs st p,afD xs st=some p→p.2=st:=fun xs st p hp=>jQ (by kernel_rfl) hp
def ah9:Env:=(eZ [] [274])
def aoM:Hints:=(hZ [(2,[0,3,5])] [])
def ah8:PFn:=aF (runF Tryz.prog ah9 aoM Tryz.f48)
def aw6:TH:={ loops:=[(2,{ keep:=[(3,(.bx 0 0)),(5,(.int .i64))],mem:=[.same] })],ro:=[3] }
def rf (a0:List vV2) (a1:(Int×Int×Unit)) (y2:(Int×Unit)):Option ((Int×Unit)⊕Int) :=
 cond (decide (y2.1<(a0.length:Int))) (
(atI a0 y2.1).bind fun x1 =>
 cond (eqV (.agg (.cons (.int .i64) tT16)) x1.1 a1) (
(atI a0 y2.1).bind fun x2 =>
 some (.inr x2.2.1)) (
 some (.inl ((IntKind.wrap .i64 (y2.1+1)),())))) (
 some (.inr 0))
def zdo (a0:List vV2) (a1:(Int×Int×Unit)):Option Int :=
 aH (rf a0 a1) (0,())
def aaN:TFn:={ ps:=(.cons (.sl tT14) tT23),res:=(.int .i64),fn:=fun v=>zdo v.1 v.2.1 }
def aoL:TEnv:=(vZ [])
theorem aoK:runY Tryz.prog ah9 aoM aoL aw6 Tryz.f48 aaN.ps aaN.res=aaN.fn:=by kernel_rfl
theorem ah7:aA Tryz.prog G0 48 ah8:=ai (ak ⟨au,ac,ap,ac,an⟩ Tryz.func48 rfl (by kernel_rfl))
theorem aoJ:TOk ah8 aaN:=az (E:=ah9) (ET:=aoL) (EnvT.ofX (ax al) am ar aJ aq) aoK rfl
def aj4:Env:=(eZ [(48,ah8)] [274])
def arM:Hints:=(hZ [] [])
def afc:PFn:=aF (runF Tryz.prog aj4 arM Tryz.f37)
def axU:TH:={ loops:=[],ro:=[3] }
def zc0 (a0:List vV2) (a1:(Int×Int×Unit)):Option Bool :=
(zdo a0 a1).bind fun r1 =>
(remT r1 2).bind fun t2 =>
 some (decide (t2=0))
def yL:TFn:={ ps:=(.cons (.sl tT14) tT23),res:=.bool,fn:=fun v=>zc0 v.1 v.2.1 }
def arL:TEnv:=(vZ [(48,aaN)])
theorem arK:runY Tryz.prog aj4 arM arL axU Tryz.f37 yL.ps yL.res=yL.fn:=by kernel_rfl
theorem abC:aA Tryz.prog G0 37 afc:=ai (ak ⟨au,(aj ah7 ac),ap,ac,an⟩ Tryz.func37 rfl (by kernel_rfl))
theorem ahc:TOk afc yL:=az (E:=aj4) (ET:=arL) (EnvT.ofX (ax (ah aoJ al)) am ar aJ aq) arK rfl
def akg:Env:=(eZ [] [274])
def ar2:Hints:=(hZ [(2,[2,3,5])] [])
def akf:PFn:=aF (runF Tryz.prog akg ar2 Tryz.f151)
def axY:TH:={ loops:=[(2,{ keep:=[(2,(.bx 0 0)),(3,(.bx 1 0)),(5,(.int .i64))],mem:=[.same,.same] })],ro:=[2,3] }
def wI (a0:vV1) (a1:vV2) (y2:(Int×Unit)):Option ((Int×Unit)⊕Bool) :=
 cond (decide (y2.1<(a0.2.2.2.2.1.length:Int))) (
(atI a0.2.2.2.2.1 y2.1).bind fun x1 =>
 cond (eqV tT14 x1 a1) (
 some (.inr true)) (
 some (.inl ((IntKind.wrap .i64 (y2.1+1)),())))) (
 some (.inr false))
def zbw (a0:vV1) (a1:vV2):Option Bool :=
 aH (wI a0 a1) (0,())
def abG:TFn:={ ps:=(.cons tT13 (.cons tT14 .unit)),res:=.bool,fn:=fun v=>zbw v.1 v.2.1 }
def ar1:TEnv:=(vZ [])
theorem ar0:runY Tryz.prog akg ar2 ar1 axY Tryz.f151 abG.ps abG.res=abG.fn:=by kernel_rfl
theorem ake:aA Tryz.prog G0 151 akf:=ai (ak ⟨au,ac,ap,ac,an⟩ Tryz.func151 rfl (by kernel_rfl))
theorem arZ:TOk akf abG:=az (E:=akg) (ET:=ar1) (EnvT.ofX (ax al) am ar aJ aq) ar0 rfl
def akP:Env:=(eZ [(37,afc),(151,akf)] [274])
def asT:Hints:=(hZ [(2,[0,1,5,7]),(5,[0,1,5,7,8])] [])
def akO:PFn:=aF (runF Tryz.prog akP asT Tryz.f79)
def ayc:TH:={ loops:=[(2,{ keep:=[(5,(.bx 0 0)),(7,(.int .i64))],mem:=[.same] }),(5,{ keep:=[(5,(.bx 0 0)),(8,(.int .i64))],mem:=[.same] })],ro:=[5] }
def wP (y2:(Int×Unit)) (a0:List vV5) (a1:List vV2) (a2:vV2) (y5:(Int×Unit)):Option ((Int×Unit)⊕((Int×Unit)⊕Bool)) :=
(atI a0 y2.1).bind fun x1 =>
 cond (decide (y5.1<(x1.2.2.2.2.1.length:Int))) (
(atI a0 y2.1).bind fun x2 =>
(atI x2.2.2.2.2.1 y5.1).bind fun x3 =>
(zbw x3 a2).bind fun r4 =>
 cond r4 ((atI a0 y2.1).bind fun x5 =>
(zc0 a1 x5.1).bind fun r6 =>
 cond r6 (
 some (.inr (.inr true))) (
 some (.inl ((IntKind.wrap .i64 (y5.1+1)),())))) (some (.inl ((IntKind.wrap .i64 (y5.1+1)),())))) (
 some (.inr (.inl ((IntKind.wrap .i64 (y2.1+1)),()))))
def wQ (a0:List vV5) (a1:List vV2) (a2:vV2) (y2:(Int×Unit)):Option ((Int×Unit)⊕Bool) :=
 cond (decide (y2.1<(a0.length:Int))) (
 aH (wP y2 a0 a1 a2) (0,())) (
 some (.inr false))
def zbi (a0:List vV5) (a1:List vV2) (a2:vV2):Option Bool :=
 aH (wQ a0 a1 a2) (0,())
def abV:TFn:={ ps:=(.cons (.sl tT17) (.cons (.sl tT14) (.cons tT14 .unit))),res:=.bool,fn:=fun v=>zbi v.1 v.2.1 v.2.2.1 }
def asS:TEnv:=(vZ [(37,yL),(151,abG)])
theorem asR:runY Tryz.prog akP asT asS ayc Tryz.f79 abV.ps abV.res=abV.fn:=by kernel_rfl
theorem akN:aA Tryz.prog G0 79 akO:=ai (ak ⟨au,(aj abC (aj ake ac)),ap,ac,an⟩ Tryz.func79 rfl (by kernel_rfl))
theorem asQ:TOk akO abV:=az (E:=akP) (ET:=asS) (EnvT.ofX (ax (ah ahc (ah arZ al))) am ar aJ aq) asR rfl
def ail:Env:=(eZ [(37,afc),(79,akO)] [274])
def ao2:Hints:=(hZ [(3,[0,1,5,6]),(6,[0,1,5,6,7])] [72])
def aik:PFn:=aF (runF Tryz.prog ail ao2 Tryz.f24)
def axa:TH:={ loops:=[(3,{ keep:=[(5,(.own 2)),(6,(.int .i64))],mem:=[.gone,.gone,.row true 156 tT19] }),(6,{ keep:=[(5,(.own 2)),(7,(.int .i64))],mem:=[.gone,.gone,.row true 156 tT19] })],cuts:=[(10,[(8,{ keep:=[(5,(.own 2)),(8,(.bx 3 0)),(9,(.bx 4 0)),(48,.bool)],mem:=[.gone,.gone,.row true 156 tT19,.box 135 tT13,.box 146 tT14] })])],ro:=[],news:=[] }
def lk (y3:(Int×List vV6×Unit)) (a0:List vV5) (a1:List vV2) (y6:(Int×List vV6×Unit)):Option ((Int×List vV6×Unit)⊕((Int×List vV6×Unit)⊕List vV6)) :=
(atI a0 y3.1).bind fun x1 =>
 cond (decide (y6.1<(x1.2.2.2.2.1.length:Int))) (
(atI a0 y3.1).bind fun x2 =>
(atI x2.2.2.2.2.1 y6.1).bind fun x3 =>
(atI a0 y3.1).bind fun x4 =>
(cond (decide (x3.1≥1)) (some ((decide (x3.1≤3)),y6.2.1,x3,(x4.1,y6.1,()),())) (some (false,y6.2.1,x3,(x4.1,y6.1,()),())):Option (Bool×List vV6×vV1×vV2×Unit)).bind fun v5 =>
 cond v5.1 ((atI a0 y3.1).bind fun x6 =>
(zc0 a1 x6.1).bind fun r7 =>
 cond r7 ((zbi a0 a1 v5.2.2.2.1).bind fun r8 =>
 cond (!r8) (
(atI a0 y3.1).bind fun x9 =>
(ch (v5.2.1.length+([(v5.2.2.2.1,v5.2.2.1,x9.2.2.1,())]:List vV6).length)).bind fun u10 =>
 some (.inl ((IntKind.wrap .i64 (y6.1+1)),(v5.2.1++([(v5.2.2.2.1,v5.2.2.1,x9.2.2.1,())]:List vV6)),()))) (
 some (.inl ((IntKind.wrap .i64 (y6.1+1)),v5.2.1,())))) (some (.inl ((IntKind.wrap .i64 (y6.1+1)),v5.2.1,())))) (some (.inl ((IntKind.wrap .i64 (y6.1+1)),v5.2.1,())))) (
 some (.inr (.inl ((IntKind.wrap .i64 (y3.1+1)),y6.2.1,()))))
def wm (a0:List vV5) (a1:List vV2) (y3:(Int×List vV6×Unit)):Option ((Int×List vV6×Unit)⊕List vV6) :=
 cond (decide (y3.1<(a0.length:Int))) (
 aH (lk y3 a0 a1) (0,y3.2.1,())) (
 some (.inr y3.2.1))
def zdk (a0:List vV5) (a1:List vV2):Option (List vV6) :=
 aH (wm a0 a1) (0,[],())
def aaR:TFn:={ ps:=(.cons (.sl tT17) (.cons (.sl tT14) .unit)),res:=(.sl tT19),fn:=fun v=>zdk v.1 v.2.1 }
def ao1:TEnv:={ pure:=[(37,yL),(79,abV)],look:=[],glob:=G0T,ty:=[(156,tT19)],raw:=[],fresh:=[] }
theorem ao0:runY Tryz.prog ail ao2 ao1 axa Tryz.f24 aaR.ps aaR.res=aaR.fn:=by kernel_rfl
theorem aij:aA Tryz.prog G0 24 aik:=ai (ak ⟨au,(aj abC (aj akN ac)),ap,ac,an⟩ Tryz.func24 rfl (by kernel_rfl))
theorem aoZ:TOk aik aaR:=az (E:=ail) (ET:=ao1) (EnvT.ofX (ax (ah ahc (ah asQ al))) am ar aJ aq) ao0 rfl
def aiB:Env:=(eZ [] [274])
def apv:Hints:=(hZ [] [])
def ae2:PFn:=aF (runF Tryz.prog aiB apv Tryz.f207)
def axi:TH:=yZ
def zdc (a0:Int):Option Int :=
 cond (decide (a0=1)) (
 some 1) (
 cond (decide (a0=2)) (some 2) (cond (decide (a0=4)) (
 some 2) (
 cond (decide (a0=3)) (
 some 3) (
 some 0))))
def yA:TFn:={ ps:=tT16,res:=(.int .i64),fn:=fun v=>zdc v.1 }
def apu:TEnv:=(vZ [])
theorem apt:runY Tryz.prog aiB apv apu axi Tryz.f207 yA.ps yA.res=yA.fn:=by kernel_rfl
theorem aa1:aA Tryz.prog G0 207 ae2:=ai (ak ⟨au,ac,ap,ac,an⟩ Tryz.func207 rfl (by kernel_rfl))
theorem ag2:TOk ae2 yA:=az (E:=aiB) (ET:=apu) (EnvT.ofX (ax al) am ar aJ aq) apt rfl
def aiV:Env:=(eZ [] [274])
def ap4:Hints:=(hZ [] [])
def ae5:PFn:=aF (runF Tryz.prog aiV ap4 Tryz.f352)
def axs:TH:=yZ
def zcs (a0:Int) (a1:Int):Option Int :=
 cond (decide (a0<a1)) (
 some (-1)) (
 cond (decide (a0>a1)) (
 some 1) (
 some 0))
def yE:TFn:={ ps:=(.cons (.int .i64) tT16),res:=(.int .i64),fn:=fun v=>zcs v.1 v.2.1 }
def ap3:TEnv:=(vZ [])
theorem ap2:runY Tryz.prog aiV ap4 ap3 axs Tryz.f352 yE.ps yE.res=yE.fn:=by kernel_rfl
theorem aa9:aA Tryz.prog G0 352 ae5:=ai (ak ⟨au,ac,ap,ac,an⟩ Tryz.func352 rfl (by kernel_rfl))
theorem ag5:TOk ae5 yE:=az (E:=aiV) (ET:=ap3) (EnvT.ofX (ax al) am ar aJ aq) ap2 rfl
def aln:Env:=(eZ [(352,ae5)] [274])
def atP:Hints:=(hZ [(2,[0,1,5])] [])
def afm:PFn:=aF (runF Tryz.prog aln atP Tryz.f322)
def ayr:TH:={ joins:=[(6,{ keep:=[],mem:=[] })],loops:=[(2,{ keep:=[(5,(.int .i64))],mem:=[] })],ro:=[] }
def kp (a0:List UInt8) (a1:List UInt8) (y2:(Int×Unit)):Option ((Int×Unit)⊕(Unit⊕Int)) :=
 cond (decide (y2.1<(a0.length:Int))) (cond (decide (y2.1<(a1.length:Int))) (
(atI a0 y2.1).bind fun b1 =>
(atI a1 y2.1).bind fun b2 =>
 cond (!decide ((b1.toNat:Int)=(b2.toNat:Int))) (
(atI a0 y2.1).bind fun b3 =>
(atI a1 y2.1).bind fun b4 =>
(zcs (IntKind.wrap .i64 (b3.toNat:Int)) (IntKind.wrap .i64 (b4.toNat:Int))).bind fun r5 =>
 some (.inr (.inr r5))) (
 some (.inl ((IntKind.wrap .i64 (y2.1+1)),())))) (
 some (.inr (.inl ())))) (some (.inr (.inl ())))
def zb3 (a0:List UInt8) (a1:List UInt8):Option Int :=
(aH (kp a0 a1) (0,()):Option (Unit⊕Int)).bind (aU fun v6 =>
(zcs (a0.length:Int) (a1.length:Int)).bind fun r7 =>
 some r7)
def yR:TFn:={ ps:=(.cons .str (.cons .str .unit)),res:=(.int .i64),fn:=fun v=>zb3 v.1 v.2.1 }
def atO:TEnv:=(vZ [(352,yE)])
theorem atN:runY Tryz.prog aln atP atO ayr Tryz.f322 yR.ps yR.res=yR.fn:=by kernel_rfl
theorem acd:aA Tryz.prog G0 322 afm:=ai (ak ⟨au,(aj aa9 ac),ap,ac,an⟩ Tryz.func322 rfl (by kernel_rfl))
theorem ahj:TOk afm yR:=az (E:=aln) (ET:=atO) (EnvT.ofX (ax (ah ag5 al)) am ar aJ aq) atN rfl
def amC:Env:=(eZ [(322,afm)] [274])
def avA:Hints:=(hZ [(2,[0,1,5])] [])
def acB:PFn:=aF (runF Tryz.prog amC avA Tryz.f273)
def ayP:TH:={ joins:=[(7,{ keep:=[],mem:=[] })],loops:=[(2,{ keep:=[(5,(.int .i64))],mem:=[] })],ro:=[] }
def lz (a0:List (List UInt8)) (a1:List (List UInt8)) (y2:(Int×Unit)):Option ((Int×Unit)⊕(Unit⊕Int)) :=
 cond (decide (y2.1<(a0.length:Int))) (cond (decide (y2.1<(a1.length:Int))) (
(atI a0 y2.1).bind fun x1 =>
(atI a1 y2.1).bind fun x2 =>
(zb3 x1 x2).bind fun r3 =>
 cond (!decide (r3=0)) (
 some (.inr (.inr r3))) (
 some (.inl ((IntKind.wrap .i64 (y2.1+1)),())))) (
 some (.inr (.inl ())))) (some (.inr (.inl ())))
def za9 (a0:List (List UInt8)) (a1:List (List UInt8)):Option Int :=
(aH (lz a0 a1) (0,()):Option (Unit⊕Int)).bind (aU fun v4 =>
 cond (decide ((a0.length:Int)<(a1.length:Int))) (
 some (-1)) (
 cond (decide ((a0.length:Int)>(a1.length:Int))) (
 some 1) (
 some 0)))
def uq:TFn:={ ps:=(.cons (.sl .str) tT22),res:=(.int .i64),fn:=fun v=>za9 v.1 v.2.1 }
def avz:TEnv:=(vZ [(322,yR)])
theorem avy:runY Tryz.prog amC avA avz ayP Tryz.f273 uq.ps uq.res=uq.fn:=by kernel_rfl
theorem ur:aA Tryz.prog G0 273 acB:=ai (ak ⟨au,(aj acd ac),ap,ac,an⟩ Tryz.func273 rfl (by kernel_rfl))
theorem acA:TOk acB uq:=az (E:=amC) (ET:=avz) (EnvT.ofX (ax (ah ahj al)) am ar aJ aq) avy rfl
def ak0:Env:=(eZ [(273,acB)] [274])
def atd:Hints:=(hZ [] [])
def akZ:PFn:=aF (runF Tryz.prog ak0 atd Tryz.f208)
def ayh:TH:={ loops:=[],ro:=[2,3] }
def zbd (a0:vV4) (a1:vV4):Option Int :=
(za9 a0.1 a1.1).bind fun r1 =>
 cond (!decide (r1=0)) (
 some r1) (
 some (IntKind.wrap .i64 (a0.2.1-a1.2.1)))
def ab1:TFn:={ ps:=(.cons tT20 (.cons tT20 .unit)),res:=(.int .i64),fn:=fun v=>zbd v.1 v.2.1 }
def atc:TEnv:=(vZ [(273,uq)])
theorem atb:runY Tryz.prog ak0 atd atc ayh Tryz.f208 ab1.ps ab1.res=ab1.fn:=by kernel_rfl
theorem akY:aA Tryz.prog G0 208 akZ:=ai (ak ⟨au,(aj ur ac),ap,ac,an⟩ Tryz.func208 rfl (by kernel_rfl))
theorem ata:TOk akZ ab1:=az (E:=ak0) (ET:=atc) (EnvT.ofX (ax (ah acA al)) am ar aJ aq) atb rfl
def akq:Env:=(eZ [(207,ae2),(208,akZ)] [274])
def ash:Hints:=(hZ [(3,[0,3,4]),(7,[0,3,4,5,6]),(12,[0,3,4,5,6,7])] [19,25])
def akp:PFn:=aF (runF Tryz.prog akq ash Tryz.f136)
def ax2:TH:={ joins:=[(9,{ keep:=[(3,(.own 1)),(5,(.bx 2 0)),(6,(.int .i64))],mem:=[.gone,.row true 211 tT20,.box 211 tT20] }),(10,{ keep:=[(3,(.own 1)),(5,(.bx 2 0))],mem:=[.gone,.row true 211 tT20,.box 211 tT20] }),(15,{ keep:=[(3,(.own 1)),(5,(.bx 2 0))],mem:=[.gone,.row true 211 tT20,.box 211 tT20] })],loops:=[(3,{ keep:=[(3,(.own 1)),(4,(.int .i64))],mem:=[.gone,.row true 211 tT20] }),(7,{ keep:=[(3,(.own 1)),(5,(.bx 2 0)),(6,(.int .i64))],mem:=[.gone,.row true 211 tT20,.box 211 tT20] }),(12,{ keep:=[(3,(.own 1)),(5,(.bx 2 0)),(7,(.int .i64))],mem:=[.gone,.row true 211 tT20,.box 211 tT20] })],ro:=[] }
def nY (y7:(Int×List vV4×vV4×Unit)):Option ((Int×List vV4×vV4×Unit)⊕((Int×List vV4×vV4×Unit)⊕(vV10⊕List vV4))) :=
 cond (decide (y7.1<(y7.2.1.length:Int))) ((inI y7.2.1.length y7.1).bind fun i4 =>
(y7.2.1[i4]?).bind fun x5 =>
(zbd x5 y7.2.2.1).bind fun r6 =>
 cond (decide (r6<0)) (
 some (.inl ((IntKind.wrap .i64 (y7.1+1)),y7.2.1,y7.2.2.1,()))) (
 some (.inr (.inl (y7.1,y7.2.1,y7.2.2.1,()))))) (some (.inr (.inl (y7.1,y7.2.1,y7.2.2.1,()))))
def iz (v7:(Int×List vV4×vV4×Unit)) (y12:(Int×List vV4×vV4×Unit)):Option ((Int×List vV4×vV4×Unit)⊕((List vV4×vV4×Unit)⊕(vV10⊕List vV4))) :=
 cond (decide (y12.1>v7.1)) (
(inI y12.2.1.length (IntKind.wrap .i64 (y12.1-1))).bind fun i13 =>
(y12.2.1[i13]?).bind fun x14 =>
(inI y12.2.1.length y12.1).bind fun i15 =>
(y12.2.1[i15]?).bind fun x16 =>
 some (.inl ((IntKind.wrap .i64 (y12.1-1)),(y12.2.1.set i15 x14),y12.2.2.1,()))) (
 some (.inr (.inl (y12.2.1,y12.2.2.1,()))))
def rv (a0:List vV6) (y3:vV10):Option (vV10⊕List vV4) :=
 cond (decide (y3.1<(a0.length:Int))) (
(atI a0 y3.1).bind fun x1 =>
(atI a0 y3.1).bind fun x2 =>
(zdc x2.2.1.1).bind fun r3 =>
(aH (nY) (0,y3.2.1,(x1.2.1.2.1,r3,()),()):Option ((Int×List vV4×vV4×Unit)⊕(vV10⊕List vV4))).bind (aU fun v7 =>
(cond (decide (v7.1<(v7.2.1.length:Int))) ((inI v7.2.1.length v7.1).bind fun i8 =>
(v7.2.1[i8]?).bind fun x9 =>
(zbd x9 v7.2.2.1).bind fun r10 =>
 cond (decide (r10=0)) (
 some (.inr (.inl ((IntKind.wrap .i64 (y3.1+1)),v7.2.1,())))) (
 some (.inl (v7.2.1,v7.2.2.1,())))) (some (.inl (v7.2.1,v7.2.2.1,()))):Option ((List vV4×vV4×Unit)⊕(vV10⊕List vV4))).bind (aU fun v11 =>
(ch (v11.1.length+([v11.2.1]:List vV4).length)).bind fun u12 =>
(aH (iz v7) ((IntKind.wrap .i64 (((v11.1++([v11.2.1]:List vV4)).length:Int)-1)),(v11.1++([v11.2.1]:List vV4)),v11.2.1,()):Option ((List vV4×vV4×Unit)⊕(vV10⊕List vV4))).bind (aU fun v17 =>
(inI v17.1.length v7.1).bind fun i18 =>
(v17.1[i18]?).bind fun x19 =>
 some (.inl ((IntKind.wrap .i64 (y3.1+1)),(v17.1.set i18 v17.2.1),())))))) (
 some (.inr y3.2.1))
def zbs (a0:List vV6):Option (List vV4) :=
 aH (rv a0) (0,[],())
def abJ:TFn:={ ps:=(.cons (.sl tT19) .unit),res:=(.sl tT20),fn:=fun v=>zbs v.1 }
def asg:TEnv:={ pure:=[(207,yA),(208,ab1)],look:=[],glob:=G0T,ty:=[(211,tT20)],raw:=[],fresh:=[] }
theorem asf:runY Tryz.prog akq ash asg ax2 Tryz.f136 abJ.ps abJ.res=abJ.fn:=by kernel_rfl
theorem ako:aA Tryz.prog G0 136 akp:=ai (ak ⟨au,(aj aa1 (aj akY ac)),ap,ac,an⟩ Tryz.func136 rfl (by kernel_rfl))
theorem ase:TOk akp abJ:=az (E:=akq) (ET:=asg) (EnvT.ofX (ax (ah ag2 (ah ata al))) am ar aJ aq) asf rfl
def ajj:Env:=(eZ [(73,ae8),(144,yQ)] [274])
def aqA:Hints:=(hZ [(8,[5,7,9,10]),(12,[5,7,9,10,11,12])] [])
def aji:PFn:=aF (runF Tryz.prog ajj aqA Tryz.f218)
def axA:TH:={ joins:=[(18,{ keep:=[(9,(.own 0))],mem:=[.row false 4 .bool] })],loops:=[(8,{ keep:=[(9,(.own 0)),(10,(.int .i64))],mem:=[.row false 4 .bool] }),(12,{ keep:=[(9,(.own 0)),(11,(.own 1)),(12,(.int .i64))],mem:=[.row false 4 .bool,.row false 4 .bool] })],cuts:=[(16,[(11,{ keep:=[(9,(.own 0)),(11,(.own 1)),(74,(.own 1)),(75,(.int .i64)),(84,.bool)],mem:=[.row false 4 .bool,.row false 4 .bool] })])],ro:=[],news:=[] }
def jJ (y8:(Int×List Bool×Unit)) (r1:(List Int×Bool×Unit)) (r2:(List Int×Bool×Unit)) (y12:(Int×List Bool×List Bool×Unit)):Option ((Int×List Bool×List Bool×Unit)⊕((Int×List Bool×Unit)⊕((List Bool×Unit)⊕Bool))) :=
 cond (decide (y12.1≤(r2.1.length:Int))) (
(atI r1.1 y8.1).bind fun x7 =>
 cond (decide (x7=(-2))) (
(inI y12.2.1.length y12.1).bind fun i8 =>
(y12.2.1[i8]?).bind fun x9 =>
 cond x9 ((inI y12.2.2.1.length y12.1).bind fun i10 =>
(y12.2.2.1[i10]?).bind fun x11 =>
 some (.inl ((IntKind.wrap .i64 (y12.1+1)),y12.2.1,(y12.2.2.1.set i10 true),()))) (cond (decide (y12.1>0)) ((inI y12.2.2.1.length (IntKind.wrap .i64 (y12.1-1))).bind fun i12 =>
(y12.2.2.1[i12]?).bind fun x13 =>
(inI y12.2.2.1.length y12.1).bind fun i14 =>
(y12.2.2.1[i14]?).bind fun x15 =>
 some (.inl ((IntKind.wrap .i64 (y12.1+1)),y12.2.1,(y12.2.2.1.set i14 x13),()))) ((inI y12.2.2.1.length y12.1).bind fun i16 =>
(y12.2.2.1[i16]?).bind fun x17 =>
 some (.inl ((IntKind.wrap .i64 (y12.1+1)),y12.2.1,(y12.2.2.1.set i16 false),()))))) (
(cond (decide (y12.1>0)) ((inI y12.2.1.length (IntKind.wrap .i64 (y12.1-1))).bind fun i18 =>
(y12.2.1[i18]?).bind fun x19 =>
 some (y12.1,x19,y12.2.1,y12.2.2.1,())) (some (y12.1,false,y12.2.1,y12.2.2.1,())):Option (Int×Bool×List Bool×List Bool×Unit)).bind fun v20 =>
 cond v20.2.1 ((atI r1.1 y8.1).bind fun x21 =>
 cond (decide (x21=(-1))) ((inI v20.2.2.2.1.length v20.1).bind fun i22 =>
(v20.2.2.2.1[i22]?).bind fun x23 =>
 some (.inl ((IntKind.wrap .i64 (y12.1+1)),v20.2.2.1,(v20.2.2.2.1.set i22 true),()))) ((atI r1.1 y8.1).bind fun x24 =>
(atI r2.1 (IntKind.wrap .i64 (y12.1-1))).bind fun x25 =>
(inI v20.2.2.2.1.length v20.1).bind fun i26 =>
(v20.2.2.2.1[i26]?).bind fun x27 =>
 some (.inl ((IntKind.wrap .i64 (y12.1+1)),v20.2.2.1,(v20.2.2.2.1.set i26 (decide (x24=x25))),())))) ((inI v20.2.2.2.1.length v20.1).bind fun i28 =>
(v20.2.2.2.1[i28]?).bind fun x29 =>
 some (.inl ((IntKind.wrap .i64 (y12.1+1)),v20.2.2.1,(v20.2.2.2.1.set i28 false),()))))) (
 some (.inr (.inl ((IntKind.wrap .i64 (y8.1+1)),y12.2.2.1,()))))
def nW (r1:(List Int×Bool×Unit)) (r2:(List Int×Bool×Unit)) (y8:(Int×List Bool×Unit)):Option ((Int×List Bool×Unit)⊕((List Bool×Unit)⊕Bool)) :=
 cond (decide (y8.1<(r1.1.length:Int))) (
(mkT (IntKind.wrap .i64 ((r2.1.length:Int)+1)) (IntKind.wrap .i64 ((r2.1.length:Int)+1))).bind fun u6 =>
 aH (jJ y8 r1 r2) (0,y8.2.1,(List.replicate (IntKind.wrap .i64 ((r2.1.length:Int)+1)).toNat false),())) (
 some (.inr (.inl (y8.2.1,()))))
def zck (a0:List UInt8) (a1:List UInt8):Option Bool :=
(zcf a0).bind fun r1 =>
(zb6 a1).bind fun r2 =>
 cond (!r1.2.1) (some false) (cond (!r2.2.1) (
 some false) (
(mkT (IntKind.wrap .i64 ((r2.1.length:Int)+1)) (IntKind.wrap .i64 ((r2.1.length:Int)+1))).bind fun u3 =>
(inI (List.replicate (IntKind.wrap .i64 ((r2.1.length:Int)+1)).toNat false).length 0).bind fun i4 =>
((List.replicate (IntKind.wrap .i64 ((r2.1.length:Int)+1)).toNat false)[i4]?).bind fun x5 =>
(aH (nW r1 r2) (0,((List.replicate (IntKind.wrap .i64 ((r2.1.length:Int)+1)).toNat false).set i4 true),()):Option ((List Bool×Unit)⊕Bool)).bind (aU fun v30 =>
(inI v30.1.length (r2.1.length:Int)).bind fun i31 =>
(v30.1[i31]?).bind fun x32 =>
 some x32)))
def abh:TFn:={ ps:=(.cons .str (.cons .str .unit)),res:=.bool,fn:=fun v=>zck v.1 v.2.1 }
def aqz:TEnv:={ pure:=[(73,yH),(144,rx)],look:=[],glob:=G0T,ty:=[(4,.bool)],raw:=[],fresh:=[] }
theorem aqy:runY Tryz.prog ajj aqA aqz axA Tryz.f218 abh.ps abh.res=abh.fn:=by kernel_rfl
theorem ajh:aA Tryz.prog G0 218 aji:=ai (ak ⟨au,(aj abm (aj pw ac)),ap,ac,an⟩ Tryz.func218 rfl (by kernel_rfl))
theorem aqx:TOk aji abh:=az (E:=ajj) (ET:=aqz) (EnvT.ofX (ax (ah ag8 (ah wS al))) am ar aJ aq) aqy rfl
def aka:Env:=(eZ [(18,ae6),(218,aji)] [274])
def arU:Hints:=(hZ [(6,[0,1,5,6]),(10,[0,1,5,6,7,8])] [])
def aj9:PFn:=aF (runF Tryz.prog aka arU Tryz.f146)
def axW:TH:={ joins:=[(16,{ keep:=[(5,(.own 0))],mem:=[.row false 4 .bool] })],loops:=[(6,{ keep:=[(5,(.own 0)),(6,(.int .i64))],mem:=[.row false 4 .bool] }),(10,{ keep:=[(5,(.own 0)),(7,(.own 1)),(8,(.int .i64))],mem:=[.row false 4 .bool,.row false 4 .bool] })],cuts:=[(14,[(11,{ keep:=[(5,(.own 0)),(7,(.own 1)),(57,(.own 1)),(58,(.int .i64)),(67,.bool)],mem:=[.row false 4 .bool,.row false 4 .bool] })])],ro:=[],news:=[] }
def jK (y6:(Int×List Bool×Unit)) (a0:List (List UInt8)) (a1:List (List UInt8)) (y10:(Int×List Bool×List Bool×Unit)):Option ((Int×List Bool×List Bool×Unit)⊕((Int×List Bool×Unit)⊕((List Bool×Unit)⊕Bool))) :=
 cond (decide (y10.1≤(a1.length:Int))) (
(atI a0 y6.1).bind fun x6 =>
 cond (decide (x6=[42,42])) (
(inI y10.2.1.length y10.1).bind fun i7 =>
(y10.2.1[i7]?).bind fun x8 =>
 cond x8 ((inI y10.2.2.1.length y10.1).bind fun i9 =>
(y10.2.2.1[i9]?).bind fun x10 =>
 some (.inl ((IntKind.wrap .i64 (y10.1+1)),y10.2.1,(y10.2.2.1.set i9 true),()))) (cond (decide (y10.1>0)) ((inI y10.2.2.1.length (IntKind.wrap .i64 (y10.1-1))).bind fun i11 =>
(y10.2.2.1[i11]?).bind fun x12 =>
(inI y10.2.2.1.length y10.1).bind fun i13 =>
(y10.2.2.1[i13]?).bind fun x14 =>
 some (.inl ((IntKind.wrap .i64 (y10.1+1)),y10.2.1,(y10.2.2.1.set i13 x12),()))) ((inI y10.2.2.1.length y10.1).bind fun i15 =>
(y10.2.2.1[i15]?).bind fun x16 =>
 some (.inl ((IntKind.wrap .i64 (y10.1+1)),y10.2.1,(y10.2.2.1.set i15 false),()))))) (
(cond (decide (y10.1>0)) ((inI y10.2.1.length (IntKind.wrap .i64 (y10.1-1))).bind fun i17 =>
(y10.2.1[i17]?).bind fun x18 =>
 some (y10.1,x18,y10.2.1,y10.2.2.1,())) (some (y10.1,false,y10.2.1,y10.2.2.1,())):Option (Int×Bool×List Bool×List Bool×Unit)).bind fun v19 =>
 cond v19.2.1 ((atI a0 y6.1).bind fun x20 =>
(atI a1 (IntKind.wrap .i64 (y10.1-1))).bind fun x21 =>
(zck x20 x21).bind fun r22 =>
(inI v19.2.2.2.1.length v19.1).bind fun i23 =>
(v19.2.2.2.1[i23]?).bind fun x24 =>
 some (.inl ((IntKind.wrap .i64 (y10.1+1)),v19.2.2.1,(v19.2.2.2.1.set i23 r22),()))) ((inI v19.2.2.2.1.length v19.1).bind fun i25 =>
(v19.2.2.2.1[i25]?).bind fun x26 =>
 some (.inl ((IntKind.wrap .i64 (y10.1+1)),v19.2.2.1,(v19.2.2.2.1.set i25 false),()))))) (
 some (.inr (.inl ((IntKind.wrap .i64 (y6.1+1)),y10.2.2.1,()))))
def nX (a0:List (List UInt8)) (a1:List (List UInt8)) (y6:(Int×List Bool×Unit)):Option ((Int×List Bool×Unit)⊕((List Bool×Unit)⊕Bool)) :=
 cond (decide (y6.1<(a0.length:Int))) (
(mkT (IntKind.wrap .i64 ((a1.length:Int)+1)) (IntKind.wrap .i64 ((a1.length:Int)+1))).bind fun u5 =>
 aH (jK y6 a0 a1) (0,y6.2.1,(List.replicate (IntKind.wrap .i64 ((a1.length:Int)+1)).toNat false),())) (
 some (.inr (.inl (y6.2.1,()))))
def zby (a0:List (List UInt8)) (a1:List (List UInt8)):Option Bool :=
(zcj a0).bind fun r1 =>
 cond (!decide (r1=0)) (
 some false) (
(mkT (IntKind.wrap .i64 ((a1.length:Int)+1)) (IntKind.wrap .i64 ((a1.length:Int)+1))).bind fun u2 =>
(inI (List.replicate (IntKind.wrap .i64 ((a1.length:Int)+1)).toNat false).length 0).bind fun i3 =>
((List.replicate (IntKind.wrap .i64 ((a1.length:Int)+1)).toNat false)[i3]?).bind fun x4 =>
(aH (nX a0 a1) (0,((List.replicate (IntKind.wrap .i64 ((a1.length:Int)+1)).toNat false).set i3 true),()):Option ((List Bool×Unit)⊕Bool)).bind (aU fun v27 =>
(inI v27.1.length (a1.length:Int)).bind fun i28 =>
(v27.1[i28]?).bind fun x29 =>
 some x29))
def abE:TFn:={ ps:=(.cons (.sl .str) tT22),res:=.bool,fn:=fun v=>zby v.1 v.2.1 }
def arT:TEnv:={ pure:=[(18,yF),(218,abh)],look:=[],glob:=G0T,ty:=[(4,.bool)],raw:=[],fresh:=[] }
theorem arS:runY Tryz.prog aka arU arT axW Tryz.f146 abE.ps abE.res=abE.fn:=by kernel_rfl
theorem aj8:aA Tryz.prog G0 146 aj9:=ai (ak ⟨au,(aj abi (aj ajh ac)),ap,ac,an⟩ Tryz.func146 rfl (by kernel_rfl))
theorem arR:TOk aj9 abE:=az (E:=aka) (ET:=arT) (EnvT.ofX (ax (ah ag6 (ah aqx al))) am ar aJ aq) arS rfl
def ahV:Env:=(eZ [(207,ae2),(273,acB)] [274])
def aoq:Hints:=(hZ [(3,[0,1,2,7,8])] [])
def aaF:PFn:=aF (runF Tryz.prog ahV aoq Tryz.f285)
def aw0:TH:={ loops:=[(3,{ keep:=[(7,(.own 0)),(8,(.int .i64))],mem:=[.row true 156 tT19] })],ro:=[] }
def wi (a0:List vV6) (a1:List (List UInt8)) (a2:Int) (y3:(Int×List vV6×Unit)):Option ((Int×List vV6×Unit)⊕List vV6) :=
 cond (decide (y3.1<(a0.length:Int))) (
(atI a0 y3.1).bind fun x1 =>
(zdc x1.2.1.1).bind fun r2 =>
 cond (decide (r2=a2)) ((atI a0 y3.1).bind fun x3 =>
(za9 x3.2.1.2.1 a1).bind fun r4 =>
 cond (decide (r4=0)) (
(atI a0 y3.1).bind fun x5 =>
(ch (y3.2.1.length+([x5]:List vV6).length)).bind fun u6 =>
 some (.inl ((IntKind.wrap .i64 (y3.1+1)),(y3.2.1++([x5]:List vV6)),()))) (
 some (.inl ((IntKind.wrap .i64 (y3.1+1)),y3.2.1,())))) (some (.inl ((IntKind.wrap .i64 (y3.1+1)),y3.2.1,())))) (
 some (.inr y3.2.1))
def zdu (a0:List vV6) (a1:List (List UInt8)) (a2:Int):Option (List vV6) :=
 aH (wi a0 a1 a2) (0,[],())
def tV:TFn:={ ps:=(.cons (.sl tT19) (.cons (.sl .str) tT16)),res:=(.sl tT19),fn:=fun v=>zdu v.1 v.2.1 v.2.2.1 }
def aoo:TEnv:={ pure:=[(207,yA),(273,uq)],look:=[],glob:=G0T,ty:=[(156,tT19)],raw:=[],fresh:=[] }
theorem aon:runY Tryz.prog ahV aoq aoo aw0 Tryz.f285 tV.ps tV.res=tV.fn:=by kernel_rfl
theorem tW:aA Tryz.prog G0 285 aaF:=ai (ak ⟨au,(aj aa1 (aj ur ac)),ap,ac,an⟩ Tryz.func285 rfl (by kernel_rfl))
theorem aaE:TOk aaF tV:=az (E:=ahV) (ET:=aoo) (EnvT.ofX (ax (ah ag2 (ah acA al))) am ar aJ aq) aon rfl
def ak3:Env:=(eZ [(322,afm),(352,ae5)] [274])
def ath:Hints:=(hZ [] [])
def ak2:PFn:=aF (runF Tryz.prog ak3 ath Tryz.f329)
def ayi:TH:={ loops:=[],ro:=[2,3] }
def zbc (a0:vV3) (a1:vV3):Option Int :=
 cond (!decide (a0.1=a1.1)) (
(zcs a0.1 a1.1).bind fun r1 =>
 some r1) (
 cond (!decide (a0.2.1=a1.2.1)) (
(zcs a0.2.1 a1.2.1).bind fun r2 =>
 some r2) (
(zb3 a0.2.2.1 a1.2.2.1).bind fun r3 =>
 some r3))
def ab2:TFn:={ ps:=(.cons tT15 (.cons tT15 .unit)),res:=(.int .i64),fn:=fun v=>zbc v.1 v.2.1 }
def atg:TEnv:=(vZ [(322,yR),(352,yE)])
theorem atf:runY Tryz.prog ak3 ath atg ayi Tryz.f329 ab2.ps ab2.res=ab2.fn:=by kernel_rfl
theorem ak1:aA Tryz.prog G0 329 ak2:=ai (ak ⟨au,(aj acd (aj aa9 ac)),ap,ac,an⟩ Tryz.func329 rfl (by kernel_rfl))
theorem ate:TOk ak2 ab2:=az (E:=ak3) (ET:=atg) (EnvT.ofX (ax (ah ahj (ah ag5 al))) am ar aJ aq) atf rfl
def akh:Env:=(eZ [(329,ak2)] [274])
def ar5:Hints:=(hZ [(4,[0,3,5,6,7])] [])
def afd:PFn:=aF (runF Tryz.prog akh ar5 Tryz.f286)
def axZ:TH:={ joins:=[(13,{ keep:=[(3,(.bx 0 0)),(5,(.own 1)),(6,.bool)],mem:=[.same,.row true 132 tT15] }),(12,{ keep:=[(3,(.bx 0 0)),(5,(.own 1)),(6,.bool)],mem:=[.same,.row true 132 tT15] })],loops:=[(4,{ keep:=[(3,(.bx 0 0)),(5,(.own 1)),(6,.bool),(7,(.int .i64))],mem:=[.same,.row true 132 tT15] })],ro:=[3] }
def ru (a0:List vV3) (a1:vV3) (y4:(Bool×Int×List vV3×Unit)):Option ((Bool×Int×List vV3×Unit)⊕((Bool×List vV3×Unit)⊕List vV3)) :=
 cond (decide (y4.2.1<(a0.length:Int))) (
(atI a0 y4.2.1).bind fun x1 =>
(zbc a1 x1).bind fun r2 =>
 cond (decide (r2=0)) (
 some (.inr (.inr a0))) (
(cond (decide (r2<0)) (cond (!y4.1) (
(ch (y4.2.2.1.length+([a1]:List vV3).length)).bind fun u3 =>
 some (.inl (true,(y4.2.2.1++([a1]:List vV3)),()))) (
 some (.inl (y4.1,y4.2.2.1,())))) (some (.inl (y4.1,y4.2.2.1,()))):Option ((Bool×List vV3×Unit)⊕((Bool×Int×List vV3×Unit)⊕((Bool×List vV3×Unit)⊕List vV3)))).bind (aU fun v4 =>
(atI a0 y4.2.1).bind fun x5 =>
(ch (v4.2.1.length+([x5]:List vV3).length)).bind fun u6 =>
 some (.inl (v4.1,(IntKind.wrap .i64 (y4.2.1+1)),(v4.2.1++([x5]:List vV3)),()))))) (
 some (.inr (.inl (y4.1,y4.2.2.1,()))))
def zbv (a0:List vV3) (a1:vV3):Option (List vV3) :=
(aH (ru a0 a1) (false,0,[],()):Option ((Bool×List vV3×Unit)⊕List vV3)).bind (aU fun v7 =>
 cond (!v7.1) (
(ch (v7.2.1.length+([a1]:List vV3).length)).bind fun u8 =>
 some (v7.2.1++([a1]:List vV3))) (
 some v7.2.1))
def yM:TFn:={ ps:=(.cons (.sl tT15) (.cons tT15 .unit)),res:=(.sl tT15),fn:=fun v=>zbv v.1 v.2.1 }
def ar4:TEnv:={ pure:=[(329,ab2)],look:=[],glob:=G0T,ty:=[(132,tT15)],raw:=[],fresh:=[] }
theorem ar3:runY Tryz.prog akh ar5 ar4 axZ Tryz.f286 yM.ps yM.res=yM.fn:=by kernel_rfl
theorem abH:aA Tryz.prog G0 286 afd:=ai (ak ⟨au,(aj ak1 ac),ap,ac,an⟩ Tryz.func286 rfl (by kernel_rfl))
theorem ahd:TOk afd yM:=az (E:=akh) (ET:=ar4) (EnvT.ofX (ax (ah ate al)) am ar aJ aq) ar3 rfl
def akJ:Env:=(eZ [(285,aaF),(286,afd)] [274])
def asL:Hints:=(hZ [(4,[5,6,7])] [])
def akI:PFn:=aF (runF Tryz.prog akJ asL Tryz.f219)
def aya:TH:={ loops:=[(4,{ keep:=[(5,(.sl tT15)),(7,(.int .i64))],mem:=[] })],ro:=[] }
def wO (r1:List vV6) (y4:(List vV3×Int×Unit)):Option ((List vV3×Int×Unit)⊕List vV3) :=
 cond (decide (y4.2.1<(r1.length:Int))) (
(atI r1 y4.2.1).bind fun x2 =>
(zbv y4.1 x2.2.1.2.2.1).bind fun r3 =>
 some (.inl (r3,(IntKind.wrap .i64 (y4.2.1+1)),()))) (
 some (.inr y4.1))
def zbk (a0:List vV6) (a1:List (List UInt8)):Option (List vV3) :=
(zdu a0 a1 1).bind fun r1 =>
 aH (wO r1) ([],0,())
def abT:TFn:={ ps:=(.cons (.sl tT19) tT22),res:=(.sl tT15),fn:=fun v=>zbk v.1 v.2.1 }
def asK:TEnv:=(vZ [(285,tV),(286,yM)])
theorem asJ:runY Tryz.prog akJ asL asK aya Tryz.f219 abT.ps abT.res=abT.fn:=by kernel_rfl
theorem akH:aA Tryz.prog G0 219 akI:=ai (ak ⟨au,(aj tW (aj abH ac)),ap,ac,an⟩ Tryz.func219 rfl (by kernel_rfl))
theorem asI:TOk akI abT:=az (E:=akJ) (ET:=asK) (EnvT.ofX (ax (ah aaE (ah ahd al))) am ar aJ aq) asJ rfl
def akC:Env:=(eZ [(285,aaF),(286,afd)] [274])
def asA:Hints:=(hZ [(4,[5,6,7])] [])
def akB:PFn:=aF (runF Tryz.prog akC asA Tryz.f220)
def ax7:TH:={ loops:=[(4,{ keep:=[(5,(.sl tT15)),(7,(.int .i64))],mem:=[] })],ro:=[] }
def wN (r1:List vV6) (y4:(List vV3×Int×Unit)):Option ((List vV3×Int×Unit)⊕List vV3) :=
 cond (decide (y4.2.1<(r1.length:Int))) (
(atI r1 y4.2.1).bind fun x2 =>
(zbv y4.1 x2.2.1.2.2.1).bind fun r3 =>
 some (.inl (r3,(IntKind.wrap .i64 (y4.2.1+1)),()))) (
 some (.inr y4.1))
def zbn (a0:List vV6) (a1:List (List UInt8)):Option (List vV3) :=
(zdu a0 a1 2).bind fun r1 =>
 aH (wN r1) ([],0,())
def abP:TFn:={ ps:=(.cons (.sl tT19) tT22),res:=(.sl tT15),fn:=fun v=>zbn v.1 v.2.1 }
def asz:TEnv:=(vZ [(285,tV),(286,yM)])
theorem asy:runY Tryz.prog akC asA asz ax7 Tryz.f220 abP.ps abP.res=abP.fn:=by kernel_rfl
theorem akA:aA Tryz.prog G0 220 akB:=ai (ak ⟨au,(aj tW (aj abH ac)),ap,ac,an⟩ Tryz.func220 rfl (by kernel_rfl))
theorem asx:TOk akB abP:=az (E:=akC) (ET:=asz) (EnvT.ofX (ax (ah aaE (ah ahd al))) am ar aJ aq) asy rfl
def ajr:Env:=(eZ [(285,aaF)] [274])
def aqO:Hints:=(hZ [(4,[7,8,9,10])] [])
def ajq:PFn:=aF (runF Tryz.prog ajr aqO Tryz.f221)
def axE:TH:={ joins:=[(11,{ keep:=[(7,(.int .i64)),(8,(.int .i64))],mem:=[] }),(9,{ keep:=[(7,(.int .i64))],mem:=[] })],loops:=[(4,{ keep:=[(7,(.int .i64)),(8,(.int .i64)),(10,(.int .i64))],mem:=[] })],ro:=[] }
def wD (r1:List vV6) (y4:(Int×Int×Int×Unit)):Option ((Int×Int×Int×Unit)⊕((Int×Int×Unit)⊕(Int×Int×Int×Unit))) :=
 cond (decide (y4.2.2.1<(r1.length:Int))) (
(atI r1 y4.2.2.1).bind fun x2 =>
(cond (decide (x2.2.1.2.2.2.1>0)) (
 some (.inl ((IntKind.wrap .i64 (y4.1+x2.2.1.2.2.2.1)),()))) (
 some (.inl (y4.1,()))):Option ((Int×Unit)⊕((Int×Int×Int×Unit)⊕((Int×Int×Unit)⊕(Int×Int×Int×Unit))))).bind (aU fun v3 =>
 cond (decide (x2.2.1.2.2.2.1<0)) (
 some (.inl (v3.1,(IntKind.wrap .i64 (y4.2.1-x2.2.1.2.2.2.1)),(IntKind.wrap .i64 (y4.2.2.1+1)),()))) (
 some (.inl (v3.1,y4.2.1,(IntKind.wrap .i64 (y4.2.2.1+1)),()))))) (
 some (.inr (.inl (y4.1,y4.2.1,()))))
def zcg (a0:List vV6) (a1:List (List UInt8)):Option (Int×Int×Int×Unit) :=
(zdu a0 a1 3).bind fun r1 =>
(aH (wD r1) (0,0,0,()):Option ((Int×Int×Unit)⊕(Int×Int×Int×Unit))).bind (aU fun v4 =>
 some (v4.1,v4.2.1,(r1.length:Int),()))
def abl:TFn:={ ps:=(.cons (.sl tT19) tT22),res:=(.tup (.cons (.int .i64) (.cons (.int .i64) tT16))),fn:=fun v=>zcg v.1 v.2.1 }
def aqN:TEnv:=(vZ [(285,tV)])
theorem aqM:runY Tryz.prog ajr aqO aqN axE Tryz.f221 abl.ps abl.res=abl.fn:=by kernel_rfl
theorem ajp:aA Tryz.prog G0 221 ajq:=ai (ak ⟨au,(aj tW ac),ap,ac,an⟩ Tryz.func221 rfl (by kernel_rfl))
theorem aqL:TOk ajq abl:=az (E:=ajr) (ET:=aqN) (EnvT.ofX (ax (ah aaE al)) am ar aJ aq) aqM rfl
def ahZ:Env:=(eZ [(219,akI),(220,akB),(221,ajq)] [274])
def aox:Hints:=(hZ [] [])
def ahY:PFn:=aF (runF Tryz.prog ahZ aox Tryz.f147)
def aw2:TH:={ joins:=[(4,{ keep:=[(6,(.bx 0 0)),(7,(.bx 1 0))],mem:=[.box 150 (.agg (.cons .nilsl (.cons (.int .i64) (.cons .nilsl tT16)))),.box 150 tT12] }),(6,{ keep:=[(6,(.bx 0 0)),(7,(.bx 1 0))],mem:=[.box 150 (.agg (.cons .nilsl (.cons (.int .i64) (.cons .nilsl tT16)))),.box 150 tT12] })],loops:=[],ro:=[] }
def zds (a0:List vV6) (a1:List (List UInt8)) (a2:Int):Option vV0 :=
(cond (decide (a2=1)) (
(zbk a0 a1).bind fun r1 =>
 some (.inl (((),0,(),0,()),(a1,a2,r1,0,()),()))) (
 some (.inl (((),0,(),0,()),(a1,a2,[],0,()),()))):Option (((Unit×Int×Unit×Int×Unit)×vV0×Unit)⊕vV0)).bind (aU fun v2 =>
(cond (decide (a2=2)) (
(zbn a0 a1).bind fun r3 =>
 some (.inl (v2.1,(v2.2.1.1,v2.2.1.2.1,r3,v2.2.1.2.2.2.1,()),()))) (
 some (.inl (v2.1,v2.2.1,()))):Option (((Unit×Int×Unit×Int×Unit)×vV0×Unit)⊕vV0)).bind (aU fun v4 =>
 cond (decide (a2=3)) (
(zcg a0 a1).bind fun r5 =>
 some (v4.2.1.1,v4.2.1.2.1,v4.2.1.2.2.1,(IntKind.wrap .i64 (r5.1-r5.2.1)),())) (
 some v4.2.1)))
def aaI:TFn:={ ps:=(.cons (.sl tT19) (.cons (.sl .str) tT16)),res:=tT12,fn:=fun v=>zds v.1 v.2.1 v.2.2.1 }
def aow:TEnv:=(vZ [(219,abT),(220,abP),(221,abl)])
theorem aov:runY Tryz.prog ahZ aox aow aw2 Tryz.f147 aaI.ps aaI.res=aaI.fn:=by kernel_rfl
theorem ahX:aA Tryz.prog G0 147 ahY:=ai (ak ⟨au,(aj akH (aj akA (aj ajp ac))),ap,ac,an⟩ Tryz.func147 rfl (by kernel_rfl))
theorem aou:TOk ahY aaI:=az (E:=ahZ) (ET:=aow) (EnvT.ofX (ax (ah asI (ah asx (ah aqL al)))) am ar aJ aq) aov rfl
def aja:Env:=(eZ [(136,akp),(146,aj9),(147,ahY)] [274])
def aqo:Hints:=(hZ [(4,[0,1,5,6,7])] [29,34])
def ai9:PFn:=aF (runF Tryz.prog aja aqo Tryz.f77)
def axx:TH:={ loops:=[(4,{ keep:=[(6,(.own 0)),(7,(.int .i64))],mem:=[.row true 150 tT12] })],ro:=[] }
def wA (a0:List vV6) (a1:List (List UInt8)) (r1:List vV4) (y4:(Int×List vV0×Unit)):Option ((Int×List vV0×Unit)⊕List vV0) :=
 cond (decide (y4.1<(r1.length:Int))) (
(atI r1 y4.1).bind fun x2 =>
(zby a1 x2.1).bind fun r3 =>
 cond r3 (
(atI r1 y4.1).bind fun x4 =>
(atI r1 y4.1).bind fun x5 =>
(zds a0 x4.1 x5.2.1).bind fun r6 =>
(ch (y4.2.1.length+([r6]:List vV0).length)).bind fun u7 =>
 some (.inl ((IntKind.wrap .i64 (y4.1+1)),(y4.2.1++([r6]:List vV0)),()))) (
 some (.inl ((IntKind.wrap .i64 (y4.1+1)),y4.2.1,())))) (
 some (.inr y4.2.1))
def zcn (a0:List vV6) (a1:List (List UInt8)):Option (List vV0) :=
(zbs a0).bind fun r1 =>
 aH (wA a0 a1 r1) (0,[],())
def abe:TFn:={ ps:=(.cons (.sl tT19) tT22),res:=(.sl tT12),fn:=fun v=>zcn v.1 v.2.1 }
def aqn:TEnv:={ pure:=[(136,abJ),(146,abE),(147,aaI)],look:=[],glob:=G0T,ty:=[(150,tT12)],raw:=[],fresh:=[] }
theorem aqm:runY Tryz.prog aja aqo aqn axx Tryz.f77 abe.ps abe.res=abe.fn:=by kernel_rfl
theorem ai8:aA Tryz.prog G0 77 ai9:=ai (ak ⟨au,(aj ako (aj aj8 (aj ahX ac))),ap,ac,an⟩ Tryz.func77 rfl (by kernel_rfl))
theorem aql:TOk ai9 abe:=az (E:=aja) (ET:=aqn) (EnvT.ofX (ax (ah ase (ah arR (ah aou al)))) am ar aJ aq) aqm rfl
def akU:Env:=(eZ [(273,acB)] [274])
def as5:Hints:=(hZ [] [])
def afi:PFn:=aF (runF Tryz.prog akU as5 Tryz.f222)
def ayf:TH:={ loops:=[],ro:=[2,3] }
def zbf (a0:vV0) (a1:vV0):Option Int :=
(za9 a0.1 a1.1).bind fun r1 =>
 cond (!decide (r1=0)) (
 some r1) (
 cond (decide (a0.2.1<a1.2.1)) (
 some (-1)) (
 cond (decide (a0.2.1>a1.2.1)) (
 some 1) (
 some 0)))
def yP:TFn:={ ps:=(.cons tT12 (.cons tT12 .unit)),res:=(.int .i64),fn:=fun v=>zbf v.1 v.2.1 }
def as4:TEnv:=(vZ [(273,uq)])
theorem as3:runY Tryz.prog akU as5 as4 ayf Tryz.f222 yP.ps yP.res=yP.fn:=by kernel_rfl
theorem abZ:aA Tryz.prog G0 222 afi:=ai (ak ⟨au,(aj ur ac),ap,ac,an⟩ Tryz.func222 rfl (by kernel_rfl))
theorem ahh:TOk afi yP:=az (E:=akU) (ET:=as4) (EnvT.ofX (ax (ah acA al)) am ar aJ aq) as3 rfl
def ai4:Env:=(eZ [(222,afi)] [274])
def aqg:Hints:=(hZ [(2,[0,3,5])] [])
def ai3:PFn:=aF (runF Tryz.prog ai4 aqg Tryz.f148)
def axv:TH:={ loops:=[(2,{ keep:=[(3,(.bx 0 0)),(5,(.int .i64))],mem:=[.same] })],ro:=[3] }
def nV (a0:List vV0) (a1:vV0) (y2:(Int×Unit)):Option ((Int×Unit)⊕Int) :=
 cond (decide (y2.1<(a0.length:Int))) (
(atI a0 y2.1).bind fun x1 =>
(zbf x1 a1).bind fun r2 =>
 cond (decide (r2=0)) (
 some (.inr y2.1)) (
 some (.inl ((IntKind.wrap .i64 (y2.1+1)),())))) (
 some (.inr (-1)))
def zcp (a0:List vV0) (a1:vV0):Option Int :=
 aH (nV a0 a1) (0,())
def abc:TFn:={ ps:=(.cons (.sl tT12) (.cons tT12 .unit)),res:=(.int .i64),fn:=fun v=>zcp v.1 v.2.1 }
def aqf:TEnv:=(vZ [(222,yP)])
theorem aqe:runY Tryz.prog ai4 aqg aqf axv Tryz.f148 abc.ps abc.res=abc.fn:=by kernel_rfl
theorem ai2:aA Tryz.prog G0 148 ai3:=ai (ak ⟨au,(aj abZ ac),ap,ac,an⟩ Tryz.func148 rfl (by kernel_rfl))
theorem aqd:TOk ai3 abc:=az (E:=ai4) (ET:=aqf) (EnvT.ofX (ax (ah ahh al)) am ar aJ aq) aqe rfl
def aiS:Env:=(eZ [] [274])
def apV:Hints:=(hZ [] [])
def aiR:PFn:=aF (runF Tryz.prog aiS apV Tryz.f223)
def axp:TH:={ loops:=[],ro:=[1] }
def zcv (a0:vV7):Option vV0 :=
 cond (decide (a0.1=1)) (
 some a0.2.2.1) (
 some a0.2.1)
def aa7:TFn:={ ps:=(.cons tT18 .unit),res:=tT12,fn:=fun v=>zcv v.1 }
def apU:TEnv:=(vZ [])
theorem apT:runY Tryz.prog aiS apV apU axp Tryz.f223 aa7.ps aa7.res=aa7.fn:=by kernel_rfl
theorem aiQ:aA Tryz.prog G0 223 aiR:=ai (ak ⟨au,ac,ap,ac,an⟩ Tryz.func223 rfl (by kernel_rfl))
theorem apS:TOk aiR aa7:=az (E:=aiS) (ET:=apU) (EnvT.ofX (ax al) am ar aJ aq) apT rfl
def akt:Env:=(eZ [(222,afi),(223,aiR)] [274])
def asl:Hints:=(hZ [(4,[0,3,5,6,7])] [])
def aks:PFn:=aF (runF Tryz.prog akt asl Tryz.f149)
def ax3:TH:={ joins:=[(10,{ keep:=[(3,(.bx 0 0)),(5,(.own 1)),(6,.bool)],mem:=[.same,.row true 152 tT18] }),(9,{ keep:=[(3,(.bx 0 0)),(5,(.own 1)),(6,.bool)],mem:=[.same,.row true 152 tT18] })],loops:=[(4,{ keep:=[(3,(.bx 0 0)),(5,(.own 1)),(6,.bool),(7,(.int .i64))],mem:=[.same,.row true 152 tT18] })],ro:=[3] }
def gf (a0:List vV7) (a1:vV7) (y4:(Bool×Int×List vV7×Unit)):Option ((Bool×Int×List vV7×Unit)⊕((Bool×List vV7×Unit)⊕List vV7)) :=
 cond (decide (y4.2.1<(a0.length:Int))) (
(cond (!y4.1) ((zcv a1).bind fun r1 =>
(atI a0 y4.2.1).bind fun x2 =>
(zcv x2).bind fun r3 =>
(zbf r1 r3).bind fun r4 =>
 cond (decide (r4<0)) (
(ch (y4.2.2.1.length+([a1]:List vV7).length)).bind fun u5 =>
 some (.inl (true,(y4.2.2.1++([a1]:List vV7)),()))) (
 some (.inl (y4.1,y4.2.2.1,())))) (some (.inl (y4.1,y4.2.2.1,()))):Option ((Bool×List vV7×Unit)⊕((Bool×Int×List vV7×Unit)⊕((Bool×List vV7×Unit)⊕List vV7)))).bind (aU fun v6 =>
(atI a0 y4.2.1).bind fun x7 =>
(ch (v6.2.1.length+([x7]:List vV7).length)).bind fun u8 =>
 some (.inl (v6.1,(IntKind.wrap .i64 (y4.2.1+1)),(v6.2.1++([x7]:List vV7)),())))) (
 some (.inr (.inl (y4.1,y4.2.2.1,()))))
def zbr (a0:List vV7) (a1:vV7):Option (List vV7) :=
(aH (gf a0 a1) (false,0,[],()):Option ((Bool×List vV7×Unit)⊕List vV7)).bind (aU fun v9 =>
 cond (!v9.1) (
(ch (v9.2.1.length+([a1]:List vV7).length)).bind fun u10 =>
 some (v9.2.1++([a1]:List vV7))) (
 some v9.2.1))
def abK:TFn:={ ps:=(.cons (.sl tT18) (.cons tT18 .unit)),res:=(.sl tT18),fn:=fun v=>zbr v.1 v.2.1 }
def ask:TEnv:={ pure:=[(222,yP),(223,aa7)],look:=[],glob:=G0T,ty:=[(152,tT18)],raw:=[],fresh:=[] }
theorem asj:runY Tryz.prog akt asl ask ax3 Tryz.f149 abK.ps abK.res=abK.fn:=by kernel_rfl
theorem akr:aA Tryz.prog G0 149 aks:=ai (ak ⟨au,(aj abZ (aj aiQ ac)),ap,ac,an⟩ Tryz.func149 rfl (by kernel_rfl))
theorem asi:TOk aks abK:=az (E:=akt) (ET:=ask) (EnvT.ofX (ax (ah ahh (ah apS al))) am ar aJ aq) asj rfl
def aiP:Env:=(eZ [] [274])
def apR:Hints:=(hZ [(4,[0,1,5])] [])
def aiO:PFn:=aF (runF Tryz.prog aiP apR Tryz.f58)
def axo:TH:={ loops:=[(4,{ keep:=[(5,(.int .i64))],mem:=[] })],ro:=[] }
def ww (a0:List (List UInt8)) (a1:List (List UInt8)) (y4:(Int×Unit)):Option ((Int×Unit)⊕Bool) :=
 cond (decide (y4.1<(a0.length:Int))) (
(atI a0 y4.1).bind fun x1 =>
(atI a1 y4.1).bind fun x2 =>
 cond (!decide (x1=x2)) (
 some (.inr false)) (
 some (.inl ((IntKind.wrap .i64 (y4.1+1)),())))) (
 some (.inr true))
def zcw (a0:List (List UInt8)) (a1:List (List UInt8)):Option Bool :=
 cond (!decide ((a0.length:Int)=(a1.length:Int))) (
 some false) (
 aH (ww a0 a1) (0,()))
def aa6:TFn:={ ps:=(.cons (.sl .str) tT22),res:=.bool,fn:=fun v=>zcw v.1 v.2.1 }
def apQ:TEnv:=(vZ [])
theorem apP:runY Tryz.prog aiP apR apQ axo Tryz.f58 aa6.ps aa6.res=aa6.fn:=by kernel_rfl
theorem aiN:aA Tryz.prog G0 58 aiO:=ai (ak ⟨au,ac,ap,ac,an⟩ Tryz.func58 rfl (by kernel_rfl))
theorem apO:TOk aiO aa6:=az (E:=aiP) (ET:=apQ) (EnvT.ofX (ax al) am ar aJ aq) apP rfl
def ajK:Env:=(eZ [] [274])
def arh:Hints:=(hZ [(4,[0,1,5])] [])
def ajJ:PFn:=aF (runF Tryz.prog ajK arh Tryz.f80)
def axM:TH:={ loops:=[(4,{ keep:=[(5,(.int .i64))],mem:=[] })],ro:=[] }
def wE (a0:List vV3) (a1:List vV3) (y4:(Int×Unit)):Option ((Int×Unit)⊕Bool) :=
 cond (decide (y4.1<(a0.length:Int))) (
(atI a0 y4.1).bind fun x1 =>
(atI a1 y4.1).bind fun x2 =>
 cond (!(eqV tT15 x1 x2)) (
 some (.inr false)) (
 some (.inl ((IntKind.wrap .i64 (y4.1+1)),())))) (
 some (.inr true))
def zc8 (a0:List vV3) (a1:List vV3):Option Bool :=
 cond (!decide ((a0.length:Int)=(a1.length:Int))) (
 some false) (
 aH (wE a0 a1) (0,()))
def abu:TFn:={ ps:=(.cons (.sl tT15) (.cons (.sl tT15) .unit)),res:=.bool,fn:=fun v=>zc8 v.1 v.2.1 }
def arf:TEnv:=(vZ [])
theorem ard:runY Tryz.prog ajK arh arf axM Tryz.f80 abu.ps abu.res=abu.fn:=by kernel_rfl
theorem ajI:aA Tryz.prog G0 80 ajJ:=ai (ak ⟨au,ac,ap,ac,an⟩ Tryz.func80 rfl (by kernel_rfl))
theorem arc:TOk ajJ abu:=az (E:=ajK) (ET:=arf) (EnvT.ofX (ax al) am ar aJ aq) ard rfl
def aiA:Env:=(eZ [(58,aiO),(80,ajJ)] [274])
def aps:Hints:=(hZ [(4,[0,1,5])] [])
def aa0:PFn:=aF (runF Tryz.prog aiA aps Tryz.f25)
def axh:TH:={ loops:=[(4,{ keep:=[(5,(.int .i64))],mem:=[] })],cuts:=[(6,[(24,{ keep:=[(40,.bool)],mem:=[] }),(14,{ keep:=[(54,.bool)],mem:=[] })])],ro:=[],news:=[] }
def wo (a0:List vV0) (a1:List vV0) (y4:(Int×Unit)):Option ((Int×Unit)⊕Bool) :=
 cond (decide (y4.1<(a0.length:Int))) (
((atI a0 y4.1).bind fun x1 =>
(atI a1 y4.1).bind fun x2 =>
 cond (!decide (x1.2.1=x2.2.1)) (some (true,())) ((atI a0 y4.1).bind fun x3 =>
(atI a1 y4.1).bind fun x4 =>
 some ((!decide (x3.2.2.2.1=x4.2.2.2.1)),())):Option (Bool×Unit)).bind fun v5 =>
(cond v5.1 (some (true,())) ((atI a0 y4.1).bind fun x6 =>
(atI a1 y4.1).bind fun x7 =>
(zcw x6.1 x7.1).bind fun r8 =>
 some ((!r8),())):Option (Bool×Unit)).bind fun v9 =>
 cond v9.1 (some (.inr false)) ((atI a0 y4.1).bind fun x10 =>
(atI a1 y4.1).bind fun x11 =>
(zc8 x10.2.2.1 x11.2.2.1).bind fun r12 =>
 cond (!r12) (
 some (.inr false)) (
 some (.inl ((IntKind.wrap .i64 (y4.1+1)),()))))) (
 some (.inr true))
def zdd (a0:List vV0) (a1:List vV0):Option Bool :=
 cond (!decide ((a0.length:Int)=(a1.length:Int))) (
 some false) (
 aH (wo a0 a1) (0,()))
def ud:TFn:={ ps:=(.cons (.sl tT12) (.cons (.sl tT12) .unit)),res:=.bool,fn:=fun v=>zdd v.1 v.2.1 }
def apr:TEnv:=(vZ [(58,aa6),(80,abu)])
theorem apq:runY Tryz.prog aiA aps apr axh Tryz.f25 ud.ps ud.res=ud.fn:=by kernel_rfl
theorem uf:aA Tryz.prog G0 25 aa0:=ai (ak ⟨au,(aj aiN (aj ajI ac)),ap,ac,an⟩ Tryz.func25 rfl (by kernel_rfl))
theorem aaZ:TOk aa0 ud:=az (E:=aiA) (ET:=apr) (EnvT.ofX (ax (ah apO (ah arc al))) am ar aJ aq) apq rfl
def aiw:Env:=(eZ [(25,aa0)] [274])
def apk:Hints:=(hZ [] [])
def aiv:PFn:=aF (runF Tryz.prog aiw apk Tryz.f150)
def axf:TH:={ loops:=[],ro:=[2,3] }
def zdf (a0:vV0) (a1:vV0):Option Bool :=
(zdd ([a0]:List vV0) ([a1]:List vV0)).bind fun r1 =>
 some r1
def aaX:TFn:={ ps:=(.cons tT12 (.cons tT12 .unit)),res:=.bool,fn:=fun v=>zdf v.1 v.2.1 }
def apj:TEnv:={ pure:=[(25,ud)],look:=[],glob:=G0T,ty:=[(150,tT12)],raw:=[],fresh:=[] }
theorem api:runY Tryz.prog aiw apk apj axf Tryz.f150 aaX.ps aaX.res=aaX.fn:=by kernel_rfl
theorem aiu:aA Tryz.prog G0 150 aiv:=ai (ak ⟨au,(aj uf ac),ap,ac,an⟩ Tryz.func150 rfl (by kernel_rfl))
theorem aph:TOk aiv aaX:=az (E:=aiw) (ET:=apj) (EnvT.ofX (ax (ah aaZ al)) am ar aJ aq) api rfl
def ajU:Env:=(eZ [(148,ai3),(149,aks),(150,aiv)] [274])
def arx:Hints:=(hZ [(3,[0,1,5,6]),(11,[0,1,5,8])] [])
def ajT:PFn:=aF (runF Tryz.prog ajU arx Tryz.f78)
def axQ:TH:={ joins:=[(10,{ keep:=[(5,(.sl tT18))],mem:=[] })],loops:=[(3,{ keep:=[(5,(.sl tT18)),(6,(.int .i64))],mem:=[] }),(11,{ keep:=[(5,(.sl tT18)),(8,(.int .i64))],mem:=[] })],ro:=[] }
def rr (a0:List vV0) (a1:List vV0) (y3:(List vV7×Int×Unit)):Option ((List vV7×Int×Unit)⊕((List vV7×Unit)⊕List vV7)) :=
 cond (decide (y3.2.1<(a0.length:Int))) (
(atI a0 y3.2.1).bind fun x1 =>
(zcp a1 x1).bind fun r2 =>
 cond (decide (r2<0)) (
(atI a0 y3.2.1).bind fun x3 =>
(zbr y3.1 (2,x3,([],0,[],0,()),())).bind fun r4 =>
 some (.inl (r4,(IntKind.wrap .i64 (y3.2.1+1)),()))) (
(atI a0 y3.2.1).bind fun x5 =>
(atI a1 r2).bind fun x6 =>
(zdf x5 x6).bind fun r7 =>
 cond (!r7) (
(atI a0 y3.2.1).bind fun x8 =>
(atI a1 r2).bind fun x9 =>
(zbr y3.1 (3,x8,x9,())).bind fun r10 =>
 some (.inl (r10,(IntKind.wrap .i64 (y3.2.1+1)),()))) (
 some (.inl (y3.1,(IntKind.wrap .i64 (y3.2.1+1)),()))))) (
 some (.inr (.inl (y3.1,()))))
def lq (a0:List vV0) (a1:List vV0) (y11:(List vV7×Int×Unit)):Option ((List vV7×Int×Unit)⊕List vV7) :=
 cond (decide (y11.2.1<(a1.length:Int))) (
(atI a1 y11.2.1).bind fun x12 =>
(zcp a0 x12).bind fun r13 =>
 cond (decide (r13<0)) (
(atI a1 y11.2.1).bind fun x14 =>
(zbr y11.1 (1,([],0,[],0,()),x14,())).bind fun r15 =>
 some (.inl (r15,(IntKind.wrap .i64 (y11.2.1+1)),()))) (
 some (.inl (y11.1,(IntKind.wrap .i64 (y11.2.1+1)),())))) (
 some (.inr y11.1))
def zc4 (a0:List vV0) (a1:List vV0):Option (List vV7) :=
(aH (rr a0 a1) ([],0,()):Option ((List vV7×Unit)⊕List vV7)).bind (aU fun v11 =>
 aH (lq a0 a1) (v11.1,0,()))
def aby:TFn:={ ps:=(.cons (.sl tT12) (.cons (.sl tT12) .unit)),res:=(.sl tT18),fn:=fun v=>zc4 v.1 v.2.1 }
def arw:TEnv:=(vZ [(148,abc),(149,abK),(150,aaX)])
theorem arv:runY Tryz.prog ajU arx arw axQ Tryz.f78 aby.ps aby.res=aby.fn:=by kernel_rfl
theorem ajS:aA Tryz.prog G0 78 ajT:=ai (ak ⟨au,(aj ai2 (aj akr (aj aiu ac))),ap,ac,an⟩ Tryz.func78 rfl (by kernel_rfl))
theorem aru:TOk ajT aby:=az (E:=ajU) (ET:=arw) (EnvT.ofX (ax (ah aqd (ah asi (ah aph al)))) am ar aJ aq) arv rfl
def amQ:Env:=(eZ [(77,ai9),(78,ajT)] [274])
def av0:Hints:=(hZ [] [])
def amP:SFn:=runF Tryz.prog amQ av0 Tryz.f23
def ayV:TH:=yZ
def za2 (a1:List vV6) (w0:vV8):Option (List vV7×vV8×Unit) :=
(zcn a1 w0.1).bind fun r1 =>
(zc4 w0.2.1 r1).bind fun r2 =>
 some (r2,(w0.1,r1,(IntKind.wrap .i64 (w0.2.2.1+1)),()),())
def uA:TRaw:={ ps:=(.cons (.bx 0 0) (.cons (.sl tT19) .unit)),ins:=[.box 36 tT21],res:=(.sl tT18),outs:=[.box 36 tT21],fn:=fun v w=>za2 v.2.1 w.1 }
def avZ:TEnv:=(vZ [(77,abe),(78,aby)])
theorem avY:rawY Tryz.prog amQ av0 avZ ayV [(0,0)] Tryz.f23 uA.ps uA.ins uA.res uA.outs=uA.fn:=by kernel_rfl
theorem amO:cB Tryz.prog G0 23 amP:=ak ⟨au,(aj ai8 (aj ajS ac)),ap,ac,an⟩ Tryz.func23 rfl (by kernel_rfl)
theorem avX:TRawOk amP uA:=mi (E:=amQ) (ET:=avZ) (EnvT.ofX (ax (ah aql (ah aru al))) am ar aJ aq) avY
def aku:Env:=(eZ [] [274])
def aso:Hints:=(hZ [(3,[0,3,4])] [16,21,26,31])
def aff:PFn:=aF (runF Tryz.prog aku aso Tryz.f26)
def ax4:TH:={ loops:=[(3,{ keep:=[(3,(.own 0)),(4,(.int .i64))],mem:=[.row true 150 tT12] })],ro:=[] }
def wM (a0:List vV0) (y3:(Int×List vV0×Unit)):Option ((Int×List vV0×Unit)⊕List vV0) :=
 cond (decide (y3.1<(a0.length:Int))) (
(atI a0 y3.1).bind fun x1 =>
(atI a0 y3.1).bind fun x2 =>
(atI a0 y3.1).bind fun x3 =>
(atI a0 y3.1).bind fun x4 =>
(ch (y3.2.1.length+([(x1.1,x2.2.1,x3.2.2.1,x4.2.2.2.1,())]:List vV0).length)).bind fun u5 =>
 some (.inl ((IntKind.wrap .i64 (y3.1+1)),(y3.2.1++([(x1.1,x2.2.1,x3.2.2.1,x4.2.2.2.1,())]:List vV0)),()))) (
 some (.inr y3.2.1))
def zbq (a0:List vV0):Option (List vV0) :=
 aH (wM a0) (0,[],())
def yN:TFn:={ ps:=(.cons (.sl tT12) .unit),res:=(.sl tT12),fn:=fun v=>zbq v.1 }
def asn:TEnv:={ pure:=[],look:=[],glob:=G0T,ty:=[(150,tT12)],raw:=[],fresh:=[] }
theorem asm:runY Tryz.prog aku aso asn ax4 Tryz.f26 yN.ps yN.res=yN.fn:=by kernel_rfl
theorem abL:aA Tryz.prog G0 26 aff:=ai (ak ⟨au,ac,ap,ac,an⟩ Tryz.func26 rfl (by kernel_rfl))
theorem ahe:TOk aff yN:=az (E:=aku) (ET:=asn) (EnvT.ofX (ax al) am ar aJ aq) asm rfl
def aiz:Env:=(eZ [(25,aa0),(26,aff)] [274])
def apo:Hints:=(hZ [(4,[0,1,5])] [21,26,33,38,45,50])
def aiy:PFn:=aF (runF Tryz.prog aiz apo Tryz.f22)
def axg:TH:={ loops:=[(4,{ keep:=[(5,(.int .i64))],mem:=[] })],ro:=[] }
def wn (a0:List vV7) (a1:List vV7) (y4:(Int×Unit)):Option ((Int×Unit)⊕Bool) :=
 cond (decide (y4.1<(a0.length:Int))) (
(atI a0 y4.1).bind fun x1 =>
(atI a1 y4.1).bind fun x2 =>
 cond (!decide (x1.1=x2.1)) (some (.inr false)) ((atI a0 y4.1).bind fun x3 =>
(atI a0 y4.1).bind fun x4 =>
(zbq ([x3.2.1,x4.2.2.1]:List vV0)).bind fun r5 =>
(atI a1 y4.1).bind fun x6 =>
(atI a1 y4.1).bind fun x7 =>
(zdd r5 ([x6.2.1,x7.2.2.1]:List vV0)).bind fun r8 =>
 cond (!r8) (
 some (.inr false)) (
 some (.inl ((IntKind.wrap .i64 (y4.1+1)),()))))) (
 some (.inr true))
def zde (a0:List vV7) (a1:List vV7):Option Bool :=
 cond (!decide ((a0.length:Int)=(a1.length:Int))) (
 some false) (
 aH (wn a0 a1) (0,()))
def aaY:TFn:={ ps:=(.cons (.sl tT18) (.cons (.sl tT18) .unit)),res:=.bool,fn:=fun v=>zde v.1 v.2.1 }
def apn:TEnv:={ pure:=[(25,ud),(26,yN)],look:=[],glob:=G0T,ty:=[(125,tT12),(150,tT12)],raw:=[],fresh:=[] }
theorem apm:runY Tryz.prog aiz apo apn axg Tryz.f22 aaY.ps aaY.res=aaY.fn:=by kernel_rfl
theorem aix:aA Tryz.prog G0 22 aiy:=ai (ak ⟨au,(aj uf (aj abL ac)),ap,ac,an⟩ Tryz.func22 rfl (by kernel_rfl))
theorem apl:TOk aiy aaY:=az (E:=aiz) (ET:=apn) (EnvT.ofX (ax (ah aaZ (ah ahe al))) am ar aJ aq) apm rfl
def ama:Go.Shelf.Ren:=⟨fun | 41=>81 | n=>n,fun | 22=>52 | 23=>125 | 4=>4 | n=>n,fun | n=>n⟩
theorem afy:Go.Proofs.SlLaysE0.n41 Tryz.prog ama:={
 mixed:=by kernel_rfl
 f41:=⟨Tryz.f81.name,by decide,Tryz.func81.trans (congrArg some (by kernel_rfl))⟩
 t4:=Tryz.underlying4
 a4:=Tryz.isAgg4
 z4:=Tryz.sizeOf4
 v4:=Tryz.zeroValue4
 t22:=Tryz.underlying52
 a22:=Tryz.isAgg52
 z22:=Tryz.sizeOf52
 v22:=Tryz.zeroValue52 }
def amc:PFn:=(kF 4)
theorem amb:aA Tryz.prog G0 81 amc:=clone_lays afy 4 ⟨Tryz.f81,Tryz.func81,rfl,by kernel_rfl⟩ (by kernel_rfl) (by kernel_rfl) (by kernel_rfl) (by kernel_rfl) (by kernel_rfl) (by decide) (fun w=>Tryz.sizeOf125 w)
def zai (a0:List vV0):Option (List vV0):=iv a0
def au4:TFn:=fR tT12
theorem au3:TOk amc au4:=nf rfl rfl rfl
def amN:Env:=(eZ [(81,amc)] [274])
def avW:Hints:=(hZ [] [4])
def afE:SFn:=runF Tryz.prog amN avW Tryz.f27
def ayU:TH:=yZ
def za3 (w0:vV8):Option (List vV0×vV8×Unit) :=
(zai w0.2.1).bind fun r1 =>
 some (r1,w0,())
def uz:TRaw:={ ps:=(.cons (.bx 0 0) .unit),ins:=[.box 139 tT21],res:=(.sl tT12),outs:=[.box 139 tT21],fn:=fun v w=>za3 w.1 }
def avV:TEnv:=(vZ [(81,au4)])
theorem avU:rawY Tryz.prog amN avW avV ayU [(0,0)] Tryz.f27 uz.ps uz.ins uz.res uz.outs=uz.fn:=by kernel_rfl
theorem amM:cB Tryz.prog G0 27 afE:=ak ⟨au,(aj amb ac),ap,ac,an⟩ Tryz.func27 rfl (by kernel_rfl)
theorem avT:TRawOk afE uz:=mi (E:=amN) (ET:=avV) (EnvT.ofX (ax (ah au3 al)) am ar aJ aq) avU
theorem ga:∀ xs st p,afE xs st=some p→p.2=st:=fun xs st p hp=>jQ (by kernel_rfl) hp
def alv:Env:={ pure:=[(14,ajQ),(15,afo),(16,ae7),(18,ae6),(19,aaH),(22,aiy),(24,aik),(25,aa0),(26,aff)],raw:=[(17,ae0),(20,afD),(21,afG),(23,amP),(27,afE),(28,ack)],glob:=G0,same:=[274],look:=[],ext:=[],quiet:=[20,27,28] }
def aua:Hints:=(hZ [(10,[0,1,7,9,10])] [35])
def aub:PFn:=aF (runF Tryz.prog alv aua Tryz.f3)
def ayw:TH:={ loops:=[(10,{ keep:=[(7,(.bx 0 0)),(9,(.bx 1 0)),(10,(.int .i64))],mem:=[.box 139 tT21,.box 36 tT21] })],cuts:=[(15,[(23,{ keep:=[(7,(.bx 0 0)),(9,(.bx 1 0)),(87,.bool)],mem:=[.box 139 tT21,.box 36 tT21] })])],ro:=[],news:=[] }
def jL (a0:List vV5) (a1:List (List vV2×Unit)) (y10:(Int×vV8×vV8×Unit)):Option ((Int×vV8×vV8×Unit)⊕Bool) :=
 cond (decide (y10.1<(a1.length:Int))) (
(atI a1 y10.1).bind fun x9 =>
(zdt a0 x9.1).bind fun r10 =>
(za4 r10 y10.2.1).bind fun q11 =>
(za0 r10 q11.2.1).bind fun q12 =>
((atI a1 y10.1).bind fun x13 =>
(zdk a0 x13.1).bind fun r14 =>
(za2 r14 y10.2.2.1).bind fun q15 =>
(zde q12.1 q15.1).bind fun r16 =>
 cond (!r16) (some (true,q12.2.1,q15.2.1,())) ((za3 q12.2.1).bind fun q17 =>
(zbq q17.1).bind fun r18 =>
(zdd r18 q15.2.1.2.1).bind fun r19 =>
 some ((!r19),q17.2.1,q15.2.1,())):Option (Bool×vV8×vV8×Unit)).bind fun v20 =>
 cond v20.1 (some (.inr false)) ((zaw v20.2.1).bind fun q21 =>
 cond (!decide (q21.1=v20.2.2.1.2.2.1)) (some (.inr false)) (cond (!(q11.1==(decide ((q12.1.length:Int)>0)))) (
 some (.inr false)) (
 some (.inl ((IntKind.wrap .i64 (y10.1+1)),q21.2.1,v20.2.2.1,())))))) (
((zci).bind fun r22 =>
 some r22).map .inr)
def zay (a0:List vV5) (a1:List (List vV2×Unit)) (a2:List (List UInt8)):Option Bool :=
(zc5 a0 a1).bind fun r1 =>
 cond (!r1) ((zci).bind fun r2 =>
 some r2) ((zb0 a2).bind fun r3 =>
 cond (!r3) (
(zci).bind fun r4 =>
 some r4) (
(zdp a2).bind fun p5 =>
 cond p5.1.isEmpty (
(zcj a2).bind fun r23 =>
 cond (!decide (p5.2.1=r23)) (some false) (cond (!(true==(!decide (p5.2.1=0)))) (
 some false) (
 cond (!decide (p5.2.1=0)) (
(zci).bind fun r24 =>
 some r24) (
 none)))) (
((p5.1.head? : Option vV8)).bind fun x6 =>
(zcj a2).bind fun r7 =>
 cond (!decide (p5.2.1=r7)) (some false) (cond (!(false==(!decide (p5.2.1=0)))) (
 some false) (
 cond (!decide (p5.2.1=0)) (
(zci).bind fun r8 =>
 some r8) (
 aH (jL a0 a1) (0,x6,(a2,[],0,()),())))))))
def uo:TFn:={ ps:=(.cons (.sl tT17) (.cons (.sl (.agg (.cons (.sl tT14) .unit))) tT22)),res:=.bool,fn:=fun v=>zay v.1 v.2.1 v.2.2.1 }
def at9:TEnv:={ pure:=[(14,abx),(15,yT),(16,yG),(18,yF),(19,tX),(22,aaY),(24,aaR),(25,ud),(26,yN)],look:=[],glob:=G0T,ty:=[],raw:=[(20,uw),(21,rC),(23,uA),(27,uz),(28,ry)],fresh:=[(17,aaM)] }
theorem at8:runY Tryz.prog alv aua at9 ayw Tryz.f3 uo.ps uo.res=uo.fn:=by kernel_rfl
theorem zay_Fok:aA Tryz.prog G0 3 aub:=ai (ak ⟨au,(aj ajP (aj acg (aj abj (aj abi (aj tY (aj aix (aj aij (aj uf (aj abL ac))))))))),(bN aaL (bN amK (bN acE (bN amO (bN amM (bN acj ap)))))),ac,an⟩ Tryz.func3 rfl (by kernel_rfl))
theorem zay_ok:TOk aub uo:=az (E:=alv) (ET:=at9) (EnvT.ofX (ax (ah arp (ah ahl (ah ag7 (ah ag6 (ah aaG (ah apl (ah aoZ (ah aaZ (ah ahe al)))))))))) am (mh (ck avP rfl rfl (ck aho rfl rfl (ck avX rfl rfl (ck avT rfl rfl (ck ahm rfl rfl ar))))) rfl) aJ (mD ag0 rfl rfl rfl aq) (gV gb rfl rfl rfl (gV ga rfl rfl rfl (gV dg rfl rfl rfl mj)))) at8 rfl
def alH:Env:=(eZ [(32,yC),(76,afn)] [274])
def auv:Hints:=(hZ [] [])
def alG:PFn:=aF (runF Tryz.prog alH auv Tryz.f21)
def ayB:TH:=yZ
def zat (a0:Unit) (a1:List vV6):Option (List vV7) :=
 some []
def acn:TFn:={ ps:=(.cons .nilp (.cons (.sl tT19) .unit)),res:=(.sl tT18),fn:=fun v=>zat v.1 v.2.1 }
def auu:TEnv:=(vZ [(32,rg),(76,yS)])
theorem aut:runY Tryz.prog alH auv auu ayB Tryz.f21 acn.ps acn.res=acn.fn:=by kernel_rfl
theorem alF:aA Tryz.prog G0 21 alG:=ai (ak ⟨au,(aj po (aj acf ac)),ap,ac,an⟩ Tryz.func21 rfl (by kernel_rfl))
theorem aus:TOk alG acn:=az (E:=alH) (ET:=auu) (EnvT.ofX (ax (ah wr (ah ahk al))) am ar aJ aq) aut rfl
def alE:Env:=(eZ [] [274])
def aur:Hints:=(hZ [] [])
def alD:PFn:=aF (runF Tryz.prog alE aur Tryz.f27)
def ayA:TH:=yZ
def zau (a0:Unit):Option (List vV0) :=
 some []
def acm:TFn:={ ps:=(.cons .nilp .unit),res:=(.sl tT12),fn:=fun v=>zau v.1 }
def auq:TEnv:=(vZ [])
theorem aup:runY Tryz.prog alE aur auq ayA Tryz.f27 acm.ps acm.res=acm.fn:=by kernel_rfl
theorem alC:aA Tryz.prog G0 27 alD:=ai (ak ⟨au,ac,ap,ac,an⟩ Tryz.func27 rfl (by kernel_rfl))
theorem auo:TOk alD acm:=az (E:=alE) (ET:=auq) (EnvT.ofX (ax al) am ar aJ aq) aup rfl
def alQ:Env:=(eZ [] [274])
def auH:Hints:=(hZ [] [])
def alP:PFn:=aF (runF Tryz.prog alQ auH Tryz.f28)
def ayE:TH:=yZ
def zaq (a0:Unit):Option Int :=
 some 0
def acq:TFn:={ ps:=(.cons .nilp .unit),res:=(.int .i64),fn:=fun v=>zaq v.1 }
def auG:TEnv:=(vZ [])
theorem auF:runY Tryz.prog alQ auH auG ayE Tryz.f28 acq.ps acq.res=acq.fn:=by kernel_rfl
theorem alO:aA Tryz.prog G0 28 alP:=ai (ak ⟨au,ac,ap,ac,an⟩ Tryz.func28 rfl (by kernel_rfl))
theorem auE:TOk alP acq:=az (E:=alQ) (ET:=auG) (EnvT.ofX (ax al) am ar aJ aq) auF rfl
def alK:Env:=(eZ [(31,aaU),(32,yC)] [274])
def auz:Hints:=(hZ [] [])
def alJ:PFn:=aF (runF Tryz.prog alK auz Tryz.f20)
def ayC:TH:=yZ
def zas (a0:Unit) (a1:List vV6):Option Bool :=
 some false
def aco:TFn:={ ps:=(.cons .nilp (.cons (.sl tT19) .unit)),res:=.bool,fn:=fun v=>zas v.1 v.2.1 }
def auy:TEnv:=(vZ [(31,tZ),(32,rg)])
theorem aux:runY Tryz.prog alK auz auy ayC Tryz.f20 aco.ps aco.res=aco.fn:=by kernel_rfl
theorem alI:aA Tryz.prog G0 20 alJ:=ai (ak ⟨au,(aj t8 (aj po ac)),ap,ac,an⟩ Tryz.func20 rfl (by kernel_rfl))
theorem auw:TOk alJ aco:=az (E:=alK) (ET:=auy) (EnvT.ofX (ax (ah aaT (ah wr al))) am ar aJ aq) aux rfl
def amH:Env:=(eZ [(16,ae7),(19,aaH),(20,alJ),(21,alG),(27,alD),(28,alP),(29,afb)] [274])
def avI:Hints:=(hZ [] [])
def avJ:PFn:=aF (runF Tryz.prog amH avI Tryz.f4)
def ayR:TH:={ loops:=[],cuts:=[(5,[(11,{ keep:=[(21,.bool)],mem:=[] })])],ro:=[],news:=[] }
def za7 (a0:List vV5):Option Bool :=
(zc6 a0 []).bind fun r1 =>
 cond (!r1) (
(zci).bind fun r2 =>
 some r2) (
(zdt a0 []).bind fun r3 =>
((zat () r3).bind fun r4 =>
 cond (decide ((r4.length:Int)=0)) ((zau ()).bind fun r5 =>
 some ((decide ((r5.length:Int)=0)),())) (some (false,())):Option (Bool×Unit)).bind fun v6 =>
 cond v6.1 ((zaq ()).bind fun r7 =>
 cond (decide (r7=0)) ((zas () r3).bind fun r8 =>
 cond (!r8) ((zci).bind fun r9 =>
 some r9) (some false)) (some false)) (some false))
def ut:TFn:={ ps:=(.cons (.sl tT17) .unit),res:=.bool,fn:=fun v=>za7 v.1 }
def avH:TEnv:=(vZ [(16,yG),(19,tX),(20,aco),(21,acn),(27,acm),(28,acq),(29,yK)])
theorem avG:runY Tryz.prog amH avI avH ayR Tryz.f4 ut.ps ut.res=ut.fn:=by kernel_rfl
theorem amG:aA Tryz.prog G0 4 avJ:=ai (ak ⟨au,(aj abj (aj tY (aj alI (aj alF (aj alC (aj alO (aj abw ac))))))),ap,ac,an⟩ Tryz.func4 rfl (by kernel_rfl))
theorem avF:TOk avJ ut:=az (E:=amH) (ET:=avH) (EnvT.ofX (ax (ah ag7 (ah aaG (ah auw (ah aus (ah auo (ah auE (ah ahb al)))))))) am ar aJ aq) avG rfl
end
end Go.Proofs.YtnbgkhdcidbkaaaGreatDoor.Y
