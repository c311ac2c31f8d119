import Derived.Test.YtnbgkhdcidbkaaaGreatDoorS
import Derived.Test.YtnbgkhdcidbkaaaGreatDoorT32
import GoSem.PinnedTables
set_option linter.unusedVariables false
set_option maxRecDepth 100000
namespace Go.Proofs.YtnbgkhdcidbkaaaGreatDoor.Y
open Go.EM Go.TY Go.Proofs
theorem zb.{u,v}{A:Type u}{B:Type v} (a:A) (f:A→Option B):(some a).bind f=f a:=rfl
theorem zg.{u}{A:Type u}{l:List A}{i:Nat} (h:i<l.length):l[i]? = some l[i]:=List.getElem?_eq_getElem h
theorem zl.{u}{A:Type u}{a:A}{l:List A}:(a::l).length=l.length+1:=rfl
theorem zf {p:Prop} [Decidable p] (h:¬p):decide p=false:=decide_eq_false h
theorem zn.{u}{c:Prop}{h:Decidable c} (hc:¬c) {A:Sort u}{t e:A}:ite c t e=e:=if_neg hc
theorem zp.{u}{c:Prop}{h:Decidable c} (hc:c) {A:Sort u}{t e:A}:ite c t e=t:=if_pos hc
theorem zm.{u}{A:Type u}{l:List A}{n:Nat} (h:n<l.length):l[n]∈l:=List.getElem_mem h
theorem zt {p:Prop} [Decidable p] (h:p):decide p=true:=decide_eq_true h
noncomputable section
def gC:List Int:=Go.Pinned.utf8FirstZ.map fun (n:Nat)=>(n:Int)
def e9:List (Int×Int×Unit):=[(128,191,()),(160,191,()),(128,159,()),(144,191,()),(128,143,()),(0,0,()),(0,0,()),(0,0,()),(0,0,()),(0,0,()),(0,0,()),(0,0,()),(0,0,()),(0,0,()),(0,0,()),(0,0,())]
def G0:List (Nat×AVal):=[(0,.rptr (gC.map (AVal.int .u8))),(1,.rptr (e9.flatMap fun p=>[AVal.int .u8 p.1,AVal.int .u8 p.2.1]))]
def G0T:List (Nat×TV):=[(0,⟨.rp (.arr 256 (.int .u8)) 0,gC⟩),(1,⟨.rp (.arr 16 (.agg (.cons (.int .u8) (.cons (.int .u8) .unit)))) 0,e9⟩)]
theorem aQ:jW G0 G0T:=ob rfl rfl (abR (by kernel_rfl)) (ob rfl rfl (xO (by kernel_rfl)) abQ)
theorem ay:∀ f,memN f [274]=true→Same Tryz.prog f:=by
 intro f h
 by_cases e274:f=274
 · subst e274; exact ⟨Tryz.f274,Tryz.func274,by kernel_rfl,by kernel_rfl,by kernel_rfl,by kernel_rfl⟩
 simp_all [memN]
def eZ (l:List (Nat×PFn)) (s:List Nat):Env:={ pure:=l,raw:=[],glob:=G0,same:=s,look:=[],ext:=[] }
def vZ (l:List (Nat×TFn)):TEnv:={ pure:=l,look:=[],glob:=G0T,ty:=[],raw:=[],fresh:=[] }
def hZ (l:List (Nat×List Nat)) (o:List Nat):Hints:={ seqs:=[],loops:=l,own:=o }
def yZ:TH:={ joins:=[],loops:=[],cuts:=[],ro:=[],news:=[] }
abbrev vV0:=(List (List UInt8)×Int×List (Int×Int×List UInt8×Unit)×Int×Unit)
abbrev vV1:=(Int×List (List UInt8)×(Int×Int×List UInt8×Unit)×Int×List ((Int×Int×Unit)×Int×Unit)×Unit)
abbrev vV2:=((Int×Int×Unit)×Int×Unit)
abbrev vV3:=(Int×Int×List UInt8×Unit)
abbrev vV4:=((Int×Int×Unit)×Int×Int×Bool×List vV1×Unit)
abbrev vV5:=(List (List UInt8)×Int×Unit)
abbrev vV6:=(vV2×vV1×Int×Unit)
abbrev vV7:=(List (List UInt8)×List vV0×Int×Unit)
abbrev vV8:=(Int×vV0×vV0×Unit)
abbrev vV9:=(List (List UInt8)×List (List UInt8)×Unit)
abbrev vV10:=(Int×List (vV2×Bool)×Unit)
abbrev tT11:Ty:=(.agg (.cons (.sl .str) (.cons (.int .i64) (.cons (.sl (.agg (.cons (.int .i64) (.cons (.int .i64) (.cons .str .unit))))) (.cons (.int .i64) .unit)))))
abbrev tT12:Ty:=(.agg (.cons (.int .i64) (.cons (.sl .str) (.cons (.agg (.cons (.int .i64) (.cons (.int .i64) (.cons .str .unit)))) (.cons (.int .i64) (.cons (.sl (.agg (.cons (.agg (.cons (.int .i64) (.cons (.int .i64) .unit))) (.cons (.int .i64) .unit)))) .unit))))))
abbrev tT13:Ty:=(.agg (.cons (.agg (.cons (.int .i64) (.cons (.int .i64) .unit))) (.cons (.int .i64) .unit)))
abbrev tT14:Ty:=(.agg (.cons (.int .i64) (.cons (.int .i64) (.cons .str .unit))))
abbrev tT15:Ty:=(.cons (.int .i64) .unit)
abbrev tT16:Ty:=(.agg (.cons (.agg (.cons (.int .i64) tT15)) (.cons (.int .i64) (.cons (.int .i64) (.cons .bool (.cons (.sl tT12) .unit))))))
abbrev tT17:Ty:=(.agg (.cons (.sl .str) (.cons (.sl tT11) tT15)))
abbrev tT18:Ty:=(.agg (.cons tT13 (.cons tT12 tT15)))
abbrev tT19:Ty:=(.agg (.cons (.int .i64) (.cons tT11 (.cons tT11 .unit))))
abbrev tT20:Ty:=(.agg (.cons (.sl .str) tT15))
abbrev tT21:Ty:=(.cons (.sl .str) .unit)
def aht:Env:=(eZ [] [274])
def anQ:Hints:=(hZ [] [])
def ac1:PFn:=aH (runF Tryz.prog aht anQ Tryz.f172)
def arT:TH:=yZ
def zb7 (a0:Int) (a1:Int):Option Int :=
 cond (decide (a0<a1)) (
 some (-1)) (
 cond (decide (a0>a1)) (
 some 1) (
 some 0))
def wQ:TFn:={ ps:=(.cons (.int .i64) tT15),res:=(.int .i64),fn:=fun v=>zb7 v.1 v.2.1 }
def anP:TEnv:=(vZ [])
theorem anO:runY Tryz.prog aht anQ anP arT Tryz.f172 wQ.ps wQ.res=wQ.fn:=by kernel_rfl
theorem zN:aB Tryz.prog G0 172 ac1:=ai (ak ⟨ay,ae,ap,ae,an⟩ Tryz.func172 rfl (by kernel_rfl))
theorem aeP:TOk ac1 wQ:=aC (E:=aht) (ET:=anP) (EnvT.ofX (az al) am au aQ ar) anO rfl
def aho:Env:=(eZ [(172,ac1)] [274])
def anG:Hints:=(hZ [] [])
def zL:PFn:=aH (runF Tryz.prog aho anG Tryz.f101)
def arQ:TH:={ loops:=[],ro:=[2,3] }
def zba (a0:(Int×Int×Unit)) (a1:(Int×Int×Unit)):Option Int :=
 cond (!decide (a0.1=a1.1)) (
(zb7 a0.1 a1.1).bind fun r1 =>
 some r1) (
(zb7 a0.2.1 a1.2.1).bind fun r2 =>
 some r2)
def sI:TFn:={ ps:=(.cons (.agg (.cons (.int .i64) tT15)) (.cons (.agg (.cons (.int .i64) tT15)) .unit)),res:=(.int .i64),fn:=fun v=>zba v.1 v.2.1 }
def anF:TEnv:=(vZ [(172,wQ)])
theorem anE:runY Tryz.prog aho anG anF arQ Tryz.f101 sI.ps sI.res=sI.fn:=by kernel_rfl
theorem sJ:aB Tryz.prog G0 101 zL:=ai (ak ⟨ay,(aj zN ae),ap,ae,an⟩ Tryz.func101 rfl (by kernel_rfl))
theorem zK:TOk zL sI:=aC (E:=aho) (ET:=anF) (EnvT.ofX (az (ah aeP al)) am au aQ ar) anE rfl
def agQ:Env:=(eZ [(101,zL)] [274])
def amO:Hints:=(hZ [(2,[0,3])] [])
def agP:PFn:=aH (runF Tryz.prog agQ amO Tryz.f152)
def arC:TH:={ loops:=[(2,{ keep:=[(3,(.int .i64))],mem:=[] })],ro:=[] }
def uT (a0:List vV4) (y2:(Int×Unit)):Option ((Int×Unit)⊕Bool) :=
 cond (decide (y2.1<(a0.length:Int))) (
(atI a0 (IntKind.wrap .i64 (y2.1-1))).bind fun x1 =>
(atI a0 y2.1).bind fun x2 =>
(zba x1.1 x2.1).bind fun r3 =>
 cond (!decide (r3=(-1))) (
 some (.inr false)) (
 some (.inl ((IntKind.wrap .i64 (y2.1+1)),())))) (
 some (.inr true))
def zbo (a0:List vV4):Option Bool :=
 aJ (uT a0) (1,())
def zr:TFn:={ ps:=(.cons (.sl tT16) .unit),res:=.bool,fn:=fun v=>zbo v.1 }
def amN:TEnv:=(vZ [(101,sI)])
theorem amM:runY Tryz.prog agQ amO amN arC Tryz.f152 zr.ps zr.res=zr.fn:=by kernel_rfl
theorem agO:aB Tryz.prog G0 152 agP:=ai (ak ⟨ay,(aj sJ ae),ap,ae,an⟩ Tryz.func152 rfl (by kernel_rfl))
theorem amL:TOk agP zr:=aC (E:=agQ) (ET:=amN) (EnvT.ofX (az (ah zK al)) am au aQ ar) amM rfl
def agK:Env:=(eZ [] [274])
def amG:Hints:=(hZ [(4,[0,3])] [])
def acU:PFn:=aH (runF Tryz.prog agK amG Tryz.f15)
def arA:TH:={ loops:=[(4,{ keep:=[(3,(.int .i64))],mem:=[] })],ro:=[] }
def uS (a0:List (List UInt8)) (y4:(Int×Unit)):Option ((Int×Unit)⊕Bool) :=
 cond (decide (y4.1<(a0.length:Int))) (
(atI a0 y4.1).bind fun x1 =>
 cond (decide ((x1.length:Int)>120)) (
 some (.inr false)) (
 some (.inl ((IntKind.wrap .i64 (y4.1+1)),())))) (
 some (.inr true))
def zbq (a0:List (List UInt8)):Option Bool :=
 cond (decide ((a0.length:Int)>12)) (
 some false) (
 aJ (uS a0) (0,()))
def wN:TFn:={ ps:=tT21,res:=.bool,fn:=fun v=>zbq v.1 }
def amF:TEnv:=(vZ [])
theorem amE:runY Tryz.prog agK amG amF arA Tryz.f15 wN.ps wN.res=wN.fn:=by kernel_rfl
theorem zo:aB Tryz.prog G0 15 acU:=ai (ak ⟨ay,ae,ap,ae,an⟩ Tryz.func15 rfl (by kernel_rfl))
theorem aeL:TOk acU wN:=aC (E:=agK) (ET:=amF) (EnvT.ofX (az al) am au aQ ar) amE rfl
def agT:Env:=(eZ [(15,acU)] [274])
def amS:Hints:=(hZ [] [])
def agS:PFn:=aH (runF Tryz.prog agT amS Tryz.f108)
def arD:TH:={ loops:=[],ro:=[1] }
def zbn (a0:vV1):Option Bool :=
(zbq a0.2.1).bind fun r1 =>
 cond r1 (cond (decide ((a0.2.2.1.2.2.1.length:Int)≤200)) (some (decide ((a0.2.2.2.2.1.length:Int)≤300))) (some false)) (some false)
def zu:TFn:={ ps:=(.cons tT12 .unit),res:=.bool,fn:=fun v=>zbn v.1 }
def amR:TEnv:=(vZ [(15,wN)])
theorem amQ:runY Tryz.prog agT amS amR arD Tryz.f108 zu.ps zu.res=zu.fn:=by kernel_rfl
theorem agR:aB Tryz.prog G0 108 agS:=ai (ak ⟨ay,(aj zo ae),ap,ae,an⟩ Tryz.func108 rfl (by kernel_rfl))
theorem amP:TOk agS zu:=aC (E:=agT) (ET:=amR) (EnvT.ofX (az (ah aeL al)) am au aQ ar) amQ rfl
def agw:Env:=(eZ [(108,agS)] [274])
def amk:Hints:=(hZ [(4,[1,3])] [])
def agv:PFn:=aH (runF Tryz.prog agw amk Tryz.f41)
def aru:TH:={ loops:=[(4,{ keep:=[(1,(.bx 0 0)),(3,(.int .i64))],mem:=[.same] })],ro:=[1] }
def uQ (a0:vV4) (y4:(Int×Unit)):Option ((Int×Unit)⊕Bool) :=
 cond (decide (y4.1<(a0.2.2.2.2.1.length:Int))) (
(atI a0.2.2.2.2.1 y4.1).bind fun x1 =>
(zbn x1).bind fun r2 =>
 cond (!r2) (
 some (.inr false)) (
 some (.inl ((IntKind.wrap .i64 (y4.1+1)),())))) (
 some (.inr true))
def zbw (a0:vV4):Option Bool :=
 cond (decide ((a0.2.2.2.2.1.length:Int)>20)) (
 some false) (
 aJ (uQ a0) (0,()))
def zd:TFn:={ ps:=(.cons tT16 .unit),res:=.bool,fn:=fun v=>zbw v.1 }
def amj:TEnv:=(vZ [(108,zu)])
theorem ami:runY Tryz.prog agw amk amj aru Tryz.f41 zd.ps zd.res=zd.fn:=by kernel_rfl
theorem agu:aB Tryz.prog G0 41 agv:=ai (ak ⟨ay,(aj agR ae),ap,ae,an⟩ Tryz.func41 rfl (by kernel_rfl))
theorem amh:TOk agv zd:=aC (E:=agw) (ET:=amj) (EnvT.ofX (az (ah amP al)) am au aQ ar) ami rfl
def agt:Env:=(eZ [] [274])
def amg:Hints:=(hZ [] [])
def zc:PFn:=aH (runF Tryz.prog agt amg Tryz.f109)
def art:TH:={ loops:=[],ro:=[1] }
def zbx (a0:(Int×Int×Unit)):Option Bool :=
 cond (decide (a0.1≥0)) (cond (decide (a0.1≤15)) (cond (decide (a0.2.1≥1)) (some (decide (a0.2.1≤1048576))) (some false)) (some false)) (some false)
def sG:TFn:={ ps:=(.cons (.agg (.cons (.int .i64) tT15)) .unit),res:=.bool,fn:=fun v=>zbx v.1 }
def amf:TEnv:=(vZ [])
theorem ame:runY Tryz.prog agt amg amf art Tryz.f109 sG.ps sG.res=sG.fn:=by kernel_rfl
theorem sH:aB Tryz.prog G0 109 zc:=ai (ak ⟨ay,ae,ap,ae,an⟩ Tryz.func109 rfl (by kernel_rfl))
theorem yY:TOk zc sG:=aC (E:=agt) (ET:=amf) (EnvT.ofX (az al) am au aQ ar) ame rfl
def afM:Env:=(eZ [] [274])
def alb:Hints:=(hZ [(17,[0,4,5,6,7])] [])
def afL:PFn:=aH (runF Tryz.prog afM alb Tryz.f216)
def aq8:TH:={ joins:=[(14,{ keep:=[(4,(.int .i64)),(5,(.int .i64)),(6,(.int .i64))],mem:=[] }),(9,{ keep:=[(18,.bool)],mem:=[] }),(22,{ keep:=[(4,(.int .i64))],mem:=[] }),(24,{ keep:=[],mem:=[] })],loops:=[(17,{ keep:=[(4,(.int .i64)),(7,(.int .i64))],mem:=[] })],ro:=[] }
def f9 (a0:List UInt8) (v3:(Int×Int×Int×Unit)) (y17:(Int×Int×Unit)):Option ((Int×Int×Unit)⊕((Int×Unit)⊕(Int×Int×Unit))) :=
 cond (decide (y17.2.1<v3.2.1)) (
(atI a0 y17.2.1).bind fun b4 =>
 cond (decide ((b4.toNat:Int)<128)) (some (.inr (.inr (0,0,())))) ((atI a0 y17.2.1).bind fun b5 =>
 cond (decide ((b5.toNat:Int)>191)) (
 some (.inr (.inr (0,0,())))) (
(atI a0 y17.2.1).bind fun b6 =>
 some (.inl ((IntKind.wrap .i64 ((IntKind.wrap .i64 ((IntKind.wrap .i64 (64*y17.1))+(IntKind.wrap .i64 (b6.toNat:Int))))-128)),(IntKind.wrap .i64 (y17.2.1+1)),()))))) (
 some (.inr (.inl (y17.1,()))))
def zcn (a0:List UInt8):Option (Int×Int×Unit) :=
 cond (decide ((a0.length:Int)=0)) (
 some (0,0,())) (
(atI a0 0).bind fun b1 =>
(cond (decide ((IntKind.wrap .i64 (b1.toNat:Int))<128)) (
 some (.inr ((IntKind.wrap .i64 (b1.toNat:Int)),1,()))) (
(cond (decide ((IntKind.wrap .i64 (b1.toNat:Int))≥194)) (some (.inl ((decide ((IntKind.wrap .i64 (b1.toNat:Int))<224)),()))) (some (.inl (false,()))):Option ((Bool×Unit)⊕((Int×Int×Int×Unit)⊕(Int×Int×Unit)))).bind (be fun v2 =>
 cond v2.1 (
 some (.inl ((IntKind.wrap .i64 ((IntKind.wrap .i64 (b1.toNat:Int))-192)),2,128,()))) (
 cond (decide ((IntKind.wrap .i64 (b1.toNat:Int))≥224)) (cond (decide ((IntKind.wrap .i64 (b1.toNat:Int))<240)) (
 some (.inl ((IntKind.wrap .i64 ((IntKind.wrap .i64 (b1.toNat:Int))-224)),3,2048,()))) (
 cond (decide ((IntKind.wrap .i64 (b1.toNat:Int))≥240)) (cond (decide ((IntKind.wrap .i64 (b1.toNat:Int))<245)) (
 some (.inl ((IntKind.wrap .i64 ((IntKind.wrap .i64 (b1.toNat:Int))-240)),4,65536,()))) (
 some (.inr (0,0,())))) (some (.inr (0,0,()))))) (cond (decide ((IntKind.wrap .i64 (b1.toNat:Int))≥240)) (cond (decide ((IntKind.wrap .i64 (b1.toNat:Int))<245)) (
 some (.inl ((IntKind.wrap .i64 ((IntKind.wrap .i64 (b1.toNat:Int))-240)),4,65536,()))) (
 some (.inr (0,0,())))) (some (.inr (0,0,()))))))):Option ((Int×Int×Int×Unit)⊕(Int×Int×Unit))).bind (be fun v3 =>
 cond (decide ((a0.length:Int)<v3.2.1)) (
 some (0,0,())) (
(aJ (f9 a0 v3) (v3.1,1,()):Option ((Int×Unit)⊕(Int×Int×Unit))).bind (be fun v7 =>
(cond (decide (v7.1<v3.2.2.1)) (some (.inr (0,0,()))) (cond (decide (v7.1>1114111)) (some (.inr (0,0,()))) (cond (decide (v7.1≥55296)) (cond (decide (v7.1≤57343)) (
 some (.inr (0,0,()))) (
 some (.inl ()))) (some (.inl ())))):Option (Unit⊕(Int×Int×Unit))).bind (be fun v8 =>
 some (v7.1,v3.2.1,()))))))
def yE:TFn:={ ps:=(.cons .str .unit),res:=(.tup (.cons (.int .i64) tT15)),fn:=fun v=>zcn v.1 }
def ala:TEnv:=(vZ [])
theorem ak9:runY Tryz.prog afM alb ala aq8 Tryz.f216 yE.ps yE.res=yE.fn:=by kernel_rfl
theorem afK:aB Tryz.prog G0 216 afL:=ai (ak ⟨ay,ae,ap,ae,an⟩ Tryz.func216 rfl (by kernel_rfl))
theorem ak8:TOk afL yE:=aC (E:=afM) (ET:=ala) (EnvT.ofX (az al) am au aQ ar) ak9 rfl
def ahB:Env:=(eZ [(216,afL)] [274])
def anZ:Hints:=(hZ [(3,[0,4,5])] [])
def zS:PFn:=aH (runF Tryz.prog ahB anZ Tryz.f144)
def arW:TH:={ loops:=[(3,{ keep:=[(4,(.own 0)),(5,(.int .i64))],mem:=[.row true 3 (.int .i64)] })],ro:=[] }
def mZ (a0:List UInt8) (y3:(Int×List Int×Unit)):Option ((Int×List Int×Unit)⊕(List Int×Bool×Unit)) :=
 cond (decide (y3.1<(a0.length:Int))) (
(subI a0 y3.1 (a0.length:Int)).bind fun s1 =>
(zcn s1).bind fun r2 =>
 cond (decide (r2.2.1=0)) (
 some (.inr ([],false,()))) (
(dN (y3.2.1.length+([r2.1]:List Int).length)).bind fun u3 =>
 some (.inl ((IntKind.wrap .i64 (y3.1+r2.2.1)),(y3.2.1++([r2.1]:List Int)),())))) (
 some (.inr (y3.2.1,true,())))
def zb4 (a0:List UInt8):Option (List Int×Bool×Unit) :=
 aJ (mZ a0) (0,[],())
def sL:TFn:={ ps:=(.cons .str .unit),res:=(.tup (.cons (.sl (.int .i64)) (.cons .bool .unit))),fn:=fun v=>zb4 v.1 }
def anY:TEnv:={ pure:=[(216,yE)],look:=[],glob:=G0T,ty:=[(3,(.int .i64))],raw:=[],fresh:=[] }
theorem anX:runY Tryz.prog ahB anZ anY arW Tryz.f144 sL.ps sL.res=sL.fn:=by kernel_rfl
theorem sM:aB Tryz.prog G0 144 zS:=ai (ak ⟨ay,(aj afK ae),ap,ae,an⟩ Tryz.func144 rfl (by kernel_rfl))
theorem zR:TOk zS sL:=aC (E:=ahB) (ET:=anY) (EnvT.ofX (az (ah ak8 al)) am au aQ ar) anX rfl
def afE:Env:=(eZ [] [274])
def akX:Hints:=(hZ [] [])
def afD:PFn:=aH (runF Tryz.prog afE akX Tryz.f306)
def aq4:TH:=yZ
def zcr (a0:Int):Option Bool :=
 cond (decide (a0≥32)) (cond (decide (a0<127)) (some (!decide (a0=65533))) (cond (decide (a0>159)) (some (!decide (a0=65533))) (some false))) (some false)
def yz:TFn:={ ps:=tT15,res:=.bool,fn:=fun v=>zcr v.1 }
def akW:TEnv:=(vZ [])
theorem akV:runY Tryz.prog afE akX akW aq4 Tryz.f306 yz.ps yz.res=yz.fn:=by kernel_rfl
theorem afC:aB Tryz.prog G0 306 afD:=ai (ak ⟨ay,ae,ap,ae,an⟩ Tryz.func306 rfl (by kernel_rfl))
theorem akU:TOk afD yz:=aC (E:=afE) (ET:=akW) (EnvT.ofX (az al) am au aQ ar) akV rfl
def agz:Env:=(eZ [(144,zS),(306,afD)] [274])
def amo:Hints:=(hZ [(3,[3,4,5])] [])
def agy:PFn:=aH (runF Tryz.prog agz amo Tryz.f253)
def arv:TH:={ joins:=[(7,{ keep:=[],mem:=[] })],loops:=[(3,{ keep:=[(5,(.int .i64))],mem:=[] })],ro:=[] }
def ql (r1:(List Int×Bool×Unit)) (y3:(Int×Unit)):Option ((Int×Unit)⊕(Unit⊕Bool)) :=
 cond (decide (y3.1<(r1.1.length:Int))) (
(atI r1.1 y3.1).bind fun x2 =>
(zcr x2).bind fun r3 =>
 cond (!r3) (
 some (.inr (.inr false))) (
 some (.inl ((IntKind.wrap .i64 (y3.1+1)),())))) (
 some (.inr (.inl ())))
def zbv (a0:List UInt8):Option Bool :=
(zb4 a0).bind fun r1 =>
(aJ (ql r1) (0,()):Option (Unit⊕Bool)).bind (be fun v4 =>
 cond r1.2.1 (cond (decide ((r1.1.length:Int)≥1)) (some (decide ((r1.1.length:Int)≤24))) (some false)) (some false))
def ze:TFn:={ ps:=(.cons .str .unit),res:=.bool,fn:=fun v=>zbv v.1 }
def amn:TEnv:=(vZ [(144,sL),(306,yz)])
theorem amm:runY Tryz.prog agz amo amn arv Tryz.f253 ze.ps ze.res=ze.fn:=by kernel_rfl
theorem agx:aB Tryz.prog G0 253 agy:=ai (ak ⟨ay,(aj sM (aj afC ae)),ap,ae,an⟩ Tryz.func253 rfl (by kernel_rfl))
theorem aml:TOk agy ze:=aC (E:=agz) (ET:=amn) (EnvT.ofX (az (ah zR (ah akU al))) am au aQ ar) amm rfl
def ahI:Env:=(eZ [(253,agy)] [274])
def aoa:Hints:=(hZ [(6,[0,3])] [])
def ahH:PFn:=aH (runF Tryz.prog ahI aoa Tryz.f183)
def arZ:TH:={ loops:=[(6,{ keep:=[(3,(.int .i64))],mem:=[] })],ro:=[] }
def vd (a0:List (List UInt8)) (y6:(Int×Unit)):Option ((Int×Unit)⊕Int) :=
 cond (decide (y6.1<(a0.length:Int))) (
(atI a0 y6.1).bind fun x1 =>
(zbv x1).bind fun r2 =>
 cond (!r2) (
 some (.inr 8)) (
 some (.inl ((IntKind.wrap .i64 (y6.1+1)),())))) (
 some (.inr 0))
def zb1 (a0:List (List UInt8)):Option Int :=
 cond (decide ((a0.length:Int)=0)) (
 some 8) (
 cond (decide ((a0.length:Int)>8)) (
 some 9) (
 aJ (vd a0) (0,())))
def zV:TFn:={ ps:=tT21,res:=(.int .i64),fn:=fun v=>zb1 v.1 }
def an9:TEnv:=(vZ [(253,ze)])
theorem an8:runY Tryz.prog ahI aoa an9 arZ Tryz.f183 zV.ps zV.res=zV.fn:=by kernel_rfl
theorem ahG:aB Tryz.prog G0 183 ahH:=ai (ak ⟨ay,(aj agx ae),ap,ae,an⟩ Tryz.func183 rfl (by kernel_rfl))
theorem an7:TOk ahH zV:=aC (E:=ahI) (ET:=an9) (EnvT.ofX (az (ah aml al)) am au aQ ar) an8 rfl
def ags:Env:=(eZ [(144,zS)] [274])
def amd:Hints:=(hZ [] [])
def agr:PFn:=aH (runF Tryz.prog ags amd Tryz.f184)
def ars:TH:={ loops:=[],ro:=[1] }
def zby (a0:vV3):Option Bool :=
 cond (decide (a0.1=1)) (
 cond (decide (a0.2.2.1=[])) (cond (decide (a0.2.1≥(-2147483647))) (some (decide (a0.2.1≤2147483647))) (some false)) (some false)) (
 cond (decide (a0.1=2)) (
(zb4 a0.2.2.1).bind fun r1 =>
 cond (decide (a0.2.1=0)) (cond r1.2.1 (some (decide ((a0.2.2.1.length:Int)≤64))) (some false)) (some false)) (
 cond (decide (a0.1=3)) (cond (decide (a0.2.2.1=[])) (cond (decide (a0.2.1≥0)) (some (decide (a0.2.1≤1))) (some false)) (some false)) (some false)))
def yX:TFn:={ ps:=(.cons tT14 .unit),res:=.bool,fn:=fun v=>zby v.1 }
def amc:TEnv:=(vZ [(144,sL)])
theorem amb:runY Tryz.prog ags amd amc ars Tryz.f184 yX.ps yX.res=yX.fn:=by kernel_rfl
theorem agq:aB Tryz.prog G0 184 agr:=ai (ak ⟨ay,(aj sM ae),ap,ae,an⟩ Tryz.func184 rfl (by kernel_rfl))
theorem ama:TOk agr yX:=aC (E:=ags) (ET:=amc) (EnvT.ofX (az (ah zR al)) am au aQ ar) amb rfl
def afP:Env:=(eZ [(101,zL),(172,ac1)] [274])
def alf:Hints:=(hZ [] [])
def afO:PFn:=aH (runF Tryz.prog afP alf Tryz.f254)
def aq9:TH:={ loops:=[],ro:=[2,3] }
def zcm (a0:vV2) (a1:vV2):Option Int :=
(zba a0.1 a1.1).bind fun r1 =>
 cond (!decide (r1=0)) (
(zba a0.1 a1.1).bind fun r2 =>
 some r2) (
(zb7 a0.2.1 a1.2.1).bind fun r3 =>
 some r3)
def yF:TFn:={ ps:=(.cons tT13 (.cons tT13 .unit)),res:=(.int .i64),fn:=fun v=>zcm v.1 v.2.1 }
def ale:TEnv:=(vZ [(101,sI),(172,wQ)])
theorem ald:runY Tryz.prog afP alf ale aq9 Tryz.f254 yF.ps yF.res=yF.fn:=by kernel_rfl
theorem afN:aB Tryz.prog G0 254 afO:=ai (ak ⟨ay,(aj sJ (aj zN ae)),ap,ae,an⟩ Tryz.func254 rfl (by kernel_rfl))
theorem alc:TOk afO yF:=aC (E:=afP) (ET:=ale) (EnvT.ofX (az (ah zK (ah aeP al))) am au aQ ar) ald rfl
def ahs:Env:=(eZ [(109,zc),(254,afO)] [274])
def anN:Hints:=(hZ [(2,[0,3])] [])
def ahr:PFn:=aH (runF Tryz.prog ahs anN Tryz.f185)
def arS:TH:={ loops:=[(2,{ keep:=[(3,(.int .i64))],mem:=[] })],ro:=[] }
def uZ (a0:List vV2) (y2:(Int×Unit)):Option ((Int×Unit)⊕Bool) :=
 cond (decide (y2.1<(a0.length:Int))) (
(atI a0 y2.1).bind fun x1 =>
(zbx x1.1).bind fun r2 =>
 cond (!r2) (some (.inr false)) ((atI a0 y2.1).bind fun x3 =>
 cond (decide (x3.2.1<0)) (some (.inr false)) ((atI a0 y2.1).bind fun x4 =>
 cond (decide (x4.2.1>15)) (
 some (.inr false)) (
 cond (decide (y2.1>0)) ((atI a0 (IntKind.wrap .i64 (y2.1-1))).bind fun x5 =>
(atI a0 y2.1).bind fun x6 =>
(zcm x5 x6).bind fun r7 =>
 cond (!decide (r7=(-1))) (
 some (.inr false)) (
 some (.inl ((IntKind.wrap .i64 (y2.1+1)),())))) (some (.inl ((IntKind.wrap .i64 (y2.1+1)),()))))))) (
 some (.inr true))
def zb8 (a0:List vV2):Option Bool :=
 aJ (uZ a0) (0,())
def zM:TFn:={ ps:=(.cons (.sl tT13) .unit),res:=.bool,fn:=fun v=>zb8 v.1 }
def anM:TEnv:=(vZ [(109,sG),(254,yF)])
theorem anL:runY Tryz.prog ahs anN anM arS Tryz.f185 zM.ps zM.res=zM.fn:=by kernel_rfl
theorem ahq:aB Tryz.prog G0 185 ahr:=ai (ak ⟨ay,(aj sH (aj afN ae)),ap,ae,an⟩ Tryz.func185 rfl (by kernel_rfl))
theorem anK:TOk ahr zM:=aC (E:=ahs) (ET:=anM) (EnvT.ofX (az (ah yY (ah alc al))) am au aQ ar) anL rfl
def agN:Env:=(eZ [(183,ahH),(184,agr),(185,ahr)] [274])
def amK:Hints:=(hZ [] [])
def agM:PFn:=aH (runF Tryz.prog agN amK Tryz.f110)
def arB:TH:={ joins:=[(9,{ keep:=[(1,(.bx 0 0))],mem:=[.same,.gone] }),(11,{ keep:=[(1,(.bx 0 0))],mem:=[.same,.gone] }),(13,{ keep:=[(1,(.bx 0 0))],mem:=[.same,.gone] }),(15,{ keep:=[(1,(.bx 0 0))],mem:=[.same,.gone] })],loops:=[],cuts:=[(11,[(8,{ keep:=[(1,(.bx 0 0)),(55,.bool)],mem:=[.same,.gone] })])],ro:=[1],news:=[] }
def zbp (a0:vV1):Option Int :=
 cond (decide (a0.1<1)) (some 18) (cond (decide (a0.1>5)) (
 some 18) (
(zb1 a0.2.1).bind fun r1 =>
 cond (!decide (r1=0)) (
 some r1) (
(cond (decide (a0.1=3)) (cond (!(eqV tT14 a0.2.2.1 (0,0,[],()))) (
 some (.inr 2)) (
 some (.inl ()))) (cond (decide (a0.1=5)) (cond (!(eqV tT14 a0.2.2.1 (0,0,[],()))) (
 some (.inr 2)) (
 some (.inl ()))) (some (.inl ()))):Option (Unit⊕Int)).bind (be fun v2 =>
(cond (!decide (a0.1=3)) (cond (!decide (a0.1=5)) ((zby a0.2.2.1).bind fun r3 =>
 cond (!r3) (
 some (.inr 2)) (
 some (.inl ()))) (some (.inl ()))) (some (.inl ())):Option (Unit⊕Int)).bind (be fun v4 =>
((cond (!decide (a0.1=3)) (some ((!decide (a0.2.2.2.1=0)),())) (some (false,())):Option (Bool×Unit)).bind fun v5 =>
 cond v5.1 (some (.inr 2)) (cond (decide (a0.1=3)) (cond (decide (a0.2.2.2.1=0)) (some (.inr 2)) (cond (decide (a0.2.2.2.1>2147483647)) (some (.inr 2)) (cond (decide (a0.2.2.2.1<(-2147483647))) (
 some (.inr 2)) (
 some (.inl ()))))) (some (.inl ()))):Option (Unit⊕Int)).bind (be fun v6 =>
(cond (decide (a0.1=2)) (cond (decide ((a0.2.2.2.2.1.length:Int)>0)) (
 some (.inr 2)) (
 some (.inl ()))) (cond (decide (a0.1=3)) (cond (decide ((a0.2.2.2.2.1.length:Int)>0)) (
 some (.inr 2)) (
 some (.inl ()))) (some (.inl ()))):Option (Unit⊕Int)).bind (be fun v7 =>
 cond (decide ((a0.2.2.2.2.1.length:Int)>256)) (
 some 7) (
(zb8 a0.2.2.2.2.1).bind fun r8 =>
 cond (!r8) (
 some 2) (
 some 0)))))))))
def zq:TFn:={ ps:=(.cons tT12 .unit),res:=(.int .i64),fn:=fun v=>zbp v.1 }
def amJ:TEnv:=(vZ [(183,zV),(184,yX),(185,zM)])
theorem amI:runY Tryz.prog agN amK amJ arB Tryz.f110 zq.ps zq.res=zq.fn:=by kernel_rfl
theorem agL:aB Tryz.prog G0 110 agM:=ai (ak ⟨ay,(aj ahG (aj agq (aj ahq ae))),ap,ae,an⟩ Tryz.func110 rfl (by kernel_rfl))
theorem amH:TOk agM zq:=aC (E:=agN) (ET:=amJ) (EnvT.ofX (az (ah an7 (ah ama (ah anK al)))) am au aQ ar) amI rfl
def agf:Env:=(eZ [] [274])
def alS:Hints:=(hZ [] [])
def age:PFn:=aH (runF Tryz.prog agf alS Tryz.f111)
def arl:TH:={ loops:=[],cuts:=[(2,[(9,{ keep:=[(1,(.bx 0 0)),(3,(.bx 1 0)),(13,.bool)],mem:=[.same,.box 132 tT14] })])],ro:=[1],news:=[] }
def zcc (a0:vV1):Option Bool :=
(cond (decide (a0.1=0)) (some ((decide ((a0.2.1.length:Int)=0)),(0,0,[],()),())) (some (false,(0,0,[],()),())):Option (Bool×vV3×Unit)).bind fun v1 =>
 cond v1.1 (cond (eqV tT14 a0.2.2.1 v1.2.1) (cond (decide (a0.2.2.2.1=0)) (some (decide ((a0.2.2.2.2.1.length:Int)=0))) (some false)) (some false)) (some false)
def yP:TFn:={ ps:=(.cons tT12 .unit),res:=.bool,fn:=fun v=>zcc v.1 }
def alR:TEnv:=(vZ [])
theorem alQ:runY Tryz.prog agf alS alR arl Tryz.f111 yP.ps yP.res=yP.fn:=by kernel_rfl
theorem agd:aB Tryz.prog G0 111 age:=ai (ak ⟨ay,ae,ap,ae,an⟩ Tryz.func111 rfl (by kernel_rfl))
theorem alP:TOk age yP:=aC (E:=agf) (ET:=alR) (EnvT.ofX (az al) am au aQ ar) alQ rfl
def agF:Env:=(eZ [(109,zc),(110,agM),(111,age)] [274])
def amw:Hints:=(hZ [(8,[1,3])] [])
def agE:PFn:=aH (runF Tryz.prog agF amw Tryz.f42)
def arx:TH:={ loops:=[(8,{ keep:=[(1,(.bx 0 0)),(3,(.int .i64))],mem:=[.same] })],cuts:=[(1,[(9,{ keep:=[(1,(.bx 0 0)),(13,.bool)],mem:=[.same] })])],ro:=[1],news:=[] }
def qm (a0:vV4) (y8:(Int×Unit)):Option ((Int×Unit)⊕Int) :=
 cond (decide (y8.1<(a0.2.2.2.2.1.length:Int))) (
(atI a0.2.2.2.2.1 y8.1).bind fun x3 =>
(zbp x3).bind fun r4 =>
 cond (!decide (r4=0)) (cond a0.2.2.2.1 ((atI a0.2.2.2.2.1 y8.1).bind fun x5 =>
(zcc x5).bind fun r6 =>
 cond (!r6) (
 some (.inr r4)) (
 some (.inl ((IntKind.wrap .i64 (y8.1+1)),())))) (some (.inr r4))) (some (.inl ((IntKind.wrap .i64 (y8.1+1)),())))) (
 some (.inr 0))
def zbt (a0:vV4):Option Int :=
((zbx a0.1).bind fun r1 =>
 cond (!r1) (some (true,())) (some ((decide (a0.2.1<0)),())):Option (Bool×Unit)).bind fun v2 =>
 cond v2.1 (some 2) (cond (decide (a0.2.1>7)) (some 2) (cond (decide (a0.2.2.1<1)) (some 2) (cond (decide (a0.2.2.1>1099511627776)) (
 some 2) (
 cond (decide ((a0.2.2.2.2.1.length:Int)=0)) (
 some 11) (
 cond (decide ((a0.2.2.2.2.1.length:Int)>16)) (
 some 7) (
 aJ (qm a0) (0,())))))))
def zi:TFn:={ ps:=(.cons tT16 .unit),res:=(.int .i64),fn:=fun v=>zbt v.1 }
def amv:TEnv:=(vZ [(109,sG),(110,zq),(111,yP)])
theorem amu:runY Tryz.prog agF amw amv arx Tryz.f42 zi.ps zi.res=zi.fn:=by kernel_rfl
theorem agD:aB Tryz.prog G0 42 agE:=ai (ak ⟨ay,(aj sH (aj agL (aj agd ae))),ap,ae,an⟩ Tryz.func42 rfl (by kernel_rfl))
theorem amt:TOk agE zi:=aC (E:=agF) (ET:=amv) (EnvT.ofX (az (ah yY (ah amH (ah alP al)))) am au aQ ar) amu rfl
def afS:Env:=(eZ [(41,agv),(42,agE),(152,agP)] [274])
def alj:Hints:=(hZ [(4,[0,5])] [])
def afR:PFn:=aH (runF Tryz.prog afS alj Tryz.f82)
def ara:TH:={ loops:=[(4,{ keep:=[(5,(.int .i64))],mem:=[] })],ro:=[] }
def uJ (a0:List vV4) (y4:(Int×Unit)):Option ((Int×Unit)⊕Bool) :=
 cond (decide (y4.1<(a0.length:Int))) (
(atI a0 y4.1).bind fun x2 =>
(zbw x2).bind fun r3 =>
 cond (!r3) (some (.inr false)) ((atI a0 y4.1).bind fun x4 =>
(zbt x4).bind fun r5 =>
 cond (!decide (r5=0)) (
 some (.inr false)) (
 some (.inl ((IntKind.wrap .i64 (y4.1+1)),()))))) (
 some (.inr true))
def zcl (a0:List vV4) (a1:Int):Option Bool :=
 cond (decide ((a0.length:Int)>a1)) (some false) ((zbo a0).bind fun r1 =>
 cond (!r1) (
 some false) (
 aJ (uJ a0) (0,())))
def yG:TFn:={ ps:=(.cons (.sl tT16) tT15),res:=.bool,fn:=fun v=>zcl v.1 v.2.1 }
def ali:TEnv:=(vZ [(41,zd),(42,zi),(152,zr)])
theorem alh:runY Tryz.prog afS alj ali ara Tryz.f82 yG.ps yG.res=yG.fn:=by kernel_rfl
theorem afQ:aB Tryz.prog G0 82 afR:=ai (ak ⟨ay,(aj agu (aj agD (aj agO ae))),ap,ae,an⟩ Tryz.func82 rfl (by kernel_rfl))
theorem alg:TOk afR yG:=aC (E:=afS) (ET:=ali) (EnvT.ofX (az (ah amh (ah amt (ah amL al)))) am au aQ ar) alh rfl
def afy:Env:=(eZ [(109,zc)] [274])
def akP:Hints:=(hZ [] [])
def afx:PFn:=aH (runF Tryz.prog afy akP Tryz.f224)
def aq2:TH:={ loops:=[],ro:=[1] }
def zct (a0:vV2):Option Bool :=
(zbx a0.1).bind fun r1 =>
 cond r1 (cond (decide (a0.2.1≥1)) (some (decide (a0.2.1≤64))) (some false)) (some false)
def yx:TFn:={ ps:=(.cons tT13 .unit),res:=.bool,fn:=fun v=>zct v.1 }
def akO:TEnv:=(vZ [(109,sG)])
theorem akN:runY Tryz.prog afy akP akO aq2 Tryz.f224 yx.ps yx.res=yx.fn:=by kernel_rfl
theorem afw:aB Tryz.prog G0 224 afx:=ai (ak ⟨ay,(aj sH ae),ap,ae,an⟩ Tryz.func224 rfl (by kernel_rfl))
theorem akM:TOk afx yx:=aC (E:=afy) (ET:=akO) (EnvT.ofX (az (ah yY al)) am au aQ ar) akN rfl
def agp:Env:=(eZ [(101,zL),(224,afx)] [274])
def al9:Hints:=(hZ [(2,[0,3])] [])
def ago:PFn:=aH (runF Tryz.prog agp al9 Tryz.f153)
def arq:TH:={ loops:=[(2,{ keep:=[(3,(.int .i64))],mem:=[] })],ro:=[] }
def uP (a0:List vV2) (y2:(Int×Unit)):Option ((Int×Unit)⊕Bool) :=
 cond (decide (y2.1<(a0.length:Int))) (
(atI a0 y2.1).bind fun x1 =>
(zct x1).bind fun r2 =>
 cond (!r2) (some (.inr false)) (cond (decide (y2.1>0)) ((atI a0 (IntKind.wrap .i64 (y2.1-1))).bind fun x3 =>
(atI a0 y2.1).bind fun x4 =>
(zba x3.1 x4.1).bind fun r5 =>
 cond (!decide (r5=(-1))) (
 some (.inr false)) (
 some (.inl ((IntKind.wrap .i64 (y2.1+1)),())))) (some (.inl ((IntKind.wrap .i64 (y2.1+1)),()))))) (
 some (.inr true))
def zbz (a0:List vV2):Option Bool :=
 aJ (uP a0) (0,())
def yW:TFn:={ ps:=(.cons (.sl tT13) .unit),res:=.bool,fn:=fun v=>zbz v.1 }
def al8:TEnv:=(vZ [(101,sI),(224,yx)])
theorem al7:runY Tryz.prog agp al9 al8 arq Tryz.f153 yW.ps yW.res=yW.fn:=by kernel_rfl
theorem agn:aB Tryz.prog G0 153 ago:=ai (ak ⟨ay,(aj sJ (aj afw ae)),ap,ae,an⟩ Tryz.func153 rfl (by kernel_rfl))
theorem al6:TOk ago yW:=aC (E:=agp) (ET:=al8) (EnvT.ofX (az (ah zK (ah akM al))) am au aQ ar) al7 rfl
def af9:Env:=(eZ [(153,ago)] [274])
def alK:Hints:=(hZ [] [])
def af8:PFn:=aH (runF Tryz.prog af9 alK Tryz.f83)
def arj:TH:=yZ
def zce (a0:List vV2):Option Bool :=
 cond (decide ((a0.length:Int)≤100)) ((zbz a0).bind fun r1 =>
 some r1) (some false)
def yN:TFn:={ ps:=(.cons (.sl tT13) .unit),res:=.bool,fn:=fun v=>zce v.1 }
def alJ:TEnv:=(vZ [(153,yW)])
theorem alI:runY Tryz.prog af9 alK alJ arj Tryz.f83 yN.ps yN.res=yN.fn:=by kernel_rfl
theorem af7:aB Tryz.prog G0 83 af8:=ai (ak ⟨ay,(aj agn ae),ap,ae,an⟩ Tryz.func83 rfl (by kernel_rfl))
theorem alH:TOk af8 yN:=aC (E:=af9) (ET:=alJ) (EnvT.ofX (az (ah al6 al)) am au aQ ar) alI rfl
def agk:Env:=(eZ [(82,afR),(83,af8)] [274])
def alZ:Hints:=(hZ [] [])
def agj:PFn:=aH (runF Tryz.prog agk alZ Tryz.f29)
def arn:TH:=yZ
def zca (a0:List vV4) (a1:List vV2):Option Bool :=
(zcl a0 20).bind fun r1 =>
 cond r1 ((zce a1).bind fun r2 =>
 some r2) (some false)
def yS:TFn:={ ps:=(.cons (.sl tT16) (.cons (.sl tT13) .unit)),res:=.bool,fn:=fun v=>zca v.1 v.2.1 }
def alY:TEnv:=(vZ [(82,yG),(83,yN)])
theorem alX:runY Tryz.prog agk alZ alY arn Tryz.f29 yS.ps yS.res=yS.fn:=by kernel_rfl
theorem agi:aB Tryz.prog G0 29 agj:=ai (ak ⟨ay,(aj afQ (aj af7 ae)),ap,ae,an⟩ Tryz.func29 rfl (by kernel_rfl))
theorem alW:TOk agj yS:=aC (E:=agk) (ET:=alY) (EnvT.ofX (az (ah alg (ah alH al))) am au aQ ar) alX rfl
def af3:Env:=(eZ [(29,agj)] [274])
def alC:Hints:=(hZ [(4,[0,1,5])] [])
def af2:PFn:=aH (runF Tryz.prog af3 alC Tryz.f14)
def arh:TH:={ loops:=[(4,{ keep:=[(5,(.int .i64))],mem:=[] })],ro:=[] }
def uM (a0:List vV4) (a1:List (List vV2×Unit)) (y4:(Int×Unit)):Option ((Int×Unit)⊕Bool) :=
 cond (decide (y4.1<(a1.length:Int))) (
(atI a1 y4.1).bind fun x1 =>
(zca a0 x1.1).bind fun r2 =>
 cond (!r2) (
 some (.inr false)) (
 some (.inl ((IntKind.wrap .i64 (y4.1+1)),())))) (
 some (.inr true))
def zcg (a0:List vV4) (a1:List (List vV2×Unit)):Option Bool :=
 cond (decide ((a1.length:Int)>6)) (
 some false) (
 aJ (uM a0 a1) (0,()))
def yL:TFn:={ ps:=(.cons (.sl tT16) (.cons (.sl (.agg (.cons (.sl tT13) .unit))) .unit)),res:=.bool,fn:=fun v=>zcg v.1 v.2.1 }
def alB:TEnv:=(vZ [(29,yS)])
theorem alA:runY Tryz.prog af3 alC alB arh Tryz.f14 yL.ps yL.res=yL.fn:=by kernel_rfl
theorem af1:aB Tryz.prog G0 14 af2:=ai (ak ⟨ay,(aj agi ae),ap,ae,an⟩ Tryz.func14 rfl (by kernel_rfl))
theorem alz:TOk af2 yL:=aC (E:=af3) (ET:=alB) (EnvT.ofX (az (ah alW al)) am au aQ ar) alA rfl
def ajc:Env:=(eZ [] [274])
def aqb:Hints:=(hZ [] [])
def ajb:PFn:=aH (runF Tryz.prog ajc aqb Tryz.f328)
def asr:TH:=yZ
def za0 (a0:List UInt8):Option Int :=
(atI a0 0).bind fun b1 =>
(atI a0 1).bind fun b2 =>
(shlT .u64 (IntKind.wrap .u64 (b2.toNat:Int)) 8).bind fun t3 =>
(atI a0 2).bind fun b4 =>
(shlT .u64 (IntKind.wrap .u64 (b4.toNat:Int)) 16).bind fun t5 =>
(atI a0 3).bind fun b6 =>
(shlT .u64 (IntKind.wrap .u64 (b6.toNat:Int)) 24).bind fun t7 =>
(atI a0 4).bind fun b8 =>
(shlT .u64 (IntKind.wrap .u64 (b8.toNat:Int)) 32).bind fun t9 =>
(atI a0 5).bind fun b10 =>
(shlT .u64 (IntKind.wrap .u64 (b10.toNat:Int)) 40).bind fun t11 =>
(atI a0 6).bind fun b12 =>
(shlT .u64 (IntKind.wrap .u64 (b12.toNat:Int)) 48).bind fun t13 =>
(atI a0 7).bind fun b14 =>
(shlT .u64 (IntKind.wrap .u64 (b14.toNat:Int)) 56).bind fun t15 =>
 some (IntKind.wrap .u64 ((BitVec.ofInt (IntKind.bits .u64) (IntKind.wrap .u64 ((BitVec.ofInt (IntKind.bits .u64) (IntKind.wrap .u64 ((BitVec.ofInt (IntKind.bits .u64) (IntKind.wrap .u64 ((BitVec.ofInt (IntKind.bits .u64) (IntKind.wrap .u64 ((BitVec.ofInt (IntKind.bits .u64) (IntKind.wrap .u64 ((BitVec.ofInt (IntKind.bits .u64) (IntKind.wrap .u64 ((BitVec.ofInt (IntKind.bits .u64) (IntKind.wrap .u64 (b1.toNat:Int)) ||| BitVec.ofInt (IntKind.bits .u64) t3).toNat)) ||| BitVec.ofInt (IntKind.bits .u64) t5).toNat)) ||| BitVec.ofInt (IntKind.bits .u64) t7).toNat)) ||| BitVec.ofInt (IntKind.bits .u64) t9).toNat)) ||| BitVec.ofInt (IntKind.bits .u64) t11).toNat)) ||| BitVec.ofInt (IntKind.bits .u64) t13).toNat)) ||| BitVec.ofInt (IntKind.bits .u64) t15).toNat))
def aap:TFn:={ ps:=(.cons .str .unit),res:=(.int .u64),fn:=fun v=>za0 v.1 }
def aqa:TEnv:=(vZ [])
theorem ap9:runY Tryz.prog ajc aqb aqa asr Tryz.f328 aap.ps aap.res=aap.fn:=by kernel_rfl
theorem aja:aB Tryz.prog G0 328 ajb:=ai (ak ⟨ay,ae,ap,ae,an⟩ Tryz.func328 rfl (by kernel_rfl))
theorem ap8:TOk ajb aap:=aC (E:=ajc) (ET:=aqa) (EnvT.ofX (az al) am au aQ ar) ap9 rfl
def ai6:Env:=(eZ [(328,ajb)] [274])
def ap0:Hints:=(hZ [(1,[0]),(9,[0])] [])
def ado:PFn:=aH (runF Tryz.prog ai6 ap0 Tryz.f281)
def asn:TH:={ joins:=[(11,{ keep:=[(0,.str),(3,(.int .u8))],mem:=[] })],loops:=[(1,{ keep:=[(0,.str)],mem:=[] }),(9,{ keep:=[(0,.str)],mem:=[] })],cuts:=[(21,[(10,{ keep:=[(6,(.bx 0 0)),(108,.bool)],mem:=[.box 367 (.agg (.cons (.int .u8) (.cons (.int .u8) .unit)))] })]),(25,[(10,{ keep:=[(6,(.bx 0 0)),(139,.bool)],mem:=[.box 367 (.agg (.cons (.int .u8) (.cons (.int .u8) .unit)))] }),(7,{ keep:=[(146,.bool)],mem:=[.gone] }),(5,{ keep:=[(151,.bool)],mem:=[.gone] })])],ro:=[],news:=[] }
def iv (y9:(List UInt8×Unit)):Option ((List UInt8×Unit)⊕((List UInt8×Int×Unit)⊕((List UInt8×Unit)⊕Bool))) :=
 cond (decide ((y9.1.length:Int)>32)) ((za0 y9.1).bind fun r9 =>
(subI y9.1 8 (y9.1.length:Int)).bind fun s10 =>
(za0 s10).bind fun r11 =>
(subI y9.1 16 (y9.1.length:Int)).bind fun s12 =>
(za0 s12).bind fun r13 =>
(subI y9.1 24 (y9.1.length:Int)).bind fun s14 =>
(za0 s14).bind fun r15 =>
 cond (decide ((IntKind.wrap .u64 ((BitVec.ofInt (IntKind.bits .u64) (IntKind.wrap .u64 ((BitVec.ofInt (IntKind.bits .u64) (IntKind.wrap .u64 ((BitVec.ofInt (IntKind.bits .u64) r9 ||| BitVec.ofInt (IntKind.bits .u64) r11).toNat)) ||| BitVec.ofInt (IntKind.bits .u64) (IntKind.wrap .u64 ((BitVec.ofInt (IntKind.bits .u64) r13 ||| BitVec.ofInt (IntKind.bits .u64) r15).toNat))).toNat)) &&& BitVec.ofInt (IntKind.bits .u64) 9259542123273814144).toNat))=0)) (
(subI y9.1 32 (y9.1.length:Int)).bind fun s16 =>
 some (.inl (s16,()))) (
 some (.inr (.inr (.inl (y9.1,())))))) (some (.inr (.inr (.inl (y9.1,())))))
def iw (y1:(List UInt8×Unit)):Option ((List UInt8×Unit)⊕Bool) :=
 cond (decide ((y1.1.length:Int)>0)) (
(atI y1.1 0).bind fun b1 =>
(cond (decide ((b1.toNat:Int)<128)) (
(subI y1.1 1 (y1.1.length:Int)).bind fun s2 =>
 cond (decide ((s2.length:Int)>8)) ((za0 s2).bind fun r3 =>
 cond (decide ((IntKind.wrap .u64 ((BitVec.ofInt (IntKind.bits .u64) r3 &&& BitVec.ofInt (IntKind.bits .u64) 9259542123273814144).toNat))=0)) (
(subI s2 8 (s2.length:Int)).bind fun s4 =>
 cond (decide ((s4.length:Int)>16)) ((za0 s4).bind fun r5 =>
(subI s4 8 (s4.length:Int)).bind fun s6 =>
(za0 s6).bind fun r7 =>
 cond (decide ((IntKind.wrap .u64 ((BitVec.ofInt (IntKind.bits .u64) (IntKind.wrap .u64 ((BitVec.ofInt (IntKind.bits .u64) r5 ||| BitVec.ofInt (IntKind.bits .u64) r7).toNat)) &&& BitVec.ofInt (IntKind.bits .u64) 9259542123273814144).toNat))=0)) (
(subI s4 16 (s4.length:Int)).bind fun s8 =>
 aJ (iv) (s8,())) (
 some (.inr (.inl (s4,()))))) (some (.inr (.inl (s4,()))))) (
 some (.inr (.inl (s2,()))))) (some (.inr (.inl (s2,()))))) (
 some (.inl (y1.1,(b1.toNat:Int),()))):Option ((List UInt8×Int×Unit)⊕((List UInt8×Unit)⊕Bool))).bind (be fun v17 =>
(atI gC v17.2.1).bind fun x18 =>
(shrT .u8 x18 4).bind fun t19 =>
(atI e9 t19).bind fun x20 =>
 cond (decide ((IntKind.wrap .i64 (IntKind.wrap .u8 ((BitVec.ofInt (IntKind.bits .u8) x18 &&& BitVec.ofInt (IntKind.bits .u8) 7).toNat)))=2)) (
 cond (decide ((v17.1.length:Int)<2)) (some (.inr false)) ((atI v17.1 1).bind fun b21 =>
 cond (decide ((b21.toNat:Int)<x20.1)) (some (.inr false)) ((atI v17.1 1).bind fun b22 =>
 cond (decide (x20.2.1<(b22.toNat:Int))) (
 some (.inr false)) (
(subI v17.1 2 (v17.1.length:Int)).bind fun s23 =>
 some (.inl (s23,())))))) (
 cond (decide ((IntKind.wrap .i64 (IntKind.wrap .u8 ((BitVec.ofInt (IntKind.bits .u8) x18 &&& BitVec.ofInt (IntKind.bits .u8) 7).toNat)))=3)) (
(cond (decide ((v17.1.length:Int)<3)) (some (true,x20,())) ((atI v17.1 1).bind fun b24 =>
 some ((decide ((b24.toNat:Int)<x20.1)),x20,())):Option (Bool×(Int×Int×Unit)×Unit)).bind fun v25 =>
 cond v25.1 (some (.inr false)) ((atI v17.1 1).bind fun b26 =>
 cond (decide (v25.2.1.2.1<(b26.toNat:Int))) (some (.inr false)) ((atI v17.1 2).bind fun b27 =>
 cond (decide ((b27.toNat:Int)<128)) (some (.inr false)) ((atI v17.1 2).bind fun b28 =>
 cond (decide (191<(b28.toNat:Int))) (
 some (.inr false)) (
(subI v17.1 3 (v17.1.length:Int)).bind fun s29 =>
 some (.inl (s29,()))))))) (
 cond (decide ((IntKind.wrap .i64 (IntKind.wrap .u8 ((BitVec.ofInt (IntKind.bits .u8) x18 &&& BitVec.ofInt (IntKind.bits .u8) 7).toNat)))=4)) (
(cond (decide ((v17.1.length:Int)<4)) (some (true,x20,())) ((atI v17.1 1).bind fun b30 =>
 some ((decide ((b30.toNat:Int)<x20.1)),x20,())):Option (Bool×(Int×Int×Unit)×Unit)).bind fun v31 =>
(cond v31.1 (some (true,())) ((atI v17.1 1).bind fun b32 =>
 some ((decide (v31.2.1.2.1<(b32.toNat:Int))),())):Option (Bool×Unit)).bind fun v33 =>
(cond v33.1 (some (true,())) ((atI v17.1 2).bind fun b34 =>
 some ((decide ((b34.toNat:Int)<128)),())):Option (Bool×Unit)).bind fun v35 =>
 cond v35.1 (some (.inr false)) ((atI v17.1 2).bind fun b36 =>
 cond (decide (191<(b36.toNat:Int))) (some (.inr false)) ((atI v17.1 3).bind fun b37 =>
 cond (decide ((b37.toNat:Int)<128)) (some (.inr false)) ((atI v17.1 3).bind fun b38 =>
 cond (decide (191<(b38.toNat:Int))) (
 some (.inr false)) (
(subI v17.1 4 (v17.1.length:Int)).bind fun s39 =>
 some (.inl (s39,()))))))) (
 some (.inr false)))))) (
 some (.inr true))
def za3 (a0:List UInt8):Option Bool :=
 aJ (iw) (a0,())
def wT:TFn:={ ps:=(.cons .str .unit),res:=.bool,fn:=fun v=>za3 v.1 }
def apZ:TEnv:=(vZ [(328,aap)])
theorem apY:runY Tryz.prog ai6 ap0 apZ asn Tryz.f281 wT.ps wT.res=wT.fn:=by kernel_rfl
theorem aan:aB Tryz.prog G0 281 ado:=ai (ak ⟨ay,(aj aja ae),ap,ae,an⟩ Tryz.func281 rfl (by kernel_rfl))
theorem aeS:TOk ado wT:=aC (E:=ai6) (ET:=apZ) (EnvT.ofX (az (ah ap8 al)) am au aQ ar) apY rfl
def ahZ:Env:=(eZ [] [274])
def aoD:Hints:=(hZ [(2,[2,4])] [])
def ahY:PFn:=aH (runF Tryz.prog ahZ aoD Tryz.f282)
def ar6:TH:={ loops:=[(2,{ keep:=[(2,(.int .i64)),(4,(.it 0))],mem:=[.iter] })],ro:=[] }
def qq (a0:List UInt8) (y2:(Int×Nat×Unit)):Option ((Int×Nat×Unit)⊕Int) :=
 cond (decide (y2.2.1<a0.length)) (some (.inl ((IntKind.wrap .i64 (y2.1+1)),(y2.2.1+(Utf8.decode ⟨a0.toArray⟩ y2.2.1).2),()))) (some (.inr y2.1))
def zau (a0:List UInt8):Option Int :=
 aJ (qq a0) (0,0,())
def z6:TFn:={ ps:=(.cons .str .unit),res:=(.int .i64),fn:=fun v=>zau v.1 }
def aoC:TEnv:=(vZ [])
theorem aoB:runY Tryz.prog ahZ aoD aoC ar6 Tryz.f282 z6.ps z6.res=z6.fn:=by kernel_rfl
theorem ahX:aB Tryz.prog G0 282 ahY:=ai (ak ⟨ay,ae,ap,ae,an⟩ Tryz.func282 rfl (by kernel_rfl))
theorem aoA:TOk ahY z6:=aC (E:=ahZ) (ET:=aoC) (EnvT.ofX (az al) am au aQ ar) aoB rfl
def ahc:Env:=(eZ [] [274])
def anm:Hints:=(hZ [] [])
def ahb:PFn:=aH (runF Tryz.prog ahc anm Tryz.f283)
def arL:TH:=yZ
def zbf (a0:Int):Option Bool :=
 cond (decide (a0=42)) (some true) (cond (decide (a0=63)) (some true) (some (decide (a0=92))))
def zG:TFn:={ ps:=(.cons (.int .i32) .unit),res:=.bool,fn:=fun v=>zbf v.1 }
def anl:TEnv:=(vZ [])
theorem ank:runY Tryz.prog ahc anm anl arL Tryz.f283 zG.ps zG.res=zG.fn:=by kernel_rfl
theorem aha:aB Tryz.prog G0 283 ahb:=ai (ak ⟨ay,ae,ap,ae,an⟩ Tryz.func283 rfl (by kernel_rfl))
theorem anj:TOk ahb zG:=aC (E:=ahc) (ET:=anl) (EnvT.ofX (az al) am au aQ ar) ank rfl
def afZ:Env:=(eZ [(281,ado),(282,ahY),(283,ahb)] [274])
def alv:Hints:=(hZ [(6,[4,5,17])] [])
def acQ:PFn:=aH (runF Tryz.prog afZ alv Tryz.f215)
def ard:TH:={ joins:=[(18,{ keep:=[(4,(.own 1)),(5,.bool)],mem:=[.gone,.row true 336 (.agg (.cons (.int .i64) (.cons (.int .i32) .unit)))] }),(10,{ keep:=[(4,(.own 1)),(17,(.it 0)),(25,.bool)],mem:=[.iter,.row true 336 (.agg (.cons (.int .i64) (.cons (.int .i32) .unit)))] })],loops:=[(6,{ keep:=[(4,(.own 1)),(5,.bool),(17,(.it 0))],mem:=[.iter,.row true 336 (.agg (.cons (.int .i64) (.cons (.int .i32) .unit)))] })],ro:=[] }
def fS (a0:List UInt8) (y6:(Bool×Nat×List (Int×Int×Unit)×Unit)):Option ((Bool×Nat×List (Int×Int×Unit)×Unit)⊕((Bool×List (Int×Int×Unit)×Unit)⊕(List (Int×Int×Unit)×Bool×Unit))) :=
 cond (decide (y6.2.1<a0.length)) ((cond y6.1 ((zbf ((Utf8.decode ⟨a0.toArray⟩ y6.2.1).1:Int)).bind fun r3 =>
 some (.inl ((!r3),(y6.2.1+(Utf8.decode ⟨a0.toArray⟩ y6.2.1).2),y6.2.2.1,()))) (some (.inl (false,(y6.2.1+(Utf8.decode ⟨a0.toArray⟩ y6.2.1).2),y6.2.2.1,()))):Option ((Bool×Nat×List (Int×Int×Unit)×Unit)⊕((Bool×Nat×List (Int×Int×Unit)×Unit)⊕((Bool×List (Int×Int×Unit)×Unit)⊕(List (Int×Int×Unit)×Bool×Unit))))).bind (be fun v4 =>
 cond v4.1 (
 some (.inr (.inr ([],false,())))) (
 cond y6.1 ((dN (v4.2.2.1.length+([(0,((Utf8.decode ⟨a0.toArray⟩ y6.2.1).1:Int),())]:List (Int×Int×Unit)).length)).bind fun u5 =>
 some (.inl (false,v4.2.1,(v4.2.2.1++([(0,((Utf8.decode ⟨a0.toArray⟩ y6.2.1).1:Int),())]:List (Int×Int×Unit))),()))) ((zbf ((Utf8.decode ⟨a0.toArray⟩ y6.2.1).1:Int)).bind fun r6 =>
 cond (!r6) (
(dN (v4.2.2.1.length+([(0,((Utf8.decode ⟨a0.toArray⟩ y6.2.1).1:Int),())]:List (Int×Int×Unit)).length)).bind fun u7 =>
 some (.inl (false,v4.2.1,(v4.2.2.1++([(0,((Utf8.decode ⟨a0.toArray⟩ y6.2.1).1:Int),())]:List (Int×Int×Unit))),()))) (
 cond (decide (((Utf8.decode ⟨a0.toArray⟩ y6.2.1).1:Int)=92)) (
 some (.inl (true,v4.2.1,v4.2.2.1,()))) (
 cond (decide (((Utf8.decode ⟨a0.toArray⟩ y6.2.1).1:Int)=63)) (
(dN (v4.2.2.1.length+([(1,0,())]:List (Int×Int×Unit)).length)).bind fun u8 =>
 some (.inl (y6.1,v4.2.1,(v4.2.2.1++([(1,0,())]:List (Int×Int×Unit))),()))) (
(dN (v4.2.2.1.length+([(2,0,())]:List (Int×Int×Unit)).length)).bind fun u9 =>
 some (.inl (y6.1,v4.2.1,(v4.2.2.1++([(2,0,())]:List (Int×Int×Unit))),()))))))))) (some (.inr (.inl (y6.1,y6.2.2.1,()))))
def zci (a0:List UInt8):Option (List (Int×Int×Unit)×Bool×Unit) :=
(za3 a0).bind fun r1 =>
 cond (!r1) (some ([],false,())) ((zau a0).bind fun r2 =>
 cond (decide (r2>64)) (
 some ([],false,())) (
(aJ (fS a0) (false,0,[],()):Option ((Bool×List (Int×Int×Unit)×Unit)⊕(List (Int×Int×Unit)×Bool×Unit))).bind (be fun v10 =>
 cond v10.1 (
 some ([],false,())) (
 some (v10.2.1,true,())))))
def wJ:TFn:={ ps:=(.cons .str .unit),res:=(.tup (.cons (.sl (.agg (.cons (.int .i64) (.cons (.int .i32) .unit)))) (.cons .bool .unit))),fn:=fun v=>zci v.1 }
def alu:TEnv:={ pure:=[(281,wT),(282,z6),(283,zG)],look:=[],glob:=G0T,ty:=[(336,(.agg (.cons (.int .i64) (.cons (.int .i32) .unit))))],raw:=[],fresh:=[] }
theorem alt:runY Tryz.prog afZ alv alu ard Tryz.f215 wJ.ps wJ.res=wJ.fn:=by kernel_rfl
theorem yJ:aB Tryz.prog G0 215 acQ:=ai (ak ⟨ay,(aj aan (aj ahX (aj aha ae))),ap,ae,an⟩ Tryz.func215 rfl (by kernel_rfl))
theorem aeH:TOk acQ wJ:=aC (E:=afZ) (ET:=alu) (EnvT.ofX (az (ah aeS (ah aoA (ah anj al)))) am au aQ ar) alt rfl
def agc:Env:=(eZ [(215,acQ)] [274])
def alO:Hints:=(hZ [] [])
def agb:PFn:=aH (runF Tryz.prog agc alO Tryz.f143)
def ark:TH:=yZ
def zcd (a0:List UInt8):Option Bool :=
(zci a0).bind fun r1 =>
 some r1.2.1
def yO:TFn:={ ps:=(.cons .str .unit),res:=.bool,fn:=fun v=>zcd v.1 }
def alN:TEnv:=(vZ [(215,wJ)])
theorem alM:runY Tryz.prog agc alO alN ark Tryz.f143 yO.ps yO.res=yO.fn:=by kernel_rfl
theorem aga:aB Tryz.prog G0 143 agb:=ai (ak ⟨ay,(aj yJ ae),ap,ae,an⟩ Tryz.func143 rfl (by kernel_rfl))
theorem alL:TOk agb yO:=aC (E:=agc) (ET:=alN) (EnvT.ofX (az (ah aeH al)) am au aQ ar) alM rfl
def ahi:Env:=(eZ [(143,agb)] [274])
def anu:Hints:=(hZ [] [])
def ahh:PFn:=aH (runF Tryz.prog ahi anu Tryz.f142)
def arN:TH:=yZ
def zbd (a0:List UInt8):Option Bool :=
 cond (decide (a0=[])) (some true) ((zcd a0).bind fun r1 =>
 some (!r1))
def zH:TFn:={ ps:=(.cons .str .unit),res:=.bool,fn:=fun v=>zbd v.1 }
def ant:TEnv:=(vZ [(143,yO)])
theorem ans:runY Tryz.prog ahi anu ant arN Tryz.f142 zH.ps zH.res=zH.fn:=by kernel_rfl
theorem ahg:aB Tryz.prog G0 142 ahh:=ai (ak ⟨ay,(aj aga ae),ap,ae,an⟩ Tryz.func142 rfl (by kernel_rfl))
theorem anr:TOk ahh zH:=aC (E:=ahi) (ET:=ant) (EnvT.ofX (az (ah alL al)) am au aQ ar) ans rfl
def aix:Env:=(eZ [(142,ahh)] [274])
def apa:Hints:=(hZ [(2,[0,1,7,8])] [])
def aiw:PFn:=aH (runF Tryz.prog aix apa Tryz.f214)
def asb:TH:={ loops:=[(2,{ keep:=[(8,(.int .i64))],mem:=[] })],ro:=[] }
def qr (a0:List (List UInt8)) (y2:(Int×Unit)):Option ((Int×Unit)⊕Int) :=
 cond (decide (y2.1<(a0.length:Int))) (
(atI a0 y2.1).bind fun x1 =>
(zbd x1).bind fun r2 =>
 cond r2 (
 some (.inr y2.1)) (
 some (.inl ((IntKind.wrap .i64 (y2.1+1)),())))) (
 some (.inr (-1)))
def zai (a0:List (List UInt8)) (a1:Unit):Option Int :=
 aJ (qr a0) (0,())
def aac:TFn:={ ps:=(.cons (.sl .str) (.cons (.fn 142) .unit)),res:=(.int .i64),fn:=fun v=>zai v.1 v.2.1 }
def ao9:TEnv:=(vZ [(142,zH)])
theorem ao8:runY Tryz.prog aix apa ao9 asb Tryz.f214 aac.ps aac.res=aac.fn:=by kernel_rfl
theorem aiv:aB Tryz.prog G0 214 aiw:=ai (ak ⟨ay,(aj ahg ae),ap,ae,an⟩ Tryz.func214 rfl (by kernel_rfl))
theorem ao7:TOk aiw aac:=aC (E:=aix) (ET:=ao9) (EnvT.ofX (az (ah anr al)) am au aQ ar) ao8 rfl
def aiA:Env:=(eZ [(214,aiw)] [274])
def ape:Hints:=(hZ [] [])
def aiz:PFn:=aH (runF Tryz.prog aiA ape Tryz.f141)
def asc:TH:=yZ
def zah (a0:List (List UInt8)) (a1:Unit):Option Bool :=
(zai a0 a1).bind fun r1 =>
 some (decide (r1≥0))
def aad:TFn:={ ps:=(.cons (.sl .str) (.cons (.fn 142) .unit)),res:=.bool,fn:=fun v=>zah v.1 v.2.1 }
def apd:TEnv:=(vZ [(214,aac)])
theorem apc:runY Tryz.prog aiA ape apd asc Tryz.f141 aad.ps aad.res=aad.fn:=by kernel_rfl
theorem aiy:aB Tryz.prog G0 141 aiz:=ai (ak ⟨ay,(aj aiv ae),ap,ae,an⟩ Tryz.func141 rfl (by kernel_rfl))
theorem apb:TOk aiz aad:=aC (E:=aiA) (ET:=apd) (EnvT.ofX (az (ah ao7 al)) am au aQ ar) apc rfl
def agJ:Env:=(eZ [(141,aiz)] [274])
def amD:Hints:=(hZ [] [])
def acT:PFn:=aH (runF Tryz.prog agJ amD Tryz.f71)
def arz:TH:=yZ
def zbr (a0:List (List UInt8)):Option Int :=
 cond (decide ((a0.length:Int)=0)) (
 some 8) (
 cond (decide ((a0.length:Int)>8)) (
 some 9) (
(zah a0 ()).bind fun r1 =>
 cond r1 (
 some 8) (
 some 0)))
def wM:TFn:={ ps:=tT21,res:=(.int .i64),fn:=fun v=>zbr v.1 }
def amC:TEnv:=(vZ [(141,aad)])
theorem amB:runY Tryz.prog agJ amD amC arz Tryz.f71 wM.ps wM.res=wM.fn:=by kernel_rfl
theorem zk:aB Tryz.prog G0 71 acT:=ai (ak ⟨ay,(aj aiy ae),ap,ae,an⟩ Tryz.func71 rfl (by kernel_rfl))
theorem aeK:TOk acT wM:=aC (E:=agJ) (ET:=amC) (EnvT.ofX (az (ah apb al)) am au aQ ar) amB rfl
def ah0:Go.Shelf.Ren:=⟨fun | 41=>72 | n=>n,fun | 22=>24 | 23=>9 | 4=>4 | n=>n,fun | n=>n⟩
theorem ac9:Go.Proofs.SlLaysE0.n41 Tryz.prog ah0:={
 mixed:=by kernel_rfl
 f41:=⟨Tryz.f72.name,by decide,Tryz.func72.trans (congrArg some (by kernel_rfl))⟩
 t4:=Tryz.underlying4
 a4:=Tryz.isAgg4
 z4:=Tryz.sizeOf4
 v4:=Tryz.zeroValue4
 t22:=Tryz.underlying24
 a22:=Tryz.isAgg24
 z22:=Tryz.sizeOf24
 v22:=Tryz.zeroValue24 }
def wS:PFn:=(j9 1)
theorem oL:aB Tryz.prog G0 72 wS:=clone_lays ac9 1 ⟨Tryz.f72,Tryz.func72,rfl,by kernel_rfl⟩ (by kernel_rfl) (by kernel_rfl) (by kernel_rfl) (by kernel_rfl) (by kernel_rfl) (by decide) (fun w=>Tryz.sizeOf9 w)
def zat (a0:List (List UInt8)):Option (List (List UInt8)):=eR a0
def z7:TFn:=fM .str
theorem ve:TOk wS z7:=mm rfl rfl rfl
def afv:Env:=(eZ [(71,acT),(72,wS)] [274])
def akL:Hints:=(hZ [] [])
def acO:SFn:=runF Tryz.prog afv akL Tryz.f17
def aq1:TH:=yZ
def zcu (a0:List (List UInt8)):Option (List vV7×Int×Unit) :=
(zbr a0).bind fun r1 =>
 cond (!decide (r1=0)) (
 some ([],r1,())) (
(zat a0).bind fun r2 =>
 some ([(r2,[],0,())],0,()))
def yw:TNew:={ ps:=tT21,e:=139,t:=(.cons (.sl tT17) tT15),fn:=fun v=>zcu v.1,pair:=true }
def akK:TEnv:=(vZ [(71,wM),(72,z7)])
theorem akJ:aqt Tryz.prog afv akL akK aq1 Tryz.f17 yw.ps 139 tT17 tT15=yw.fn:=by kernel_rfl
theorem yu:bL Tryz.prog G0 17 acO:=ak ⟨ay,(aj zk (aj oL ae)),ap,ae,an⟩ Tryz.func17 rfl (by kernel_rfl)
theorem aeF:TNewOk acO yw:=ad1 (E:=afv) (ET:=akK) (EnvT.ofX (az (ah aeK (ah ve al))) am au aQ ar) akJ
def ahk:Env:=(eZ [] [274])
def anz:Hints:=(hZ [] [])
def ac0:PFn:=aH (runF Tryz.prog ahk anz Tryz.f226)
def arO:TH:=yZ
def zbc (a0:Int):Option Bool :=
 some (!decide (a0=a0))
def zI:TFn:={ ps:=tT15,res:=.bool,fn:=fun v=>zbc v.1 }
def anx:TEnv:=(vZ [])
theorem anw:runY Tryz.prog ahk anz anx arO Tryz.f226 zI.ps zI.res=zI.fn:=by kernel_rfl
theorem ahj:aB Tryz.prog G0 226 ac0:=ai (ak ⟨ay,ae,ap,ae,an⟩ Tryz.func226 rfl (by kernel_rfl))
theorem anv:TOk ac0 zI:=aC (E:=ahk) (ET:=anx) (EnvT.ofX (az al) am au aQ ar) anw rfl
def ai5:Env:=(eZ [(226,ac0)] [274])
def apX:Hints:=(hZ [] [])
def sS:PFn:=aH (runF Tryz.prog ai5 apX Tryz.f156)
def asm:TH:=yZ
def za4 (a0:Int) (a1:Int):Option Int :=
(zbc a0).bind fun r1 =>
(zbc a1).bind fun r2 =>
 cond r1 (
 cond r2 (
 some 0) (
 some (-1))) (
 cond r2 (
 some 1) (
 cond (decide (a0<a1)) (
 some (-1)) (
 cond (decide (a0>a1)) (
 some 1) (
 some 0))))
def qs:TFn:={ ps:=(.cons (.int .i64) tT15),res:=(.int .i64),fn:=fun v=>za4 v.1 v.2.1 }
def apW:TEnv:=(vZ [(226,zI)])
theorem apV:runY Tryz.prog ai5 apX apW asm Tryz.f156 qs.ps qs.res=qs.fn:=by kernel_rfl
theorem oM:aB Tryz.prog G0 156 sS:=ai (ak ⟨ay,(aj ahj ae),ap,ae,an⟩ Tryz.func156 rfl (by kernel_rfl))
theorem vh:TOk sS qs:=aC (E:=ai5) (ET:=apW) (EnvT.ofX (az (ah anv al)) am au aQ ar) apV rfl
def ahp:Env:=(eZ [] [274])
def anJ:Hints:=(hZ [(3,[3,6,7,8])] [])
def sK:PFn:=aH (runF Tryz.prog ahp anJ Tryz.f154)
def arR:TH:={ loops:=[(3,{ keep:=[(8,(.int .i64))],mem:=[] })],ro:=[] }
def fT (a0:List Int) (y3:(Int×Unit)):Option ((Int×Unit)⊕Int) :=
 cond (decide (y3.1<(a0.length:Int))) (
(atI a0 y3.1).bind fun x1 =>
 cond (!decide (x1=0)) (
 some (.inr x1)) (
 some (.inl ((IntKind.wrap .i64 (y3.1+1)),())))) (
 some (.inr 0))
def zb9 (a0:List Int):Option Int :=
 aJ (fT a0) (0,())
def qo:TFn:={ ps:=(.cons (.sl (.int .i64)) .unit),res:=(.int .i64),fn:=fun v=>zb9 v.1 }
def anI:TEnv:=(vZ [])
theorem anH:runY Tryz.prog ahp anJ anI arR Tryz.f154 qo.ps qo.res=qo.fn:=by kernel_rfl
theorem oK:aB Tryz.prog G0 154 sK:=ai (ak ⟨ay,ae,ap,ae,an⟩ Tryz.func154 rfl (by kernel_rfl))
theorem uX:TOk sK qo:=aC (E:=ahp) (ET:=anI) (EnvT.ofX (az al) am au aQ ar) anH rfl
def agC:Env:=(eZ [(154,sK),(156,sS)] [274])
def ams:Hints:=(hZ [] [])
def agB:PFn:=aH (runF Tryz.prog agC ams Tryz.f171)
def arw:TH:={ loops:=[],ro:=[2,3] }
def zbu (a0:(Int×Int×Unit)) (a1:(Int×Int×Unit)):Option Int :=
(za4 a0.1 a1.1).bind fun r1 =>
(za4 a0.2.1 a1.2.1).bind fun r2 =>
(zb9 ([r1,r2]:List Int)).bind fun r3 =>
 some r3
def zh:TFn:={ ps:=(.cons (.agg (.cons (.int .i64) tT15)) (.cons (.agg (.cons (.int .i64) tT15)) .unit)),res:=(.int .i64),fn:=fun v=>zbu v.1 v.2.1 }
def amr:TEnv:={ pure:=[(154,qo),(156,qs)],look:=[],glob:=G0T,ty:=[(3,(.int .i64))],raw:=[],fresh:=[] }
theorem amq:runY Tryz.prog agC ams amr arw Tryz.f171 zh.ps zh.res=zh.fn:=by kernel_rfl
theorem agA:aB Tryz.prog G0 171 agB:=ai (ak ⟨ay,(aj oK (aj oM ae)),ap,ae,an⟩ Tryz.func171 rfl (by kernel_rfl))
theorem amp:TOk agB zh:=aC (E:=agC) (ET:=amr) (EnvT.ofX (az (ah uX (ah vh al))) am au aQ ar) amq rfl
def ahn:Env:=(eZ [(171,agB)] [274])
def anD:Hints:=(hZ [] [])
def ahm:PFn:=aH (runF Tryz.prog ahn anD Tryz.f242)
def arP:TH:={ loops:=[],ro:=[2,3] }
def zbb (a0:vV2) (a1:vV2):Option Int :=
(zbu a0.1 a1.1).bind fun r1 =>
 some r1
def zJ:TFn:={ ps:=(.cons tT13 (.cons tT13 .unit)),res:=(.int .i64),fn:=fun v=>zbb v.1 v.2.1 }
def anC:TEnv:=(vZ [(171,zh)])
theorem anB:runY Tryz.prog ahn anD anC arP Tryz.f242 zJ.ps zJ.res=zJ.fn:=by kernel_rfl
theorem ahl:aB Tryz.prog G0 242 ahm:=ai (ak ⟨ay,(aj agA ae),ap,ae,an⟩ Tryz.func242 rfl (by kernel_rfl))
theorem anA:TOk ahm zJ:=aC (E:=ahn) (ET:=anC) (EnvT.ofX (az (ah amp al)) am au aQ ar) anB rfl
def aiN:Env:=(eZ [(242,ahm)] [274])
def aps:Hints:=(hZ [(3,[0,2,4,8,9,10])] [])
def aiM:PFn:=aH (runF Tryz.prog aiN aps Tryz.f284)
def ase:TH:={ joins:=[(8,{ keep:=[(4,(.bx 0 0)),(9,(.int .i64))],mem:=[.same] })],loops:=[(3,{ keep:=[(4,(.bx 0 0)),(9,(.int .i64)),(10,(.int .i64))],mem:=[.same] })],ro:=[4] }
def nc (a0:List vV2) (a1:vV2) (y3:(Int×Int×Unit)):Option ((Int×Int×Unit)⊕((Int×Unit)⊕(Int×Bool×Unit))) :=
 cond (decide (y3.1<y3.2.1)) (
(shrT .u64 (IntKind.wrap .u64 (IntKind.wrap .i64 (y3.1+y3.2.1))) 1).bind fun t1 =>
(atI a0 (IntKind.wrap .i64 t1)).bind fun x2 =>
(zbb x2 a1).bind fun r3 =>
 cond (decide (r3<0)) (
 some (.inl ((IntKind.wrap .i64 ((IntKind.wrap .i64 t1)+1)),y3.2.1,()))) (
 some (.inl (y3.1,(IntKind.wrap .i64 t1),())))) (
 some (.inr (.inl (y3.1,()))))
def zad (a0:List vV2) (a1:vV2) (a2:Unit):Option (Int×Bool×Unit) :=
(aJ (nc a0 a1) (0,(a0.length:Int),()):Option ((Int×Unit)⊕(Int×Bool×Unit))).bind (be fun v4 =>
 cond (decide (v4.1<(a0.length:Int))) ((atI a0 v4.1).bind fun x5 =>
(zbb x5 a1).bind fun r6 =>
 some (v4.1,(decide (r6=0)),())) (some (v4.1,false,())))
def aae:TFn:={ ps:=(.cons (.sl tT13) (.cons tT13 (.cons (.fn 242) .unit))),res:=(.tup (.cons (.int .i64) (.cons .bool .unit))),fn:=fun v=>zad v.1 v.2.1 v.2.2.1 }
def apr:TEnv:=(vZ [(242,zJ)])
theorem apq:runY Tryz.prog aiN aps apr ase Tryz.f284 aae.ps aae.res=aae.fn:=by kernel_rfl
theorem aiL:aB Tryz.prog G0 284 aiM:=ai (ak ⟨ay,(aj ahl ae),ap,ae,an⟩ Tryz.func284 rfl (by kernel_rfl))
theorem apo:TOk aiM aae:=aC (E:=aiN) (ET:=apr) (EnvT.ofX (az (ah anA al)) am au aQ ar) apq rfl
def afo:Env:=(eZ [(284,aiM)] [274])
def akA:Hints:=(hZ [] [])
def afn:PFn:=aH (runF Tryz.prog afo akA Tryz.f217)
def aqY:TH:={ loops:=[],ro:=[3] }
def zcx (a0:List vV2) (a1:(Int×Int×Unit)):Option (Int×Bool×Unit) :=
(zad a0 (a1,0,()) ()).bind fun r1 =>
 some (r1.1,r1.2.1,())
def yp:TFn:={ ps:=(.cons (.sl tT13) (.cons (.agg (.cons (.int .i64) tT15)) .unit)),res:=(.tup (.cons (.int .i64) (.cons .bool .unit))),fn:=fun v=>zcx v.1 v.2.1 }
def akz:TEnv:=(vZ [(284,aae)])
theorem aky:runY Tryz.prog afo akA akz aqY Tryz.f217 yp.ps yp.res=yp.fn:=by kernel_rfl
theorem afm:aB Tryz.prog G0 217 afn:=ai (ak ⟨ay,(aj aiL ae),ap,ae,an⟩ Tryz.func217 rfl (by kernel_rfl))
theorem akx:TOk afn yp:=aC (E:=afo) (ET:=akz) (EnvT.ofX (az (ah apo al)) am au aQ ar) aky rfl
def afB:Env:=(eZ [(217,afn)] [274])
def akT:Hints:=(hZ [] [])
def afA:PFn:=aH (runF Tryz.prog afB akT Tryz.f145)
def aq3:TH:={ loops:=[],ro:=[3] }
def zcs (a0:List vV2) (a1:(Int×Int×Unit)):Option Int :=
(zcx a0 a1).bind fun r1 =>
 cond r1.2.1 (
(atI a0 r1.1).bind fun x2 =>
 some x2.2.1) (
 some 0)
def yy:TFn:={ ps:=(.cons (.sl tT13) (.cons (.agg (.cons (.int .i64) tT15)) .unit)),res:=(.int .i64),fn:=fun v=>zcs v.1 v.2.1 }
def akS:TEnv:=(vZ [(217,yp)])
theorem akR:runY Tryz.prog afB akT akS aq3 Tryz.f145 yy.ps yy.res=yy.fn:=by kernel_rfl
theorem afz:aB Tryz.prog G0 145 afA:=ai (ak ⟨ay,(aj afm ae),ap,ae,an⟩ Tryz.func145 rfl (by kernel_rfl))
theorem akQ:TOk afA yy:=aC (E:=afB) (ET:=akS) (EnvT.ofX (az (ah akx al)) am au aQ ar) akR rfl
def af0:Env:=(eZ [(145,afA)] [274])
def aly:Hints:=(hZ [] [])
def acR:PFn:=aH (runF Tryz.prog af0 aly Tryz.f75)
def arf:TH:={ loops:=[],ro:=[3] }
def zch (a0:List vV2) (a1:(Int×Int×Unit)):Option Bool :=
(zcs a0 a1).bind fun r1 =>
(remT r1 2).bind fun t2 =>
 some (decide (t2=0))
def wK:TFn:={ ps:=(.cons (.sl tT13) (.cons (.agg (.cons (.int .i64) tT15)) .unit)),res:=.bool,fn:=fun v=>zch v.1 v.2.1 }
def alx:TEnv:=(vZ [(145,yy)])
theorem alw:runY Tryz.prog af0 aly alx arf Tryz.f75 wK.ps wK.res=wK.fn:=by kernel_rfl
theorem yK:aB Tryz.prog G0 75 acR:=ai (ak ⟨ay,(aj afz ae),ap,ae,an⟩ Tryz.func75 rfl (by kernel_rfl))
theorem aeI:TOk acR wK:=aC (E:=af0) (ET:=alx) (EnvT.ofX (az (ah akQ al)) am au aQ ar) alw rfl
def ahf:Env:=(eZ [(75,acR)] [274])
def anq:Hints:=(hZ [(3,[1,5,13,14,15]),(7,[1,5,13,14,15,25,26,27]),(10,[1,5,13,14,15,25,26,27,32,33,34])] [])
def ahe:SFn:=runF Tryz.prog ahf anq Tryz.f74
def arM:TH:={ loops:=[(3,{ keep:=[(5,(.mp 0)),(15,(.int .i64))],mem:=[.map tT13 .bool] }),(7,{ keep:=[(5,(.mp 0)),(27,(.int .i64))],mem:=[.map tT13 .bool,.gone] }),(10,{ keep:=[(5,(.mp 0)),(34,(.int .i64))],mem:=[.map tT13 .bool,.gone,.gone] })],ro:=[] }
def oJ (y7:vV10) (x3:vV1) (y10:vV10):Option (vV10⊕(vV10⊕(vV10⊕(List (vV2×Bool))))) :=
 cond (decide (y10.1<(x3.2.2.2.2.1.length:Int))) (
(atI x3.2.2.2.2.1 y10.1).bind fun x4 =>
 some (.inl ((IntKind.wrap .i64 (y10.1+1)),(putK tT13 x4 true y10.2.1),()))) (
 some (.inr (.inl ((IntKind.wrap .i64 (y7.1+1)),y10.2.1,()))))
def uV (y3:vV10) (x1:vV4) (y7:vV10):Option (vV10⊕(vV10⊕(List (vV2×Bool)))) :=
 cond (decide (y7.1<(x1.2.2.2.2.1.length:Int))) (
(atI x1.2.2.2.2.1 y7.1).bind fun x3 =>
 aJ (oJ y7 x3) (0,y7.2.1,())) (
 some (.inr (.inl ((IntKind.wrap .i64 (y3.1+1)),y7.2.1,()))))
def uW (a0:List vV4) (a1:List vV2) (y3:vV10):Option (vV10⊕(List (vV2×Bool))) :=
 cond (decide (y3.1<(a0.length:Int))) (
(atI a0 y3.1).bind fun x1 =>
(zch a1 x1.1).bind fun r2 =>
 cond (!r2) (
 some (.inl ((IntKind.wrap .i64 (y3.1+1)),y3.2.1,()))) (
 aJ (uV y3 x1) (0,y3.2.1,()))) (
 some (.inr y3.2.1))
def zbe (a0:List vV4) (a1:List vV2):Option (List (vV2×Bool)) :=
 aJ (uW a0 a1) (0,[],())
def acY:TNew:={ ps:=(.cons (.sl tT16) (.cons (.sl tT13) .unit)),e:=143,t:=(.sl (.cons tT13 .bool)),fn:=fun v=>zbe v.1 v.2.1,mp:=true }
def anp:TEnv:={ pure:=[(75,wK)],look:=[],glob:=G0T,ty:=[(4,.bool),(146,tT13)],raw:=[],fresh:=[] }
theorem ano:aqu Tryz.prog ahf anq anp arM Tryz.f74 acY.ps tT13 .bool=acY.fn:=by kernel_rfl
theorem ahd:bL Tryz.prog G0 74 ahe:=ak ⟨ay,(aj yK ae),ap,ae,an⟩ Tryz.func74 rfl (by kernel_rfl)
theorem ann:TNewOk ahe acY:=ad2 (E:=ahf) (ET:=anp) (EnvT.ofX (az (ah aeI al)) am au aQ ar) ano
def afl:Env:={ pure:=[(75,acR)],raw:=[(74,ahe)],glob:=G0,same:=[274],look:=[],ext:=[] }
def akw:Hints:=(hZ [(4,[1,5,6,15,16,17]),(8,[1,5,6,8,15,16,17,27,28,29])] [])
def acN:PFn:=aH (runF Tryz.prog afl akw Tryz.f19)
def aqX:TH:={ loops:=[(4,{ keep:=[(5,(.mp 0)),(6,(.own 4)),(17,(.int .i64))],mem:=[.map tT13 .bool,.gone,.gone,.gone,.row true 148 tT18] }),(8,{ keep:=[(5,(.mp 0)),(6,(.own 4)),(8,(.bx 5 0)),(29,(.int .i64))],mem:=[.map tT13 .bool,.gone,.gone,.gone,.row true 148 tT18,.box 78 tT16] })],ro:=[] }
def uG (y4:(Int×List (vV2×Bool)×List vV6×Unit)) (x2:vV4) (y8:(Int×List (vV2×Bool)×List vV6×vV4×Unit)):Option ((Int×List (vV2×Bool)×List vV6×vV4×Unit)⊕((Int×List (vV2×Bool)×List vV6×Unit)⊕List vV6)) :=
 cond (decide (y8.1<(x2.2.2.2.2.1.length:Int))) (
(atI x2.2.2.2.2.1 y8.1).bind fun x4 =>
 cond (decide (x4.1=1)) (cond (!((getK tT13 false (y8.2.2.2.1.1,y8.1,()) y8.2.1).1)) (
(dN (y8.2.2.1.length+([((y8.2.2.2.1.1,y8.1,()),x4,y8.2.2.2.1.2.2.1,())]:List vV6).length)).bind fun u5 =>
 some (.inl ((IntKind.wrap .i64 (y8.1+1)),y8.2.1,(y8.2.2.1++([((y8.2.2.2.1.1,y8.1,()),x4,y8.2.2.2.1.2.2.1,())]:List vV6)),y8.2.2.2.1,()))) (
 some (.inl ((IntKind.wrap .i64 (y8.1+1)),y8.2.1,y8.2.2.1,y8.2.2.2.1,())))) (cond (decide (x4.1=2)) (cond (!((getK tT13 false (y8.2.2.2.1.1,y8.1,()) y8.2.1).1)) (
(dN (y8.2.2.1.length+([((y8.2.2.2.1.1,y8.1,()),x4,y8.2.2.2.1.2.2.1,())]:List vV6).length)).bind fun u6 =>
 some (.inl ((IntKind.wrap .i64 (y8.1+1)),y8.2.1,(y8.2.2.1++([((y8.2.2.2.1.1,y8.1,()),x4,y8.2.2.2.1.2.2.1,())]:List vV6)),y8.2.2.2.1,()))) (
 some (.inl ((IntKind.wrap .i64 (y8.1+1)),y8.2.1,y8.2.2.1,y8.2.2.2.1,())))) (cond (decide (x4.1=3)) (cond (!((getK tT13 false (y8.2.2.2.1.1,y8.1,()) y8.2.1).1)) (
(dN (y8.2.2.1.length+([((y8.2.2.2.1.1,y8.1,()),x4,y8.2.2.2.1.2.2.1,())]:List vV6).length)).bind fun u7 =>
 some (.inl ((IntKind.wrap .i64 (y8.1+1)),y8.2.1,(y8.2.2.1++([((y8.2.2.2.1.1,y8.1,()),x4,y8.2.2.2.1.2.2.1,())]:List vV6)),y8.2.2.2.1,()))) (
 some (.inl ((IntKind.wrap .i64 (y8.1+1)),y8.2.1,y8.2.2.1,y8.2.2.2.1,())))) (some (.inl ((IntKind.wrap .i64 (y8.1+1)),y8.2.1,y8.2.2.1,y8.2.2.2.1,())))))) (
 some (.inr (.inl ((IntKind.wrap .i64 (y4.1+1)),y8.2.1,y8.2.2.1,()))))
def uH (a0:List vV4) (a1:List vV2) (y4:(Int×List (vV2×Bool)×List vV6×Unit)):Option ((Int×List (vV2×Bool)×List vV6×Unit)⊕List vV6) :=
 cond (decide (y4.1<(a0.length:Int))) (
(atI a0 y4.1).bind fun x2 =>
(zch a1 x2.1).bind fun r3 =>
 cond (!r3) (
 some (.inl ((IntKind.wrap .i64 (y4.1+1)),y4.2.1,y4.2.2.1,()))) (
 aJ (uG y4 x2) (0,y4.2.1,y4.2.2.1,x2,()))) (
 some (.inr y4.2.2.1))
def zcy (a0:List vV4) (a1:List vV2):Option (List vV6) :=
(zbe a0 a1).bind fun n1 =>
 aJ (uH a0 a1) (0,n1,[],())
def wH:TFn:={ ps:=(.cons (.sl tT16) (.cons (.sl tT13) .unit)),res:=(.sl tT18),fn:=fun v=>zcy v.1 v.2.1 }
def akv:TEnv:={ pure:=[(75,wK)],look:=[],glob:=G0T,ty:=[(148,tT18)],raw:=[],fresh:=[(74,acY)] }
theorem aku:runY Tryz.prog afl akw akv aqX Tryz.f19 wH.ps wH.res=wH.fn:=by kernel_rfl
theorem yn:aB Tryz.prog G0 19 acN:=ai (ak ⟨ay,(aj yK ae),(bv ahd ap),ae,an⟩ Tryz.func19 rfl (by kernel_rfl))
theorem aeE:TOk acN wH:=aC (E:=afl) (ET:=akv) (EnvT.ofX (az (ah aeI al)) am (iG au rfl) aQ (iN ann rfl rfl rfl ar)) aku rfl
def agm:Env:=(eZ [] [274])
def al5:Hints:=(hZ [] [])
def acS:PFn:=aH (runF Tryz.prog agm al5 Tryz.f124)
def arp:TH:={ joins:=[(6,{ keep:=[(6,.bool)],mem:=[] })],loops:=[],ro:=[] }
def zc0 (a0:Int):Option Int :=
 cond (decide (a0=1)) (
 some 1) (
(cond (decide (a0=2)) (
 some (.inl ((decide (a0=2)),()))) (
 some (.inl ((decide (a0=4)),()))):Option ((Bool×Unit)⊕Int)).bind (be fun v1 =>
 cond v1.1 (
 some 2) (
 cond (decide (a0=3)) (
 some 3) (
 some 0))))
def wL:TFn:={ ps:=tT15,res:=(.int .i64),fn:=fun v=>zc0 v.1 }
def al4:TEnv:=(vZ [])
theorem al3:runY Tryz.prog agm al5 al4 arp Tryz.f124 wL.ps wL.res=wL.fn:=by kernel_rfl
theorem yV:aB Tryz.prog G0 124 acS:=ai (ak ⟨ay,ae,ap,ae,an⟩ Tryz.func124 rfl (by kernel_rfl))
theorem aeJ:TOk acS wL:=aC (E:=agm) (ET:=al4) (EnvT.ofX (az al) am au aQ ar) al3 rfl
def ahN:Env:=(eZ [] [274])
def aoi:Hints:=(hZ [] [])
def ac4:PFn:=aH (runF Tryz.prog ahN aoi Tryz.f330)
def ar1:TH:=yZ
def zaz (a0:List UInt8):Option Bool :=
 some (!decide (a0=a0))
def zX:TFn:={ ps:=(.cons .str .unit),res:=.bool,fn:=fun v=>zaz v.1 }
def aoh:TEnv:=(vZ [])
theorem aog:runY Tryz.prog ahN aoi aoh ar1 Tryz.f330 zX.ps zX.res=zX.fn:=by kernel_rfl
theorem ahM:aB Tryz.prog G0 330 ac4:=ai (ak ⟨ay,ae,ap,ae,an⟩ Tryz.func330 rfl (by kernel_rfl))
theorem aof:TOk ac4 zX:=aC (E:=ahN) (ET:=aoh) (EnvT.ofX (az al) am au aQ ar) aog rfl
def ahT:Env:=(eZ [(330,ac4)] [274])
def aov:Hints:=(hZ [] [])
def ac8:PFn:=aH (runF Tryz.prog ahT aov Tryz.f287)
def ar4:TH:=yZ
def zaw (a0:List UInt8) (a1:List UInt8):Option Int :=
(zaz a0).bind fun r1 =>
(zaz a1).bind fun r2 =>
 cond r1 (
 cond r2 (
 some 0) (
 some (-1))) (
 cond r2 (
 some 1) (
 cond (Op.bytesLess a0 a1) (
 some (-1)) (
 cond (!(Op.bytesLess a0 a1||decide (a0=a1))) (
 some 1) (
 some 0))))
def zY:TFn:={ ps:=(.cons .str (.cons .str .unit)),res:=(.int .i64),fn:=fun v=>zaw v.1 v.2.1 }
def aou:TEnv:=(vZ [(330,zX)])
theorem aot:runY Tryz.prog ahT aov aou ar4 Tryz.f287 zY.ps zY.res=zY.fn:=by kernel_rfl
theorem ahS:aB Tryz.prog G0 287 ac8:=ai (ak ⟨ay,(aj ahM ae),ap,ae,an⟩ Tryz.func287 rfl (by kernel_rfl))
theorem aos:TOk ac8 zY:=aC (E:=ahT) (ET:=aou) (EnvT.ofX (az (ah aof al)) am au aQ ar) aot rfl
def ah5:Env:=(eZ [(287,ac8)] [274])
def aoL:Hints:=(hZ [(2,[0,1,9,10,11])] [])
def adb:PFn:=aH (runF Tryz.prog ah5 aoL Tryz.f225)
def ar8:TH:={ joins:=[(11,{ keep:=[],mem:=[] })],loops:=[(2,{ keep:=[(11,(.int .i64))],mem:=[] })],ro:=[] }
def iu (a0:List (List UInt8)) (a1:List (List UInt8)) (y2:(Int×Unit)):Option ((Int×Unit)⊕(Unit⊕Int)) :=
 cond (decide (y2.1<(a0.length:Int))) (
(atI a0 y2.1).bind fun x1 =>
 cond (decide (y2.1≥(a1.length:Int))) (
 some (.inr (.inr 1))) (
(atI a1 y2.1).bind fun x2 =>
(zaw x1 x2).bind fun r3 =>
 cond (!decide (r3=0)) (
 some (.inr (.inr r3))) (
 some (.inl ((IntKind.wrap .i64 (y2.1+1)),()))))) (
 some (.inr (.inl ())))
def zar (a0:List (List UInt8)) (a1:List (List UInt8)):Option Int :=
(aJ (iu a0 a1) (0,()):Option (Unit⊕Int)).bind (be fun v4 =>
 cond (decide ((a0.length:Int)<(a1.length:Int))) (
 some (-1)) (
 some 0))
def aaa:TFn:={ ps:=(.cons (.sl .str) tT21),res:=(.int .i64),fn:=fun v=>zar v.1 v.2.1 }
def aoK:TEnv:=(vZ [(287,zY)])
theorem aoJ:runY Tryz.prog ah5 aoL aoK ar8 Tryz.f225 aaa.ps aaa.res=aaa.fn:=by kernel_rfl
theorem ah4:aB Tryz.prog G0 225 adb:=ai (ak ⟨ay,(aj ahS ae),ap,ae,an⟩ Tryz.func225 rfl (by kernel_rfl))
theorem aoI:TOk adb aaa:=aC (E:=ah5) (ET:=aoK) (EnvT.ofX (az (ah aos al)) am au aQ ar) aoJ rfl
def ag8:Env:=(eZ [(225,adb)] [274])
def anf:Hints:=(hZ [] [])
def zD:PFn:=aH (runF Tryz.prog ag8 anf Tryz.f155)
def arJ:TH:=yZ
def zbh (a0:List (List UInt8)) (a1:List (List UInt8)):Option Int :=
(zar a0 a1).bind fun r1 =>
 some r1
def wO:TFn:={ ps:=(.cons (.sl .str) tT21),res:=(.int .i64),fn:=fun v=>zbh v.1 v.2.1 }
def ane:TEnv:=(vZ [(225,aaa)])
theorem anc:runY Tryz.prog ag8 anf ane arJ Tryz.f155 wO.ps wO.res=wO.fn:=by kernel_rfl
theorem zC:aB Tryz.prog G0 155 zD:=ai (ak ⟨ay,(aj ah4 ae),ap,ae,an⟩ Tryz.func155 rfl (by kernel_rfl))
theorem aeN:TOk zD wO:=aC (E:=ag8) (ET:=ane) (EnvT.ofX (az (ah aoI al)) am au aQ ar) anc rfl
def ag7:Env:=(eZ [(154,sK),(155,zD),(156,sS)] [274])
def anb:Hints:=(hZ [] [])
def zB:PFn:=aH (runF Tryz.prog ag7 anb Tryz.f126)
def arI:TH:={ loops:=[],ro:=[2,3] }
def zbi (a0:vV5) (a1:vV5):Option Int :=
(zbh a0.1 a1.1).bind fun r1 =>
(za4 a0.2.1 a1.2.1).bind fun r2 =>
(zb9 ([r1,r2]:List Int)).bind fun r3 =>
 some r3
def zA:TFn:={ ps:=(.cons tT20 (.cons tT20 .unit)),res:=(.int .i64),fn:=fun v=>zbi v.1 v.2.1 }
def ana:TEnv:={ pure:=[(154,qo),(155,wO),(156,qs)],look:=[],glob:=G0T,ty:=[(3,(.int .i64))],raw:=[],fresh:=[] }
theorem am9:runY Tryz.prog ag7 anb ana arI Tryz.f126 zA.ps zA.res=zA.fn:=by kernel_rfl
theorem ag6:aB Tryz.prog G0 126 zB:=ai (ak ⟨ay,(aj oK (aj zC (aj oM ae))),ap,ae,an⟩ Tryz.func126 rfl (by kernel_rfl))
theorem aeM:TOk zB zA:=aC (E:=ag7) (ET:=ana) (EnvT.ofX (az (ah uX (ah aeN (ah vh al)))) am au aQ ar) am9 rfl
theorem acZ : @aB ⟨True⟩ Tryz.prog G0 226 ac0:=by
 letI:Drawn:=⟨True⟩
 exact ai (ak ⟨ay,ae,ap,ae,an⟩ Tryz.func226 rfl (by kernel_rfl))
theorem vi : @aB ⟨True⟩ Tryz.prog G0 156 sS:=by
 letI:Drawn:=⟨True⟩
 exact ai (ak ⟨ay,(aj acZ ae),ap,ae,an⟩ Tryz.func156 rfl (by kernel_rfl))
theorem uY : @aB ⟨True⟩ Tryz.prog G0 154 sK:=by
 letI:Drawn:=⟨True⟩
 exact ai (ak ⟨ay,ae,ap,ae,an⟩ Tryz.func154 rfl (by kernel_rfl))
theorem ac3 : @aB ⟨True⟩ Tryz.prog G0 330 ac4:=by
 letI:Drawn:=⟨True⟩
 exact ai (ak ⟨ay,ae,ap,ae,an⟩ Tryz.func330 rfl (by kernel_rfl))
theorem ac7 : @aB ⟨True⟩ Tryz.prog G0 287 ac8:=by
 letI:Drawn:=⟨True⟩
 exact ai (ak ⟨ay,(aj ac3 ae),ap,ae,an⟩ Tryz.func287 rfl (by kernel_rfl))
theorem ada : @aB ⟨True⟩ Tryz.prog G0 225 adb:=by
 letI:Drawn:=⟨True⟩
 exact ai (ak ⟨ay,(aj ac7 ae),ap,ae,an⟩ Tryz.func225 rfl (by kernel_rfl))
theorem acW : @aB ⟨True⟩ Tryz.prog G0 155 zD:=by
 letI:Drawn:=⟨True⟩
 exact ai (ak ⟨ay,(aj ada ae),ap,ae,an⟩ Tryz.func155 rfl (by kernel_rfl))
theorem acV : @aB ⟨True⟩ Tryz.prog G0 126 zB:=by
 letI:Drawn:=⟨True⟩
 exact ai (ak ⟨ay,(aj uY (aj acW (aj vi ae))),ap,ae,an⟩ Tryz.func126 rfl (by kernel_rfl))
def aiB:Go.Shelf.Ren:=⟨fun | 6=>125 | 14=>200 | 15=>201 | 20=>260 | 21=>261 | 22=>262 | 23=>263 | 24=>264 | 25=>265 | 26=>266 | 27=>267 | 28=>268 | 29=>269 | 46=>315 | 47=>316 | 48=>317 | 49=>318 | 50=>319 | 57=>351 | n=>n,fun | 0=>0 | 3=>3 | 4=>4 | 5=>5 | 9=>9 | 22=>104 | 24=>109 | 25=>199 | 39=>230 | 45=>314 | 46=>315 | 50=>161 | 53=>321 | 55=>323 | 66=>354 | 70=>358 | 76=>378 | 77=>283 | n=>n,fun | n=>n⟩
theorem adj:Go.Proofs.SlLaysF0.n6 Tryz.prog aiB:={
 mixed:=by kernel_rfl
 f6:=⟨Tryz.f125.name,by decide,Tryz.func125.trans (congrArg some (by kernel_rfl))⟩
 f14:=⟨Tryz.f200.name,by decide,Tryz.func200.trans (congrArg some (by kernel_rfl))⟩
 f15:=Tryz.func201.trans (congrArg some (by kernel_rfl))
 f20:=⟨Tryz.f260.name,by decide,Tryz.func260.trans (congrArg some (by kernel_rfl))⟩
 f21:=⟨Tryz.f261.name,by decide,Tryz.func261.trans (congrArg some (by kernel_rfl))⟩
 f22:=⟨Tryz.f262.name,by decide,Tryz.func262.trans (congrArg some (by kernel_rfl))⟩
 f23:=⟨Tryz.f263.name,by decide,Tryz.func263.trans (congrArg some (by kernel_rfl))⟩
 f24:=⟨Tryz.f264.name,by decide,Tryz.func264.trans (congrArg some (by kernel_rfl))⟩
 f25:=⟨Tryz.f265.name,by decide,Tryz.func265.trans (congrArg some (by kernel_rfl))⟩
 f26:=⟨Tryz.f266.name,by decide,Tryz.func266.trans (congrArg some (by kernel_rfl))⟩
 f27:=⟨Tryz.f267.name,by decide,Tryz.func267.trans (congrArg some (by kernel_rfl))⟩
 f28:=Tryz.func268.trans (congrArg some (by kernel_rfl))
 f29:=Tryz.func269.trans (congrArg some (by kernel_rfl))
 f46:=⟨Tryz.f315.name,by decide,Tryz.func315.trans (congrArg some (by kernel_rfl))⟩
 f47:=Tryz.func316.trans (congrArg some (by kernel_rfl))
 f48:=Tryz.func317.trans (congrArg some (by kernel_rfl))
 f49:=⟨Tryz.f318.name,by decide,Tryz.func318.trans (congrArg some (by kernel_rfl))⟩
 f50:=⟨Tryz.f319.name,by decide,Tryz.func319.trans (congrArg some (by kernel_rfl))⟩
 f57:=⟨Tryz.f351.name,by decide,Tryz.func351.trans (congrArg some (by kernel_rfl))⟩
 t0:=Tryz.underlying0
 a0:=Tryz.isAgg0
 z0:=Tryz.sizeOf0
 v0:=Tryz.zeroValue0
 t3:=Tryz.underlying3
 a3:=Tryz.isAgg3
 z3:=Tryz.sizeOf3
 v3:=Tryz.zeroValue3
 t4:=Tryz.underlying4
 a4:=Tryz.isAgg4
 z4:=Tryz.sizeOf4
 v4:=Tryz.zeroValue4
 t5:=Tryz.underlying5
 a5:=Tryz.isAgg5
 z5:=Tryz.sizeOf5
 v5:=Tryz.zeroValue5
 t9:=Tryz.underlying9
 a9:=Tryz.isAgg9
 z9:=Tryz.sizeOf9
 v9:=Tryz.zeroValue9
 t22:=Tryz.underlying104
 a22:=Tryz.isAgg104
 z22:=Tryz.sizeOf104
 v22:=Tryz.zeroValue104
 t25:=Tryz.underlying199
 a25:=Tryz.isAgg199
 z25:=Tryz.sizeOf199
 v25:=Tryz.zeroValue199
 t39:=Tryz.underlying230
 a39:=Tryz.isAgg230
 z39:=Tryz.sizeOf230
 v39:=Tryz.zeroValue230
 t45:=Tryz.underlying314
 a45:=Tryz.isAgg314
 z45:=Tryz.sizeOf314
 v45:=Tryz.zeroValue314
 t46:=Tryz.underlying315
 a46:=Tryz.isAgg315
 z46:=Tryz.sizeOf315
 v46:=Tryz.zeroValue315
 t50:=Tryz.underlying161
 a50:=Tryz.isAgg161
 z50:=Tryz.sizeOf161
 v50:=Tryz.zeroValue161
 t53:=Tryz.underlying321
 a53:=Tryz.isAgg321
 z53:=Tryz.sizeOf321
 v53:=Tryz.zeroValue321
 t55:=Tryz.underlying323
 a55:=Tryz.isAgg323
 z55:=Tryz.sizeOf323
 v55:=Tryz.zeroValue323
 t66:=Tryz.underlying354
 a66:=Tryz.isAgg354
 z66:=Tryz.sizeOf354
 v66:=Tryz.zeroValue354
 t70:=Tryz.underlying358
 a70:=Tryz.isAgg358
 z70:=Tryz.sizeOf358
 v70:=Tryz.zeroValue358
 t76:=Tryz.underlying378
 a76:=Tryz.isAgg378
 z76:=Tryz.sizeOf378
 v76:=Tryz.zeroValue378
 t77:=Tryz.underlying283
 a77:=Tryz.isAgg283
 z77:=Tryz.sizeOf283
 v77:=Tryz.zeroValue283 }
def aiD:SFn:=oT zB 126 2 109
theorem aiC:bL Tryz.prog G0 125 aiD:=kY (M:=2) (g:=126) adj (by decide) (fun w=>Tryz.isAgg109 w) (fun w=>Tryz.sizeOf109 w) acV ⟨Tryz.f125,Tryz.func125,rfl,by kernel_rfl⟩
def zag (w0:List vV5):Option (Unit×List vV5×Unit):=(mL (fun x y=>zbi x y) w0).map fun l=>((),(l,()))
def apg:TRaw:=aaC false 126 109 tT20 (fun x y=>zbi x y)
theorem apf:TRawOk aiD apg:=vo rfl rfl rfl rfl aeM
def aiZ:Env:=(eZ [(126,zB)] [274])
def apI:Hints:=(hZ [] [])
def aiY:PFn:=aH (runF Tryz.prog aiZ apI Tryz.f128)
def asi:TH:={ loops:=[],ro:=[2,3] }
def za9 (a0:vV5) (a1:vV5):Option Bool :=
(zbi a0 a1).bind fun r1 =>
 some (decide (r1=0))
def aai:TFn:={ ps:=(.cons tT20 (.cons tT20 .unit)),res:=.bool,fn:=fun v=>za9 v.1 v.2.1 }
def apH:TEnv:=(vZ [(126,zA)])
theorem apG:runY Tryz.prog aiZ apI apH asi Tryz.f128 aai.ps aai.res=aai.fn:=by kernel_rfl
theorem aiX:aB Tryz.prog G0 128 aiY:=ai (ak ⟨ay,(aj ag6 ae),ap,ae,an⟩ Tryz.func128 rfl (by kernel_rfl))
theorem apF:TOk aiY aai:=aC (E:=aiZ) (ET:=apH) (EnvT.ofX (az (ah aeM al)) am au aQ ar) apG rfl
def aiK:Env:=(eZ [(128,aiY)] [274])
def apn:Hints:=(hZ [(4,[0,1,5]),(9,[0,1,5,6,7])] [])
def aiJ:SFn:=pI (runF Tryz.prog aiK apn Tryz.f127)
def asd:TH:={ joins:=[(14,{ keep:=[(0,(.own 0)),(5,(.int .i64))],mem:=[.row false 109 tT20] })],loops:=[(4,{ keep:=[(0,(.own 0)),(5,(.int .i64))],mem:=[.row false 109 tT20] }),(9,{ keep:=[(0,(.own 0)),(5,(.int .i64)),(6,(.vw 0)),(7,(.int .i64))],mem:=[.row false 109 tT20] })],ro:=[] }
def nb (y9:(Int×(Nat×Nat)×Int×List vV5×Unit)):Option ((Int×(Nat×Nat)×Int×List vV5×Unit)⊕((Int×List vV5×Unit)⊕((Int×List vV5×Unit)⊕(List vV5)))) :=
 cond (decide (y9.2.2.1<(y9.2.1.2:Int))) (
 cond y9.2.2.2.1.isEmpty (none) ((inI y9.2.1.2 y9.2.2.1).bind fun i7 =>
(y9.2.2.2.1[(y9.2.1.1+i7)]?).bind fun x8 =>
 cond y9.2.2.2.1.isEmpty (none) ((inI y9.2.1.2 (IntKind.wrap .i64 (y9.2.2.1-1))).bind fun i9 =>
(y9.2.2.2.1[(y9.2.1.1+i9)]?).bind fun x10 =>
(za9 x8 x10).bind fun r11 =>
 cond (!r11) (
 cond y9.2.2.2.1.isEmpty (none) ((inI y9.2.1.2 y9.2.2.1).bind fun i12 =>
(y9.2.2.2.1[(y9.2.1.1+i12)]?).bind fun x13 =>
(inI y9.2.2.2.1.length y9.1).bind fun i14 =>
(y9.2.2.2.1[i14]?).bind fun x15 =>
 some (.inl ((IntKind.wrap .i64 (y9.1+1)),y9.2.1,(IntKind.wrap .i64 (y9.2.2.1+1)),(y9.2.2.2.1.set i14 x13),())))) (
 some (.inl (y9.1,y9.2.1,(IntKind.wrap .i64 (y9.2.2.1+1)),y9.2.2.2.1,())))))) (
 some (.inr (.inl (y9.1,y9.2.2.2.1,()))))
def kL (y4:(Int×List vV5×Unit)):Option ((Int×List vV5×Unit)⊕(List vV5)) :=
 cond (decide (y4.1<(y4.2.1.length:Int))) (
(inI y4.2.1.length y4.1).bind fun i1 =>
(y4.2.1[i1]?).bind fun x2 =>
(inI y4.2.1.length (IntKind.wrap .i64 (y4.1-1))).bind fun i3 =>
(y4.2.1[i3]?).bind fun x4 =>
(za9 x2 x4).bind fun r5 =>
 cond r5 (
 cond y4.2.1.isEmpty (none) ((kR (y4.2.1.length) y4.1 (y4.2.1.length:Int)).bind fun p6 =>
(aJ (nb) (y4.1,p6,1,y4.2.1,()):Option ((Int×List vV5×Unit)⊕((Int×List vV5×Unit)⊕(List vV5)))).bind (be fun v16 =>
 cond v16.2.1.isEmpty (none) ((kR (v16.2.1.length) v16.1 (v16.2.1.length:Int)).bind fun p17 =>
 cond v16.2.1.isEmpty (none) ((if p17.1+p17.2≤v16.2.1.length then some () else none).bind fun u18 =>
 cond (v16.2.1.take p17.1++List.replicate p17.2 ([],0,())++v16.2.1.drop (p17.1+p17.2)).isEmpty (none) ((kR ((v16.2.1.take p17.1++List.replicate p17.2 ([],0,())++v16.2.1.drop (p17.1+p17.2)).length) 0 v16.1).bind fun p19 =>
(cond (v16.2.1.take p17.1++List.replicate p17.2 ([],0,())++v16.2.1.drop (p17.1+p17.2)).isEmpty none (if p19.1+p19.2≤(v16.2.1.take p17.1++List.replicate p17.2 ([],0,())++v16.2.1.drop (p17.1+p17.2)).length then some (((v16.2.1.take p17.1++List.replicate p17.2 ([],0,())++v16.2.1.drop (p17.1+p17.2)).drop p19.1).take p19.2) else none)).map .inr)))))) (
 some (.inl ((IntKind.wrap .i64 (y4.1+1)),y4.2.1,())))) (
 some (.inr y4.2.1))
def aiH (w0:List vV5):Option (List vV5) :=
 cond (decide ((w0.length:Int)<2)) (
 some w0) (
 aJ (kL) (1,w0,()))
def zae (w0:List vV5):Option (List vV5×Unit):=(aiH w0).map fun l=>(l,())
def apm:TRaw:={ ps:=(.cons (.own 0) (.cons (.fn 128) .unit)),ins:=[.row false 109 tT20],res:=(.sl tT20),outs:=[.gone],fn:=fun v w=>zae w.1 }
def apl:TEnv:=(vZ [(128,aai)])
theorem apk:aej Tryz.prog aiK apn apl asd Tryz.f127 (.cons (.own 0) (.cons (.fn 128) .unit)) false 109 tT20=fun _ w=>aiH w:=by kernel_rfl
theorem aiI:bL Tryz.prog G0 127 aiJ:=lX (ak ⟨ay,(aj aiX ae),ap,ae,an⟩ Tryz.func127 rfl (by kernel_rfl))
theorem apj:TRawOk aiJ apm:=vU (E:=aiK) (ET:=apl) (EnvT.ofX (az (ah apF al)) am au aQ ar) apk
def agI:Env:={ pure:=[(72,wS),(124,acS)],raw:=[(125,aiD),(127,aiJ)],glob:=G0,same:=[274],look:=[],ext:=[] }
def amA:Hints:=(hZ [(3,[3,6,7,8])] [])
def agH:PFn:=aH (runF Tryz.prog agI amA Tryz.f55)
def ary:TH:={ joins:=[(7,{ keep:=[(3,(.own 1))],mem:=[.gone,.row true 109 tT20] })],loops:=[(3,{ keep:=[(3,(.own 1)),(8,(.int .i64))],mem:=[.gone,.row true 109 tT20] })],ro:=[] }
def uR (a0:List vV6) (y3:(Int×List vV5×Unit)):Option ((Int×List vV5×Unit)⊕((List vV5×Unit)⊕List vV5)) :=
 cond (decide (y3.1<(a0.length:Int))) (
(atI a0 y3.1).bind fun x1 =>
(zat x1.2.1.2.1).bind fun r2 =>
(zc0 x1.2.1.1).bind fun r3 =>
(dN (y3.2.1.length+([(r2,r3,())]:List vV5).length)).bind fun u4 =>
 some (.inl ((IntKind.wrap .i64 (y3.1+1)),(y3.2.1++([(r2,r3,())]:List vV5)),()))) (
 some (.inr (.inl (y3.2.1,()))))
def zbs (a0:List vV6):Option (List vV5) :=
(aJ (uR a0) (0,[],()):Option ((List vV5×Unit)⊕List vV5)).bind (be fun v5 =>
(zag v5.1).bind fun q6 =>
(zae q6.2.1).bind fun q7 =>
 some q7.1)
def zj:TFn:={ ps:=(.cons (.sl tT18) .unit),res:=(.sl tT20),fn:=fun v=>zbs v.1 }
def amz:TEnv:={ pure:=[(72,z7),(124,wL)],look:=[],glob:=G0T,ty:=[(109,tT20)],raw:=[(125,apg),(127,apm)],fresh:=[] }
theorem amy:runY Tryz.prog agI amA amz ary Tryz.f55 zj.ps zj.res=zj.fn:=by kernel_rfl
theorem agG:aB Tryz.prog G0 55 agH:=ai (ak ⟨ay,(aj oL (aj yV ae)),(bv aiC (bv aiI ap)),ae,an⟩ Tryz.func55 rfl (by kernel_rfl))
theorem amx:TOk agH zj:=aC (E:=agI) (ET:=amz) (EnvT.ofX (az (ah ve (ah aeJ al))) am (ci apf rfl rfl (ci apj rfl rfl au)) aQ ar) amy rfl
def afu:Env:=(eZ [] [274])
def akI:Hints:=(hZ [(3,[0,1,5,6,7,8]),(14,[0,5])] [])
def aft:PFn:=aH (runF Tryz.prog afu akI Tryz.f331)
def aq0:TH:={ joins:=[(14,{ keep:=[(5,(.int .i64))],mem:=[] }),(12,{ keep:=[(6,(.int .i64)),(7,(.int .i64))],mem:=[] }),(5,{ keep:=[(13,.bool)],mem:=[] }),(16,{ keep:=[(5,(.int .i64))],mem:=[] })],loops:=[(3,{ keep:=[(5,(.int .i64)),(6,(.int .i64)),(7,(.int .i64)),(8,(.int .i64))],mem:=[] }),(14,{ keep:=[(5,(.int .i64))],mem:=[] })],ro:=[] }
def dY (a0:List (Int×Int×Unit)) (a1:List Int) (y3:(Int×Int×Int×Int×Unit)):Option ((Int×Int×Int×Int×Unit)⊕((Int×Unit)⊕Bool)) :=
 cond (decide (y3.2.2.2.1<(a1.length:Int))) (
((cond (decide (y3.1<(a0.length:Int))) ((atI a0 y3.1).bind fun x1 =>
 some (.inl ((decide (x1.1=2)),()))) (some (.inl (false,()))):Option ((Bool×Unit)⊕((Int×Int×Unit)⊕((Int×Int×Int×Int×Unit)⊕((Int×Unit)⊕Bool))))).bind (be fun v2 =>
 cond v2.1 (
 some (.inr (.inl ((IntKind.wrap .i64 (y3.1+1)),y3.1,y3.2.2.2.1,y3.2.2.2.1,())))) (
 cond (decide (y3.1<(a0.length:Int))) ((atI a0 y3.1).bind fun x3 =>
 cond (decide (x3.1=1)) (some (.inr (.inl ((IntKind.wrap .i64 (y3.1+1)),y3.2.1,y3.2.2.1,(IntKind.wrap .i64 (y3.2.2.2.1+1)),())))) ((atI a0 y3.1).bind fun x4 =>
(atI a1 y3.2.2.2.1).bind fun x5 =>
 cond (decide (x4.2.1=x5)) (
 some (.inr (.inl ((IntKind.wrap .i64 (y3.1+1)),y3.2.1,y3.2.2.1,(IntKind.wrap .i64 (y3.2.2.2.1+1)),())))) (
 cond (decide (y3.2.1<0)) (
 some (.inr (.inr (.inr false)))) (
 some (.inl (y3.2.1,y3.2.2.1,())))))) (cond (decide (y3.2.1<0)) (
 some (.inr (.inr (.inr false)))) (
 some (.inl (y3.2.1,y3.2.2.1,())))))):Option ((Int×Int×Unit)⊕((Int×Int×Int×Int×Unit)⊕((Int×Unit)⊕Bool)))).bind (be fun v6 =>
 some (.inl ((IntKind.wrap .i64 (v6.1+1)),v6.1,(IntKind.wrap .i64 (v6.2.1+1)),(IntKind.wrap .i64 (v6.2.1+1)),())))) (
 some (.inr (.inl (y3.1,()))))
def jq (a0:List (Int×Int×Unit)) (y14:(Int×Unit)):Option ((Int×Unit)⊕((Int×Unit)⊕Bool)) :=
 cond (decide (y14.1<(a0.length:Int))) ((atI a0 y14.1).bind fun x8 =>
 cond (decide (x8.1=2)) (
 some (.inl ((IntKind.wrap .i64 (y14.1+1)),()))) (
 some (.inr (.inl (y14.1,()))))) (some (.inr (.inl (y14.1,()))))
def zcv (a0:List (Int×Int×Unit)) (a1:List Int):Option Bool :=
(aJ (dY a0 a1) (0,(-1),0,0,()):Option ((Int×Unit)⊕Bool)).bind (be fun v7 =>
(aJ (jq a0) (v7.1,()):Option ((Int×Unit)⊕Bool)).bind (be fun v9 =>
 some (decide (v9.1=(a0.length:Int)))))
def yr:TFn:={ ps:=(.cons (.sl (.agg (.cons (.int .i64) (.cons (.int .i32) .unit)))) (.cons (.sl (.int .i32)) .unit)),res:=.bool,fn:=fun v=>zcv v.1 v.2.1 }
def akH:TEnv:=(vZ [])
theorem akG:runY Tryz.prog afu akI akH aq0 Tryz.f331 yr.ps yr.res=yr.fn:=by kernel_rfl
theorem afs:aB Tryz.prog G0 331 aft:=ai (ak ⟨ay,ae,ap,ae,an⟩ Tryz.func331 rfl (by kernel_rfl))
theorem akF:TOk aft yr:=aC (E:=afu) (ET:=akH) (EnvT.ofX (az al) am au aQ ar) akG rfl
def af6:Env:={ pure:=[(215,acQ),(281,ado)],raw:=[],glob:=G0,same:=[274],look:=[(331,aft)],ext:=[] }
def alG:Hints:=(hZ [] [20])
def af5:PFn:=aH (runF Tryz.prog af6 alG Tryz.f289)
def ari:TH:=yZ
def zcf (a0:List UInt8) (a1:List UInt8):Option Bool :=
(zci a0).bind fun r1 =>
 cond r1.2.1 ((za3 a1).bind fun r2 =>
 cond r2 ((zcv r1.1 (qM a1)).bind fun r3 =>
 some r3) (some false)) (some false)
def yM:TFn:={ ps:=(.cons .str (.cons .str .unit)),res:=.bool,fn:=fun v=>zcf v.1 v.2.1 }
def alF:TEnv:={ pure:=[(215,wJ),(281,wT)],look:=[(331,yr)],glob:=G0T,ty:=[],raw:=[],fresh:=[] }
theorem alE:runY Tryz.prog af6 alG alF ari Tryz.f289 yM.ps yM.res=yM.fn:=by kernel_rfl
theorem af4:aB Tryz.prog G0 289 af5:=ai (ak ⟨ay,(aj yJ (aj aan ae)),ap,(aj afs ae),an⟩ Tryz.func289 rfl (by kernel_rfl))
theorem alD:TOk af5 yM:=aC (E:=af6) (ET:=alF) (EnvT.ofX (az (ah aeH (ah aeS al))) (jI akF rfl am) au aQ ar) alE rfl
def zQ (F:PFn):Env:=(eZ [(289,af5),(228,F)] [274])
def ahy:Hints:=(hZ [(1,[0,1]),(4,[0,1,15,16])] [])
def o7 (F:PFn):PFn:=aH (runF Tryz.prog (zQ F) ahy Tryz.f228)
def arV:TH:={ joins:=[(13,{ keep:=[(1,(.sl .str))],mem:=[] }),(10,{ keep:=[],mem:=[] })],loops:=[(1,{ keep:=[(0,(.sl .str)),(1,(.sl .str))],mem:=[] }),(4,{ keep:=[(16,(.int .i64))],mem:=[] })],ro:=[] }
def kI (y1:vV9) (rec:(List (List UInt8)×List (List UInt8)×Unit→Option Bool)) (y4:(Int×Unit)):Option ((Int×Unit)⊕(Unit⊕(vV9⊕((List (List UInt8)×Unit)⊕Bool)))) :=
 cond (decide (y4.1<(IntKind.wrap .i64 ((y1.2.1.length:Int)+1)))) (
(subI y1.1 1 (y1.1.length:Int)).bind fun s2 =>
(subI y1.2.1 y4.1 (y1.2.1.length:Int)).bind fun s3 =>
(rec (s2,s3,())).bind fun r4 =>
 cond r4 (
 some (.inr (.inr (.inr (.inr true))))) (
 some (.inl ((IntKind.wrap .i64 (y4.1+1)),())))) (
 some (.inr (.inr (.inr (.inr false)))))
def kJ (rec:(List (List UInt8)×List (List UInt8)×Unit→Option Bool)) (y1:vV9):Option (vV9⊕((List (List UInt8)×Unit)⊕Bool)) :=
 cond (decide ((y1.1.length:Int)>0)) (
((atI y1.1 0).bind fun x1 =>
 cond (decide (x1=[42,42])) (
 aJ (kI y1 rec) (0,())) (
 some (.inl ())):Option (Unit⊕(vV9⊕((List (List UInt8)×Unit)⊕Bool)))).bind (be fun v5 =>
 cond (decide ((y1.2.1.length:Int)=0)) (some (.inr (.inr false))) ((atI y1.1 0).bind fun x6 =>
(atI y1.2.1 0).bind fun x7 =>
(zcf x6 x7).bind fun r8 =>
 cond (!r8) (
 some (.inr (.inr false))) (
(subI y1.1 1 (y1.1.length:Int)).bind fun s9 =>
(subI y1.2.1 1 (y1.2.1.length:Int)).bind fun s10 =>
 some (.inl (s9,s10,())))))) (
 some (.inr (.inl (y1.2.1,()))))
def bP (rec:(vV9→Option Bool)) (a0:List (List UInt8)) (a1:List (List UInt8)):Option Bool :=
(aJ (kJ rec) (a0,a1,()):Option ((List (List UInt8)×Unit)⊕Bool)).bind (be fun v11 =>
 some (decide ((v11.1.length:Int)=0)))
def gj:(vV9→Option Bool):=fixT fun rec v=>bP rec v.1 v.2.1
def zb5 (a0:List (List UInt8)) (a1:List (List UInt8)):Option Bool:=gj (a0,a1,())
def zP:TFn:={ ps:=(.cons (.sl .str) tT21),res:=.bool,fn:=fixT fun (rec:(vV9→Option Bool)) v=>bP rec v.1 v.2.1 }
def ahA:PFn:=fixF o7 zP
def ahx (rec:(vV9→Option Bool)):TEnv:=(vZ [(289,yM),(228,{ ps:=(.cons (.sl .str) tT21),res:=.bool,fn:=rec })])
theorem anW (F:PFn) (rec:(vV9→Option Bool)):runY Tryz.prog (zQ F) ahy (ahx rec) arV Tryz.f228 zP.ps zP.res=fun v=>bP rec v.1 v.2.1:=by kernel_rfl
theorem ahz:aB Tryz.prog G0 228 ahA:=aaW ⟨Tryz.f228,Tryz.func228,rfl,by kernel_rfl⟩ fun F hF=>ai (ak (P:=Tryz.prog) (E:=zQ F) (h:=ahy) (f:=228) (fn:=Tryz.f228) ⟨ay,(aj af4 (aj hF ae)),ap,ae,an⟩ Tryz.func228 rfl (by kernel_rfl))
theorem anV:TOk ahA zP:=aql rfl fun F rec hF=>aC (E:=zQ F) (ET:=ahx rec) (EnvT.ofX (E:=zQ F) (ET:=ahx rec) (az (ah alD (ah hF al))) am au aQ ar) (anW F rec) rfl
def agW:Env:=(eZ [(71,acT),(228,ahA)] [274])
def amW:Hints:=(hZ [] [])
def agV:PFn:=aH (runF Tryz.prog agW amW Tryz.f162)
def arE:TH:=yZ
def zbm (a0:List (List UInt8)) (a1:List (List UInt8)):Option Bool :=
(zbr a0).bind fun r1 =>
 cond (decide (r1=0)) ((zb5 a0 a1).bind fun r2 =>
 some r2) (some false)
def zw:TFn:={ ps:=(.cons (.sl .str) tT21),res:=.bool,fn:=fun v=>zbm v.1 v.2.1 }
def amV:TEnv:=(vZ [(71,wM),(228,zP)])
theorem amU:runY Tryz.prog agW amW amV arE Tryz.f162 zw.ps zw.res=zw.fn:=by kernel_rfl
theorem agU:aB Tryz.prog G0 162 agV:=ai (ak ⟨ay,(aj zk (aj ahz ae)),ap,ae,an⟩ Tryz.func162 rfl (by kernel_rfl))
theorem amT:TOk agV zw:=aC (E:=agW) (ET:=amV) (EnvT.ofX (az (ah aeK (ah anV al))) am au aQ ar) amU rfl
def ag5:Env:=(eZ [(55,agH),(162,agV)] [274])
def am8:Hints:=(hZ [(3,[1,5,9,10,11])] [])
def ag4:PFn:=aH (runF Tryz.prog ag5 am8 Tryz.f93)
def arH:TH:={ loops:=[(3,{ keep:=[(5,(.own 1)),(11,(.int .i64))],mem:=[.gone,.row true 109 tT20] })],ro:=[] }
def uU (a1:List (List UInt8)) (r1:List vV5) (y3:(Int×List vV5×Unit)):Option ((Int×List vV5×Unit)⊕List vV5) :=
 cond (decide (y3.1<(r1.length:Int))) (
(atI r1 y3.1).bind fun x2 =>
(zbm a1 x2.1).bind fun r3 =>
 cond r3 (
(dN (y3.2.1.length+([x2]:List vV5).length)).bind fun u4 =>
 some (.inl ((IntKind.wrap .i64 (y3.1+1)),(y3.2.1++([x2]:List vV5)),()))) (
 some (.inl ((IntKind.wrap .i64 (y3.1+1)),y3.2.1,())))) (
 some (.inr y3.2.1))
def zbj (a0:List vV6) (a1:List (List UInt8)):Option (List vV5) :=
(zbs a0).bind fun r1 =>
 aJ (uU a1 r1) (0,[],())
def zz:TFn:={ ps:=(.cons (.sl tT18) tT21),res:=(.sl tT20),fn:=fun v=>zbj v.1 v.2.1 }
def am7:TEnv:={ pure:=[(55,zj),(162,zw)],look:=[],glob:=G0T,ty:=[(109,tT20)],raw:=[],fresh:=[] }
theorem am6:runY Tryz.prog ag5 am8 am7 arH Tryz.f93 zz.ps zz.res=zz.fn:=by kernel_rfl
theorem ag3:aB Tryz.prog G0 93 ag4:=ai (ak ⟨ay,(aj agG (aj agU ae)),ap,ae,an⟩ Tryz.func93 rfl (by kernel_rfl))
theorem am5:TOk ag4 zz:=aC (E:=ag5) (ET:=am7) (EnvT.ofX (az (ah amx (ah amT al))) am au aQ ar) am6 rfl
def ah3:Env:=(eZ [] [274])
def aoH:Hints:=(hZ [(4,[0,1,12,13])] [])
def ah2:PFn:=aH (runF Tryz.prog ah3 aoH Tryz.f196)
def ar7:TH:={ loops:=[(4,{ keep:=[(13,(.int .i64))],mem:=[] })],ro:=[] }
def vf (a0:List (List UInt8)) (a1:List (List UInt8)) (y4:(Int×Unit)):Option ((Int×Unit)⊕Bool) :=
 cond (decide (y4.1<(a0.length:Int))) (
(atI a0 y4.1).bind fun x1 =>
(atI a1 y4.1).bind fun x2 =>
 cond (!decide (x1=x2)) (
 some (.inr false)) (
 some (.inl ((IntKind.wrap .i64 (y4.1+1)),())))) (
 some (.inr true))
def zas (a0:List (List UInt8)) (a1:List (List UInt8)):Option Bool :=
 cond (!decide ((a0.length:Int)=(a1.length:Int))) (
 some false) (
 aJ (vf a0 a1) (0,()))
def z8:TFn:={ ps:=(.cons (.sl .str) tT21),res:=.bool,fn:=fun v=>zas v.1 v.2.1 }
def aoG:TEnv:=(vZ [])
theorem aoF:runY Tryz.prog ah3 aoH aoG ar7 Tryz.f196 z8.ps z8.res=z8.fn:=by kernel_rfl
theorem ah1:aB Tryz.prog G0 196 ah2:=ai (ak ⟨ay,ae,ap,ae,an⟩ Tryz.func196 rfl (by kernel_rfl))
theorem aoE:TOk ah2 z8:=aC (E:=ah3) (ET:=aoG) (EnvT.ofX (az al) am au aQ ar) aoF rfl
def afF:Env:=(eZ [(196,ah2)] [274])
def ak0:Hints:=(hZ [] [])
def acP:PFn:=aH (runF Tryz.prog afF ak0 Tryz.f160)
def aq5:TH:=yZ
def zcq (a0:List (List UInt8)) (a1:List (List UInt8)):Option Bool :=
(zas a0 a1).bind fun r1 =>
 some r1
def wI:TFn:={ ps:=(.cons (.sl .str) tT21),res:=.bool,fn:=fun v=>zcq v.1 v.2.1 }
def akZ:TEnv:=(vZ [(196,z8)])
theorem akY:runY Tryz.prog afF ak0 akZ aq5 Tryz.f160 wI.ps wI.res=wI.fn:=by kernel_rfl
theorem yA:aB Tryz.prog G0 160 acP:=ai (ak ⟨ay,(aj ah1 ae),ap,ae,an⟩ Tryz.func160 rfl (by kernel_rfl))
theorem aeG:TOk acP wI:=aC (E:=afF) (ET:=akZ) (EnvT.ofX (az (ah aoE al)) am au aQ ar) akY rfl
def agl:Env:=(eZ [(124,acS),(160,acP)] [274])
def al2:Hints:=(hZ [(3,[1,2,7,10,11,12])] [])
def yU:PFn:=aH (runF Tryz.prog agl al2 Tryz.f229)
def aro:TH:={ loops:=[(3,{ keep:=[(7,(.own 1)),(12,(.int .i64))],mem:=[.gone,.row true 148 tT18] })],ro:=[] }
def uO (a0:List vV6) (a1:List (List UInt8)) (a2:Int) (y3:(Int×List vV6×Unit)):Option ((Int×List vV6×Unit)⊕List vV6) :=
 cond (decide (y3.1<(a0.length:Int))) (
(atI a0 y3.1).bind fun x1 =>
(zc0 x1.2.1.1).bind fun r2 =>
 cond (decide (r2=a2)) ((zcq x1.2.1.2.1 a1).bind fun r3 =>
 cond r3 (
(dN (y3.2.1.length+([x1]:List vV6).length)).bind fun u4 =>
 some (.inl ((IntKind.wrap .i64 (y3.1+1)),(y3.2.1++([x1]:List vV6)),()))) (
 some (.inl ((IntKind.wrap .i64 (y3.1+1)),y3.2.1,())))) (some (.inl ((IntKind.wrap .i64 (y3.1+1)),y3.2.1,())))) (
 some (.inr y3.2.1))
def zc1 (a0:List vV6) (a1:List (List UInt8)) (a2:Int):Option (List vV6) :=
 aJ (uO a0 a1 a2) (0,[],())
def sE:TFn:={ ps:=(.cons (.sl tT18) (.cons (.sl .str) tT15)),res:=(.sl tT18),fn:=fun v=>zc1 v.1 v.2.1 v.2.2.1 }
def al1:TEnv:={ pure:=[(124,wL),(160,wI)],look:=[],glob:=G0T,ty:=[(148,tT18)],raw:=[],fresh:=[] }
theorem al0:runY Tryz.prog agl al2 al1 aro Tryz.f229 sE.ps sE.res=sE.fn:=by kernel_rfl
theorem sF:aB Tryz.prog G0 229 yU:=ai (ak ⟨ay,(aj yV (aj yA ae)),ap,ae,an⟩ Tryz.func229 rfl (by kernel_rfl))
theorem yT:TOk yU sE:=aC (E:=agl) (ET:=al1) (EnvT.ofX (az (ah aeJ (ah aeG al))) am au aQ ar) al0 rfl
def adn:PFn:=cmpF
theorem ai3:aB Tryz.prog G0 291 adn:=rY ⟨Tryz.f291,Tryz.func291,rfl,by kernel_rfl⟩ Tryz.strings_Compare
def za6 (a0:List UInt8) (a1:List UInt8):Option Int:=cmpT a0 a1
def apQ:TFn:=acj
theorem apP:TOk adn apQ:=aj8
def ai1:Env:=(eZ [(154,sK),(156,sS),(291,adn)] [274])
def apL:Hints:=(hZ [] [])
def aak:PFn:=aH (runF Tryz.prog ai1 apL Tryz.f231)
def asj:TH:={ loops:=[],ro:=[2,3] }
def za8 (a0:vV3) (a1:vV3):Option Int :=
(za4 a0.1 a1.1).bind fun r1 =>
(za4 a0.2.1 a1.2.1).bind fun r2 =>
(za6 a0.2.2.1 a1.2.2.1).bind fun r3 =>
(zb9 ([r1,r2,r3]:List Int)).bind fun r4 =>
 some r4
def aaj:TFn:={ ps:=(.cons tT14 (.cons tT14 .unit)),res:=(.int .i64),fn:=fun v=>za8 v.1 v.2.1 }
def apK:TEnv:={ pure:=[(154,qo),(156,qs),(291,apQ)],look:=[],glob:=G0T,ty:=[(3,(.int .i64))],raw:=[],fresh:=[] }
theorem apJ:runY Tryz.prog ai1 apL apK asj Tryz.f231 aaj.ps aaj.res=aaj.fn:=by kernel_rfl
theorem ai0:aB Tryz.prog G0 231 aak:=ai (ak ⟨ay,(aj oK (aj oM (aj ai3 ae))),ap,ae,an⟩ Tryz.func231 rfl (by kernel_rfl))
theorem aeR:TOk aak aaj:=aC (E:=ai1) (ET:=apK) (EnvT.ofX (az (ah uX (ah vh (ah apP al)))) am au aQ ar) apJ rfl
theorem adm : @aB ⟨True⟩ Tryz.prog G0 291 adn:=by
 letI:Drawn:=⟨True⟩
 exact rY ⟨Tryz.f291,Tryz.func291,rfl,by kernel_rfl⟩ Tryz.strings_Compare
theorem adl : @aB ⟨True⟩ Tryz.prog G0 231 aak:=by
 letI:Drawn:=⟨True⟩
 exact ai (ak ⟨ay,(aj uY (aj vi (aj adm ae))),ap,ae,an⟩ Tryz.func231 rfl (by kernel_rfl))
def aiE:Go.Shelf.Ren:=⟨fun | 6=>230 | 14=>290 | 15=>201 | 20=>332 | 21=>333 | 22=>334 | 23=>335 | 24=>336 | 25=>337 | 26=>338 | 27=>339 | 28=>268 | 29=>269 | 46=>359 | 47=>316 | 48=>317 | 49=>360 | 50=>361 | 57=>374 | n=>n,fun | 0=>0 | 3=>3 | 4=>4 | 5=>5 | 9=>9 | 22=>123 | 24=>132 | 25=>296 | 39=>230 | 45=>314 | 46=>315 | 50=>161 | 53=>321 | 55=>323 | 66=>354 | 70=>358 | 76=>378 | 77=>283 | n=>n,fun | n=>n⟩
theorem adk:Go.Proofs.SlLaysF0.n6 Tryz.prog aiE:={
 mixed:=by kernel_rfl
 f6:=⟨Tryz.f230.name,by decide,Tryz.func230.trans (congrArg some (by kernel_rfl))⟩
 f14:=⟨Tryz.f290.name,by decide,Tryz.func290.trans (congrArg some (by kernel_rfl))⟩
 f15:=Tryz.func201.trans (congrArg some (by kernel_rfl))
 f20:=⟨Tryz.f332.name,by decide,Tryz.func332.trans (congrArg some (by kernel_rfl))⟩
 f21:=⟨Tryz.f333.name,by decide,Tryz.func333.trans (congrArg some (by kernel_rfl))⟩
 f22:=⟨Tryz.f334.name,by decide,Tryz.func334.trans (congrArg some (by kernel_rfl))⟩
 f23:=⟨Tryz.f335.name,by decide,Tryz.func335.trans (congrArg some (by kernel_rfl))⟩
 f24:=⟨Tryz.f336.name,by decide,Tryz.func336.trans (congrArg some (by kernel_rfl))⟩
 f25:=⟨Tryz.f337.name,by decide,Tryz.func337.trans (congrArg some (by kernel_rfl))⟩
 f26:=⟨Tryz.f338.name,by decide,Tryz.func338.trans (congrArg some (by kernel_rfl))⟩
 f27:=⟨Tryz.f339.name,by decide,Tryz.func339.trans (congrArg some (by kernel_rfl))⟩
 f28:=Tryz.func268.trans (congrArg some (by kernel_rfl))
 f29:=Tryz.func269.trans (congrArg some (by kernel_rfl))
 f46:=⟨Tryz.f359.name,by decide,Tryz.func359.trans (congrArg some (by kernel_rfl))⟩
 f47:=Tryz.func316.trans (congrArg some (by kernel_rfl))
 f48:=Tryz.func317.trans (congrArg some (by kernel_rfl))
 f49:=⟨Tryz.f360.name,by decide,Tryz.func360.trans (congrArg some (by kernel_rfl))⟩
 f50:=⟨Tryz.f361.name,by decide,Tryz.func361.trans (congrArg some (by kernel_rfl))⟩
 f57:=⟨Tryz.f374.name,by decide,Tryz.func374.trans (congrArg some (by kernel_rfl))⟩
 t0:=Tryz.underlying0
 a0:=Tryz.isAgg0
 z0:=Tryz.sizeOf0
 v0:=Tryz.zeroValue0
 t3:=Tryz.underlying3
 a3:=Tryz.isAgg3
 z3:=Tryz.sizeOf3
 v3:=Tryz.zeroValue3
 t4:=Tryz.underlying4
 a4:=Tryz.isAgg4
 z4:=Tryz.sizeOf4
 v4:=Tryz.zeroValue4
 t5:=Tryz.underlying5
 a5:=Tryz.isAgg5
 z5:=Tryz.sizeOf5
 v5:=Tryz.zeroValue5
 t9:=Tryz.underlying9
 a9:=Tryz.isAgg9
 z9:=Tryz.sizeOf9
 v9:=Tryz.zeroValue9
 t22:=Tryz.underlying123
 a22:=Tryz.isAgg123
 z22:=Tryz.sizeOf123
 v22:=Tryz.zeroValue123
 t25:=Tryz.underlying296
 a25:=Tryz.isAgg296
 z25:=Tryz.sizeOf296
 v25:=Tryz.zeroValue296
 t39:=Tryz.underlying230
 a39:=Tryz.isAgg230
 z39:=Tryz.sizeOf230
 v39:=Tryz.zeroValue230
 t45:=Tryz.underlying314
 a45:=Tryz.isAgg314
 z45:=Tryz.sizeOf314
 v45:=Tryz.zeroValue314
 t46:=Tryz.underlying315
 a46:=Tryz.isAgg315
 z46:=Tryz.sizeOf315
 v46:=Tryz.zeroValue315
 t50:=Tryz.underlying161
 a50:=Tryz.isAgg161
 z50:=Tryz.sizeOf161
 v50:=Tryz.zeroValue161
 t53:=Tryz.underlying321
 a53:=Tryz.isAgg321
 z53:=Tryz.sizeOf321
 v53:=Tryz.zeroValue321
 t55:=Tryz.underlying323
 a55:=Tryz.isAgg323
 z55:=Tryz.sizeOf323
 v55:=Tryz.zeroValue323
 t66:=Tryz.underlying354
 a66:=Tryz.isAgg354
 z66:=Tryz.sizeOf354
 v66:=Tryz.zeroValue354
 t70:=Tryz.underlying358
 a70:=Tryz.isAgg358
 z70:=Tryz.sizeOf358
 v70:=Tryz.zeroValue358
 t76:=Tryz.underlying378
 a76:=Tryz.isAgg378
 z76:=Tryz.sizeOf378
 v76:=Tryz.zeroValue378
 t77:=Tryz.underlying283
 a77:=Tryz.isAgg283
 z77:=Tryz.sizeOf283
 v77:=Tryz.zeroValue283 }
def aiG:SFn:=oT aak 231 3 132
theorem aiF:bL Tryz.prog G0 230 aiG:=kY (M:=3) (g:=231) adk (by decide) (fun w=>Tryz.isAgg132 w) (fun w=>Tryz.sizeOf132 w) adl ⟨Tryz.f230,Tryz.func230,rfl,by kernel_rfl⟩
def zaf (w0:List vV3):Option (Unit×List vV3×Unit):=(mL (fun x y=>za8 x y) w0).map fun l=>((),(l,()))
def api:TRaw:=aaC false 231 132 tT14 (fun x y=>za8 x y)
theorem aph:TRawOk aiG api:=vo rfl rfl rfl rfl aeR
def aii:Env:=(eZ [] [274])
def aoY:Hints:=(hZ [(4,[0,3]),(9,[0,3,4,5])] [])
def aih:SFn:=pI (runF Tryz.prog aii aoY Tryz.f232)
def asa:TH:={ joins:=[(14,{ keep:=[(0,(.own 0)),(3,(.int .i64))],mem:=[.row false 132 tT14] })],loops:=[(4,{ keep:=[(0,(.own 0)),(3,(.int .i64))],mem:=[.row false 132 tT14] }),(9,{ keep:=[(0,(.own 0)),(3,(.int .i64)),(4,(.vw 0)),(5,(.int .i64))],mem:=[.row false 132 tT14] })],ro:=[] }
def na (y9:(Int×(Nat×Nat)×Int×List vV3×Unit)):Option ((Int×(Nat×Nat)×Int×List vV3×Unit)⊕((Int×List vV3×Unit)⊕((Int×List vV3×Unit)⊕(List vV3)))) :=
 cond (decide (y9.2.2.1<(y9.2.1.2:Int))) (
 cond y9.2.2.2.1.isEmpty (none) ((inI y9.2.1.2 y9.2.2.1).bind fun i6 =>
(y9.2.2.2.1[(y9.2.1.1+i6)]?).bind fun x7 =>
 cond y9.2.2.2.1.isEmpty (none) ((inI y9.2.1.2 (IntKind.wrap .i64 (y9.2.2.1-1))).bind fun i8 =>
(y9.2.2.2.1[(y9.2.1.1+i8)]?).bind fun x9 =>
 cond (!(eqV tT14 x7 x9)) (
 cond y9.2.2.2.1.isEmpty (none) ((inI y9.2.1.2 y9.2.2.1).bind fun i10 =>
(y9.2.2.2.1[(y9.2.1.1+i10)]?).bind fun x11 =>
(inI y9.2.2.2.1.length y9.1).bind fun i12 =>
(y9.2.2.2.1[i12]?).bind fun x13 =>
 some (.inl ((IntKind.wrap .i64 (y9.1+1)),y9.2.1,(IntKind.wrap .i64 (y9.2.2.1+1)),(y9.2.2.2.1.set i12 x11),())))) (
 some (.inl (y9.1,y9.2.1,(IntKind.wrap .i64 (y9.2.2.1+1)),y9.2.2.2.1,())))))) (
 some (.inr (.inl (y9.1,y9.2.2.2.1,()))))
def kK (y4:(Int×List vV3×Unit)):Option ((Int×List vV3×Unit)⊕(List vV3)) :=
 cond (decide (y4.1<(y4.2.1.length:Int))) (
(inI y4.2.1.length y4.1).bind fun i1 =>
(y4.2.1[i1]?).bind fun x2 =>
(inI y4.2.1.length (IntKind.wrap .i64 (y4.1-1))).bind fun i3 =>
(y4.2.1[i3]?).bind fun x4 =>
 cond (eqV tT14 x2 x4) (
 cond y4.2.1.isEmpty (none) ((kR (y4.2.1.length) y4.1 (y4.2.1.length:Int)).bind fun p5 =>
(aJ (na) (y4.1,p5,1,y4.2.1,()):Option ((Int×List vV3×Unit)⊕((Int×List vV3×Unit)⊕(List vV3)))).bind (be fun v14 =>
 cond v14.2.1.isEmpty (none) ((kR (v14.2.1.length) v14.1 (v14.2.1.length:Int)).bind fun p15 =>
 cond v14.2.1.isEmpty (none) ((if p15.1+p15.2≤v14.2.1.length then some () else none).bind fun u16 =>
 cond (v14.2.1.take p15.1++List.replicate p15.2 (0,0,[],())++v14.2.1.drop (p15.1+p15.2)).isEmpty (none) ((kR ((v14.2.1.take p15.1++List.replicate p15.2 (0,0,[],())++v14.2.1.drop (p15.1+p15.2)).length) 0 v14.1).bind fun p17 =>
(cond (v14.2.1.take p15.1++List.replicate p15.2 (0,0,[],())++v14.2.1.drop (p15.1+p15.2)).isEmpty none (if p17.1+p17.2≤(v14.2.1.take p15.1++List.replicate p15.2 (0,0,[],())++v14.2.1.drop (p15.1+p15.2)).length then some (((v14.2.1.take p15.1++List.replicate p15.2 (0,0,[],())++v14.2.1.drop (p15.1+p15.2)).drop p17.1).take p17.2) else none)).map .inr)))))) (
 some (.inl ((IntKind.wrap .i64 (y4.1+1)),y4.2.1,())))) (
 some (.inr y4.2.1))
def aif (w0:List vV3):Option (List vV3) :=
 cond (decide ((w0.length:Int)<2)) (
 some w0) (
 aJ (kK) (1,w0,()))
def zan (w0:List vV3):Option (List vV3×Unit):=(aif w0).map fun l=>(l,())
def aoX:TRaw:={ ps:=(.cons (.own 0) .unit),ins:=[.row false 132 tT14],res:=(.sl tT14),outs:=[.gone],fn:=fun v w=>zan w.1 }
def aoW:TEnv:=(vZ [])
theorem aoV:aej Tryz.prog aii aoY aoW asa Tryz.f232 (.cons (.own 0) .unit) false 132 tT14=fun _ w=>aif w:=by kernel_rfl
theorem aig:bL Tryz.prog G0 232 aih:=lX (ak ⟨ay,ae,ap,ae,an⟩ Tryz.func232 rfl (by kernel_rfl))
theorem aoU:TRawOk aih aoX:=vU (E:=aii) (ET:=aoW) (EnvT.ofX (az al) am au aQ ar) aoV
def afY:Env:={ pure:=[(229,yU)],raw:=[(230,aiG),(232,aih)],glob:=G0,same:=[274],look:=[],ext:=[] }
def als:Hints:=(hZ [(3,[5,10,11,12])] [])
def afX:PFn:=aH (runF Tryz.prog afY als Tryz.f163)
def arc:TH:={ joins:=[(7,{ keep:=[(5,(.own 1))],mem:=[.gone,.row true 132 tT14] })],loops:=[(3,{ keep:=[(5,(.own 1)),(12,(.int .i64))],mem:=[.gone,.row true 132 tT14] })],ro:=[] }
def uL (r1:List vV6) (y3:(Int×List vV3×Unit)):Option ((Int×List vV3×Unit)⊕((List vV3×Unit)⊕List vV3)) :=
 cond (decide (y3.1<(r1.length:Int))) (
(atI r1 y3.1).bind fun x2 =>
(dN (y3.2.1.length+([x2.2.1.2.2.1]:List vV3).length)).bind fun u3 =>
 some (.inl ((IntKind.wrap .i64 (y3.1+1)),(y3.2.1++([x2.2.1.2.2.1]:List vV3)),()))) (
 some (.inr (.inl (y3.2.1,()))))
def zcj (a0:List vV6) (a1:List (List UInt8)):Option (List vV3) :=
((zc1 a0 a1 1).bind fun r1 =>
 aJ (uL r1) (0,[],()):Option ((List vV3×Unit)⊕List vV3)).bind (be fun v4 =>
(zaf v4.1).bind fun q5 =>
(zan q5.2.1).bind fun q6 =>
 some q6.1)
def yI:TFn:={ ps:=(.cons (.sl tT18) tT21),res:=(.sl tT14),fn:=fun v=>zcj v.1 v.2.1 }
def alr:TEnv:={ pure:=[(229,sE)],look:=[],glob:=G0T,ty:=[(132,tT14)],raw:=[(230,api),(232,aoX)],fresh:=[] }
theorem alq:runY Tryz.prog afY als alr arc Tryz.f163 yI.ps yI.res=yI.fn:=by kernel_rfl
theorem afW:aB Tryz.prog G0 163 afX:=ai (ak ⟨ay,(aj sF ae),(bv aiF (bv aig ap)),ae,an⟩ Tryz.func163 rfl (by kernel_rfl))
theorem alp:TOk afX yI:=aC (E:=afY) (ET:=alr) (EnvT.ofX (az (ah yT al)) am (ci aph rfl rfl (ci aoU rfl rfl au)) aQ ar) alq rfl
def aic:Go.Shelf.Ren:=⟨fun | 22=>234 | 29=>292 | 30=>293 | n=>n,fun | 24=>123 | 9=>132 | 0=>0 | 3=>3 | 4=>4 | n=>n,fun | n=>n⟩
theorem ade:InsL Tryz.prog aic:={
 mixed:=by kernel_rfl
 f22:=⟨Tryz.f234.name,by decide,Tryz.func234.trans (congrArg some (by kernel_rfl))⟩
 f29:=⟨Tryz.f292.name,by decide,by kernel_rfl,by kernel_rfl,Tryz.func292.trans (congrArg some (by kernel_rfl))⟩
 t0:=Tryz.underlying0
 a0:=Tryz.isAgg0
 z0:=Tryz.sizeOf0
 v0:=Tryz.zeroValue0
 t3:=Tryz.underlying3
 a3:=Tryz.isAgg3
 z3:=Tryz.sizeOf3
 v3:=Tryz.zeroValue3
 t4:=Tryz.underlying4
 a4:=Tryz.isAgg4
 z4:=Tryz.sizeOf4
 v4:=Tryz.zeroValue4
 t24:=Tryz.underlying123
 a24:=Tryz.isAgg123
 z24:=Tryz.sizeOf123
 v24:=Tryz.zeroValue123 }
def aie:SFn:=ey 3 132
theorem aid:bL Tryz.prog G0 234 aie:=nX ade rfl rfl rfl (iZ (P:=Tryz.prog) (te:=132) (M:=3) (by kernel_rfl) (by kernel_rfl) (by kernel_rfl) (by kernel_rfl) (by kernel_rfl) (by kernel_rfl) (by kernel_rfl) (by kernel_rfl)) true Tryz.isAgg132 ⟨Tryz.f234,Tryz.func234,rfl,by kernel_rfl⟩
def zao (a1:Int) (a2:List vV3) (w0:List vV3):Option (Unit×List vV3×Unit):=(insT w0 a1 a2).map fun l=>((),(l,()))
def aoT:TRaw:=insR false 132 tT14
theorem aoS:TRawOk aie aoT:=abJ rfl rfl rfl rfl (by decide)
def aiQ:Env:=(eZ [(231,aak)] [274])
def apw:Hints:=(hZ [(3,[0,2,4,8,9,10])] [])
def aiP:PFn:=aH (runF Tryz.prog aiQ apw Tryz.f233)
def asf:TH:={ joins:=[(8,{ keep:=[(4,(.bx 0 0)),(9,(.int .i64))],mem:=[.same] })],loops:=[(3,{ keep:=[(4,(.bx 0 0)),(9,(.int .i64)),(10,(.int .i64))],mem:=[.same] })],ro:=[4] }
def nd (a0:List vV3) (a1:vV3) (y3:(Int×Int×Unit)):Option ((Int×Int×Unit)⊕((Int×Unit)⊕(Int×Bool×Unit))) :=
 cond (decide (y3.1<y3.2.1)) (
(shrT .u64 (IntKind.wrap .u64 (IntKind.wrap .i64 (y3.1+y3.2.1))) 1).bind fun t1 =>
(atI a0 (IntKind.wrap .i64 t1)).bind fun x2 =>
(za8 x2 a1).bind fun r3 =>
 cond (decide (r3<0)) (
 some (.inl ((IntKind.wrap .i64 ((IntKind.wrap .i64 t1)+1)),y3.2.1,()))) (
 some (.inl (y3.1,(IntKind.wrap .i64 t1),())))) (
 some (.inr (.inl (y3.1,()))))
def zac (a0:List vV3) (a1:vV3) (a2:Unit):Option (Int×Bool×Unit) :=
(aJ (nd a0 a1) (0,(a0.length:Int),()):Option ((Int×Unit)⊕(Int×Bool×Unit))).bind (be fun v4 =>
 cond (decide (v4.1<(a0.length:Int))) ((atI a0 v4.1).bind fun x5 =>
(za8 x5 a1).bind fun r6 =>
 some (v4.1,(decide (r6=0)),())) (some (v4.1,false,())))
def aaf:TFn:={ ps:=(.cons (.sl tT14) (.cons tT14 (.cons (.fn 231) .unit))),res:=(.tup (.cons (.int .i64) (.cons .bool .unit))),fn:=fun v=>zac v.1 v.2.1 v.2.2.1 }
def apv:TEnv:=(vZ [(231,aaj)])
theorem apu:runY Tryz.prog aiQ apw apv asf Tryz.f233 aaf.ps aaf.res=aaf.fn:=by kernel_rfl
theorem aiO:aB Tryz.prog G0 233 aiP:=ai (ak ⟨ay,(aj ai0 ae),ap,ae,an⟩ Tryz.func233 rfl (by kernel_rfl))
theorem apt:TOk aiP aaf:=aC (E:=aiQ) (ET:=apv) (EnvT.ofX (az (ah aeR al)) am au aQ ar) apu rfl
def afV:Env:={ pure:=[(229,yU)],raw:=[(234,aie)],glob:=G0,same:=[274],look:=[(233,aiP)],ext:=[] }
def alo:Hints:=(hZ [(3,[5,12,13,14])] [])
def afU:PFn:=aH (runF Tryz.prog afV alo Tryz.f164)
def arb:TH:={ loops:=[(3,{ keep:=[(5,(.own 1)),(14,(.int .i64))],mem:=[.gone,.row false 132 tT14] })],ro:=[] }
def uK (r1:List vV6) (y3:(Int×List vV3×Unit)):Option ((Int×List vV3×Unit)⊕List vV3) :=
 cond (decide (y3.1<(r1.length:Int))) (
(atI r1 y3.1).bind fun x2 =>
(zac y3.2.1 x2.2.1.2.2.1 ()).bind fun r3 =>
 cond (!r3.2.1) (
(zao r3.1 ([x2.2.1.2.2.1]:List vV3) y3.2.1).bind fun q4 =>
 some (.inl ((IntKind.wrap .i64 (y3.1+1)),q4.2.1,()))) (
 some (.inl ((IntKind.wrap .i64 (y3.1+1)),y3.2.1,())))) (
 some (.inr y3.2.1))
def zck (a0:List vV6) (a1:List (List UInt8)):Option (List vV3) :=
(zc1 a0 a1 2).bind fun r1 =>
 aJ (uK r1) (0,[],())
def yH:TFn:={ ps:=(.cons (.sl tT18) tT21),res:=(.sl tT14),fn:=fun v=>zck v.1 v.2.1 }
def aln:TEnv:={ pure:=[(229,sE)],look:=[(233,aaf)],glob:=G0T,ty:=[(132,tT14)],raw:=[(234,aoT)],fresh:=[] }
theorem alm:runY Tryz.prog afV alo aln arb Tryz.f164 yH.ps yH.res=yH.fn:=by kernel_rfl
theorem afT:aB Tryz.prog G0 164 afU:=ai (ak ⟨ay,(aj sF ae),(bv aid ap),(aj aiO ae),an⟩ Tryz.func164 rfl (by kernel_rfl))
theorem alk:TOk afU yH:=aC (E:=afV) (ET:=aln) (EnvT.ofX (az (ah yT al)) (jI apt rfl am) (ci aoS rfl rfl au) aQ ar) alm rfl
def afJ:Env:=(eZ [(229,yU)] [274])
def ak7:Hints:=(hZ [(3,[5,10,11,12])] [])
def afI:PFn:=aH (runF Tryz.prog afJ ak7 Tryz.f165)
def aq7:TH:={ loops:=[(3,{ keep:=[(5,(.int .i64)),(12,(.int .i64))],mem:=[] })],ro:=[] }
def uI (r1:List vV6) (y3:(Int×Int×Unit)):Option ((Int×Int×Unit)⊕Int) :=
 cond (decide (y3.2.1<(r1.length:Int))) (
(atI r1 y3.2.1).bind fun x2 =>
 some (.inl ((IntKind.wrap .i64 (y3.1+x2.2.1.2.2.2.1)),(IntKind.wrap .i64 (y3.2.1+1)),()))) (
 some (.inr y3.1))
def zco (a0:List vV6) (a1:List (List UInt8)):Option Int :=
(zc1 a0 a1 3).bind fun r1 =>
 aJ (uI r1) (0,0,())
def yD:TFn:={ ps:=(.cons (.sl tT18) tT21),res:=(.int .i64),fn:=fun v=>zco v.1 v.2.1 }
def ak6:TEnv:=(vZ [(229,sE)])
theorem ak5:runY Tryz.prog afJ ak7 ak6 aq7 Tryz.f165 yD.ps yD.res=yD.fn:=by kernel_rfl
theorem afH:aB Tryz.prog G0 165 afI:=ai (ak ⟨ay,(aj sF ae),ap,ae,an⟩ Tryz.func165 rfl (by kernel_rfl))
theorem ak4:TOk afI yD:=aC (E:=afJ) (ET:=ak6) (EnvT.ofX (az (ah yT al)) am au aQ ar) ak5 rfl
def afk:Env:=(eZ [(72,wS),(163,afX),(164,afU),(165,afI)] [274])
def akt:Hints:=(hZ [] [])
def afj:PFn:=aH (runF Tryz.prog afk akt Tryz.f94)
def aqW:TH:=yZ
def zcz (a0:List vV6) (a1:List (List UInt8)) (a2:Int):Option vV0 :=
(zat a1).bind fun r1 =>
 cond (decide (a2=1)) (
(zcj a0 a1).bind fun r2 =>
 some (r1,a2,r2,0,())) (
 cond (decide (a2=2)) (
(zck a0 a1).bind fun r3 =>
 some (r1,a2,r3,0,())) (
 cond (decide (a2=3)) (
(zco a0 a1).bind fun r4 =>
 some (r1,a2,[],r4,())) (
 some (r1,a2,[],0,()))))
def ym:TFn:={ ps:=(.cons (.sl tT18) (.cons (.sl .str) tT15)),res:=tT11,fn:=fun v=>zcz v.1 v.2.1 v.2.2.1 }
def aks:TEnv:=(vZ [(72,z7),(163,yI),(164,yH),(165,yD)])
theorem akr:runY Tryz.prog afk akt aks aqW Tryz.f94 ym.ps ym.res=ym.fn:=by kernel_rfl
theorem afi:aB Tryz.prog G0 94 afj:=ai (ak ⟨ay,(aj oL (aj afW (aj afT (aj afH ae)))),ap,ae,an⟩ Tryz.func94 rfl (by kernel_rfl))
theorem akq:TOk afj ym:=aC (E:=afk) (ET:=aks) (EnvT.ofX (az (ah ve (ah alp (ah alk (ah ak4 al))))) am au aQ ar) akr rfl
def agh:Env:=(eZ [(93,ag4),(94,afj)] [274])
def alV:Hints:=(hZ [(3,[0,5,10,11,12])] [])
def yR:PFn:=aH (runF Tryz.prog agh alV Tryz.f32)
def arm:TH:={ loops:=[(3,{ keep:=[(5,(.own 1)),(12,(.int .i64))],mem:=[.gone,.row true 125 tT11] })],ro:=[] }
def uN (a0:List vV6) (r1:List vV5) (y3:(Int×List vV0×Unit)):Option ((Int×List vV0×Unit)⊕List vV0) :=
 cond (decide (y3.1<(r1.length:Int))) (
(atI r1 y3.1).bind fun x2 =>
(zcz a0 x2.1 x2.2.1).bind fun r3 =>
(dN (y3.2.1.length+([r3]:List vV0).length)).bind fun u4 =>
 some (.inl ((IntKind.wrap .i64 (y3.1+1)),(y3.2.1++([r3]:List vV0)),()))) (
 some (.inr y3.2.1))
def zcb (a0:List vV6) (a1:List (List UInt8)):Option (List vV0) :=
(zbj a0 a1).bind fun r1 =>
 aJ (uN a0 r1) (0,[],())
def sC:TFn:={ ps:=(.cons (.sl tT18) tT21),res:=(.sl tT11),fn:=fun v=>zcb v.1 v.2.1 }
def alU:TEnv:={ pure:=[(93,zz),(94,ym)],look:=[],glob:=G0T,ty:=[(125,tT11)],raw:=[],fresh:=[] }
theorem alT:runY Tryz.prog agh alV alU arm Tryz.f32 sC.ps sC.res=sC.fn:=by kernel_rfl
theorem sD:aB Tryz.prog G0 32 yR:=ai (ak ⟨ay,(aj ag3 (aj afi ae)),ap,ae,an⟩ Tryz.func32 rfl (by kernel_rfl))
theorem yQ:TOk yR sC:=aC (E:=agh) (ET:=alU) (EnvT.ofX (az (ah am5 (ah akq al))) am au aQ ar) alT rfl
def ai2:Env:=(eZ [(154,sK),(155,zD),(156,sS)] [274])
def apO:Hints:=(hZ [] [])
def aam:PFn:=aH (runF Tryz.prog ai2 apO Tryz.f86)
def ask:TH:={ loops:=[],ro:=[2,3] }
def za7 (a0:vV0) (a1:vV0):Option Int :=
(zbh a0.1 a1.1).bind fun r1 =>
(za4 a0.2.1 a1.2.1).bind fun r2 =>
(zb9 ([r1,r2]:List Int)).bind fun r3 =>
 some r3
def sP:TFn:={ ps:=(.cons tT11 (.cons tT11 .unit)),res:=(.int .i64),fn:=fun v=>za7 v.1 v.2.1 }
def apN:TEnv:={ pure:=[(154,qo),(155,wO),(156,qs)],look:=[],glob:=G0T,ty:=[(3,(.int .i64))],raw:=[],fresh:=[] }
theorem apM:runY Tryz.prog ai2 apO apN ask Tryz.f86 sP.ps sP.res=sP.fn:=by kernel_rfl
theorem sQ:aB Tryz.prog G0 86 aam:=ai (ak ⟨ay,(aj oK (aj zC (aj oM ae))),ap,ae,an⟩ Tryz.func86 rfl (by kernel_rfl))
theorem aal:TOk aam sP:=aC (E:=ai2) (ET:=apN) (EnvT.ofX (az (ah uX (ah aeN (ah vh al)))) am au aQ ar) apM rfl
def ah9:Go.Shelf.Ren:=⟨fun | 41=>159 | n=>n,fun | 22=>123 | 23=>132 | 4=>4 | n=>n,fun | n=>n⟩
theorem adc:Go.Proofs.SlLaysE0.n41 Tryz.prog ah9:={
 mixed:=by kernel_rfl
 f41:=⟨Tryz.f159.name,by decide,Tryz.func159.trans (congrArg some (by kernel_rfl))⟩
 t4:=Tryz.underlying4
 a4:=Tryz.isAgg4
 z4:=Tryz.sizeOf4
 v4:=Tryz.zeroValue4
 t22:=Tryz.underlying123
 a22:=Tryz.isAgg123
 z22:=Tryz.sizeOf123
 v22:=Tryz.zeroValue123 }
def aib:PFn:=(j9 3)
theorem aia:aB Tryz.prog G0 159 aib:=clone_lays adc 3 ⟨Tryz.f159,Tryz.func159,rfl,by kernel_rfl⟩ (by kernel_rfl) (by kernel_rfl) (by kernel_rfl) (by kernel_rfl) (by kernel_rfl) (by decide) (fun w=>Tryz.sizeOf132 w)
def zap (a0:List vV3):Option (List vV3):=eR a0
def aoR:TFn:=fM tT14
theorem aoQ:TOk aib aoR:=mm rfl rfl rfl
def ag9:Env:=(eZ [(72,wS),(159,aib)] [274])
def ani:Hints:=(hZ [] [])
def acX:PFn:=aH (runF Tryz.prog ag9 ani Tryz.f89)
def arK:TH:=yZ
def zbg (a0:vV0):Option vV0 :=
(zat a0.1).bind fun r1 =>
(zap a0.2.2.1).bind fun r2 =>
 some (r1,a0.2.1,r2,a0.2.2.2.1,())
def wP:TFn:={ ps:=(.cons tT11 .unit),res:=tT11,fn:=fun v=>zbg v.1 }
def anh:TEnv:=(vZ [(72,z7),(159,aoR)])
theorem ang:runY Tryz.prog ag9 ani anh arK Tryz.f89 wP.ps wP.res=wP.fn:=by kernel_rfl
theorem zF:aB Tryz.prog G0 89 acX:=ai (ak ⟨ay,(aj oL (aj aia ae)),ap,ae,an⟩ Tryz.func89 rfl (by kernel_rfl))
theorem aeO:TOk acX wP:=aC (E:=ag9) (ET:=anh) (EnvT.ofX (az (ah ve (ah aoQ al))) am au aQ ar) ang rfl
def ah8:Env:=(eZ [] [274])
def aoP:Hints:=(hZ [(4,[0,1,12,13])] [])
def ah7:PFn:=aH (runF Tryz.prog ah8 aoP Tryz.f161)
def ar9:TH:={ loops:=[(4,{ keep:=[(13,(.int .i64))],mem:=[] })],ro:=[] }
def vg (a0:List vV3) (a1:List vV3) (y4:(Int×Unit)):Option ((Int×Unit)⊕Bool) :=
 cond (decide (y4.1<(a0.length:Int))) (
(atI a0 y4.1).bind fun x1 =>
(atI a1 y4.1).bind fun x2 =>
 cond (!(eqV tT14 x1 x2)) (
 some (.inr false)) (
 some (.inl ((IntKind.wrap .i64 (y4.1+1)),())))) (
 some (.inr true))
def zaq (a0:List vV3) (a1:List vV3):Option Bool :=
 cond (!decide ((a0.length:Int)=(a1.length:Int))) (
 some false) (
 aJ (vg a0 a1) (0,()))
def aab:TFn:={ ps:=(.cons (.sl tT14) (.cons (.sl tT14) .unit)),res:=.bool,fn:=fun v=>zaq v.1 v.2.1 }
def aoO:TEnv:=(vZ [])
theorem aoN:runY Tryz.prog ah8 aoP aoO ar9 Tryz.f161 aab.ps aab.res=aab.fn:=by kernel_rfl
theorem ah6:aB Tryz.prog G0 161 ah7:=ai (ak ⟨ay,ae,ap,ae,an⟩ Tryz.func161 rfl (by kernel_rfl))
theorem aoM:TOk ah7 aab:=aC (E:=ah8) (ET:=aoO) (EnvT.ofX (az al) am au aQ ar) aoN rfl
def afr:Env:=(eZ [(160,acP),(161,ah7)] [274])
def akE:Hints:=(hZ [] [])
def afq:PFn:=aH (runF Tryz.prog afr akE Tryz.f92)
def aqZ:TH:={ loops:=[],cuts:=[(1,[(12,{ keep:=[(2,(.bx 0 0)),(3,(.bx 1 0)),(16,.bool)],mem:=[.same,.same] })])],ro:=[2,3],news:=[] }
def zcw (a0:vV0) (a1:vV0):Option Bool :=
(cond (decide (a0.2.1=a1.2.1)) (some ((decide (a0.2.2.2.1=a1.2.2.2.1)),())) (some (false,())):Option (Bool×Unit)).bind fun v1 =>
 cond v1.1 ((zcq a0.1 a1.1).bind fun r2 =>
 cond r2 ((zaq a0.2.2.1 a1.2.2.1).bind fun r3 =>
 some r3) (some false)) (some false)
def yq:TFn:={ ps:=(.cons tT11 (.cons tT11 .unit)),res:=.bool,fn:=fun v=>zcw v.1 v.2.1 }
def akD:TEnv:=(vZ [(160,wI),(161,aab)])
theorem akC:runY Tryz.prog afr akE akD aqZ Tryz.f92 yq.ps yq.res=yq.fn:=by kernel_rfl
theorem afp:aB Tryz.prog G0 92 afq:=ai (ak ⟨ay,(aj yA (aj ah6 ae)),ap,ae,an⟩ Tryz.func92 rfl (by kernel_rfl))
theorem akB:TOk afq yq:=aC (E:=afr) (ET:=akD) (EnvT.ofX (az (ah aeG (ah aoM al))) am au aQ ar) akC rfl
def aiW:Env:=(eZ [(92,afq)] [274])
def apE:Hints:=(hZ [(4,[1,2,15,16,17])] [])
def aiV:PFn:=aH (runF Tryz.prog aiW apE Tryz.f91)
def ash:TH:={ loops:=[(4,{ keep:=[(17,(.int .i64))],mem:=[] })],ro:=[] }
def kM (a0:List vV0) (a1:List vV0) (y4:(Int×Unit)):Option ((Int×Unit)⊕Bool) :=
 cond (decide (y4.1<(a0.length:Int))) (
(atI a0 y4.1).bind fun x1 =>
(atI a1 y4.1).bind fun x2 =>
(zcw x1 x2).bind fun r3 =>
 cond (!r3) (
 some (.inr false)) (
 some (.inl ((IntKind.wrap .i64 (y4.1+1)),())))) (
 some (.inr true))
def zaa (a0:List vV0) (a1:List vV0) (a2:Unit):Option Bool :=
 cond (!decide ((a0.length:Int)=(a1.length:Int))) (
 some false) (
 aJ (kM a0 a1) (0,()))
def aah:TFn:={ ps:=(.cons (.sl tT11) (.cons (.sl tT11) (.cons (.fn 92) .unit))),res:=.bool,fn:=fun v=>zaa v.1 v.2.1 v.2.2.1 }
def apD:TEnv:=(vZ [(92,yq)])
theorem apC:runY Tryz.prog aiW apE apD ash Tryz.f91 aah.ps aah.res=aah.fn:=by kernel_rfl
theorem aiU:aB Tryz.prog G0 91 aiV:=ai (ak ⟨ay,(aj afp ae),ap,ae,an⟩ Tryz.func91 rfl (by kernel_rfl))
theorem apB:TOk aiV aah:=aC (E:=aiW) (ET:=apD) (EnvT.ofX (az (ah akB al)) am au aQ ar) apC rfl
def afG:Env:=(eZ [(91,aiV)] [274])
def ak3:Hints:=(hZ [] [])
def yC:PFn:=aH (runF Tryz.prog afG ak3 Tryz.f31)
def aq6:TH:=yZ
def zcp (a0:List vV0) (a1:List vV0):Option Bool :=
(zaa a0 a1 ()).bind fun r1 =>
 some r1
def sA:TFn:={ ps:=(.cons (.sl tT11) (.cons (.sl tT11) .unit)),res:=.bool,fn:=fun v=>zcp v.1 v.2.1 }
def ak2:TEnv:=(vZ [(91,aah)])
theorem ak1:runY Tryz.prog afG ak3 ak2 aq6 Tryz.f31 sA.ps sA.res=sA.fn:=by kernel_rfl
theorem sB:aB Tryz.prog G0 31 yC:=ai (ak ⟨ay,(aj aiU ae),ap,ae,an⟩ Tryz.func31 rfl (by kernel_rfl))
theorem yB:TOk yC sA:=aC (E:=afG) (ET:=ak2) (EnvT.ofX (az (ah apB al)) am au aQ ar) ak1 rfl
def ahC:Env:=(eZ [(31,yC)] [274])
def an2:Hints:=(hZ [] [])
def ac2:PFn:=aH (runF Tryz.prog ahC an2 Tryz.f87)
def arX:TH:={ loops:=[],ro:=[2,3] }
def zb3 (a0:vV0) (a1:vV0):Option Bool :=
(zcp ([a0]:List vV0) ([a1]:List vV0)).bind fun r1 =>
 some r1
def wR:TFn:={ ps:=(.cons tT11 (.cons tT11 .unit)),res:=.bool,fn:=fun v=>zb3 v.1 v.2.1 }
def an1:TEnv:={ pure:=[(31,sA)],look:=[],glob:=G0T,ty:=[(125,tT11)],raw:=[],fresh:=[] }
theorem an0:runY Tryz.prog ahC an2 an1 arX Tryz.f87 wR.ps wR.res=wR.fn:=by kernel_rfl
theorem zT:aB Tryz.prog G0 87 ac2:=ai (ak ⟨ay,(aj sB ae),ap,ae,an⟩ Tryz.func87 rfl (by kernel_rfl))
theorem aeQ:TOk ac2 wR:=aC (E:=ahC) (ET:=an1) (EnvT.ofX (az (ah yB al)) am au aQ ar) an0 rfl
def ahw:Env:=(eZ [(86,aam),(87,ac2),(89,acX)] [274])
def anU:Hints:=(hZ [(2,[0,1,5])] [41,45,60,73])
def ahv:PFn:=aH (runF Tryz.prog ahw anU Tryz.f76)
def arU:TH:={ joins:=[(3,{ keep:=[(5,(.own 0))],mem:=[.row true 127 tT19] }),(11,{ keep:=[(5,(.own 0)),(6,(.int .i64))],mem:=[.row true 127 tT19] }),(10,{ keep:=[(5,(.own 0))],mem:=[.row true 127 tT19] })],loops:=[(2,{ keep:=[(0,(.sl tT11)),(1,(.sl tT11)),(5,(.own 0))],mem:=[.row true 127 tT19] })],ro:=[] }
def ir (y2:(List vV0×List vV0×List vV8×Unit)):Option ((List vV0×List vV0×List vV8×Unit)⊕List vV8) :=
(cond (decide ((y2.1.length:Int)>0)) (some (.inl (y2.2.2.1,()))) (cond (decide ((y2.2.1.length:Int)>0)) (
 some (.inl (y2.2.2.1,()))) (
 some (.inr (.inr y2.2.2.1)))):Option ((List vV8×Unit)⊕((List vV0×List vV0×List vV8×Unit)⊕List vV8))).bind (be fun v1 =>
(cond (decide ((y2.2.1.length:Int)=0)) (
 some (.inl ((-1),v1.1,()))) (
 cond (decide ((y2.1.length:Int)>0)) (
(atI y2.1 0).bind fun x2 =>
(atI y2.2.1 0).bind fun x3 =>
(za7 x2 x3).bind fun r4 =>
 some (.inl (r4,v1.1,()))) (
 some (.inl (1,v1.1,())))):Option ((Int×List vV8×Unit)⊕((List vV0×List vV0×List vV8×Unit)⊕List vV8))).bind (be fun v5 =>
 cond (decide (v5.1<0)) (
(atI y2.1 0).bind fun x6 =>
(zbg x6).bind fun r7 =>
(dN (v5.2.1.length+([(2,r7,([],0,[],0,()),())]:List vV8).length)).bind fun u8 =>
(subI y2.1 1 (y2.1.length:Int)).bind fun s9 =>
 some (.inl (s9,y2.2.1,(v5.2.1++([(2,r7,([],0,[],0,()),())]:List vV8)),()))) (
 cond (decide (v5.1>0)) (
(atI y2.2.1 0).bind fun x10 =>
(zbg x10).bind fun r11 =>
(dN (v5.2.1.length+([(1,([],0,[],0,()),r11,())]:List vV8).length)).bind fun u12 =>
(subI y2.2.1 1 (y2.2.1.length:Int)).bind fun s13 =>
 some (.inl (y2.1,s13,(v5.2.1++([(1,([],0,[],0,()),r11,())]:List vV8)),()))) (
((atI y2.1 0).bind fun x14 =>
(atI y2.2.1 0).bind fun x15 =>
(zb3 x14 x15).bind fun r16 =>
 cond (!r16) (
(atI y2.1 0).bind fun x17 =>
(zbg x17).bind fun r18 =>
(atI y2.2.1 0).bind fun x19 =>
(zbg x19).bind fun r20 =>
(dN (v5.2.1.length+([(3,r18,r20,())]:List vV8).length)).bind fun u21 =>
 some (.inl ((v5.2.1++([(3,r18,r20,())]:List vV8)),()))) (
 some (.inl (v5.2.1,()))):Option ((List vV8×Unit)⊕((List vV0×List vV0×List vV8×Unit)⊕List vV8))).bind (be fun v22 =>
(subI y2.1 1 (y2.1.length:Int)).bind fun s23 =>
(subI y2.2.1 1 (y2.2.1.length:Int)).bind fun s24 =>
 some (.inl (s23,s24,v22.1,())))))))
def zb6 (a0:List vV0) (a1:List vV0):Option (List vV8) :=
 aJ (ir) (a0,a1,[],())
def zO:TFn:={ ps:=(.cons (.sl tT11) (.cons (.sl tT11) .unit)),res:=(.sl tT19),fn:=fun v=>zb6 v.1 v.2.1 }
def anT:TEnv:={ pure:=[(86,sP),(87,wR),(89,wP)],look:=[],glob:=G0T,ty:=[(127,tT19)],raw:=[],fresh:=[] }
theorem anS:runY Tryz.prog ahw anU anT arU Tryz.f76 zO.ps zO.res=zO.fn:=by kernel_rfl
theorem ahu:aB Tryz.prog G0 76 ahv:=ai (ak ⟨ay,(aj sQ (aj zT (aj zF ae))),ap,ae,an⟩ Tryz.func76 rfl (by kernel_rfl))
theorem anR:TOk ahv zO:=aC (E:=ahw) (ET:=anT) (EnvT.ofX (az (ah aal (ah aeQ (ah aeO al)))) am au aQ ar) anS rfl
def ai7:Env:=(eZ [(32,yR),(76,ahv)] [274])
def ap3:Hints:=(hZ [] [8])
def adp:SFn:=runF Tryz.prog ai7 ap3 Tryz.f21
def aso:TH:=yZ
def za2 (a1:List vV6) (w0:vV7):Option (List vV8×vV7×Unit) :=
(zcb a1 w0.1).bind fun r1 =>
(zb6 w0.2.1 r1).bind fun r2 =>
 some (r2,(w0.1,r1,(IntKind.wrap .i64 (w0.2.2.1+1)),()),())
def qt:TRaw:={ ps:=(.cons (.bx 0 0) (.cons (.sl tT18) .unit)),ins:=[.box 139 tT17],res:=(.sl tT19),outs:=[.box 139 tT17],fn:=fun v w=>za2 v.2.1 w.1 }
def ap2:TEnv:=(vZ [(32,sC),(76,zO)])
theorem ap1:rawY Tryz.prog ai7 ap3 ap2 aso [(0,0)] Tryz.f21 qt.ps qt.ins qt.res qt.outs=qt.fn:=by kernel_rfl
theorem aao:bL Tryz.prog G0 21 adp:=ak ⟨ay,(aj sD (aj ahu ae)),ap,ae,an⟩ Tryz.func21 rfl (by kernel_rfl)
theorem aeT:TRawOk adp qt:=o6 (E:=ai7) (ET:=ap2) (EnvT.ofX (az (ah yQ (ah anR al))) am au aQ ar) ap1
def ahR:Env:=(eZ [] [274])
def aor:Hints:=(hZ [] [4])
def ac6:SFn:=runF Tryz.prog ahR aor Tryz.f28
def ar3:TH:=yZ
def zax (w0:vV7):Option (Int×vV7×Unit) :=
 some (w0.2.2.1,w0,())
def sO:TRaw:={ ps:=(.cons (.bx 0 0) .unit),ins:=[.box 139 tT17],res:=(.int .i64),outs:=[.box 139 tT17],fn:=fun v w=>zax w.1 }
def aoq:TEnv:=(vZ [])
theorem aoo:rawY Tryz.prog ahR aor aoq ar3 [(0,0)] Tryz.f28 sO.ps sO.ins sO.res sO.outs=sO.fn:=by kernel_rfl
theorem ahQ:bL Tryz.prog G0 28 ac6:=ak ⟨ay,ae,ap,ae,an⟩ Tryz.func28 rfl (by kernel_rfl)
theorem aon:TRawOk ac6 sO:=o6 (E:=ahR) (ET:=aoq) (EnvT.ofX (az al) am au aQ ar) aoo
theorem fx:∀ xs st p,ac6 xs st=some p→p.2=st:=fun xs st p hp=>jx (by kernel_rfl) hp
def agZ:Env:={ pure:=[(19,acN)],raw:=[(17,acO),(21,adp),(28,ac6)],glob:=G0,same:=[274],look:=[],ext:=[],quiet:=[28] }
def am0:Hints:=(hZ [] [])
def agY:PFn:=aH (runF Tryz.prog agZ am0 Tryz.f16)
def arF:TH:={ loops:=[],cuts:=[(4,[(7,{ keep:=[(1,(.bx 0 0)),(30,.bool)],mem:=[.box 139 tT17] })])],ro:=[],news:=[] }
def zbl:Option Bool :=
(zcu ([[97]]:List (List UInt8))).bind fun p1 =>
 cond p1.1.isEmpty (
(zcy ([((0,1,()),0,1,false,([(3,([[97]]:List (List UInt8)),(0,0,[],()),1,[],())]:List vV1),())]:List vV4) []).bind fun r9 =>
 none) (
((p1.1.head? : Option vV7)).bind fun x2 =>
(zcy ([((0,1,()),0,1,false,([(3,([[97]]:List (List UInt8)),(0,0,[],()),1,[],())]:List vV1),())]:List vV4) []).bind fun r3 =>
(za2 r3 x2).bind fun q4 =>
(za2 r3 q4.2.1).bind fun q5 =>
(cond (decide (p1.2.1=0)) (some ((decide ((q4.1.length:Int)=1)),q5.2.1,())) (some (false,q5.2.1,())):Option (Bool×vV7×Unit)).bind fun v6 =>
 cond v6.1 ((atI q4.1 0).bind fun x7 =>
 cond (decide (x7.1=1)) (cond (decide ((q5.1.length:Int)=0)) ((zax v6.2.1).bind fun q8 =>
 some (decide (q8.1=2))) (some false)) (some false)) (some false))
def zx:TFn:={ ps:=.unit,res:=.bool,fn:=fun v=>zbl  }
def amZ:TEnv:={ pure:=[(19,wH)],look:=[],glob:=G0T,ty:=[(9,.str),(78,tT16),(135,tT12)],raw:=[(21,qt),(28,sO)],fresh:=[(17,yw)] }
theorem amY:runY Tryz.prog agZ am0 amZ arF Tryz.f16 zx.ps zx.res=zx.fn:=by kernel_rfl
theorem agX:aB Tryz.prog G0 16 agY:=ai (ak ⟨ay,(aj yn ae),(bv yu (bv aao (bv ahQ ap))),ae,an⟩ Tryz.func16 rfl (by kernel_rfl))
theorem amX:TOk agY zx:=aC (E:=agZ) (ET:=amZ) (EnvT.ofX (az (ah aeE al)) am (iG (ci aeT rfl rfl (ci aon rfl rfl au)) rfl) aQ (iN aeF rfl rfl rfl ar) (jA fx rfl rfl rfl lq)) amY rfl
def ahF:Env:=(eZ [(144,zS)] [274])
def an6:Hints:=(hZ [(6,[4,6,7])] [])
def ahE:PFn:=aH (runF Tryz.prog ahF an6 Tryz.f73)
def arY:TH:={ joins:=[(18,{ keep:=[(6,(.own 0)),(7,(.int .i64)),(8,(.int .i64))],mem:=[.row true 3 (.int .i64)] }),(17,{ keep:=[(6,(.own 0))],mem:=[.row true 3 (.int .i64)] })],loops:=[(6,{ keep:=[(6,(.own 0)),(7,(.int .i64))],mem:=[.row true 3 (.int .i64)] })],ro:=[] }
def fU (r1:(List Int×Bool×Unit)) (y6:(Int×List Int×Unit)):Option ((Int×List Int×Unit)⊕(List Int×Bool×Unit)) :=
 cond (decide (y6.1<(r1.1.length:Int))) (
(atI r1.1 y6.1).bind fun x2 =>
 cond (decide (x2=42)) (
(dN (y6.2.1.length+([(-2)]:List Int).length)).bind fun u3 =>
 some (.inl ((IntKind.wrap .i64 (y6.1+1)),(y6.2.1++([(-2)]:List Int)),()))) (
 cond (decide (x2=63)) (
(dN (y6.2.1.length+([(-1)]:List Int).length)).bind fun u4 =>
 some (.inl ((IntKind.wrap .i64 (y6.1+1)),(y6.2.1++([(-1)]:List Int)),()))) (
(cond (decide (x2=92)) (
(cond (decide ((IntKind.wrap .i64 (y6.1+1))=(r1.1.length:Int))) (some (.inr (.inr (.inr ([],false,()))))) ((atI r1.1 (IntKind.wrap .i64 (y6.1+1))).bind fun x5 =>
 cond (!decide (x5=92)) ((atI r1.1 (IntKind.wrap .i64 (y6.1+1))).bind fun x6 =>
 cond (!decide (x6=42)) ((atI r1.1 (IntKind.wrap .i64 (y6.1+1))).bind fun x7 =>
 cond (!decide (x7=63)) (
 some (.inr (.inr (.inr ([],false,()))))) (
 some (.inl (y6.2.1,())))) (some (.inl (y6.2.1,())))) (some (.inl (y6.2.1,())))):Option ((List Int×Unit)⊕((Int×Int×List Int×Unit)⊕((Int×List Int×Unit)⊕(List Int×Bool×Unit))))).bind (be fun v8 =>
(atI r1.1 (IntKind.wrap .i64 (y6.1+1))).bind fun x9 =>
 some (.inl ((IntKind.wrap .i64 (y6.1+1)),x9,v8.1,())))) (
 some (.inl (y6.1,x2,y6.2.1,()))):Option ((Int×Int×List Int×Unit)⊕((Int×List Int×Unit)⊕(List Int×Bool×Unit)))).bind (be fun v10 =>
(dN (v10.2.2.1.length+([v10.2.1]:List Int).length)).bind fun u11 =>
 some (.inl ((IntKind.wrap .i64 (v10.1+1)),(v10.2.2.1++([v10.2.1]:List Int)),())))))) (
 some (.inr (y6.2.1,true,())))
def zb2 (a0:List UInt8):Option (List Int×Bool×Unit) :=
(zb4 a0).bind fun r1 =>
 cond (!r1.2.1) (some ([],false,())) (cond (decide ((r1.1.length:Int)>64)) (
 some ([],false,())) (
 aJ (fU r1) (0,[],())))
def zU:TFn:={ ps:=(.cons .str .unit),res:=(.tup (.cons (.sl (.int .i64)) (.cons .bool .unit))),fn:=fun v=>zb2 v.1 }
def an5:TEnv:={ pure:=[(144,sL)],look:=[],glob:=G0T,ty:=[(3,(.int .i64))],raw:=[],fresh:=[] }
theorem an4:runY Tryz.prog ahF an6 an5 arY Tryz.f73 zU.ps zU.res=zU.fn:=by kernel_rfl
theorem ahD:aB Tryz.prog G0 73 ahE:=ai (ak ⟨ay,(aj sM ae),ap,ae,an⟩ Tryz.func73 rfl (by kernel_rfl))
theorem an3:TOk ahE zU:=aC (E:=ahF) (ET:=an5) (EnvT.ofX (az (ah zR al)) am au aQ ar) an4 rfl
def ahL:Env:=(eZ [(73,ahE)] [274])
def aoe:Hints:=(hZ [(6,[0,3])] [])
def ahK:PFn:=aH (runF Tryz.prog ahL aoe Tryz.f18)
def ar0:TH:={ loops:=[(6,{ keep:=[(3,(.int .i64))],mem:=[] })],ro:=[] }
def qp (a0:List (List UInt8)) (y6:(Int×Unit)):Option ((Int×Unit)⊕Int) :=
 cond (decide (y6.1<(a0.length:Int))) (
(atI a0 y6.1).bind fun x1 =>
(zb2 x1).bind fun r2 =>
(atI a0 y6.1).bind fun x3 =>
 cond (decide (x3=[])) (some (.inr 8)) (cond (!r2.2.1) (
 some (.inr 8)) (
 some (.inl ((IntKind.wrap .i64 (y6.1+1)),()))))) (
 some (.inr 0))
def zb0 (a0:List (List UInt8)):Option Int :=
 cond (decide ((a0.length:Int)=0)) (
 some 8) (
 cond (decide ((a0.length:Int)>8)) (
 some 9) (
 aJ (qp a0) (0,())))
def zW:TFn:={ ps:=tT21,res:=(.int .i64),fn:=fun v=>zb0 v.1 }
def aod:TEnv:=(vZ [(73,zU)])
theorem aoc:runY Tryz.prog ahL aoe aod ar0 Tryz.f18 zW.ps zW.res=zW.fn:=by kernel_rfl
theorem ahJ:aB Tryz.prog G0 18 ahK:=ai (ak ⟨ay,(aj ahD ae),ap,ae,an⟩ Tryz.func18 rfl (by kernel_rfl))
theorem aob:TOk ahK zW:=aC (E:=ahL) (ET:=aod) (EnvT.ofX (az (ah an3 al)) am au aQ ar) aoc rfl
def ai9:Env:=(eZ [(31,yC),(32,yR)] [274])
def ap7:Hints:=(hZ [] [6])
def adq:SFn:=runF Tryz.prog ai9 ap7 Tryz.f20
def asq:TH:=yZ
def za1 (a1:List vV6) (w0:vV7):Option (Bool×vV7×Unit) :=
(zcb a1 w0.1).bind fun r1 =>
(zcp r1 w0.2.1).bind fun r2 =>
 some ((!r2),w0,())
def sU:TRaw:={ ps:=(.cons (.bx 0 0) (.cons (.sl tT18) .unit)),ins:=[.box 139 tT17],res:=.bool,outs:=[.box 139 tT17],fn:=fun v w=>za1 v.2.1 w.1 }
def ap6:TEnv:=(vZ [(31,sA),(32,sC)])
theorem ap5:rawY Tryz.prog ai9 ap7 ap6 asq [(0,0)] Tryz.f20 sU.ps sU.ins sU.res sU.outs=sU.fn:=by kernel_rfl
theorem ai8:bL Tryz.prog G0 20 adq:=ak ⟨ay,(aj sB (aj sD ae)),ap,ae,an⟩ Tryz.func20 rfl (by kernel_rfl)
theorem ap4:TRawOk adq sU:=o6 (E:=ai9) (ET:=ap6) (EnvT.ofX (az (ah yB (ah yQ al))) am au aQ ar) ap5
theorem f7:∀ xs st p,adq xs st=some p→p.2=st:=fun xs st p hp=>jx (by kernel_rfl) hp
def bW (y8:(Int×List Bool×Unit)) (r1:(List Int×Bool×Unit)) (r2:(List Int×Bool×Unit)) (y12:(Int×List Bool×List Bool×Unit)):Option ((Int×List Bool×List Bool×Unit)⊕((Int×List Bool×Unit)⊕((List Bool×Unit)⊕Bool))) :=
 cond (decide (y12.1≤(r2.1.length:Int))) (
(atI r1.1 y8.1).bind fun x7 =>
 cond (decide (x7=(-2))) (
(inI y12.2.1.length y12.1).bind fun i8 =>
(y12.2.1[i8]?).bind fun x9 =>
 cond x9 ((inI y12.2.2.1.length y12.1).bind fun i10 =>
(y12.2.2.1[i10]?).bind fun x11 =>
 some (.inl ((IntKind.wrap .i64 (y12.1+1)),y12.2.1,(y12.2.2.1.set i10 true),()))) (cond (decide (y12.1>0)) ((inI y12.2.2.1.length (IntKind.wrap .i64 (y12.1-1))).bind fun i12 =>
(y12.2.2.1[i12]?).bind fun x13 =>
(inI y12.2.2.1.length y12.1).bind fun i14 =>
(y12.2.2.1[i14]?).bind fun x15 =>
 some (.inl ((IntKind.wrap .i64 (y12.1+1)),y12.2.1,(y12.2.2.1.set i14 x13),()))) ((inI y12.2.2.1.length y12.1).bind fun i16 =>
(y12.2.2.1[i16]?).bind fun x17 =>
 some (.inl ((IntKind.wrap .i64 (y12.1+1)),y12.2.1,(y12.2.2.1.set i16 false),()))))) (
(cond (decide (y12.1>0)) ((inI y12.2.1.length (IntKind.wrap .i64 (y12.1-1))).bind fun i18 =>
(y12.2.1[i18]?).bind fun x19 =>
 some (y12.1,x19,y12.2.1,y12.2.2.1,())) (some (y12.1,false,y12.2.1,y12.2.2.1,())):Option (Int×Bool×List Bool×List Bool×Unit)).bind fun v20 =>
 cond v20.2.1 ((atI r1.1 y8.1).bind fun x21 =>
 cond (decide (x21=(-1))) ((inI v20.2.2.2.1.length v20.1).bind fun i22 =>
(v20.2.2.2.1[i22]?).bind fun x23 =>
 some (.inl ((IntKind.wrap .i64 (y12.1+1)),v20.2.2.1,(v20.2.2.2.1.set i22 true),()))) ((atI r1.1 y8.1).bind fun x24 =>
(atI r2.1 (IntKind.wrap .i64 (y12.1-1))).bind fun x25 =>
(inI v20.2.2.2.1.length v20.1).bind fun i26 =>
(v20.2.2.2.1[i26]?).bind fun x27 =>
 some (.inl ((IntKind.wrap .i64 (y12.1+1)),v20.2.2.1,(v20.2.2.2.1.set i26 (decide (x24=x25))),())))) ((inI v20.2.2.2.1.length v20.1).bind fun i28 =>
(v20.2.2.2.1[i28]?).bind fun x29 =>
 some (.inl ((IntKind.wrap .i64 (y12.1+1)),v20.2.2.1,(v20.2.2.2.1.set i28 false),()))))) (
 some (.inr (.inl ((IntKind.wrap .i64 (y8.1+1)),y12.2.2.1,()))))
def dJ (r1:(List Int×Bool×Unit)) (r2:(List Int×Bool×Unit)) (y8:(Int×List Bool×Unit)):Option ((Int×List Bool×Unit)⊕((List Bool×Unit)⊕Bool)) :=
 cond (decide (y8.1<(r1.1.length:Int))) (
(mkT (IntKind.wrap .i64 ((r2.1.length:Int)+1)) (IntKind.wrap .i64 ((r2.1.length:Int)+1))).bind fun u6 =>
 aJ (bW y8 r1 r2) (0,y8.2.1,(List.replicate (IntKind.wrap .i64 ((r2.1.length:Int)+1)).toNat false),())) (
 some (.inr (.inl (y8.2.1,()))))
def aij:Go.Shelf.Ren:=⟨fun | 41=>81 | n=>n,fun | 22=>52 | 23=>125 | 4=>4 | n=>n,fun | n=>n⟩
theorem adf:Go.Proofs.SlLaysE0.n41 Tryz.prog aij:={
 mixed:=by kernel_rfl
 f41:=⟨Tryz.f81.name,by decide,Tryz.func81.trans (congrArg some (by kernel_rfl))⟩
 t4:=Tryz.underlying4
 a4:=Tryz.isAgg4
 z4:=Tryz.sizeOf4
 v4:=Tryz.zeroValue4
 t22:=Tryz.underlying52
 a22:=Tryz.isAgg52
 z22:=Tryz.sizeOf52
 v22:=Tryz.zeroValue52 }
def ail:SFn:=oh 4 125
theorem aik:bL Tryz.prog G0 81 ail:=acl adf rfl rfl (iZ (P:=Tryz.prog) (te:=125) (M:=4) (by kernel_rfl) (by kernel_rfl) (by kernel_rfl) (by kernel_rfl) (by kernel_rfl) (by kernel_rfl) (by kernel_rfl) (by kernel_rfl)) ⟨Tryz.f81,Tryz.func81,rfl,by kernel_rfl⟩
def zam (a0:List vV0):Option (List vV0):=eR a0
def ao0:TNew:=sg 125 tT11
theorem aoZ:TNewOk ail ao0:=acm rfl rfl rfl
def ais:Go.Shelf.Ren:=⟨fun | 41=>81 | n=>n,fun | 22=>52 | 23=>125 | 4=>4 | n=>n,fun | n=>n⟩
theorem adi:Go.Proofs.SlLaysE0.n41 Tryz.prog ais:={
 mixed:=by kernel_rfl
 f41:=⟨Tryz.f81.name,by decide,Tryz.func81.trans (congrArg some (by kernel_rfl))⟩
 t4:=Tryz.underlying4
 a4:=Tryz.isAgg4
 z4:=Tryz.sizeOf4
 v4:=Tryz.zeroValue4
 t22:=Tryz.underlying52
 a22:=Tryz.isAgg52
 z22:=Tryz.sizeOf52
 v22:=Tryz.zeroValue52 }
def aiu:PFn:=(j9 4)
theorem ait:aB Tryz.prog G0 81 aiu:=clone_lays adi 4 ⟨Tryz.f81,Tryz.func81,rfl,by kernel_rfl⟩ (by kernel_rfl) (by kernel_rfl) (by kernel_rfl) (by kernel_rfl) (by kernel_rfl) (by decide) (fun w=>Tryz.sizeOf125 w)
def zaj (a0:List vV0):Option (List vV0):=eR a0
def ao6:TFn:=fM tT11
theorem ao5:TOk aiu ao6:=mm rfl rfl rfl
def ahP:Env:=(eZ [(81,aiu)] [274])
def aom:Hints:=(hZ [] [4])
def ac5:SFn:=runF Tryz.prog ahP aom Tryz.f27
def ar2:TH:=yZ
def zay (w0:vV7):Option (List vV0×vV7×Unit) :=
(zaj w0.2.1).bind fun r1 =>
 some (r1,w0,())
def sN:TRaw:={ ps:=(.cons (.bx 0 0) .unit),ins:=[.box 139 tT17],res:=(.sl tT11),outs:=[.box 139 tT17],fn:=fun v w=>zay w.1 }
def aol:TEnv:=(vZ [(81,ao6)])
theorem aok:rawY Tryz.prog ahP aom aol ar2 [(0,0)] Tryz.f27 sN.ps sN.ins sN.res sN.outs=sN.fn:=by kernel_rfl
theorem ahO:bL Tryz.prog G0 27 ac5:=ak ⟨ay,(aj ait ae),ap,ae,an⟩ Tryz.func27 rfl (by kernel_rfl)
theorem aoj:TRawOk ac5 sN:=o6 (E:=ahP) (ET:=aol) (EnvT.ofX (az (ah ao5 al)) am au aQ ar) aok
theorem f0:∀ xs st p,ac5 xs st=some p→p.2=st:=fun xs st p hp=>jx (by kernel_rfl) hp
def ahW:Env:=(eZ [] [274])
def aoz:Hints:=(hZ [] [])
def ahV:PFn:=aH (runF Tryz.prog ahW aoz Tryz.f85)
def ar5:TH:={ loops:=[],ro:=[1] }
def zav (a0:vV8):Option vV0 :=
 cond (decide (a0.1=1)) (
 some a0.2.2.1) (
 some a0.2.1)
def zZ:TFn:={ ps:=(.cons tT19 .unit),res:=tT11,fn:=fun v=>zav v.1 }
def aoy:TEnv:=(vZ [])
theorem aox:runY Tryz.prog ahW aoz aoy ar5 Tryz.f85 zZ.ps zZ.res=zZ.fn:=by kernel_rfl
theorem ahU:aB Tryz.prog G0 85 ahV:=ai (ak ⟨ay,ae,ap,ae,an⟩ Tryz.func85 rfl (by kernel_rfl))
theorem aow:TOk ahV zZ:=aC (E:=ahW) (ET:=aoy) (EnvT.ofX (az al) am au aQ ar) aox rfl
def aip:Go.Shelf.Ren:=⟨fun | 22=>88 | 29=>157 | 30=>158 | n=>n,fun | 24=>52 | 9=>125 | 0=>0 | 3=>3 | 4=>4 | n=>n,fun | n=>n⟩
theorem adh:InsL Tryz.prog aip:={
 mixed:=by kernel_rfl
 f22:=⟨Tryz.f88.name,by decide,Tryz.func88.trans (congrArg some (by kernel_rfl))⟩
 f29:=⟨Tryz.f157.name,by decide,by kernel_rfl,by kernel_rfl,Tryz.func157.trans (congrArg some (by kernel_rfl))⟩
 t0:=Tryz.underlying0
 a0:=Tryz.isAgg0
 z0:=Tryz.sizeOf0
 v0:=Tryz.zeroValue0
 t3:=Tryz.underlying3
 a3:=Tryz.isAgg3
 z3:=Tryz.sizeOf3
 v3:=Tryz.zeroValue3
 t4:=Tryz.underlying4
 a4:=Tryz.isAgg4
 z4:=Tryz.sizeOf4
 v4:=Tryz.zeroValue4
 t24:=Tryz.underlying52
 a24:=Tryz.isAgg52
 z24:=Tryz.sizeOf52
 v24:=Tryz.zeroValue52 }
def air:SFn:=ey 4 125
theorem aiq:bL Tryz.prog G0 88 air:=nX adh rfl rfl rfl (iZ (P:=Tryz.prog) (te:=125) (M:=4) (by kernel_rfl) (by kernel_rfl) (by kernel_rfl) (by kernel_rfl) (by kernel_rfl) (by kernel_rfl) (by kernel_rfl) (by kernel_rfl)) true Tryz.isAgg125 ⟨Tryz.f88,Tryz.func88,rfl,by kernel_rfl⟩
def zak (a1:Int) (a2:List vV0) (w0:List vV0):Option (Unit×List vV0×Unit):=(insT w0 a1 a2).map fun l=>((),(l,()))
def ao4:TRaw:=insR false 125 tT11
theorem ao3:TRawOk air ao4:=abJ rfl rfl rfl rfl (by decide)
def aim:Go.Shelf.Ren:=⟨fun | 45=>90 | n=>n,fun | 22=>52 | 23=>125 | 0=>0 | 3=>3 | 4=>4 | n=>n,fun | n=>n⟩
theorem adg:Go.Proofs.SlLaysE0.n45 Tryz.prog aim:={
 mixed:=by kernel_rfl
 f45:=⟨Tryz.f90.name,by decide,Tryz.func90.trans (congrArg some (by kernel_rfl))⟩
 t0:=Tryz.underlying0
 a0:=Tryz.isAgg0
 z0:=Tryz.sizeOf0
 v0:=Tryz.zeroValue0
 t3:=Tryz.underlying3
 a3:=Tryz.isAgg3
 z3:=Tryz.sizeOf3
 v3:=Tryz.zeroValue3
 t4:=Tryz.underlying4
 a4:=Tryz.isAgg4
 z4:=Tryz.sizeOf4
 v4:=Tryz.zeroValue4
 t22:=Tryz.underlying52
 a22:=Tryz.isAgg52
 z22:=Tryz.sizeOf52
 v22:=Tryz.zeroValue52 }
def aio:SFn:=ij 4 125
theorem ain:bL Tryz.prog G0 90 aio:=xZ adg rfl rfl (iZ (P:=Tryz.prog) (te:=125) (M:=4) (by kernel_rfl) (by kernel_rfl) (by kernel_rfl) (by kernel_rfl) (by kernel_rfl) (by kernel_rfl) (by kernel_rfl) (by kernel_rfl)) true Tryz.isAgg125 ⟨Tryz.f90,Tryz.func90,rfl,by kernel_rfl⟩
def zal (a1:Int) (a2:Int) (w0:List vV0):Option (Unit×List vV0×Unit):=(delT w0 a1 a2).map fun l=>((),(l,()))
def ao2:TRaw:=delR 125 tT11
theorem ao1:TRawOk aio ao2:=aj1 rfl rfl rfl rfl (by decide)
def aiT:Env:=(eZ [(86,aam)] [274])
def apA:Hints:=(hZ [(3,[0,2,4,8,9,10])] [])
def aiS:PFn:=aH (runF Tryz.prog aiT apA Tryz.f84)
def asg:TH:={ joins:=[(8,{ keep:=[(4,(.bx 0 0)),(9,(.int .i64))],mem:=[.same] })],loops:=[(3,{ keep:=[(4,(.bx 0 0)),(9,(.int .i64)),(10,(.int .i64))],mem:=[.same] })],ro:=[4] }
def ne (a0:List vV0) (a1:vV0) (y3:(Int×Int×Unit)):Option ((Int×Int×Unit)⊕((Int×Unit)⊕(Int×Bool×Unit))) :=
 cond (decide (y3.1<y3.2.1)) (
(shrT .u64 (IntKind.wrap .u64 (IntKind.wrap .i64 (y3.1+y3.2.1))) 1).bind fun t1 =>
(atI a0 (IntKind.wrap .i64 t1)).bind fun x2 =>
(za7 x2 a1).bind fun r3 =>
 cond (decide (r3<0)) (
 some (.inl ((IntKind.wrap .i64 ((IntKind.wrap .i64 t1)+1)),y3.2.1,()))) (
 some (.inl (y3.1,(IntKind.wrap .i64 t1),())))) (
 some (.inr (.inl (y3.1,()))))
def zab (a0:List vV0) (a1:vV0) (a2:Unit):Option (Int×Bool×Unit) :=
(aJ (ne a0 a1) (0,(a0.length:Int),()):Option ((Int×Unit)⊕(Int×Bool×Unit))).bind (be fun v4 =>
 cond (decide (v4.1<(a0.length:Int))) ((atI a0 v4.1).bind fun x5 =>
(za7 x5 a1).bind fun r6 =>
 some (v4.1,(decide (r6=0)),())) (some (v4.1,false,())))
def aag:TFn:={ ps:=(.cons (.sl tT11) (.cons tT11 (.cons (.fn 86) .unit))),res:=(.tup (.cons (.int .i64) (.cons .bool .unit))),fn:=fun v=>zab v.1 v.2.1 v.2.2.1 }
def apz:TEnv:=(vZ [(86,sP)])
theorem apy:runY Tryz.prog aiT apA apz asg Tryz.f84 aag.ps aag.res=aag.fn:=by kernel_rfl
theorem aiR:aB Tryz.prog G0 84 aiS:=ai (ak ⟨ay,(aj sQ ae),ap,ae,an⟩ Tryz.func84 rfl (by kernel_rfl))
theorem apx:TOk aiS aag:=aC (E:=aiT) (ET:=apz) (EnvT.ofX (az (ah aal al)) am au aQ ar) apy rfl
def ag2:Env:={ pure:=[(85,ahV),(86,aam),(87,ac2),(89,acX)],raw:=[(81,ail),(88,air),(90,aio)],glob:=G0,same:=[274],look:=[(84,aiS)],ext:=[] }
def am4:Hints:=(hZ [(3,[6,13,14,15])] [])
def ag1:PFn:=aH (runF Tryz.prog ag2 am4 Tryz.f30)
def arG:TH:={ joins:=[(12,{ keep:=[(6,(.own 0)),(8,(.bx 1 0))],mem:=[.row false 125 tT11,.box 127 tT19] })],loops:=[(3,{ keep:=[(6,(.own 0)),(15,(.int .i64))],mem:=[.row false 125 tT11] })],ro:=[] }
def qn (a1:List vV8) (y3:(Int×List vV0×Unit)):Option ((Int×List vV0×Unit)⊕(List vV0×Int×Unit)) :=
 cond (decide (y3.1<(a1.length:Int))) (
(atI a1 y3.1).bind fun x2 =>
(zav x2).bind fun r3 =>
(zab y3.2.1 r3 ()).bind fun r4 =>
(cond (decide (x2.1<1)) (some (.inr (.inr ([],18,())))) (cond (decide (x2.1>3)) (
 some (.inr (.inr ([],18,())))) (
 cond (!(r4.2.1==(!decide (x2.1=1)))) (some (.inr (.inr ([],12,())))) (cond r4.2.1 ((inI y3.2.1.length r4.1).bind fun i5 =>
(y3.2.1[i5]?).bind fun x6 =>
(zb3 x6 x2.2.1).bind fun r7 =>
 cond (!r7) (
 some (.inr (.inr ([],12,())))) (
 cond (decide (x2.1=3)) ((za7 x2.2.1 x2.2.2.1).bind fun r8 =>
 cond (!decide (r8=0)) (
 some (.inr (.inr ([],2,())))) (
 some (.inl (y3.2.1,x2,())))) (some (.inl (y3.2.1,x2,()))))) (cond (decide (x2.1=3)) ((za7 x2.2.1 x2.2.2.1).bind fun r9 =>
 cond (!decide (r9=0)) (
 some (.inr (.inr ([],2,())))) (
 some (.inl (y3.2.1,x2,())))) (some (.inl (y3.2.1,x2,()))))))):Option ((List vV0×vV8×Unit)⊕((Int×List vV0×Unit)⊕(List vV0×Int×Unit)))).bind (be fun v10 =>
 cond (decide (v10.2.1.1=1)) (
(zbg v10.2.1.2.2.1).bind fun r11 =>
(zak r4.1 ([r11]:List vV0) v10.1).bind fun q12 =>
 some (.inl ((IntKind.wrap .i64 (y3.1+1)),q12.2.1,()))) (
 cond (decide (v10.2.1.1=2)) (
(zal r4.1 (IntKind.wrap .i64 (r4.1+1)) v10.1).bind fun q13 =>
 some (.inl ((IntKind.wrap .i64 (y3.1+1)),q13.2.1,()))) (
(zbg v10.2.1.2.2.1).bind fun r14 =>
(inI v10.1.length r4.1).bind fun i15 =>
(v10.1[i15]?).bind fun x16 =>
 some (.inl ((IntKind.wrap .i64 (y3.1+1)),(v10.1.set i15 r14),())))))) (
 some (.inr (y3.2.1,0,())))
def zbk (a0:List vV0) (a1:List vV8):Option (List vV0×Int×Unit) :=
(zam a0).bind fun n1 =>
 aJ (qn a1) (0,n1,())
def zy:TFn:={ ps:=(.cons (.sl tT11) (.cons (.sl tT19) .unit)),res:=(.tup (.cons (.sl tT11) tT15)),fn:=fun v=>zbk v.1 v.2.1 }
def am3:TEnv:={ pure:=[(85,zZ),(86,sP),(87,wR),(89,wP)],look:=[(84,aag)],glob:=G0T,ty:=[(125,tT11)],raw:=[(88,ao4),(90,ao2)],fresh:=[(81,ao0)] }
theorem am2:runY Tryz.prog ag2 am4 am3 arG Tryz.f30 zy.ps zy.res=zy.fn:=by kernel_rfl
theorem ag0:aB Tryz.prog G0 30 ag1:=ai (ak ⟨ay,(aj ahU (aj sQ (aj zT (aj zF ae)))),(bv aik (bv aiq (bv ain ap))),(aj aiR ae),an⟩ Tryz.func30 rfl (by kernel_rfl))
theorem am1:TOk ag1 zy:=aC (E:=ag2) (ET:=am3) (EnvT.ofX (az (ah aow (ah aal (ah aeQ (ah aeO al))))) (jI apx rfl am) (iG (ci ao3 rfl rfl (ci ao1 rfl rfl au)) rfl) aQ (iN aoZ rfl rfl rfl ar)) am2 rfl
def ai4:Env:={ pure:=[(14,af2),(15,acU),(16,agY),(18,ahK),(19,acN),(30,ag1),(31,yC),(32,yR)],raw:=[(17,acO),(20,adq),(21,adp),(27,ac5)],glob:=G0,same:=[274],look:=[],ext:=[],quiet:=[20,27] }
def apT:Hints:=(hZ [(8,[0,1,2,7,9,10])] [])
def apU:PFn:=aH (runF Tryz.prog ai4 apT Tryz.f5)
def asl:TH:={ joins:=[(15,{ keep:=[(7,(.bx 0 0)),(9,(.sl tT11))],mem:=[.box 139 tT17] })],loops:=[(8,{ keep:=[(7,(.bx 0 0)),(9,(.sl tT11)),(10,(.int .i64))],mem:=[.box 139 tT17] })],ro:=[] }
def nf (a0:List vV4) (a1:List (List vV2×Unit)) (a2:List (List UInt8)) (y8:(List vV0×Int×vV7×Unit)):Option ((List vV0×Int×vV7×Unit)⊕((List vV0×vV7×Unit)⊕Bool)) :=
 cond (decide (y8.2.1<(a1.length:Int))) (
(atI a1 y8.2.1).bind fun x9 =>
(zcy a0 x9.1).bind fun r10 =>
(za2 r10 y8.2.2.1).bind fun q11 =>
(zbk y8.1 q11.1).bind fun r12 =>
 cond (!decide (r12.2.1=0)) (some (.inr (.inr false))) ((zcb r10 a2).bind fun r13 =>
(zcp r12.1 r13).bind fun r14 =>
 cond (!r14) (some (.inr (.inr false))) ((za2 r10 q11.2.1).bind fun q15 =>
 cond (!decide ((q15.1.length:Int)=0)) (some (.inr (.inr false))) ((za1 r10 q15.2.1).bind fun q16 =>
 cond q16.1 (
 some (.inr (.inr false))) (
 some (.inl (r12.1,(IntKind.wrap .i64 (y8.2.1+1)),q16.2.1,()))))))) (
 some (.inr (.inl (y8.1,y8.2.2.1,()))))
def za5 (a0:List vV4) (a1:List (List vV2×Unit)) (a2:List (List UInt8)):Option Bool :=
(zcg a0 a1).bind fun r1 =>
 cond (!r1) ((zbl).bind fun r2 =>
 some r2) ((zbq a2).bind fun r3 =>
 cond (!r3) ((zbl).bind fun r4 =>
 some r4) ((zb0 a2).bind fun r5 =>
 cond (!decide (r5=0)) (
(zbl).bind fun r6 =>
 some r6) (
(zcu a2).bind fun p7 =>
 cond p7.1.isEmpty (
 cond (!decide (p7.2.1=0)) (
 some false) (
 none)) (
((p7.1.head? : Option vV7)).bind fun x8 =>
 cond (!decide (p7.2.1=0)) (
 some false) (
(aJ (nf a0 a1 a2) ([],0,x8,()):Option ((List vV0×vV7×Unit)⊕Bool)).bind (be fun v17 =>
(zay v17.2.1).bind fun q18 =>
(zcp v17.1 q18.1).bind fun r19 =>
 cond r19 ((zbl).bind fun r20 =>
 some r20) (some false)))))))
def sR:TFn:={ ps:=(.cons (.sl tT16) (.cons (.sl (.agg (.cons (.sl tT13) .unit))) tT21)),res:=.bool,fn:=fun v=>za5 v.1 v.2.1 v.2.2.1 }
def apS:TEnv:={ pure:=[(14,yL),(15,wN),(16,zx),(18,zW),(19,wH),(30,zy),(31,sA),(32,sC)],look:=[],glob:=G0T,ty:=[],raw:=[(20,sU),(21,qt),(27,sN)],fresh:=[(17,yw)] }
theorem apR:runY Tryz.prog ai4 apT apS asl Tryz.f5 sR.ps sR.res=sR.fn:=by kernel_rfl
theorem za5_Fok:aB Tryz.prog G0 5 apU:=ai (ak ⟨ay,(aj af1 (aj zo (aj agX (aj ahJ (aj yn (aj ag0 (aj sB (aj sD ae)))))))),(bv yu (bv ai8 (bv aao (bv ahO ap)))),ae,an⟩ Tryz.func5 rfl (by kernel_rfl))
theorem za5_ok:TOk apU sR:=aC (E:=ai4) (ET:=apS) (EnvT.ofX (az (ah alz (ah aeL (ah amX (ah aob (ah aeE (ah am1 (ah yB (ah yQ al))))))))) am (iG (ci ap4 rfl rfl (ci aeT rfl rfl (ci aoj rfl rfl au))) rfl) aQ (iN aeF rfl rfl rfl ar) (jA f7 rfl rfl rfl (jA f0 rfl rfl rfl lq))) apR rfl
end
end Go.Proofs.YtnbgkhdcidbkaaaGreatDoor.Y
