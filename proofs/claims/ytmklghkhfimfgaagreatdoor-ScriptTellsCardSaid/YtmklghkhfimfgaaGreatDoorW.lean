import Derived.Test.YtmklghkhfimfgaaGreatDoorS
import Derived.Test.YtmklghkhfimfgaaGreatDoorT32
import GoSem.PinnedTables
set_option linter.unusedVariables false
set_option maxRecDepth 100000
namespace Go.Proofs.YtmklghkhfimfgaaGreatDoor.Y
open Go.EM Go.TY Go.Proofs
theorem zb.{u,v}{A:Type u}{B:Type v} (a:A) (f:A→Option B):(some a).bind f=f a:=rfl
theorem zg.{u}{A:Type u}{l:List A}{i:Nat} (h:i<l.length):l[i]? = some l[i]:=List.getElem?_eq_getElem h
theorem zl.{u}{A:Type u}{a:A}{l:List A}:(a::l).length=l.length+1:=rfl
theorem zf {p:Prop} [Decidable p] (h:¬p):decide p=false:=decide_eq_false h
theorem zn.{u}{c:Prop}{h:Decidable c} (hc:¬c) {A:Sort u}{t e:A}:ite c t e=e:=if_neg hc
theorem zp.{u}{c:Prop}{h:Decidable c} (hc:c) {A:Sort u}{t e:A}:ite c t e=t:=if_pos hc
theorem zt {p:Prop} [Decidable p] (h:p):decide p=true:=decide_eq_true h
noncomputable section
def rN:List Int:=Go.Pinned.utf8FirstZ.map fun (n:Nat)=>(n:Int)
def oy:List (Int×Int×Unit):=[(128,191,()),(160,191,()),(128,159,()),(144,191,()),(128,143,()),(0,0,()),(0,0,()),(0,0,()),(0,0,()),(0,0,()),(0,0,()),(0,0,()),(0,0,()),(0,0,()),(0,0,()),(0,0,())]
def G0:List (Nat×AVal):=[(6,.rptr (rN.map (AVal.int .u8))),(7,.rptr (oy.flatMap fun p=>[AVal.int .u8 p.1,AVal.int .u8 p.2.1])),(1,.rptr [.any]),(2,.rptr [.any]),(3,.rptr (Lib.pow10Tab.map (AVal.int .u64)))]
def G0T:List (Nat×TV):=[(6,⟨.rp (.arr 256 (.int .u8)) 0,rN⟩),(7,⟨.rp (.arr 16 (.agg (.cons (.int .u8) (.cons (.int .u8) .unit)))) 0,oy⟩)]
theorem aJ:iT G0 G0T:=ml rfl rfl (yA (by kernel_rfl)) (ml rfl rfl (uB (by kernel_rfl)) yz)
theorem aq:∀ f,memN f [114]=true→Same Tryz.prog f:=by
 intro f h
 by_cases e114:f=114
 · subst e114; exact ⟨Tryz.f114,Tryz.func114,by kernel_rfl,by kernel_rfl,by kernel_rfl,by kernel_rfl⟩
 simp_all [memN]
def eZ (l:List (Nat×PFn)) (s:List Nat):Env:={ pure:=l,raw:=[],glob:=G0,same:=s,look:=[],ext:=[] }
def vZ (l:List (Nat×TFn)):TEnv:={ pure:=l,look:=[],glob:=G0T,ty:=[],raw:=[],fresh:=[] }
def hZ (l:List (Nat×List Nat)) (o:List Nat):Hints:={ seqs:=[],loops:=l,own:=o }
def yZ:TH:={ joins:=[],loops:=[],cuts:=[],ro:=[],news:=[] }
abbrev vV0:=(Int×List (List UInt8)×(Int×Int×List UInt8×Unit)×Int×List ((Int×Int×Unit)×Int×Unit)×Unit)
abbrev vV1:=(Int×Int×Int×Int×(Int×Unit×(Int×Int×List UInt8×Unit)×Int×Unit×Unit)×(Int×Int×Unit)×Unit)
abbrev vV2:=(Int×Int×Int×Int×vV0×(Int×Int×Unit)×Unit)
abbrev vV3:=(Int×Int×List UInt8×Unit)
abbrev vV4:=(Bool×Unit×Unit)
abbrev vV5:=((Int×Int×Unit)×Int×Unit)
abbrev tT6:Ty:=(.agg (.cons (.int .i64) (.cons (.int .i64) (.cons (.int .i64) (.cons (.int .i64) (.cons (.agg (.cons (.int .i64) (.cons (.sl .str) (.cons (.agg (.cons (.int .i64) (.cons (.int .i64) (.cons .str .unit)))) (.cons (.int .i64) (.cons (.sl (.agg (.cons (.agg (.cons (.int .i64) (.cons (.int .i64) .unit))) (.cons (.int .i64) .unit)))) .unit)))))) (.cons (.agg (.cons (.int .i64) (.cons (.int .i64) .unit))) .unit)))))))
abbrev tT7:Ty:=(.agg (.cons (.int .i64) (.cons (.sl .str) (.cons (.agg (.cons (.int .i64) (.cons (.int .i64) (.cons .str .unit)))) (.cons (.int .i64) (.cons (.sl (.agg (.cons (.agg (.cons (.int .i64) (.cons (.int .i64) .unit))) (.cons (.int .i64) .unit)))) .unit))))))
abbrev tT8:Ty:=(.agg (.cons (.int .i64) (.cons (.int .i64) (.cons (.int .i64) (.cons (.int .i64) (.cons (.agg (.cons (.int .i64) (.cons .nilsl (.cons (.agg (.cons (.int .i64) (.cons (.int .i64) (.cons .str .unit)))) (.cons (.int .i64) (.cons .nilsl .unit)))))) (.cons (.agg (.cons (.int .i64) (.cons (.int .i64) .unit))) .unit)))))))
abbrev tT9:Ty:=(.agg (.cons (.int .i64) (.cons (.int .i64) (.cons .str .unit))))
abbrev tT10:Ty:=(.agg (.cons (.int .i64) (.cons (.int .i64) .unit)))
abbrev tT11:Ty:=(.cons (.int .i64) .unit)
abbrev tT12:Ty:=(.agg (.cons (.op 1) (.cons (.own 0) .unit)))
abbrev tT13:Ty:=(.agg (.cons (.op 0) (.cons (.own 1) .unit)))
abbrev tT14:Ty:=(.agg (.cons (.int .i64) (.cons .nilsl (.cons tT9 (.cons (.int .i64) (.cons .nilsl .unit))))))
def ac6:Env:=(eZ [] [114])
def ail:Hints:=(hZ [(4,[0,3])] [])
def ac5:PFn:=aA (runF Tryz.prog ac6 ail Tryz.f21)
def anl:TH:={ loops:=[(4,{ keep:=[(3,(.int .i64))],mem:=[] })],ro:=[] }
def rz (a0:List (List UInt8)) (y4:(Int×Unit)):Option ((Int×Unit)⊕Bool) :=
 cond (decide (y4.1<(a0.length:Int))) (
(atI a0 y4.1).bind fun x1 =>
 cond (decide ((x1.length:Int)>120)) (
 some (.inr false)) (
 some (.inl ((IntKind.wrap .i64 (y4.1+1)),())))) (
 some (.inr true))
def zbx (a0:List (List UInt8)):Option Bool :=
 cond (decide ((a0.length:Int)>12)) (
 some false) (
 aP (rz a0) (0,()))
def vy:TFn:={ ps:=(.cons (.sl .str) .unit),res:=.bool,fn:=fun v=>zbx v.1 }
def aik:TEnv:=(vZ [])
theorem aij:runY Tryz.prog ac6 ail aik anl Tryz.f21 vy.ps vy.res=vy.fn:=by kernel_rfl
theorem ac4:ax Tryz.prog G0 21 ac5:=ad (ai ⟨aq,ab,am,ab,al⟩ Tryz.func21 rfl (by kernel_rfl))
theorem aii:TOk ac5 vy:=aw (E:=ac6) (ET:=aik) (EnvT.ofX (ar aj) ak ao aJ an) aij rfl
def adH:Env:=(eZ [(21,ac5)] [114])
def aje:Hints:=(hZ [] [])
def adG:PFn:=aA (runF Tryz.prog adH aje Tryz.f6)
def anD:TH:={ loops:=[],ro:=[1] }
def zbh (a0:vV0):Option Bool :=
(zbx a0.2.1).bind fun r1 =>
 cond r1 (cond (decide ((a0.2.2.1.2.2.1.length:Int)≤200)) (some (decide ((a0.2.2.2.2.1.length:Int)≤300))) (some false)) (some false)
def vM:TFn:={ ps:=(.cons tT7 .unit),res:=.bool,fn:=fun v=>zbh v.1 }
def ajd:TEnv:=(vZ [(21,vy)])
theorem ajc:runY Tryz.prog adH aje ajd anD Tryz.f6 vM.ps vM.res=vM.fn:=by kernel_rfl
theorem adF:ax Tryz.prog G0 6 adG:=ad (ai ⟨aq,(ae ac4 ab),am,ab,al⟩ Tryz.func6 rfl (by kernel_rfl))
theorem ajb:TOk adG vM:=aw (E:=adH) (ET:=ajd) (EnvT.ofX (ar (ac aii aj)) ak ao aJ an) ajc rfl
def aeO:Env:=(eZ [] [114])
def ak0:Hints:=(hZ [] [])
def zX:PFn:=aA (runF Tryz.prog aeO ak0 Tryz.f136)
def an7:TH:=yZ
def zal (a0:List UInt8) (a1:List UInt8):Option Bool :=
 cond (decide ((a0.length:Int)≥(a1.length:Int))) ((subI a0 0 (a1.length:Int)).bind fun s1 =>
 some (decide (s1=a1))) (some false)
def tq:TFn:={ ps:=(.cons .str (.cons .str .unit)),res:=.bool,fn:=fun v=>zal v.1 v.2.1 }
def akZ:TEnv:=(vZ [])
theorem akY:runY Tryz.prog aeO ak0 akZ an7 Tryz.f136 tq.ps tq.res=tq.fn:=by kernel_rfl
theorem wy:ax Tryz.prog G0 136 zX:=ad (ai ⟨aq,ab,am,ab,al⟩ Tryz.func136 rfl (by kernel_rfl))
theorem abp:TOk zX tq:=aw (E:=aeO) (ET:=akZ) (EnvT.ofX (ar aj) ak ao aJ an) akY rfl
def aeU:Env:=(eZ [(136,zX)] [114])
def ak8:Hints:=(hZ [] [])
def aeT:PFn:=aA (runF Tryz.prog aeU ak8 Tryz.f100)
def an9:TH:=yZ
def zaj (a0:List UInt8) (a1:List UInt8):Option (List UInt8) :=
(zal a0 a1).bind fun r1 =>
 cond r1 (
(subI a0 (a1.length:Int) (a0.length:Int)).bind fun s2 =>
 some s2) (
 some a0)
def wA:TFn:={ ps:=(.cons .str (.cons .str .unit)),res:=.str,fn:=fun v=>zaj v.1 v.2.1 }
def ak7:TEnv:=(vZ [(136,tq)])
theorem ak6:runY Tryz.prog aeU ak8 ak7 an9 Tryz.f100 wA.ps wA.res=wA.fn:=by kernel_rfl
theorem aeS:ax Tryz.prog G0 100 aeT:=ad (ai ⟨aq,(ae wy ab),am,ab,al⟩ Tryz.func100 rfl (by kernel_rfl))
theorem ak5:TOk aeT wA:=aw (E:=aeU) (ET:=ak7) (EnvT.ofX (ar (ac abp aj)) ak ao aJ an) ak6 rfl
def aeK:Env:=(eZ [(100,aeT)] [114])
def akT:Hints:=(hZ [] [])
def aeJ:PFn:=aA (runF Tryz.prog aeK akT Tryz.f72)
def an5:TH:=yZ
def zan (a0:List UInt8) (a1:List UInt8):Option (List UInt8) :=
(zaj a0 a1).bind fun r1 =>
 some r1
def ww:TFn:={ ps:=(.cons .str (.cons .str .unit)),res:=.str,fn:=fun v=>zan v.1 v.2.1 }
def akS:TEnv:=(vZ [(100,wA)])
theorem akR:runY Tryz.prog aeK akT akS an5 Tryz.f72 ww.ps ww.res=ww.fn:=by kernel_rfl
theorem aeI:ax Tryz.prog G0 72 aeJ:=ad (ai ⟨aq,(ae aeS ab),am,ab,al⟩ Tryz.func72 rfl (by kernel_rfl))
theorem akQ:TOk aeJ ww:=aw (E:=aeK) (ET:=akS) (EnvT.ofX (ar (ac ak5 aj)) ak ao aJ an) akR rfl
def adB:Env:=(eZ [(72,aeJ)] [114])
def ai6:Hints:=(hZ [(3,[0,4,8,9])] [])
def zN:PFn:=aA (runF Tryz.prog adB ai6 Tryz.f44)
def anB:TH:={ joins:=[(10,{ keep:=[],mem:=[] }),(7,{ keep:=[(15,.bool)],mem:=[] })],loops:=[(3,{ keep:=[(4,.bool),(9,(.int .i64))],mem:=[] })],ro:=[] }
def eW (a0:List UInt8) (y3:(Bool×Int×Unit)):Option ((Bool×Int×Unit)⊕(List UInt8×List UInt8×Unit)) :=
 cond (decide (y3.2.1<(a0.length:Int))) (
(atI a0 0).bind fun b1 =>
((cond (!(decide ((b1.toNat:Int)=34))) ((atI a0 y3.2.1).bind fun b2 =>
 some (.inl ((decide ((b2.toNat:Int)=32)),()))) (some (.inl (false,()))):Option ((Bool×Unit)⊕(Unit⊕((Bool×Int×Unit)⊕(List UInt8×List UInt8×Unit))))).bind (aE fun v3 =>
 cond v3.1 (
(subI a0 0 y3.2.1).bind fun s4 =>
(subI a0 (IntKind.wrap .i64 (y3.2.1+1)) (a0.length:Int)).bind fun s5 =>
 some (.inr (.inr (s4,s5,())))) (
 cond (decide ((b1.toNat:Int)=34)) (cond (decide (y3.2.1>0)) ((atI a0 y3.2.1).bind fun b6 =>
 cond (decide ((b6.toNat:Int)=34)) (cond (!y3.1) (
(subI a0 0 (IntKind.wrap .i64 (y3.2.1+1))).bind fun s7 =>
(subI a0 (IntKind.wrap .i64 (y3.2.1+1)) (a0.length:Int)).bind fun s8 =>
(zan s8 [32]).bind fun r9 =>
 some (.inr (.inr (s7,r9,())))) (
 some (.inl ()))) (some (.inl ()))) (some (.inl ()))) (some (.inl ())))):Option (Unit⊕((Bool×Int×Unit)⊕(List UInt8×List UInt8×Unit)))).bind (aE fun v10 =>
(atI a0 y3.2.1).bind fun b11 =>
 cond (decide ((b11.toNat:Int)=92)) (some (.inl ((!y3.1),(IntKind.wrap .i64 (y3.2.1+1)),()))) (some (.inl (false,(IntKind.wrap .i64 (y3.2.1+1)),()))))) (
 some (.inr (a0,[],())))
def zbj (a0:List UInt8):Option (List UInt8×List UInt8×Unit) :=
 aP (eW a0) (false,0,())
def th:TFn:={ ps:=(.cons .str .unit),res:=(.tup (.cons .str (.cons .str .unit))),fn:=fun v=>zbj v.1 }
def ai5:TEnv:=(vZ [(72,ww)])
theorem ai4:runY Tryz.prog adB ai6 ai5 anB Tryz.f44 th.ps th.res=th.fn:=by kernel_rfl
theorem vK:ax Tryz.prog G0 44 zN:=ad (ai ⟨aq,(ae aeI ab),am,ab,al⟩ Tryz.func44 rfl (by kernel_rfl))
theorem abh:TOk zN th:=aw (E:=adB) (ET:=ai5) (EnvT.ofX (ar (ac akQ aj)) ak ao aJ an) ai4 rfl
def afh:Env:=(eZ [] [114])
def alN:Hints:=(hZ [] [])
def z7:PFn:=aA (runF Tryz.prog afh alN Tryz.f29)
def aok:TH:=yZ
def za7:Option (List (List UInt8)) :=
 some ([[],[98,101,103,105,110],[100,111],[99,111,109,109,105,116],[97,98,111,114,116],[117,110,100,111],[114,101,100,111],[111,117,116],[98,97,99,107],[115,101,110,100],[115,97,121],[100,101,108,105,118,101,114],[100,114,111,112],[116,119,105,99,101],[115,112,111,105,108],[99,114,97,115,104],[116,101,97,114],[114,101,115,116,97,114,116],[115,101,97,108],[99,111,109,112,97,99,116]]:List (List UInt8))
def tw:TFn:={ ps:=.unit,res:=(.sl .str),fn:=fun v=>za7  }
def alM:TEnv:={ pure:=[],look:=[],glob:=G0T,ty:=[(9,.str)],raw:=[],fresh:=[] }
theorem alL:runY Tryz.prog afh alN alM aok Tryz.f29 tw.ps tw.res=tw.fn:=by kernel_rfl
theorem wL:ax Tryz.prog G0 29 z7:=ad (ai ⟨aq,ab,am,ab,al⟩ Tryz.func29 rfl (by kernel_rfl))
theorem abt:TOk z7 tw:=aw (E:=afh) (ET:=alM) (EnvT.ofX (ar aj) ak ao aJ an) alL rfl
def ae6:Env:=(eZ [] [114])
def alv:Hints:=(hZ [(2,[0,1,7,8])] [])
def zZ:PFn:=aA (runF Tryz.prog ae6 alv Tryz.f45)
def aof:TH:={ loops:=[(2,{ keep:=[(8,(.int .i64))],mem:=[] })],ro:=[] }
def og (a0:List (List UInt8)) (a1:List UInt8) (y2:(Int×Unit)):Option ((Int×Unit)⊕Int) :=
 cond (decide (y2.1<(a0.length:Int))) (
(atI a0 y2.1).bind fun x1 =>
 cond (decide (a1=x1)) (
 some (.inr y2.1)) (
 some (.inl ((IntKind.wrap .i64 (y2.1+1)),())))) (
 some (.inr (-1)))
def zac (a0:List (List UInt8)) (a1:List UInt8):Option Int :=
 aP (og a0 a1) (0,())
def tt:TFn:={ ps:=(.cons (.sl .str) (.cons .str .unit)),res:=(.int .i64),fn:=fun v=>zac v.1 v.2.1 }
def alu:TEnv:=(vZ [])
theorem alt:runY Tryz.prog ae6 alv alu aof Tryz.f45 tt.ps tt.res=tt.fn:=by kernel_rfl
theorem wG:ax Tryz.prog G0 45 zZ:=ad (ai ⟨aq,ab,am,ab,al⟩ Tryz.func45 rfl (by kernel_rfl))
theorem abr:TOk zZ tt:=aw (E:=ae6) (ET:=alu) (EnvT.ofX (ar aj) ak ao aJ an) alt rfl
def adS:Env:=(eZ [] [114])
def ajx:Hints:=(hZ [] [])
def vT:PFn:=aA (runF Tryz.prog adS ajx Tryz.f28)
def anI:TH:={ joins:=[(5,{ keep:=[(4,.bool)],mem:=[] }),(10,{ keep:=[(10,.bool)],mem:=[] }),(15,{ keep:=[(13,.bool)],mem:=[] }),(19,{ keep:=[(18,.bool)],mem:=[] })],loops:=[],ro:=[] }
def zba (a0:Int):Option Int :=
(cond (decide (a0=1)) (
 some (.inl ((decide (a0=1)),()))) (
 cond (decide (a0=5)) (
 some (.inl ((decide (a0=5)),()))) (
 some (.inl ((decide (a0=6)),())))):Option ((Bool×Unit)⊕Int)).bind (aE fun v1 =>
 cond v1.1 (
 some 3) (
 cond (decide (a0=2)) (
 some 17) (
(cond (decide (a0=7)) (
 some (.inl ((decide (a0=7)),()))) (
 some (.inl ((decide (a0=8)),()))):Option ((Bool×Unit)⊕Int)).bind (aE fun v2 =>
 cond v2.1 (
 some 11) (
(cond (decide (a0=9)) (
 some (.inl ((decide (a0=9)),()))) (
 cond (decide (a0=10)) (
 some (.inl ((decide (a0=10)),()))) (
 cond (decide (a0=15)) (
 some (.inl ((decide (a0=15)),()))) (
 some (.inl ((decide (a0=16)),()))))):Option ((Bool×Unit)⊕Int)).bind (aE fun v3 =>
 cond v3.1 (
 some 5) (
(cond (decide (a0=11)) (
 some (.inl ((decide (a0=11)),()))) (
 cond (decide (a0=12)) (
 some (.inl ((decide (a0=12)),()))) (
 some (.inl ((decide (a0=13)),())))):Option ((Bool×Unit)⊕Int)).bind (aE fun v4 =>
 cond v4.1 (
 some 4) (
 cond (decide (a0=14)) (
 some 6) (
 some 1))))))))))
def pZ:TFn:={ ps:=tT11,res:=(.int .i64),fn:=fun v=>zba v.1 }
def ajw:TEnv:=(vZ [])
theorem ajv:runY Tryz.prog adS ajx ajw anI Tryz.f28 pZ.ps pZ.res=pZ.fn:=by kernel_rfl
theorem p3:ax Tryz.prog G0 28 vT:=ad (ai ⟨aq,ab,am,ab,al⟩ Tryz.func28 rfl (by kernel_rfl))
theorem vS:TOk vT pZ:=aw (E:=adS) (ET:=ajw) (EnvT.ofX (ar aj) ak ao aJ an) ajv rfl
def tz:PFn:=(rc 139)
theorem mU:ax Tryz.prog G0 46 tz:=uP (gs:=1) (gr:=2) ⟨Tryz.f46,Tryz.func46,rfl,by kernel_rfl⟩ (by kernel_rfl) (by kernel_rfl) (fun s hm v h w=>Tryz.strconv_Atoi_ok s hm v h w) (fun s hl h ev w hv hev=>(Tryz.strconv_Atoi_syntax s hl h ev w hv hev).mono fun e w' ⟨N,h1,_,_,h4⟩=>⟨N,h1,h4⟩) (fun s hl h ev w hv hev=>(Tryz.strconv_Atoi_range s hl h ev w hv hev).mono fun e w' ⟨N,h1,_,_,h4⟩=>⟨N,h1,h4⟩)
def za2 (a0:List UInt8):Option (Int×Bool×Unit):=atoi a0
def wS:TFn:=sL
theorem rH:TOk tz wS:=agt
def aeN:Env:={ pure:=[],raw:=[],glob:=G0,same:=[114],look:=[],ext:=[(141,fV)] }
def akX:Hints:=(hZ [] [])
def aeM:PFn:=aA (runF Tryz.prog aeN akX Tryz.f112)
def an6:TH:=yZ
def zam (a0:List UInt8) (a1:Int):Option Int :=
(indexByte a0 a1).bind fun r1 =>
 some r1
def wx:TFn:={ ps:=(.cons .str (.cons (.int .u8) .unit)),res:=(.int .i64),fn:=fun v=>zam v.1 v.2.1 }
def akW:TEnv:=(vZ [(141,gz)])
theorem akV:runY Tryz.prog aeN akX akW an6 Tryz.f112 wx.ps wx.res=wx.fn:=by kernel_rfl
theorem aeL:ax Tryz.prog G0 112 aeM:=ad (ai ⟨aq,ab,am,ab,(yP (nI (fn:=Tryz.f141) Tryz.func141 (by kernel_rfl) (by kernel_rfl) (by kernel_rfl) (by kernel_rfl)) al)⟩ Tryz.func112 rfl (by kernel_rfl))
theorem akU:TOk aeM wx:=aw (E:=aeN) (ET:=akW) (EnvT.ofX (aar pc rfl rfl rfl (ar aj)) ak ao aJ an) akV rfl
def aeF:Env:=(eZ [(112,aeM)] [114])
def akL:Hints:=(hZ [(15,[0,1,5,6,7,8,9,10])] [])
def zU:PFn:=aA (runF Tryz.prog aeF akL Tryz.f99)
def an3:TH:=yZ
def zap (a0:List UInt8) (a1:List UInt8):Option Int :=
 cond (decide ((a1.length:Int)=0)) (some 0) (cond (decide (a1=a0)) (
 some 0) (
 cond (decide ((a1.length:Int)=1)) (
(atI a1 0).bind fun b1 =>
(zam a0 (b1.toNat:Int)).bind fun r2 =>
 some r2) (
 cond (decide ((a1.length:Int)≥(a0.length:Int))) (
 some (-1)) (
 none))))
def to:TFn:={ ps:=(.cons .str (.cons .str .unit)),res:=(.int .i64),fn:=fun v=>zap v.1 v.2.1 }
def akK:TEnv:=(vZ [(112,wx)])
theorem akJ:runY Tryz.prog aeF akL akK an3 Tryz.f99 to.ps to.res=to.fn:=by kernel_rfl
theorem wu:ax Tryz.prog G0 99 zU:=ad (ai ⟨aq,(ae aeL ab),am,ab,al⟩ Tryz.func99 rfl (by kernel_rfl))
theorem abo:TOk zU to:=aw (E:=aeF) (ET:=akK) (EnvT.ofX (ar (ac akU aj)) ak ao aJ an) akJ rfl
def aep:Env:=(eZ [(99,zU)] [114])
def akl:Hints:=(hZ [] [])
def aeo:PFn:=aA (runF Tryz.prog aep akl Tryz.f106)
def anW:TH:=yZ
def zaw (a0:List UInt8) (a1:List UInt8):Option (List UInt8×List UInt8×Bool×Unit) :=
(zap a0 a1).bind fun r1 =>
 cond (decide (r1≥0)) (
(subI a0 0 r1).bind fun s2 =>
(subI a0 (IntKind.wrap .i64 (r1+(a1.length:Int))) (a0.length:Int)).bind fun s3 =>
 some (s2,s3,true,())) (
 some (a0,[],false,()))
def wm:TFn:={ ps:=(.cons .str (.cons .str .unit)),res:=(.tup (.cons .str (.cons .str (.cons .bool .unit)))),fn:=fun v=>zaw v.1 v.2.1 }
def akk:TEnv:=(vZ [(99,to)])
theorem akj:runY Tryz.prog aep akl akk anW Tryz.f106 wm.ps wm.res=wm.fn:=by kernel_rfl
theorem aen:ax Tryz.prog G0 106 aeo:=ad (ai ⟨aq,(ae wu ab),am,ab,al⟩ Tryz.func106 rfl (by kernel_rfl))
theorem aki:TOk aeo wm:=aw (E:=aep) (ET:=akk) (EnvT.ofX (ar (ac abo aj)) ak ao aJ an) akj rfl
def ade:Env:=(eZ [(106,aeo)] [114])
def aiw:Hints:=(hZ [] [])
def adc:PFn:=aA (runF Tryz.prog ade aiw Tryz.f75)
def ano:TH:=yZ
def zbu (a0:List UInt8) (a1:List UInt8):Option (List UInt8×List UInt8×Bool×Unit) :=
(zaw a0 a1).bind fun r1 =>
 some (r1.1,r1.2.1,r1.2.2.1,())
def vB:TFn:={ ps:=(.cons .str (.cons .str .unit)),res:=(.tup (.cons .str (.cons .str (.cons .bool .unit)))),fn:=fun v=>zbu v.1 v.2.1 }
def aiv:TEnv:=(vZ [(106,wm)])
theorem aiu:runY Tryz.prog ade aiw aiv ano Tryz.f75 vB.ps vB.res=vB.fn:=by kernel_rfl
theorem adb:ax Tryz.prog G0 75 adc:=ad (ai ⟨aq,(ae aen ab),am,ab,al⟩ Tryz.func75 rfl (by kernel_rfl))
theorem ait:TOk adc vB:=aw (E:=ade) (ET:=aiv) (EnvT.ofX (ar (ac aki aj)) ak ao aJ an) aiu rfl
def acb:Env:=(eZ [] [114])
def ag5:Hints:=(hZ [] [])
def u9:PFn:=aA (runF Tryz.prog acb ag5 Tryz.f34)
def am0:TH:={ loops:=[],ro:=[1] }
def zcr (a0:(Int×Int×Unit)):Option Bool :=
 cond (decide (a0.1≥0)) (cond (decide (a0.1<16)) (cond (decide (a0.2.1≥1)) (some (decide (a0.2.1≤1048576))) (some false)) (some false)) (some false)
def pU:TFn:={ ps:=(.cons tT10 .unit),res:=.bool,fn:=fun v=>zcr v.1 }
def ag4:TEnv:=(vZ [])
theorem ag3:runY Tryz.prog acb ag5 ag4 am0 Tryz.f34 pU.ps pU.res=pU.fn:=by kernel_rfl
theorem pV:ax Tryz.prog G0 34 u9:=ad (ai ⟨aq,ab,am,ab,al⟩ Tryz.func34 rfl (by kernel_rfl))
theorem u6:TOk u9 pU:=aw (E:=acb) (ET:=ag4) (EnvT.ofX (ar aj) ak ao aJ an) ag3 rfl
def pY:PFn:=aaN
theorem mR:ax Tryz.prog G0 30 pY:=uw (g:=3) ⟨Tryz.f30,Tryz.func30,rfl,by kernel_rfl⟩ (by kernel_rfl) (by kernel_rfl) Tryz.strconv_Itoa
def zbe (a0:Int):Option (List UInt8):=itoa a0
def zO:TFn:=sk
theorem rC:TOk pY zO:=af4
def ab4:Env:=(eZ [(30,pY)] [114])
def agU:Hints:=(hZ [] [])
def zE:PFn:=aA (runF Tryz.prog ab4 agU Tryz.f31)
def amX:TH:={ loops:=[],ro:=[1] }
def zcu (a0:(Int×Int×Unit)):Option (List UInt8) :=
(zbe a0.1).bind fun r1 =>
(catT r1 [46]).bind fun s2 =>
(zbe a0.2.1).bind fun r3 =>
(catT s2 r3).bind fun s4 =>
 some s4
def sY:TFn:={ ps:=(.cons tT10 .unit),res:=.str,fn:=fun v=>zcu v.1 }
def agT:TEnv:=(vZ [(30,zO)])
theorem agS:runY Tryz.prog ab4 agU agT amX Tryz.f31 sY.ps sY.res=sY.fn:=by kernel_rfl
theorem uY:ax Tryz.prog G0 31 zE:=ad (ai ⟨aq,(ae mR ab),am,ab,al⟩ Tryz.func31 rfl (by kernel_rfl))
theorem aba:TOk zE sY:=aw (E:=ab4) (ET:=agT) (EnvT.ofX (ar (ac rC aj)) ak ao aJ an) agS rfl
def aca:Env:=(eZ [(31,zE),(34,u9),(46,tz),(75,adc)] [114])
def ag2:Hints:=(hZ [] [])
def ab9:PFn:=aA (runF Tryz.prog aca ag2 Tryz.f47)
def amZ:TH:={ loops:=[],cuts:=[(5,[(6,{ keep:=[(2,(.bx 0 0)),(11,(.bx 1 0)),(36,.bool)],mem:=[.box 29 tT10,.box 29 tT10] })])],ro:=[],news:=[] }
def zcs (a0:List UInt8):Option vV5 :=
(zbu a0 [46]).bind fun r1 =>
(za2 r1.1).bind fun r2 =>
(za2 r1.2.1).bind fun r3 =>
(cond (!r1.2.2.1) (some (true,(0,0,()),(r2.1,r3.1,()),())) (some (r2.2.1,(0,0,()),(r2.1,r3.1,()),())):Option (Bool×(Int×Int×Unit)×(Int×Int×Unit)×Unit)).bind fun v4 =>
 cond v4.1 (some ((0,0,()),19,())) (cond r3.2.1 (some ((0,0,()),19,())) ((zcr v4.2.2.1).bind fun r5 =>
 cond (!r5) (some ((0,0,()),19,())) ((zcu v4.2.2.1).bind fun r6 =>
 cond (!decide (r6=a0)) (
 some ((0,0,()),19,())) (
 some (v4.2.2.1,0,())))))
def u5:TFn:={ ps:=(.cons .str .unit),res:=(.tup (.cons tT10 tT11)),fn:=fun v=>zcs v.1 }
def ag1:TEnv:=(vZ [(31,sY),(34,pU),(46,wS),(75,vB)])
theorem ag0:runY Tryz.prog aca ag2 ag1 amZ Tryz.f47 u5.ps u5.res=u5.fn:=by kernel_rfl
theorem ab8:ax Tryz.prog G0 47 ab9:=ad (ai ⟨aq,(ae uY (ae pV (ae mU (ae adb ab)))),am,ab,al⟩ Tryz.func47 rfl (by kernel_rfl))
theorem agZ:TOk ab9 u5:=aw (E:=aca) (ET:=ag1) (EnvT.ofX (ar (ac aba (ac u6 (ac rH (ac ait aj))))) ak ao aJ an) ag0 rfl
def afg:Env:=(eZ [] [114])
def alK:Hints:=(hZ [] [])
def z6:PFn:=aA (runF Tryz.prog afg alK Tryz.f63)
def aoj:TH:=yZ
def za8:Option (List (List UInt8)) :=
 some ([[],[112,117,116],[97,100,100],[105,110,99],[114,101,109,111,118,101],[114,101,115,101,116]]:List (List UInt8))
def tu:TFn:={ ps:=.unit,res:=(.sl .str),fn:=fun v=>za8  }
def alJ:TEnv:={ pure:=[],look:=[],glob:=G0T,ty:=[(9,.str)],raw:=[],fresh:=[] }
theorem alI:runY Tryz.prog afg alK alJ aoj Tryz.f63 tu.ps tu.res=tu.fn:=by kernel_rfl
theorem wK:ax Tryz.prog G0 63 z6:=ad (ai ⟨aq,ab,am,ab,al⟩ Tryz.func63 rfl (by kernel_rfl))
theorem abs:TOk z6 tu:=aw (E:=afg) (ET:=alJ) (EnvT.ofX (ar aj) ak ao aJ an) alI rfl
def aeD:Env:=(eZ [(136,zX)] [114])
def akE:Hints:=(hZ [] [])
def aeC:PFn:=aA (runF Tryz.prog aeD akE Tryz.f107)
def an1:TH:=yZ
def zar (a0:List UInt8) (a1:List UInt8):Option Bool :=
(zal a0 a1).bind fun r1 =>
 some r1
def wr:TFn:={ ps:=(.cons .str (.cons .str .unit)),res:=.bool,fn:=fun v=>zar v.1 v.2.1 }
def akD:TEnv:=(vZ [(136,tq)])
theorem akC:runY Tryz.prog aeD akE akD an1 Tryz.f107 wr.ps wr.res=wr.fn:=by kernel_rfl
theorem aeB:ax Tryz.prog G0 107 aeC:=ad (ai ⟨aq,(ae wy ab),am,ab,al⟩ Tryz.func107 rfl (by kernel_rfl))
theorem akB:TOk aeC wr:=aw (E:=aeD) (ET:=akD) (EnvT.ofX (ar (ac abp aj)) ak ao aJ an) akC rfl
def ae1:Env:=(eZ [] [114])
def alk:Hints:=(hZ [] [6,9,11,19])
def zY:SFn:=runF Tryz.prog ae1 alk Tryz.f84
def aoc:TH:=yZ
def zaf (w0:vV4) (w1:List Int):Option (Unit×vV4×List Int×Unit) :=
 cond (!w0.1) (
 some ((),(true,w0.2.1,()),w1,())) (
 cond (!w0.1) (
 none) (
 some ((),w0,w1,())))
def oe:TRaw:={ ps:=(.cons (.bx 0 0) .unit),ins:=[.box 103 tT13,.row true 5 (.int .u8)],res:=(.tup .unit),outs:=[.box 103 tT13,.row true 5 (.int .u8)],fn:=fun v w=>zaf w.1 w.2.1 }
def alj:TEnv:=(vZ [])
theorem ali:rawY Tryz.prog ae1 alk alj aoc [(0,0)] Tryz.f84 oe.ps oe.ins oe.res oe.outs=oe.fn:=by kernel_rfl
theorem wD:eA Tryz.prog G0 84 zY:=ai ⟨aq,ab,am,ab,al⟩ Tryz.func84 rfl (by kernel_rfl)
theorem abq:TRawOk zY oe:=iz (E:=ae1) (ET:=alj) (EnvT.ofX (ar aj) ak ao aJ an) ali
def ae2:Env:={ pure:=[],raw:=[(84,zY)],glob:=G0,same:=[114],look:=[],ext:=[] }
def alo:Hints:=(hZ [] [])
def wF:SFn:=runF Tryz.prog ae2 alo Tryz.f123
def aod:TH:=yZ
def zae (a1:Int) (w0:vV4) (w1:List Int):Option (Bool×vV4×List Int×Unit) :=
(zaf w0 w1).bind fun q1 =>
(fa (q1.2.2.1.length+([a1]:List Int).length)).bind fun u2 =>
 some (false,(q1.2.1.1,(),()),(q1.2.2.1++([a1]:List Int)),())
def mT:TRaw:={ ps:=(.cons (.bx 0 0) (.cons (.int .u8) .unit)),ins:=[.box 103 tT13,.row true 5 (.int .u8)],res:=.err,outs:=[.box 103 tT13,.row true 5 (.int .u8)],fn:=fun v w=>zae v.2.1 w.1 w.2.1 }
def aln:TEnv:={ pure:=[],look:=[],glob:=G0T,ty:=[(5,(.int .u8))],raw:=[(84,oe)],fresh:=[] }
theorem alm:rawY Tryz.prog ae2 alo aln aod [(0,0)] Tryz.f123 mT.ps mT.ins mT.res mT.outs=mT.fn:=by kernel_rfl
theorem qa:eA Tryz.prog G0 123 wF:=ai ⟨aq,ab,(ca wD am),ab,al⟩ Tryz.func123 rfl (by kernel_rfl)
theorem wE:TRawOk wF mT:=iz (E:=ae2) (ET:=aln) (EnvT.ofX (ar aj) ak (b7 abq rfl rfl ao) aJ an) alm
def aeV:Env:=(eZ [] [114])
def alb:Hints:=(hZ [] [])
def wC:SFn:=runF Tryz.prog aeV alb Tryz.f58
def aoa:TH:=yZ
def zai (w0:vV4) (w1:List Int):Option (List UInt8×vV4×Unit) :=
 cond w1.isEmpty ((abR (w1.length:Int)).bind fun u1 =>
 some ([],w0,())) ((ol 0 w1.length (w1.length:Int)).bind fun u2 =>
 some ((w1.map fun n=>UInt8.ofNat n.toNat),w0,()))
def mS:TRaw:={ ps:=(.cons (.bx 0 0) .unit),ins:=[.box 103 tT13,.row true 5 (.int .u8)],res:=.str,outs:=[.box 103 tT13,.gone],fn:=fun v w=>zai w.1 w.2.1 }
def ala:TEnv:=(vZ [])
theorem ak9:rawY Tryz.prog aeV alb ala aoa [(0,0)] Tryz.f58 mS.ps mS.ins mS.res mS.outs=mS.fn:=by kernel_rfl
theorem p7:eA Tryz.prog G0 58 wC:=ai ⟨aq,ab,am,ab,al⟩ Tryz.func58 rfl (by kernel_rfl)
theorem wB:TRawOk wC mS:=iz (E:=aeV) (ET:=ala) (EnvT.ofX (ar aj) ak ao aJ an) ak9
def aej:Env:={ pure:=[],raw:=[(58,wC),(123,wF)],glob:=G0,same:=[114],look:=[],ext:=[] }
def akd:Hints:=(hZ [(6,[0,4,5,6])] [])
def aei:PFn:=aA (runF Tryz.prog aej akd Tryz.f108)
def anU:TH:={ joins:=[(12,{ keep:=[(4,(.bx 1 0)),(5,.bool)],mem:=[.row true 5 (.int .u8),.box 103 tT12] }),(10,{ keep:=[(4,(.bx 1 0))],mem:=[.row true 5 (.int .u8),.box 103 tT12] })],loops:=[(6,{ keep:=[(4,(.bx 1 0)),(5,.bool),(6,(.int .i64))],mem:=[.row true 5 (.int .u8),.box 103 tT12] })],cuts:=[],ro:=[],news:=[(4,(tT12,[(5,(.int .u8))]))] }
def iW (a0:List UInt8) (y6:(Bool×Int×List Int×vV4×Unit)):Option ((Bool×Int×List Int×vV4×Unit)⊕((Bool×List Int×vV4×Unit)⊕(List UInt8×Bool×Unit))) :=
 cond (decide (y6.2.1<(IntKind.wrap .i64 ((a0.length:Int)-1)))) (
(cond (!y6.1) ((atI a0 y6.2.1).bind fun b3 =>
 cond (decide ((b3.toNat:Int)=92)) (
 some (.inr (.inl (true,(IntKind.wrap .i64 (y6.2.1+1)),y6.2.2.1,y6.2.2.2.1,())))) (
 some (.inl (y6.2.2.1,y6.2.2.2.1,())))) (some (.inl (y6.2.2.1,y6.2.2.2.1,()))):Option ((List Int×vV4×Unit)⊕((Bool×Int×List Int×vV4×Unit)⊕((Bool×List Int×vV4×Unit)⊕(List UInt8×Bool×Unit))))).bind (aE fun v4 =>
(atI a0 y6.2.1).bind fun b5 =>
(zae (b5.toNat:Int) (v4.2.1.1,(),()) v4.1).bind fun q6 =>
 some (.inl (false,(IntKind.wrap .i64 (y6.2.1+1)),q6.2.2.1,q6.2.1,())))) (
 some (.inr (.inl (y6.1,y6.2.2.1,y6.2.2.2.1,()))))
def zay (a0:List UInt8):Option (List UInt8×Bool×Unit) :=
 cond (decide ((a0.length:Int)<2)) (some ([],false,())) ((atI a0 0).bind fun b1 =>
 cond (!decide ((b1.toNat:Int)=34)) (some ([],false,())) ((atI a0 (IntKind.wrap .i64 ((a0.length:Int)-1))).bind fun b2 =>
 cond (!decide ((b2.toNat:Int)=34)) (
 some ([],false,())) (
(aP (iW a0) (false,1,[],(false,(),()),()):Option ((Bool×List Int×vV4×Unit)⊕(List UInt8×Bool×Unit))).bind (aE fun v7 =>
(zai (v7.2.2.1.1,(),()) v7.2.1).bind fun q8 =>
 some (q8.1,(!v7.1),())))))
def wk:TFn:={ ps:=(.cons .str .unit),res:=(.tup (.cons .str (.cons .bool .unit))),fn:=fun v=>zay v.1 }
def akc:TEnv:={ pure:=[],look:=[],glob:=G0T,ty:=[],raw:=[(58,mS),(123,mT)],fresh:=[] }
theorem akb:runY Tryz.prog aej akd akc anU Tryz.f108 wk.ps wk.res=wk.fn:=by kernel_rfl
theorem aeh:ax Tryz.prog G0 108 aei:=ad (ai ⟨aq,ab,(ca p7 (ca qa am)),ab,al⟩ Tryz.func108 rfl (by kernel_rfl))
theorem aka:TOk aei wk:=aw (E:=aej) (ET:=akc) (EnvT.ofX (ar aj) ak (b7 wB rfl rfl (b7 wE rfl rfl ao)) aJ an) akb rfl
def ae0:PFn:=nP
theorem aeZ:ax Tryz.prog G0 149 ae0:=pF (g3:=6) (g4:=7) ⟨Tryz.f149,Tryz.func149,rfl,by kernel_rfl⟩ (by kernel_rfl) (by kernel_rfl) (fun s w hT=>Tryz.utf8_DecodeRuneInString s w hT)
def zag (a0:List UInt8):Option (Int×Int×Unit):=qO a0
def alh:TFn:=kF
theorem alg:TOk ae0 alh:=uJ
def ad2:Env:=(eZ [(149,ae0)] [114])
def ajN:Hints:=(hZ [(3,[0,4,10])] [])
def zQ:PFn:=aA (runF Tryz.prog ad2 ajN Tryz.f128)
def anN:TH:={ joins:=[(9,{ keep:=[(4,(.own 1)),(10,(.it 0))],mem:=[.iter,.row true 21 (.int .i32)] })],loops:=[(3,{ keep:=[(4,(.own 1)),(10,(.it 0))],mem:=[.iter,.row true 21 (.int .i32)] })],ro:=[] }
def lE (a0:List UInt8) (y3:(Nat×List Int×Unit)):Option ((Nat×List Int×Unit)⊕(List Int×Bool×Unit)) :=
 cond (decide (y3.1<a0.length)) ((cond (decide (((Utf8.decode ⟨a0.toArray⟩ y3.1).1:Int)=65533)) (
(subI a0 (y3.1:Int) (a0.length:Int)).bind fun s1 =>
(zag s1).bind fun r2 =>
 cond (decide (r2.2.1≤1)) (
 some (.inr (.inr ([],false,())))) (
 some (.inl ((y3.1+(Utf8.decode ⟨a0.toArray⟩ y3.1).2),y3.2.1,())))) (
 some (.inl ((y3.1+(Utf8.decode ⟨a0.toArray⟩ y3.1).2),y3.2.1,()))):Option ((Nat×List Int×Unit)⊕((Nat×List Int×Unit)⊕(List Int×Bool×Unit)))).bind (aE fun v3 =>
(fa (v3.2.1.length+([((Utf8.decode ⟨a0.toArray⟩ y3.1).1:Int)]:List Int).length)).bind fun u4 =>
 some (.inl (v3.1,(v3.2.1++([((Utf8.decode ⟨a0.toArray⟩ y3.1).1:Int)]:List Int)),())))) (some (.inr (y3.2.1,true,())))
def zb5 (a0:List UInt8):Option (List Int×Bool×Unit) :=
 aP (lE a0) (0,[],())
def tj:TFn:={ ps:=(.cons .str .unit),res:=(.tup (.cons (.sl (.int .i32)) (.cons .bool .unit))),fn:=fun v=>zb5 v.1 }
def ajM:TEnv:={ pure:=[(149,alh)],look:=[],glob:=G0T,ty:=[(21,(.int .i32))],raw:=[],fresh:=[] }
theorem ajL:runY Tryz.prog ad2 ajN ajM anN Tryz.f128 tj.ps tj.res=tj.fn:=by kernel_rfl
theorem wb:ax Tryz.prog G0 128 zQ:=ad (ai ⟨aq,(ae aeZ ab),am,ab,al⟩ Tryz.func128 rfl (by kernel_rfl))
theorem abk:TOk zQ tj:=aw (E:=ad2) (ET:=ajM) (EnvT.ofX (ar (ac alg aj)) ak ao aJ an) ajL rfl
def adf:Env:=(eZ [(128,zQ)] [114])
def aiz:Hints:=(hZ [] [])
def zI:PFn:=aA (runF Tryz.prog adf aiz Tryz.f97)
def anp:TH:={ loops:=[],ro:=[1] }
def zbt (a0:vV3):Option Bool :=
 cond (decide (a0.1=1)) (
 cond (decide (a0.2.2.1=[])) (cond (decide (a0.2.1≥(-2147483647))) (some (decide (a0.2.1≤2147483647))) (some false)) (some false)) (
 cond (decide (a0.1=2)) (
(zb5 a0.2.2.1).bind fun r1 =>
 cond r1.2.1 (cond (decide (a0.2.1=0)) (some (decide ((a0.2.2.1.length:Int)≤64))) (some false)) (some false)) (
 cond (decide (a0.1=3)) (
 cond (decide (a0.2.2.1=[])) (cond (decide (a0.2.1=0)) (some true) (some (decide (a0.2.1=1)))) (some false)) (
 some false)))
def tc:TFn:={ ps:=(.cons tT9 .unit),res:=.bool,fn:=fun v=>zbt v.1 }
def aiy:TEnv:=(vZ [(128,tj)])
theorem aix:runY Tryz.prog adf aiz aiy anp Tryz.f97 tc.ps tc.res=tc.fn:=by kernel_rfl
theorem vC:ax Tryz.prog G0 97 zI:=ad (ai ⟨aq,(ae wb ab),am,ab,al⟩ Tryz.func97 rfl (by kernel_rfl))
theorem abe:TOk zI tc:=aw (E:=adf) (ET:=aiy) (EnvT.ofX (ar (ac abk aj)) ak ao aJ an) aix rfl
def anu:Env:=(eZ [] [114])
def ant:Hints:=(hZ [] [])
def adp:PFn:=aA (runF Tryz.prog anu ant Tryz.f89)
theorem ado:ax Tryz.prog G0 89 adp:=ad (ai ⟨aq,ab,am,ab,al⟩ Tryz.func89 rfl (by kernel_rfl))
def aeY:Env:=(eZ [] [114])
def alf:Hints:=(hZ [] [])
def aeX:SFn:=runF Tryz.prog aeY alf Tryz.f156
def aob:TH:={ joins:=[(7,{ keep:=[(0,(.own 0)),(25,.bool)],mem:=[.row true 5 (.int .u8)] })],loops:=[],cuts:=[(6,[(6,{ keep:=[(0,(.own 0)),(33,.bool)],mem:=[.row true 5 (.int .u8)] })])],ro:=[],news:=[] }
def zah (a1:Int) (w0:List Int):Option (Unit×List Int×Unit) :=
 cond (decide ((IntKind.wrap .u32 a1)≤2047)) (
(shrT .i32 a1 6).bind fun t1 =>
(fa (w0.length+([(IntKind.wrap .u8 ((BitVec.ofInt (IntKind.bits .u8) 192 ||| BitVec.ofInt (IntKind.bits .u8) (IntKind.wrap .u8 t1)).toNat)),(IntKind.wrap .u8 ((BitVec.ofInt (IntKind.bits .u8) 128 ||| BitVec.ofInt (IntKind.bits .u8) (IntKind.wrap .u8 ((BitVec.ofInt (IntKind.bits .u8) (IntKind.wrap .u8 a1) &&& BitVec.ofInt (IntKind.bits .u8) 63).toNat))).toNat))]:List Int).length)).bind fun u2 =>
 some ((),(w0++([(IntKind.wrap .u8 ((BitVec.ofInt (IntKind.bits .u8) 192 ||| BitVec.ofInt (IntKind.bits .u8) (IntKind.wrap .u8 t1)).toNat)),(IntKind.wrap .u8 ((BitVec.ofInt (IntKind.bits .u8) 128 ||| BitVec.ofInt (IntKind.bits .u8) (IntKind.wrap .u8 ((BitVec.ofInt (IntKind.bits .u8) (IntKind.wrap .u8 a1) &&& BitVec.ofInt (IntKind.bits .u8) 63).toNat))).toNat))]:List Int)),())) (
(cond (decide ((IntKind.wrap .u32 a1)<55296)) (
 some (.inl ((decide ((IntKind.wrap .u32 a1)<55296)),w0,()))) (
(cond (decide (57343<(IntKind.wrap .u32 a1))) (some ((decide ((IntKind.wrap .u32 a1)≤65535)),w0,())) (some (false,w0,())):Option (Bool×List Int×Unit)).bind fun v3 =>
 some (.inl (v3.1,v3.2.1,()))):Option ((Bool×List Int×Unit)⊕(Unit×List Int×Unit))).bind (aE fun v4 =>
 cond v4.1 (
(shrT .i32 a1 12).bind fun t5 =>
(shrT .i32 a1 6).bind fun t6 =>
(fa (v4.2.1.length+([(IntKind.wrap .u8 ((BitVec.ofInt (IntKind.bits .u8) 224 ||| BitVec.ofInt (IntKind.bits .u8) (IntKind.wrap .u8 t5)).toNat)),(IntKind.wrap .u8 ((BitVec.ofInt (IntKind.bits .u8) 128 ||| BitVec.ofInt (IntKind.bits .u8) (IntKind.wrap .u8 ((BitVec.ofInt (IntKind.bits .u8) (IntKind.wrap .u8 t6) &&& BitVec.ofInt (IntKind.bits .u8) 63).toNat))).toNat)),(IntKind.wrap .u8 ((BitVec.ofInt (IntKind.bits .u8) 128 ||| BitVec.ofInt (IntKind.bits .u8) (IntKind.wrap .u8 ((BitVec.ofInt (IntKind.bits .u8) (IntKind.wrap .u8 a1) &&& BitVec.ofInt (IntKind.bits .u8) 63).toNat))).toNat))]:List Int).length)).bind fun u7 =>
 some ((),(v4.2.1++([(IntKind.wrap .u8 ((BitVec.ofInt (IntKind.bits .u8) 224 ||| BitVec.ofInt (IntKind.bits .u8) (IntKind.wrap .u8 t5)).toNat)),(IntKind.wrap .u8 ((BitVec.ofInt (IntKind.bits .u8) 128 ||| BitVec.ofInt (IntKind.bits .u8) (IntKind.wrap .u8 ((BitVec.ofInt (IntKind.bits .u8) (IntKind.wrap .u8 t6) &&& BitVec.ofInt (IntKind.bits .u8) 63).toNat))).toNat)),(IntKind.wrap .u8 ((BitVec.ofInt (IntKind.bits .u8) 128 ||| BitVec.ofInt (IntKind.bits .u8) (IntKind.wrap .u8 ((BitVec.ofInt (IntKind.bits .u8) (IntKind.wrap .u8 a1) &&& BitVec.ofInt (IntKind.bits .u8) 63).toNat))).toNat))]:List Int)),())) (
 cond (decide ((IntKind.wrap .u32 a1)>65535)) (cond (decide ((IntKind.wrap .u32 a1)≤1114111)) (
(shrT .i32 a1 18).bind fun t8 =>
(shrT .i32 a1 12).bind fun t9 =>
(shrT .i32 a1 6).bind fun t10 =>
(fa (v4.2.1.length+([(IntKind.wrap .u8 ((BitVec.ofInt (IntKind.bits .u8) 240 ||| BitVec.ofInt (IntKind.bits .u8) (IntKind.wrap .u8 t8)).toNat)),(IntKind.wrap .u8 ((BitVec.ofInt (IntKind.bits .u8) 128 ||| BitVec.ofInt (IntKind.bits .u8) (IntKind.wrap .u8 ((BitVec.ofInt (IntKind.bits .u8) (IntKind.wrap .u8 t9) &&& BitVec.ofInt (IntKind.bits .u8) 63).toNat))).toNat)),(IntKind.wrap .u8 ((BitVec.ofInt (IntKind.bits .u8) 128 ||| BitVec.ofInt (IntKind.bits .u8) (IntKind.wrap .u8 ((BitVec.ofInt (IntKind.bits .u8) (IntKind.wrap .u8 t10) &&& BitVec.ofInt (IntKind.bits .u8) 63).toNat))).toNat)),(IntKind.wrap .u8 ((BitVec.ofInt (IntKind.bits .u8) 128 ||| BitVec.ofInt (IntKind.bits .u8) (IntKind.wrap .u8 ((BitVec.ofInt (IntKind.bits .u8) (IntKind.wrap .u8 a1) &&& BitVec.ofInt (IntKind.bits .u8) 63).toNat))).toNat))]:List Int).length)).bind fun u11 =>
 some ((),(v4.2.1++([(IntKind.wrap .u8 ((BitVec.ofInt (IntKind.bits .u8) 240 ||| BitVec.ofInt (IntKind.bits .u8) (IntKind.wrap .u8 t8)).toNat)),(IntKind.wrap .u8 ((BitVec.ofInt (IntKind.bits .u8) 128 ||| BitVec.ofInt (IntKind.bits .u8) (IntKind.wrap .u8 ((BitVec.ofInt (IntKind.bits .u8) (IntKind.wrap .u8 t9) &&& BitVec.ofInt (IntKind.bits .u8) 63).toNat))).toNat)),(IntKind.wrap .u8 ((BitVec.ofInt (IntKind.bits .u8) 128 ||| BitVec.ofInt (IntKind.bits .u8) (IntKind.wrap .u8 ((BitVec.ofInt (IntKind.bits .u8) (IntKind.wrap .u8 t10) &&& BitVec.ofInt (IntKind.bits .u8) 63).toNat))).toNat)),(IntKind.wrap .u8 ((BitVec.ofInt (IntKind.bits .u8) 128 ||| BitVec.ofInt (IntKind.bits .u8) (IntKind.wrap .u8 ((BitVec.ofInt (IntKind.bits .u8) (IntKind.wrap .u8 a1) &&& BitVec.ofInt (IntKind.bits .u8) 63).toNat))).toNat))]:List Int)),())) (
(fa (v4.2.1.length+([239,191,189]:List Int).length)).bind fun u12 =>
 some ((),(v4.2.1++([239,191,189]:List Int)),()))) ((fa (v4.2.1.length+([239,191,189]:List Int).length)).bind fun u13 =>
 some ((),(v4.2.1++([239,191,189]:List Int)),())))))
def p9:TRaw:={ ps:=(.cons (.own 0) (.cons (.int .i32) .unit)),ins:=[.row true 5 (.int .u8)],res:=(.own 0),outs:=[.row true 5 (.int .u8)],fn:=fun v w=>zah v.2.1 w.1 }
def ale:TEnv:={ pure:=[],look:=[],glob:=G0T,ty:=[(5,(.int .u8))],raw:=[],fresh:=[] }
theorem ald:rawY Tryz.prog aeY alf ale aob [] Tryz.f156 p9.ps p9.ins p9.res p9.outs=p9.fn:=by kernel_rfl
theorem aeW:eA Tryz.prog G0 156 aeX:=ai ⟨aq,ab,am,ab,al⟩ Tryz.func156 rfl (by kernel_rfl)
theorem alc:TRawOk aeX p9:=iz (E:=aeY) (ET:=ale) (EnvT.ofX (ar aj) ak ao aJ an) ald
def aeu:Env:={ pure:=[],raw:=[(156,aeX)],glob:=G0,same:=[114],look:=[],ext:=[] }
def aks:Hints:=(hZ [] [])
def aet:SFn:=runF Tryz.prog aeu aks Tryz.f147
def anY:TH:=yZ
def zau (a1:Int) (w0:List Int):Option (Unit×List Int×Unit) :=
 cond (decide ((IntKind.wrap .u32 a1)≤127)) (
(fa (w0.length+([(IntKind.wrap .u8 a1)]:List Int).length)).bind fun u1 =>
 some ((),(w0++([(IntKind.wrap .u8 a1)]:List Int)),())) (
(zah a1 w0).bind fun q2 =>
 some (q2.1,q2.2.1,()))
def p5:TRaw:={ ps:=(.cons (.own 0) (.cons (.int .i32) .unit)),ins:=[.row true 5 (.int .u8)],res:=(.own 0),outs:=[.row true 5 (.int .u8)],fn:=fun v w=>zau v.2.1 w.1 }
def akr:TEnv:={ pure:=[],look:=[],glob:=G0T,ty:=[(5,(.int .u8))],raw:=[(156,p9)],fresh:=[] }
theorem akq:rawY Tryz.prog aeu aks akr anY [] Tryz.f147 p5.ps p5.ins p5.res p5.outs=p5.fn:=by kernel_rfl
theorem aes:eA Tryz.prog G0 147 aet:=ai ⟨aq,ab,(ca aeW am),ab,al⟩ Tryz.func147 rfl (by kernel_rfl)
theorem akp:TRawOk aet p5:=iz (E:=aeu) (ET:=akr) (EnvT.ofX (ar aj) ak (b7 alc rfl rfl ao) aJ an) akq
def ae5:Env:={ pure:=[],raw:=[(84,zY),(147,aet)],glob:=G0,same:=[114],look:=[],ext:=[] }
def als:Hints:=(hZ [] [])
def ae4:SFn:=runF Tryz.prog ae5 als Tryz.f124
def aoe:TH:=yZ
def zad (a1:Int) (w0:vV4) (w1:List Int):Option ((Int×Bool×Unit)×vV4×List Int×Unit) :=
(zaf w0 w1).bind fun q1 =>
(zau a1 q1.2.2.1).bind fun q2 =>
 some (((IntKind.wrap .i64 ((q2.2.1.length:Int)-(q1.2.2.1.length:Int))),false,()),(q1.2.1.1,q2.1,()),q2.2.1,())
def qb:TRaw:={ ps:=(.cons (.bx 0 0) (.cons (.int .i32) .unit)),ins:=[.box 103 tT13,.row true 5 (.int .u8)],res:=(.tup (.cons (.int .i64) (.cons .err .unit))),outs:=[.box 103 tT13,.row true 5 (.int .u8)],fn:=fun v w=>zad v.2.1 w.1 w.2.1 }
def alr:TEnv:={ pure:=[],look:=[],glob:=G0T,ty:=[],raw:=[(84,oe),(147,p5)],fresh:=[] }
theorem alq:rawY Tryz.prog ae5 als alr aoe [(0,0)] Tryz.f124 qb.ps qb.ins qb.res qb.outs=qb.fn:=by kernel_rfl
theorem ae3:eA Tryz.prog G0 124 ae4:=ai ⟨aq,ab,(ca wD (ca aes am)),ab,al⟩ Tryz.func124 rfl (by kernel_rfl)
theorem alp:TRawOk ae4 qb:=iz (E:=ae5) (ET:=alr) (EnvT.ofX (ar aj) ak (b7 abq rfl rfl (b7 akp rfl rfl ao)) aJ an) alq
def adh:Env:={ pure:=[],raw:=[(58,wC),(123,wF),(124,ae4)],glob:=G0,same:=[114],look:=[],ext:=[] }
def aiD:Hints:=(hZ [(4,[3,8])] [])
def zK:PFn:=aA (runF Tryz.prog adh aiD Tryz.f90)
def anq:TH:={ loops:=[(4,{ keep:=[(3,(.bx 1 0)),(8,(.it 2))],mem:=[.row true 5 (.int .u8),.box 103 tT12,.iter] })],cuts:=[],ro:=[],news:=[(3,(tT12,[(5,(.int .u8))]))] }
def lz (a0:List UInt8) (y4:(List Int×vV4×Nat×Unit)):Option ((List Int×vV4×Nat×Unit)⊕List UInt8) :=
 cond (decide (y4.2.2.1<a0.length)) (cond (decide (((Utf8.decode ⟨a0.toArray⟩ y4.2.2.1).1:Int)=34)) ((zae 92 (y4.2.1.1,(),()) y4.1).bind fun q2 =>
(zad ((Utf8.decode ⟨a0.toArray⟩ y4.2.2.1).1:Int) (q2.2.1.1,(),()) q2.2.2.1).bind fun q3 =>
 some (.inl (q3.2.2.1,q3.2.1,(y4.2.2.1+(Utf8.decode ⟨a0.toArray⟩ y4.2.2.1).2),()))) (cond (decide (((Utf8.decode ⟨a0.toArray⟩ y4.2.2.1).1:Int)=92)) (
(zae 92 (y4.2.1.1,(),()) y4.1).bind fun q4 =>
(zad ((Utf8.decode ⟨a0.toArray⟩ y4.2.2.1).1:Int) (q4.2.1.1,(),()) q4.2.2.1).bind fun q5 =>
 some (.inl (q5.2.2.1,q5.2.1,(y4.2.2.1+(Utf8.decode ⟨a0.toArray⟩ y4.2.2.1).2),()))) (
(zad ((Utf8.decode ⟨a0.toArray⟩ y4.2.2.1).1:Int) (y4.2.1.1,(),()) y4.1).bind fun q6 =>
 some (.inl (q6.2.2.1,q6.2.1,(y4.2.2.1+(Utf8.decode ⟨a0.toArray⟩ y4.2.2.1).2),()))))) (((zae 34 (y4.2.1.1,(),()) y4.1).bind fun q7 =>
(zai (q7.2.1.1,(),()) q7.2.2.1).bind fun q8 =>
 some q8.1).map .inr)
def zbs (a0:List UInt8):Option (List UInt8) :=
(zae 34 (false,(),()) []).bind fun q1 =>
 aP (lz a0) (q1.2.2.1,q1.2.1,0,())
def zJ:TFn:={ ps:=(.cons .str .unit),res:=.str,fn:=fun v=>zbs v.1 }
def aiC:TEnv:={ pure:=[],look:=[],glob:=G0T,ty:=[],raw:=[(58,mS),(123,mT),(124,qb)],fresh:=[] }
theorem aiB:runY Tryz.prog adh aiD aiC anq Tryz.f90 zJ.ps zJ.res=zJ.fn:=by kernel_rfl
theorem adg:ax Tryz.prog G0 90 zK:=ad (ai ⟨aq,ab,(ca p7 (ca qa (ca ae3 am))),ab,al⟩ Tryz.func90 rfl (by kernel_rfl))
theorem aiA:TOk zK zJ:=aw (E:=adh) (ET:=aiC) (EnvT.ofX (ar aj) ak (b7 wB rfl rfl (b7 wE rfl rfl (b7 alp rfl rfl ao))) aJ an) aiB rfl
def aeR:Env:=(eZ [] [114])
def ak4:Hints:=(hZ [] [])
def aeQ:PFn:=aA (runF Tryz.prog aeR ak4 Tryz.f125)
def an8:TH:=yZ
def zak (a0:Bool):Option (List UInt8) :=
 cond a0 (
 some [116,114,117,101]) (
 some [102,97,108,115,101])
def wz:TFn:={ ps:=(.cons .bool .unit),res:=.str,fn:=fun v=>zak v.1 }
def ak3:TEnv:=(vZ [])
theorem ak2:runY Tryz.prog aeR ak4 ak3 an8 Tryz.f125 wz.ps wz.res=wz.fn:=by kernel_rfl
theorem aeP:ax Tryz.prog G0 125 aeQ:=ad (ai ⟨aq,ab,am,ab,al⟩ Tryz.func125 rfl (by kernel_rfl))
theorem ak1:TOk aeQ wz:=aw (E:=aeR) (ET:=ak3) (EnvT.ofX (ar aj) ak ao aJ an) ak2 rfl
def aeH:Env:=(eZ [(125,aeQ)] [114])
def akP:Hints:=(hZ [] [])
def zW:PFn:=aA (runF Tryz.prog aeH akP Tryz.f91)
def an4:TH:=yZ
def zao (a0:Bool):Option (List UInt8) :=
(zak a0).bind fun r1 =>
 some r1
def zV:TFn:={ ps:=(.cons .bool .unit),res:=.str,fn:=fun v=>zao v.1 }
def akO:TEnv:=(vZ [(125,wz)])
theorem akN:runY Tryz.prog aeH akP akO an4 Tryz.f91 zV.ps zV.res=zV.fn:=by kernel_rfl
theorem aeG:ax Tryz.prog G0 91 zW:=ad (ai ⟨aq,(ae aeP ab),am,ab,al⟩ Tryz.func91 rfl (by kernel_rfl))
theorem akM:TOk zW zV:=aw (E:=aeH) (ET:=akO) (EnvT.ofX (ar (ac ak1 aj)) ak ao aJ an) akN rfl
def anL:Env:=(eZ [(89,adp),(90,zK),(91,zW),(30,pY)] [114])
def ajG:Hints:=(hZ [] [])
def vY:PFn:=aA (runF Tryz.prog anL ajG Tryz.f64)
theorem vX:ax Tryz.prog G0 64 vY:=ad (ai ⟨aq,(ae ado (ae adg (ae aeG (ae mR ab)))),am,ab,al⟩ Tryz.func64 rfl (by kernel_rfl))
def bO (Fq Fb Fs:PFn):PFn:=aA (runF Tryz.prog (eZ [(89,adp),(90,Fq),(91,Fb),(30,Fs)] [114]) ajG Tryz.f64)
theorem jM:vY=bO zK zW pY:=rfl
theorem ou (Fq Fb Fs:PFn) (n:Int) (s:List UInt8):bO Fq Fb Fs [.agg [.int .i64 2,.int .i64 n,.str s]]=((Fq [.str s]).bind fun t=>some (t,[AReg.row 24 3 [.agg [.int .i64 2,.int .i64 n,.str s]]])).bind fun p=>bH p.2 p.1:=by kernel_rfl
theorem ot (Fq Fb Fs:PFn) (n:Int) (s:List UInt8):bO Fq Fb Fs [.agg [.int .i64 3,.int .i64 n,.str s]]=((Fb [.bool (n==1)]).bind fun t=>some (t,[AReg.row 24 3 [.agg [.int .i64 3,.int .i64 n,.str s]]])).bind fun p=>bH p.2 p.1:=by kernel_rfl
theorem ow (Fq Fb Fs:PFn) (n:Int) (s:List UInt8):bO Fq Fb Fs [.agg [.int .i64 (Int.ofNat 0),.int .i64 n,.str s]]=((Fs [.int .i64 n]).bind fun t=>some (t,[AReg.row 24 3 [.agg [.int .i64 (Int.ofNat 0),.int .i64 n,.str s]]])).bind fun p=>bH p.2 p.1:=by kernel_rfl
theorem ov (Fq Fb Fs:PFn) (n:Int) (s:List UInt8):bO Fq Fb Fs [.agg [.int .i64 (Int.ofNat 1),.int .i64 n,.str s]]=((Fs [.int .i64 n]).bind fun t=>some (t,[AReg.row 24 3 [.agg [.int .i64 (Int.ofNat 1),.int .i64 n,.str s]]])).bind fun p=>bH p.2 p.1:=by kernel_rfl
theorem oq (Fq Fb Fs:PFn) (k:Nat) (n:Int) (s:List UInt8):bO Fq Fb Fs [.agg [.int .i64 (Int.ofNat (k+4)),.int .i64 n,.str s]]=((Fs [.int .i64 n]).bind fun t=>some (t,[AReg.row 24 3 [.agg [.int .i64 (Int.ofNat (k+4)),.int .i64 n,.str s]]])).bind fun p=>bH p.2 p.1:=by kernel_rfl
theorem oo (Fq Fb Fs:PFn) (k:Nat) (n:Int) (s:List UInt8):bO Fq Fb Fs [.agg [.int .i64 (Int.negSucc k),.int .i64 n,.str s]]=((Fs [.int .i64 n]).bind fun t=>some (t,[AReg.row 24 3 [.agg [.int .i64 (Int.negSucc k),.int .i64 n,.str s]]])).bind fun p=>bH p.2 p.1:=by kernel_rfl
theorem om (Fq Fb Fs:PFn) (k n:Int) (s:List UInt8) (h2:k≠2) (h3:k≠3):bO Fq Fb Fs [.agg [.int .i64 k,.int .i64 n,.str s]]=((Fs [.int .i64 n]).bind fun t=>some (t,[AReg.row 24 3 [.agg [.int .i64 k,.int .i64 n,.str s]]])).bind fun p=>bH p.2 p.1:=by
 match k,h2,h3 with
 | .ofNat 0,_,_=>exact ow Fq Fb Fs n s
 | .ofNat 1,_,_=>exact ov Fq Fb Fs n s
 | .ofNat 2,h,_=>exact absurd rfl h
 | .ofNat 3,_,h=>exact absurd rfl h
 | .ofNat (k+4),_,_=>exact oq Fq Fb Fs k n s
 | .negSucc k,_,_=>exact oo Fq Fb Fs k n s
def zb7 (a0:Int×Int×List UInt8×Unit):Option (List UInt8):=if a0.1=2 then zbs a0.2.2.1 else if a0.1=3 then zao (a0.2.1==1) else zbe a0.2.1
def vW:TFn:={ ps:=.cons tT9 .unit,res:=.str,fn:=fun v=>zb7 v.1 }
theorem abj:TOk vY vW:=⟨rfl,rfl,rfl,fun v r xs hr hps=>by
 obtain ⟨⟨k,n,s,⟨⟩⟩,⟨⟩⟩:=v
 simp only[R,vW] at hps
 obtain ⟨l1,l2,rfl,⟨cs,rfl,a1,a2,rfl,rfl,a3,a4,rfl,rfl,a5,a6,rfl,rfl,rfl⟩,rfl⟩:=hps
 rw[jM]
 simp only[vW,zb7] at hr
 have done:∀ {o:Option AVal}{t:List UInt8}{st:ap},o=some (.str t)→((o.bind fun t=>some (t,st)).bind fun p=>bH p.2 p.1)=some (.str t):=fun h=>by rw[h]; rfl
 simp only[List.cons_append,List.nil_append,List.append_nil]
 split at hr
 · rename_i h; subst h
   obtain ⟨a,h1,h2⟩:=aiA.run (s,()) r [.str s] hr ⟨[.str s],[],rfl,rfl,rfl⟩
   have h2:=aa9 h2; subst h2
   exact ⟨_,(ou _ _ _ n s).trans (done h1),rfl⟩
 · split at hr
   · rename_i h; subst h
     obtain ⟨a,h1,h2⟩:=akM.run ((n==1),()) r [.bool (n==1)] hr ⟨[.bool (n==1)],[],rfl,rfl,rfl⟩
     have h2:=aa9 h2; subst h2
     exact ⟨_,(ot _ _ _ n s).trans (done h1),rfl⟩
   · rename_i h g
     obtain ⟨a,h1,h2⟩:=rC.run (n,()) r [.int .i64 n] hr ⟨[.int .i64 n],[],rfl,rfl,rfl⟩
     have h2:=aa9 h2; subst h2
     exact ⟨_,(om _ _ _ k n s h g).trans (done h1),rfl⟩⟩
def adn:Env:=(eZ [(46,tz),(64,vY),(97,zI),(107,aeC),(108,aei)] [114])
def aiL:Hints:=(hZ [] [])
def adm:PFn:=aA (runF Tryz.prog adn aiL Tryz.f76)
def ans:TH:={ joins:=[(11,{ keep:=[(2,(.bx 0 0)),(4,(.bx 1 0))],mem:=[.box 24 tT9,.box 24 tT9] })],loops:=[],ro:=[] }
def zbq (a0:List UInt8):Option (vV3×Int×Unit) :=
((zar a0 [34]).bind fun r1 =>
 cond r1 (
(zay a0).bind fun r2 =>
 some (.inl ((0,0,[],()),(2,0,r2.1,()),()))) (
 cond (decide (a0=[116,114,117,101])) (
 some (.inl ((0,0,[],()),(3,1,[],()),()))) (
 cond (decide (a0=[102,97,108,115,101])) (
 some (.inl ((0,0,[],()),(3,0,[],()),()))) (
(za2 a0).bind fun r3 =>
 some (.inl ((0,0,[],()),(1,r3.1,[],()),()))))):Option ((vV3×vV3×Unit)⊕(vV3×Int×Unit))).bind (aE fun v4 =>
(zbt v4.2.1).bind fun r5 =>
 cond (!r5) (some ((0,0,[],()),19,())) ((zb7 v4.2.1).bind fun r6 =>
 cond (!decide (r6=a0)) (
 some ((0,0,[],()),19,())) (
 some (v4.2.1,0,()))))
def vE:TFn:={ ps:=(.cons .str .unit),res:=(.tup (.cons tT9 tT11)),fn:=fun v=>zbq v.1 }
def aiK:TEnv:=(vZ [(46,wS),(64,vW),(97,tc),(107,wr),(108,wk)])
theorem aiJ:runY Tryz.prog adn aiL aiK ans Tryz.f76 vE.ps vE.res=vE.fn:=by kernel_rfl
theorem adl:ax Tryz.prog G0 76 adm:=ad (ai ⟨aq,(ae mU (ae vX (ae vC (ae aeB (ae aeh ab))))),am,ab,al⟩ Tryz.func76 rfl (by kernel_rfl))
theorem aiI:TOk adm vE:=aw (E:=adn) (ET:=aiK) (EnvT.ofX (ar (ac rH (ac abj (ac abe (ac akB (ac aka aj)))))) ak ao aJ an) aiJ rfl
def acF:Env:=(eZ [] [114])
def ahL:Hints:=(hZ [(4,[0,4,5,10,11])] [2,8])
def acE:PFn:=aA (runF Tryz.prog acF ahL Tryz.f109)
def anb:TH:={ joins:=[(16,{ keep:=[(4,(.own 0)),(5,.bool)],mem:=[.row false 9 .str] }),(13,{ keep:=[(4,(.own 0))],mem:=[.row false 9 .str] }),(8,{ keep:=[(4,(.own 0)),(17,.bool)],mem:=[.row false 9 .str] })],loops:=[(4,{ keep:=[(4,(.own 0)),(5,.bool),(11,(.int .i64))],mem:=[.row false 9 .str] })],ro:=[] }
def eV (a0:List UInt8) (y4:(Bool×Int×List (List UInt8)×Unit)):Option ((Bool×Int×List (List UInt8)×Unit)⊕((Bool×List (List UInt8)×Unit)⊕(List (List UInt8)×Bool×Unit))) :=
 cond (decide (y4.2.1<(a0.length:Int))) (
(atI a0 y4.2.1).bind fun b1 =>
((cond y4.1 (cond (!decide ((b1.toNat:Int)=47)) (some (.inl ((!decide ((b1.toNat:Int)=92)),y4.2.2.1,()))) (some (.inl (false,y4.2.2.1,())))) (some (.inl (false,y4.2.2.1,()))):Option ((Bool×List (List UInt8)×Unit)⊕((List (List UInt8)×Unit)⊕((Bool×Int×List (List UInt8)×Unit)⊕((Bool×List (List UInt8)×Unit)⊕(List (List UInt8)×Bool×Unit)))))).bind (aE fun v2 =>
 cond v2.1 (
 some (.inr (.inr (.inr ([],false,()))))) (
 cond (!y4.1) (cond (decide ((b1.toNat:Int)=92)) (
 some (.inr (.inl (true,(IntKind.wrap .i64 (y4.2.1+1)),v2.2.1,())))) (
 cond (!y4.1) (cond (decide ((b1.toNat:Int)=47)) (
(fa (v2.2.1.length+([[]]:List (List UInt8)).length)).bind fun u3 =>
 some (.inr (.inl (y4.1,(IntKind.wrap .i64 (y4.2.1+1)),(v2.2.1++([[]]:List (List UInt8))),())))) (
 some (.inl (v2.2.1,())))) (some (.inl (v2.2.1,()))))) (cond (!y4.1) (cond (decide ((b1.toNat:Int)=47)) (
(fa (v2.2.1.length+([[]]:List (List UInt8)).length)).bind fun u4 =>
 some (.inr (.inl (y4.1,(IntKind.wrap .i64 (y4.2.1+1)),(v2.2.1++([[]]:List (List UInt8))),())))) (
 some (.inl (v2.2.1,())))) (some (.inl (v2.2.1,())))))):Option ((List (List UInt8)×Unit)⊕((Bool×Int×List (List UInt8)×Unit)⊕((Bool×List (List UInt8)×Unit)⊕(List (List UInt8)×Bool×Unit))))).bind (aE fun v5 =>
(inI v5.1.length (IntKind.wrap .i64 ((v5.1.length:Int)-1))).bind fun i6 =>
(v5.1[i6]?).bind fun x7 =>
(catT x7 (([(b1.toNat:Int)]:List Int).map fun n=>UInt8.ofNat n.toNat)).bind fun s8 =>
(inI v5.1.length (IntKind.wrap .i64 ((v5.1.length:Int)-1))).bind fun i9 =>
(v5.1[i9]?).bind fun x10 =>
 some (.inl (false,(IntKind.wrap .i64 (y4.2.1+1)),(v5.1.set i9 s8),())))) (
 some (.inr (.inl (y4.1,y4.2.2.1,()))))
def zcg (a0:List UInt8):Option (List (List UInt8)×Bool×Unit) :=
(aP (eV a0) (false,0,([[]]:List (List UInt8)),()):Option ((Bool×List (List UInt8)×Unit)⊕(List (List UInt8)×Bool×Unit))).bind (aE fun v11 =>
 cond v11.1 (
 some ([],false,())) (
 some (v11.2.1,true,())))
def vm:TFn:={ ps:=(.cons .str .unit),res:=(.tup (.cons (.sl .str) (.cons .bool .unit))),fn:=fun v=>zcg v.1 }
def ahK:TEnv:={ pure:=[],look:=[],glob:=G0T,ty:=[(5,(.int .u8)),(9,.str)],raw:=[],fresh:=[] }
theorem ahJ:runY Tryz.prog acF ahL ahK anb Tryz.f109 vm.ps vm.res=vm.fn:=by kernel_rfl
theorem acD:ax Tryz.prog G0 109 acE:=ad (ai ⟨aq,ab,am,ab,al⟩ Tryz.func109 rfl (by kernel_rfl))
theorem ahI:TOk acE vm:=aw (E:=acF) (ET:=ahK) (EnvT.ofX (ar aj) ak ao aJ an) ahJ rfl
def ab7:Env:=(eZ [] [114])
def agY:Hints:=(hZ [] [])
def ab6:PFn:=aA (runF Tryz.prog ab7 agY Tryz.f129)
def amY:TH:=yZ
def zct (a0:Int):Option Bool :=
 cond (decide (a0<32)) (
 cond (decide (a0<32)) (
 some false) (
 some (!decide (a0=65533)))) (
 cond (decide (a0≥127)) (cond (decide (a0<160)) (
 some false) (
 some (!decide (a0=65533)))) (some (!decide (a0=65533))))
def uZ:TFn:={ ps:=(.cons (.int .i32) .unit),res:=.bool,fn:=fun v=>zct v.1 }
def agX:TEnv:=(vZ [])
theorem agW:runY Tryz.prog ab7 agY agX amY Tryz.f129 uZ.ps uZ.res=uZ.fn:=by kernel_rfl
theorem ab5:ax Tryz.prog G0 129 ab6:=ad (ai ⟨aq,ab,am,ab,al⟩ Tryz.func129 rfl (by kernel_rfl))
theorem agV:TOk ab6 uZ:=aw (E:=ab7) (ET:=agX) (EnvT.ofX (ar aj) ak ao aJ an) agW rfl
def ad9:Env:=(eZ [(128,zQ),(129,ab6)] [114])
def ajY:Hints:=(hZ [(5,[24,25,26])] [])
def ad8:PFn:=aA (runF Tryz.prog ad9 ajY Tryz.f96)
def anQ:TH:={ loops:=[(5,{ keep:=[(26,(.int .i64))],mem:=[] })],ro:=[] }
def rF (r1:(List Int×Bool×Unit)) (y5:(Int×Unit)):Option ((Int×Unit)⊕Bool) :=
 cond (decide (y5.1<(r1.1.length:Int))) (
(atI r1.1 y5.1).bind fun x2 =>
(zct x2).bind fun r3 =>
 cond (!r3) (
 some (.inr false)) (
 some (.inl ((IntKind.wrap .i64 (y5.1+1)),())))) (
 some (.inr true))
def zb2 (a0:List UInt8):Option Bool :=
(zb5 a0).bind fun r1 =>
 cond (!r1.2.1) (some false) (cond (decide ((r1.1.length:Int)=0)) (some false) (cond (decide ((r1.1.length:Int)>24)) (
 some false) (
 aP (rF r1) (0,()))))
def wg:TFn:={ ps:=(.cons .str .unit),res:=.bool,fn:=fun v=>zb2 v.1 }
def ajX:TEnv:=(vZ [(128,tj),(129,uZ)])
theorem ajW:runY Tryz.prog ad9 ajY ajX anQ Tryz.f96 wg.ps wg.res=wg.fn:=by kernel_rfl
theorem ad7:ax Tryz.prog G0 96 ad8:=ad (ai ⟨aq,(ae wb (ae ab5 ab)),am,ab,al⟩ Tryz.func96 rfl (by kernel_rfl))
theorem ajV:TOk ad8 wg:=aw (E:=ad9) (ET:=ajX) (EnvT.ofX (ar (ac abk (ac agV aj))) ak ao aJ an) ajW rfl
def adR:Env:=(eZ [(96,ad8)] [114])
def aju:Hints:=(hZ [] [])
def adQ:PFn:=aA (runF Tryz.prog adR aju Tryz.f95)
def anH:TH:=yZ
def zbb (a0:List UInt8):Option Bool :=
(zb2 a0).bind fun r1 =>
 some (!r1)
def vR:TFn:={ ps:=(.cons .str .unit),res:=.bool,fn:=fun v=>zbb v.1 }
def ajt:TEnv:=(vZ [(96,wg)])
theorem ajs:runY Tryz.prog adR aju ajt anH Tryz.f95 vR.ps vR.res=vR.fn:=by kernel_rfl
theorem adP:ax Tryz.prog G0 95 adQ:=ad (ai ⟨aq,(ae ad7 ab),am,ab,al⟩ Tryz.func95 rfl (by kernel_rfl))
theorem ajr:TOk adQ vR:=aw (E:=adR) (ET:=ajt) (EnvT.ofX (ar (ac ajV aj)) ak ao aJ an) ajs rfl
def ae9:Env:=(eZ [(95,adQ)] [114])
def alz:Hints:=(hZ [(2,[0,1,7,8])] [])
def ae8:PFn:=aA (runF Tryz.prog ae9 alz Tryz.f127)
def aog:TH:={ loops:=[(2,{ keep:=[(8,(.int .i64))],mem:=[] })],ro:=[] }
def oh (a0:List (List UInt8)) (y2:(Int×Unit)):Option ((Int×Unit)⊕Int) :=
 cond (decide (y2.1<(a0.length:Int))) (
(atI a0 y2.1).bind fun x1 =>
(zbb x1).bind fun r2 =>
 cond r2 (
 some (.inr y2.1)) (
 some (.inl ((IntKind.wrap .i64 (y2.1+1)),())))) (
 some (.inr (-1)))
def zab (a0:List (List UInt8)) (a1:Unit):Option Int :=
 aP (oh a0) (0,())
def wH:TFn:={ ps:=(.cons (.sl .str) (.cons (.fn 95) .unit)),res:=(.int .i64),fn:=fun v=>zab v.1 v.2.1 }
def aly:TEnv:=(vZ [(95,vR)])
theorem alx:runY Tryz.prog ae9 alz aly aog Tryz.f127 wH.ps wH.res=wH.fn:=by kernel_rfl
theorem ae7:ax Tryz.prog G0 127 ae8:=ad (ai ⟨aq,(ae adP ab),am,ab,al⟩ Tryz.func127 rfl (by kernel_rfl))
theorem alw:TOk ae8 wH:=aw (E:=ae9) (ET:=aly) (EnvT.ofX (ar (ac ajr aj)) ak ao aJ an) alx rfl
def afc:Env:=(eZ [(127,ae8)] [114])
def alD:Hints:=(hZ [] [])
def afb:PFn:=aA (runF Tryz.prog afc alD Tryz.f94)
def aoh:TH:=yZ
def zaa (a0:List (List UInt8)) (a1:Unit):Option Bool :=
(zab a0 a1).bind fun r1 =>
 some (decide (r1≥0))
def wI:TFn:={ ps:=(.cons (.sl .str) (.cons (.fn 95) .unit)),res:=.bool,fn:=fun v=>zaa v.1 v.2.1 }
def alC:TEnv:=(vZ [(127,wH)])
theorem alB:runY Tryz.prog afc alD alC aoh Tryz.f94 wI.ps wI.res=wI.fn:=by kernel_rfl
theorem afa:ax Tryz.prog G0 94 afb:=ad (ai ⟨aq,(ae ae7 ab),am,ab,al⟩ Tryz.func94 rfl (by kernel_rfl))
theorem alA:TOk afb wI:=aw (E:=afc) (ET:=alC) (EnvT.ofX (ar (ac alw aj)) ak ao aJ an) alB rfl
def aea:Env:=(eZ [(94,afb)] [114])
def aj1:Hints:=(hZ [] [])
def zS:PFn:=aA (runF Tryz.prog aea aj1 Tryz.f66)
def anR:TH:=yZ
def zb1 (a0:List (List UInt8)):Option Int :=
 cond (decide ((a0.length:Int)=0)) (
 some 8) (
 cond (decide ((a0.length:Int)>8)) (
 some 9) (
(zaa a0 ()).bind fun r1 =>
 cond r1 (
 some 8) (
 some 0)))
def tl:TFn:={ ps:=(.cons (.sl .str) .unit),res:=(.int .i64),fn:=fun v=>zb1 v.1 }
def aj0:TEnv:=(vZ [(94,wI)])
theorem ajZ:runY Tryz.prog aea aj1 aj0 anR Tryz.f66 tl.ps tl.res=tl.fn:=by kernel_rfl
theorem wh:ax Tryz.prog G0 66 zS:=ad (ai ⟨aq,(ae afa ab),am,ab,al⟩ Tryz.func66 rfl (by kernel_rfl))
theorem abm:TOk zS tl:=aw (E:=aea) (ET:=aj0) (EnvT.ofX (ar (ac alA aj)) ak ao aJ an) ajZ rfl
def acw:Env:=(eZ [(66,zS),(109,acE)] [114])
def ahz:Hints:=(hZ [] [])
def acv:PFn:=aA (runF Tryz.prog acw ahz Tryz.f77)
def am8:TH:=yZ
def zcj (a0:List UInt8):Option (List (List UInt8)×Int×Unit) :=
(zcg a0).bind fun r1 =>
 cond (!r1.2.1) (some ([],8,())) (cond (decide (a0=[])) (
 some ([],8,())) (
(zb1 r1.1).bind fun r2 =>
 cond (!decide (r2=0)) (
 some ([],r2,())) (
 some (r1.1,0,()))))
def vi:TFn:={ ps:=(.cons .str .unit),res:=(.tup (.cons (.sl .str) tT11)),fn:=fun v=>zcj v.1 }
def ahy:TEnv:=(vZ [(66,tl),(109,vm)])
theorem ahx:runY Tryz.prog acw ahz ahy am8 Tryz.f77 vi.ps vi.res=vi.fn:=by kernel_rfl
theorem acu:ax Tryz.prog G0 77 acv:=ad (ai ⟨aq,(ae wh (ae acD ab)),am,ab,al⟩ Tryz.func77 rfl (by kernel_rfl))
theorem ahw:TOk acv vi:=aw (E:=acw) (ET:=ahy) (EnvT.ofX (ar (ac abm (ac ahI aj))) ak ao aJ an) ahx rfl
def aeA:Env:=(eZ [(44,zN),(45,zZ),(46,tz),(63,z6),(76,adm),(77,acv)] [114])
def akA:Hints:=(hZ [] [])
def aez:PFn:=aA (runF Tryz.prog aeA akA Tryz.f48)
def an0:TH:={ joins:=[(13,{ keep:=[(2,(.bx 0 0)),(4,.str),(5,(.bx 1 0))],mem:=[.box 27 tT14,.box 27 tT14] }),(11,{ keep:=[(2,(.bx 0 0)),(5,(.bx 1 0)),(32,.bool)],mem:=[.box 27 tT14,.box 27 tT14] })],loops:=[],ro:=[] }
def zas (a0:List UInt8):Option vV0 :=
(zbj a0).bind fun r1 =>
(za8).bind fun r2 =>
(zac r2 r1.1).bind fun r3 =>
(cond (decide ((max r3 0)=3)) (
(zbj r1.2.1).bind fun r4 =>
(za2 r4.1).bind fun r5 =>
 some (.inl (r4.2.1,(0,(),(0,0,[],()),0,(),()),((max r3 0),(),(0,0,[],()),r5.1,(),()),()))) (
(cond (decide ((max r3 0)=1)) (
 some (.inl ((decide ((max r3 0)=1)),(0,(),(0,0,[],()),0,(),()),((max r3 0),(),(0,0,[],()),0,(),()),()))) (
 cond (decide ((max r3 0)=2)) (
 some (.inl ((decide ((max r3 0)=2)),(0,(),(0,0,[],()),0,(),()),((max r3 0),(),(0,0,[],()),0,(),()),()))) (
 some (.inl ((decide ((max r3 0)=4)),(0,(),(0,0,[],()),0,(),()),((max r3 0),(),(0,0,[],()),0,(),()),())))):Option ((Bool×(Int×Unit×vV3×Int×Unit×Unit)×(Int×Unit×vV3×Int×Unit×Unit)×Unit)⊕((List UInt8×(Int×Unit×vV3×Int×Unit×Unit)×(Int×Unit×vV3×Int×Unit×Unit)×Unit)⊕vV0))).bind (aE fun v6 =>
 cond v6.1 (
(zbj r1.2.1).bind fun r7 =>
(zbq r7.1).bind fun r8 =>
 some (.inl (r7.2.1,v6.2.1,(v6.2.2.1.1,v6.2.2.1.2.1,r8.1,v6.2.2.1.2.2.2.1,v6.2.2.1.2.2.2.2.1,()),()))) (
 some (.inl (r1.2.1,v6.2.1,v6.2.2.1,()))))):Option ((List UInt8×(Int×Unit×vV3×Int×Unit×Unit)×(Int×Unit×vV3×Int×Unit×Unit)×Unit)⊕vV0)).bind (aE fun v9 =>
(zcj v9.1).bind fun r10 =>
 some (v9.2.2.1.1,r10.1,v9.2.2.1.2.2.1,v9.2.2.1.2.2.2.1,[],()))
def wq:TFn:={ ps:=(.cons .str .unit),res:=tT7,fn:=fun v=>zas v.1 }
def akz:TEnv:=(vZ [(44,th),(45,tt),(46,wS),(63,tu),(76,vE),(77,vi)])
theorem aky:runY Tryz.prog aeA akA akz an0 Tryz.f48 wq.ps wq.res=wq.fn:=by kernel_rfl
theorem aey:ax Tryz.prog G0 48 aez:=ad (ai ⟨aq,(ae vK (ae wG (ae mU (ae wK (ae adl (ae acu ab)))))),am,ab,al⟩ Tryz.func48 rfl (by kernel_rfl))
theorem akx:TOk aez wq:=aw (E:=aeA) (ET:=akz) (EnvT.ofX (ar (ac abh (ac abr (ac rH (ac abs (ac aiI (ac ahw aj))))))) ak ao aJ an) aky rfl
def aeg:Env:=(eZ [] [114])
def aj9:Hints:=(hZ [] [])
def aef:PFn:=aA (runF Tryz.prog aeg aj9 Tryz.f33)
def anT:TH:=yZ
def zaz (a0:Int) (a1:Int) (a2:Int):Option Bool :=
 cond (decide ((IntKind.wrap .i64 ((BitVec.ofInt (IntKind.bits .i64) a2 &&& BitVec.ofInt (IntKind.bits .i64) a1).toNat))=0)) (
 some (decide (a0=0))) (
 cond (decide (a0≥0)) (some (decide (a0≤2147483647))) (some false))
def wj:TFn:={ ps:=(.cons (.int .i64) (.cons (.int .i64) tT11)),res:=.bool,fn:=fun v=>zaz v.1 v.2.1 v.2.2.1 }
def aj8:TEnv:=(vZ [])
theorem aj7:runY Tryz.prog aeg aj9 aj8 anT Tryz.f33 wj.ps wj.res=wj.fn:=by kernel_rfl
theorem aee:ax Tryz.prog G0 33 aef:=ad (ai ⟨aq,ab,am,ab,al⟩ Tryz.func33 rfl (by kernel_rfl))
theorem aj6:TOk aef wj:=aw (E:=aeg) (ET:=aj8) (EnvT.ofX (ar aj) ak ao aJ an) aj7 rfl
def abU:Env:=(eZ [] [114])
def agF:Hints:=(hZ [] [])
def abT:PFn:=aA (runF Tryz.prog abU agF Tryz.f35)
def amT:TH:={ loops:=[],cuts:=[(1,[(9,{ keep:=[(1,(.bx 0 0)),(11,.bool)],mem:=[.same] })])],ro:=[1],news:=[] }
def zcy (a0:vV0):Option Bool :=
(cond (decide (a0.1=0)) (some ((decide ((a0.2.1.length:Int)=0)),())) (some (false,())):Option (Bool×Unit)).bind fun v1 =>
 cond v1.1 (cond (eqV tT9 a0.2.2.1 (0,0,[],())) (cond (decide (a0.2.2.2.1=0)) (some (decide ((a0.2.2.2.2.1.length:Int)=0))) (some false)) (some false)) (some false)
def uU:TFn:={ ps:=(.cons tT7 .unit),res:=.bool,fn:=fun v=>zcy v.1 }
def agE:TEnv:=(vZ [])
theorem agD:runY Tryz.prog abU agF agE amT Tryz.f35 uU.ps uU.res=uU.fn:=by kernel_rfl
theorem abS:ax Tryz.prog G0 35 abT:=ad (ai ⟨aq,ab,am,ab,al⟩ Tryz.func35 rfl (by kernel_rfl))
theorem agC:TOk abT uU:=aw (E:=abU) (ET:=agE) (EnvT.ofX (ar aj) ak ao aJ an) agD rfl
def acf:Env:=(eZ [(97,zI)] [114])
def ag9:Hints:=(hZ [] [])
def ace:PFn:=aA (runF Tryz.prog acf ag9 Tryz.f67)
def am1:TH:={ loops:=[],ro:=[1] }
def zcq (a0:vV0):Option Bool :=
 cond (decide (a0.1=3)) (some (eqV tT9 a0.2.2.1 (0,0,[],()))) (cond (decide (a0.1=5)) (
 some (eqV tT9 a0.2.2.1 (0,0,[],()))) (
(zbt a0.2.2.1).bind fun r1 =>
 some r1))
def va:TFn:={ ps:=(.cons tT7 .unit),res:=.bool,fn:=fun v=>zcq v.1 }
def ag8:TEnv:=(vZ [(97,tc)])
theorem ag7:runY Tryz.prog acf ag9 ag8 am1 Tryz.f67 va.ps va.res=va.fn:=by kernel_rfl
theorem acd:ax Tryz.prog G0 67 ace:=ad (ai ⟨aq,(ae vC ab),am,ab,al⟩ Tryz.func67 rfl (by kernel_rfl))
theorem ag6:TOk ace va:=aw (E:=acf) (ET:=ag8) (EnvT.ofX (ar (ac abe aj)) ak ao aJ an) ag7 rfl
def acj:Env:=(eZ [] [114])
def ahg:Hints:=(hZ [] [])
def aci:PFn:=aA (runF Tryz.prog acj ahg Tryz.f68)
def am3:TH:={ loops:=[],ro:=[1] }
def zco (a0:vV0):Option Bool :=
 cond (decide (a0.1=3)) (
 cond (!decide (a0.2.2.2.1=0)) (cond (decide (a0.2.2.2.1≥(-2147483647))) (some (decide (a0.2.2.2.1≤2147483647))) (some false)) (some false)) (
 some (decide (a0.2.2.2.1=0)))
def vd:TFn:={ ps:=(.cons tT7 .unit),res:=.bool,fn:=fun v=>zco v.1 }
def ahf:TEnv:=(vZ [])
theorem ahe:runY Tryz.prog acj ahg ahf am3 Tryz.f68 vd.ps vd.res=vd.fn:=by kernel_rfl
theorem ach:ax Tryz.prog G0 68 aci:=ad (ai ⟨aq,ab,am,ab,al⟩ Tryz.func68 rfl (by kernel_rfl))
theorem ahd:TOk aci vd:=aw (E:=acj) (ET:=ahf) (EnvT.ofX (ar aj) ak ao aJ an) ahe rfl
def afw:Env:=(eZ [] [114])
def al7:Hints:=(hZ [] [])
def afv:PFn:=aA (runF Tryz.prog afw al7 Tryz.f150)
def aor:TH:=yZ
def za0 (a0:Int):Option Bool :=
 some (!decide (a0=a0))
def wU:TFn:={ ps:=tT11,res:=.bool,fn:=fun v=>za0 v.1 }
def al6:TEnv:=(vZ [])
theorem al5:runY Tryz.prog afw al7 al6 aor Tryz.f150 wU.ps wU.res=wU.fn:=by kernel_rfl
theorem afu:ax Tryz.prog G0 150 afv:=ad (ai ⟨aq,ab,am,ab,al⟩ Tryz.func150 rfl (by kernel_rfl))
theorem al4:TOk afv wU:=aw (E:=afw) (ET:=al6) (EnvT.ofX (ar aj) ak ao aJ an) al5 rfl
def aer:Env:=(eZ [(150,afv)] [114])
def ako:Hints:=(hZ [] [])
def zT:PFn:=aA (runF Tryz.prog aer ako Tryz.f132)
def anX:TH:=yZ
def zav (a0:Int) (a1:Int):Option Int :=
(za0 a0).bind fun r1 =>
(za0 a1).bind fun r2 =>
 cond r1 (
 cond r2 (
 some 0) (
 some (-1))) (
 cond r2 (
 some 1) (
 cond (decide (a0<a1)) (
 some (-1)) (
 cond (decide (a0>a1)) (
 some 1) (
 some 0))))
def tm:TFn:={ ps:=(.cons (.int .i64) tT11),res:=(.int .i64),fn:=fun v=>zav v.1 v.2.1 }
def akn:TEnv:=(vZ [(150,wU)])
theorem akm:runY Tryz.prog aer ako akn anX Tryz.f132 tm.ps tm.res=tm.fn:=by kernel_rfl
theorem wn:ax Tryz.prog G0 132 zT:=ad (ai ⟨aq,(ae afu ab),am,ab,al⟩ Tryz.func132 rfl (by kernel_rfl))
theorem abn:TOk zT tm:=aw (E:=aer) (ET:=akn) (EnvT.ofX (ar (ac al4 aj)) ak ao aJ an) akm rfl
def acq:Env:=(eZ [] [114])
def ahr:Hints:=(hZ [(3,[3,6,7,8])] [])
def zG:PFn:=aA (runF Tryz.prog acq ahr Tryz.f130)
def am6:TH:={ loops:=[(3,{ keep:=[(8,(.int .i64))],mem:=[] })],ro:=[] }
def iV (a0:List Int) (y3:(Int×Unit)):Option ((Int×Unit)⊕Int) :=
 cond (decide (y3.1<(a0.length:Int))) (
(atI a0 y3.1).bind fun x1 =>
 cond (!decide (x1=0)) (
 some (.inr x1)) (
 some (.inl ((IntKind.wrap .i64 (y3.1+1)),())))) (
 some (.inr 0))
def zcl (a0:List Int):Option Int :=
 aP (iV a0) (0,())
def ta:TFn:={ ps:=(.cons (.sl (.int .i64)) .unit),res:=(.int .i64),fn:=fun v=>zcl v.1 }
def ahq:TEnv:=(vZ [])
theorem ahp:runY Tryz.prog acq ahr ahq am6 Tryz.f130 ta.ps ta.res=ta.fn:=by kernel_rfl
theorem vg:ax Tryz.prog G0 130 zG:=ad (ai ⟨aq,ab,am,ab,al⟩ Tryz.func130 rfl (by kernel_rfl))
theorem abc:TOk zG ta:=aw (E:=acq) (ET:=ahq) (EnvT.ofX (ar aj) ak ao aJ an) ahp rfl
def adk:Env:=(eZ [(130,zG),(132,zT)] [114])
def aiH:Hints:=(hZ [] [])
def adj:PFn:=aA (runF Tryz.prog adk aiH Tryz.f131)
def anr:TH:={ loops:=[],ro:=[2,3] }
def zbr (a0:(Int×Int×Unit)) (a1:(Int×Int×Unit)):Option Int :=
(zav a0.1 a1.1).bind fun r1 =>
(zav a0.2.1 a1.2.1).bind fun r2 =>
(zcl ([r1,r2]:List Int)).bind fun r3 =>
 some r3
def vD:TFn:={ ps:=(.cons tT10 (.cons tT10 .unit)),res:=(.int .i64),fn:=fun v=>zbr v.1 v.2.1 }
def aiG:TEnv:={ pure:=[(130,ta),(132,tm)],look:=[],glob:=G0T,ty:=[(3,(.int .i64))],raw:=[],fresh:=[] }
theorem aiF:runY Tryz.prog adk aiH aiG anr Tryz.f131 vD.ps vD.res=vD.fn:=by kernel_rfl
theorem adi:ax Tryz.prog G0 131 adj:=ad (ai ⟨aq,(ae vg (ae wn ab)),am,ab,al⟩ Tryz.func131 rfl (by kernel_rfl))
theorem aiE:TOk adj vD:=aw (E:=adk) (ET:=aiG) (EnvT.ofX (ar (ac abc (ac abn aj))) ak ao aJ an) aiF rfl
def ab0:Env:=(eZ [(130,zG),(131,adj),(132,zT)] [114])
def agN:Hints:=(hZ [] [])
def abZ:PFn:=aA (runF Tryz.prog ab0 agN Tryz.f98)
def amV:TH:={ loops:=[],ro:=[2,3] }
def zcw (a0:vV5) (a1:vV5):Option Int :=
(zbr a0.1 a1.1).bind fun r1 =>
(zav a0.2.1 a1.2.1).bind fun r2 =>
(zcl ([r1,r2]:List Int)).bind fun r3 =>
 some r3
def uW:TFn:={ ps:=(.cons (.agg (.cons tT10 tT11)) (.cons (.agg (.cons tT10 tT11)) .unit)),res:=(.int .i64),fn:=fun v=>zcw v.1 v.2.1 }
def agM:TEnv:={ pure:=[(130,ta),(131,vD),(132,tm)],look:=[],glob:=G0T,ty:=[(3,(.int .i64))],raw:=[],fresh:=[] }
theorem agL:runY Tryz.prog ab0 agN agM amV Tryz.f98 uW.ps uW.res=uW.fn:=by kernel_rfl
theorem abY:ax Tryz.prog G0 98 abZ:=ad (ai ⟨aq,(ae vg (ae adi (ae wn ab))),am,ab,al⟩ Tryz.func98 rfl (by kernel_rfl))
theorem agK:TOk abZ uW:=aw (E:=ab0) (ET:=agM) (EnvT.ofX (ar (ac abc (ac aiE (ac abn aj)))) ak ao aJ an) agL rfl
def abX:Env:=(eZ [(34,u9),(98,abZ)] [114])
def agJ:Hints:=(hZ [(2,[0,5,6,7])] [])
def abW:PFn:=aA (runF Tryz.prog abX agJ Tryz.f69)
def amU:TH:={ loops:=[(2,{ keep:=[(7,(.int .i64))],mem:=[] })],cuts:=[(4,[(9,{ keep:=[(4,(.bx 0 0)),(20,.bool)],mem:=[.box 120 (.agg (.cons tT10 tT11))] }),(5,{ keep:=[(4,(.bx 0 0)),(25,.bool)],mem:=[.box 120 (.agg (.cons tT10 tT11))] })])],ro:=[],news:=[] }
def iU (a0:List vV5) (y2:(Int×Unit)):Option ((Int×Unit)⊕Bool) :=
 cond (decide (y2.1<(a0.length:Int))) (
(atI a0 y2.1).bind fun x1 =>
((zcr x1.1).bind fun r2 =>
 cond (!r2) (some (true,x1,())) (some ((decide (x1.2.1<0)),x1,())):Option (Bool×vV5×Unit)).bind fun v3 =>
(cond v3.1 (some (true,v3.2.1,())) (some ((decide (v3.2.1.2.1≥16)),v3.2.1,())):Option (Bool×vV5×Unit)).bind fun v4 =>
 cond v4.1 (some (.inr false)) (cond (decide (y2.1>0)) ((atI a0 (IntKind.wrap .i64 (y2.1-1))).bind fun x5 =>
(zcw x5 v4.2.1).bind fun r6 =>
 cond (decide (r6≥0)) (
 some (.inr false)) (
 some (.inl ((IntKind.wrap .i64 (y2.1+1)),())))) (some (.inl ((IntKind.wrap .i64 (y2.1+1)),()))))) (
 some (.inr true))
def zcx (a0:List vV5):Option Bool :=
 aP (iU a0) (0,())
def uV:TFn:={ ps:=(.cons (.sl (.agg (.cons tT10 tT11))) .unit),res:=.bool,fn:=fun v=>zcx v.1 }
def agI:TEnv:=(vZ [(34,pU),(98,uW)])
theorem agH:runY Tryz.prog abX agJ agI amU Tryz.f69 uV.ps uV.res=uV.fn:=by kernel_rfl
theorem abV:ax Tryz.prog G0 69 abW:=ad (ai ⟨aq,(ae pV (ae abY ab)),am,ab,al⟩ Tryz.func69 rfl (by kernel_rfl))
theorem agG:TOk abW uV:=aw (E:=abX) (ET:=agI) (EnvT.ofX (ar (ac u6 (ac agK aj))) ak ao aJ an) agH rfl
def ab3:Env:=(eZ [(66,zS),(67,ace),(68,aci),(69,abW)] [114])
def agR:Hints:=(hZ [] [])
def ab2:PFn:=aA (runF Tryz.prog ab3 agR Tryz.f36)
def amW:TH:={ joins:=[(10,{ keep:=[(1,(.bx 0 0)),(32,.bool)],mem:=[.same] })],loops:=[],cuts:=[(6,[(8,{ keep:=[(1,(.bx 0 0)),(26,.bool)],mem:=[.same] }),(5,{ keep:=[(1,(.bx 0 0)),(31,.bool)],mem:=[.same] })]),(9,[(8,{ keep:=[(1,(.bx 0 0)),(46,.bool)],mem:=[.same] })])],ro:=[1],news:=[] }
def zcv (a0:vV0):Option Int :=
 cond (decide (a0.1<1)) (some 18) (cond (decide (a0.1>5)) (
 some 18) (
(zb1 a0.2.1).bind fun r1 =>
 cond (!decide (r1=0)) (
 some r1) (
(cond (decide (a0.1=1)) (some (true,())) (some ((decide (a0.1=4)),())):Option (Bool×Unit)).bind fun v2 =>
(cond v2.1 (some (true,())) (some ((decide (a0.1=5)),())):Option (Bool×Unit)).bind fun v3 =>
((zcq a0).bind fun r4 =>
 cond (!r4) (
 some (.inl ((!r4),()))) (
(zco a0).bind fun r5 =>
 cond (!r5) (
 some (.inl ((!r5),()))) (
(cond (!v3.1) (some ((decide ((a0.2.2.2.2.1.length:Int)>0)),())) (some (false,())):Option (Bool×Unit)).bind fun v6 =>
 some (.inl (v6.1,())))):Option ((Bool×Unit)⊕Int)).bind (aE fun v7 =>
 cond v7.1 (
 some 2) (
 cond (decide ((a0.2.2.2.2.1.length:Int)>256)) (
 some 7) (
(zcx a0.2.2.2.2.1).bind fun r8 =>
 cond (!r8) (
 some 2) (
 some 0)))))))
def uX:TFn:={ ps:=(.cons tT7 .unit),res:=(.int .i64),fn:=fun v=>zcv v.1 }
def agQ:TEnv:=(vZ [(66,tl),(67,va),(68,vd),(69,uV)])
theorem agP:runY Tryz.prog ab3 agR agQ amW Tryz.f36 uX.ps uX.res=uX.fn:=by kernel_rfl
theorem ab1:ax Tryz.prog G0 36 ab2:=ad (ai ⟨aq,(ae wh (ae acd (ae ach (ae abV ab)))),am,ab,al⟩ Tryz.func36 rfl (by kernel_rfl))
theorem agO:TOk ab2 uX:=aw (E:=ab3) (ET:=agQ) (EnvT.ofX (ar (ac abm (ac ag6 (ac ahd (ac agG aj))))) ak ao aJ an) agP rfl
def aem:Env:=(eZ [(99,zU)] [114])
def akh:Hints:=(hZ [] [])
def ael:PFn:=aA (runF Tryz.prog aem akh Tryz.f70)
def anV:TH:=yZ
def zax (a0:List UInt8) (a1:List UInt8):Option Int :=
(zap a0 a1).bind fun r1 =>
 some r1
def wl:TFn:={ ps:=(.cons .str (.cons .str .unit)),res:=(.int .i64),fn:=fun v=>zax v.1 v.2.1 }
def akg:TEnv:=(vZ [(99,to)])
theorem akf:runY Tryz.prog aem akh akg anV Tryz.f70 wl.ps wl.res=wl.fn:=by kernel_rfl
theorem aek:ax Tryz.prog G0 70 ael:=ad (ai ⟨aq,(ae wu ab),am,ab,al⟩ Tryz.func70 rfl (by kernel_rfl))
theorem ake:TOk ael wl:=aw (E:=aem) (ET:=akg) (EnvT.ofX (ar (ac abo aj)) ak ao aJ an) akf rfl
def aex:Env:=(eZ [(70,ael)] [114])
def akw:Hints:=(hZ [] [])
def aew:PFn:=aA (runF Tryz.prog aex akw Tryz.f37)
def anZ:TH:=yZ
def zat (a0:List UInt8) (a1:List UInt8):Option Bool :=
(zax a0 a1).bind fun r1 =>
 some (decide (r1≥0))
def wo:TFn:={ ps:=(.cons .str (.cons .str .unit)),res:=.bool,fn:=fun v=>zat v.1 v.2.1 }
def akv:TEnv:=(vZ [(70,wl)])
theorem aku:runY Tryz.prog aex akw akv anZ Tryz.f37 wo.ps wo.res=wo.fn:=by kernel_rfl
theorem aev:ax Tryz.prog G0 37 aew:=ad (ai ⟨aq,(ae aek ab),am,ab,al⟩ Tryz.func37 rfl (by kernel_rfl))
theorem akt:TOk aew wo:=aw (E:=aex) (ET:=akv) (EnvT.ofX (ar (ac ake aj)) ak ao aJ an) aku rfl
def afk:Env:=(eZ [(28,vT),(33,aef),(34,u9),(35,abT),(36,ab2),(37,aew)] [114])
def alR:Hints:=(hZ [] [])
def z8:PFn:=aA (runF Tryz.prog afk alR Tryz.f11)
def aom:TH:={ joins:=[(8,{ keep:=[(1,(.bx 0 0))],mem:=[.same] })],loops:=[],ro:=[1] }
def za5 (a0:vV2):Option Bool :=
 cond (decide (a0.1<1)) (some false) (cond (decide (a0.1>19)) (
 some false) (
(zba a0.1).bind fun r1 =>
(zaz a0.2.1 1 r1).bind fun r2 =>
 cond (!r2) (some false) ((zaz a0.2.2.1 2 r1).bind fun r3 =>
 cond (!r3) (some false) ((zaz a0.2.2.2.1 4 r1).bind fun r4 =>
 cond (!r4) (
 some false) (
(cond (decide ((IntKind.wrap .i64 ((BitVec.ofInt (IntKind.bits .i64) r1 &&& BitVec.ofInt (IntKind.bits .i64) 8).toNat))=0)) (cond (!(eqV tT10 a0.2.2.2.2.2.1 (0,0,()))) (some (.inr false)) (cond (!decide ((IntKind.wrap .i64 ((BitVec.ofInt (IntKind.bits .i64) r1 &&& BitVec.ofInt (IntKind.bits .i64) 8).toNat))=0)) ((zcr a0.2.2.2.2.2.1).bind fun r5 =>
 cond (!r5) (
 some (.inr false)) (
 some (.inl ()))) (some (.inl ())))) (cond (!decide ((IntKind.wrap .i64 ((BitVec.ofInt (IntKind.bits .i64) r1 &&& BitVec.ofInt (IntKind.bits .i64) 8).toNat))=0)) ((zcr a0.2.2.2.2.2.1).bind fun r6 =>
 cond (!r6) (
 some (.inr false)) (
 some (.inl ()))) (some (.inl ()))):Option (Unit⊕Bool)).bind (aE fun v7 =>
 cond (decide ((IntKind.wrap .i64 ((BitVec.ofInt (IntKind.bits .i64) r1 &&& BitVec.ofInt (IntKind.bits .i64) 16).toNat))=0)) (
(zcy a0.2.2.2.2.1).bind fun r8 =>
 some r8) (
(zcv a0.2.2.2.2.1).bind fun r9 =>
 cond (decide (r9=0)) (cond (decide ((a0.2.2.2.2.1.2.2.2.2.1.length:Int)=0)) ((zat a0.2.2.2.2.1.2.2.1.2.2.1 [10]).bind fun r10 =>
 some (!r10)) (some false)) (some false))))))))
def tx:TFn:={ ps:=(.cons tT6 .unit),res:=.bool,fn:=fun v=>za5 v.1 }
def alQ:TEnv:=(vZ [(28,pZ),(33,wj),(34,pU),(35,uU),(36,uX),(37,wo)])
theorem alP:runY Tryz.prog afk alR alQ aom Tryz.f11 tx.ps tx.res=tx.fn:=by kernel_rfl
theorem wP:ax Tryz.prog G0 11 z8:=ad (ai ⟨aq,(ae p3 (ae aee (ae pV (ae abS (ae ab1 (ae aev ab)))))),am,ab,al⟩ Tryz.func11 rfl (by kernel_rfl))
theorem abu:TOk z8 tx:=aw (E:=afk) (ET:=alQ) (EnvT.ofX (ar (ac vS (ac aj6 (ac u6 (ac agC (ac agO (ac akt aj))))))) ak ao aJ an) alP rfl
def acX:Env:={ pure:=[],raw:=[(58,wC),(123,wF)],glob:=G0,same:=[114],look:=[],ext:=[] }
def ah9:Hints:=(hZ [(3,[0,3,6,7])] [])
def acW:PFn:=aA (runF Tryz.prog acX ah9 Tryz.f92)
def ani:TH:={ joins:=[(7,{ keep:=[(3,(.bx 1 0))],mem:=[.row true 5 (.int .u8),.box 103 tT12] })],loops:=[(3,{ keep:=[(3,(.bx 1 0)),(7,(.int .i64))],mem:=[.row true 5 (.int .u8),.box 103 tT12] })],cuts:=[],ro:=[],news:=[(3,(tT12,[(5,(.int .u8))]))] }
def lw (a0:List UInt8) (y3:(Int×List Int×vV4×Unit)):Option ((Int×List Int×vV4×Unit)⊕List UInt8) :=
 cond (decide (y3.1<(a0.length:Int))) (
((atI a0 y3.1).bind fun b1 =>
 cond (decide ((b1.toNat:Int)=47)) ((zae 92 (y3.2.2.1.1,(),()) y3.2.1).bind fun q2 =>
 some (.inl (q2.2.2.1,q2.2.1,()))) ((atI a0 y3.1).bind fun b3 =>
 cond (decide ((b3.toNat:Int)=92)) (
(zae 92 (y3.2.2.1.1,(),()) y3.2.1).bind fun q4 =>
 some (.inl (q4.2.2.1,q4.2.1,()))) (
 some (.inl (y3.2.1,y3.2.2.1,())))):Option ((List Int×vV4×Unit)⊕((Int×List Int×vV4×Unit)⊕List UInt8))).bind (aE fun v5 =>
(atI a0 y3.1).bind fun b6 =>
(zae (b6.toNat:Int) (v5.2.1.1,(),()) v5.1).bind fun q7 =>
 some (.inl ((IntKind.wrap .i64 (y3.1+1)),q7.2.2.1,q7.2.1,())))) (
((zai (y3.2.2.1.1,(),()) y3.2.1).bind fun q8 =>
 some q8.1).map .inr)
def zca (a0:List UInt8):Option (List UInt8) :=
 aP (lw a0) (0,[],(false,(),()),())
def vu:TFn:={ ps:=(.cons .str .unit),res:=.str,fn:=fun v=>zca v.1 }
def ah8:TEnv:={ pure:=[],look:=[],glob:=G0T,ty:=[],raw:=[(58,mS),(123,mT)],fresh:=[] }
theorem ah7:runY Tryz.prog acX ah9 ah8 ani Tryz.f92 vu.ps vu.res=vu.fn:=by kernel_rfl
theorem acV:ax Tryz.prog G0 92 acW:=ad (ai ⟨aq,ab,(ca p7 (ca qa am)),ab,al⟩ Tryz.func92 rfl (by kernel_rfl))
theorem ah6:TOk acW vu:=aw (E:=acX) (ET:=ah8) (EnvT.ofX (ar aj) ak (b7 wB rfl rfl (b7 wE rfl rfl ao)) aJ an) ah7 rfl
def adO:PFn:=yp
theorem adN:ax Tryz.prog G0 93 adO:=ut ⟨Tryz.f93,Tryz.func93,rfl,by kernel_rfl⟩ Tryz.strings_Join_none Tryz.strings_Join
def zbc (a0:List (List UInt8)) (a1:List UInt8):Option (List UInt8):=aaM a0 a1
def ajq:TFn:=nG
theorem ajp:TOk adO ajq:=aaL
def acm:Env:={ pure:=[(92,acW)],raw:=[],glob:=G0,same:=[114],look:=[(93,adO)],ext:=[] }
def ahk:Hints:=(hZ [(3,[3,6,7,8])] [])
def acl:PFn:=aA (runF Tryz.prog acm ahk Tryz.f65)
def am4:TH:={ loops:=[(3,{ keep:=[(3,(.own 0)),(8,(.int .i64))],mem:=[.row true 9 .str] })],ro:=[] }
def rv (a0:List (List UInt8)) (y3:(Int×List (List UInt8)×Unit)):Option ((Int×List (List UInt8)×Unit)⊕List UInt8) :=
 cond (decide (y3.1<(a0.length:Int))) (
(atI a0 y3.1).bind fun x1 =>
(zca x1).bind fun r2 =>
(fa (y3.2.1.length+([r2]:List (List UInt8)).length)).bind fun u3 =>
 some (.inl ((IntKind.wrap .i64 (y3.1+1)),(y3.2.1++([r2]:List (List UInt8))),()))) (
((zbc y3.2.1 [47]).bind fun r4 =>
 some r4).map .inr)
def zcn (a0:List (List UInt8)):Option (List UInt8) :=
 aP (rv a0) (0,[],())
def ve:TFn:={ ps:=(.cons (.sl .str) .unit),res:=.str,fn:=fun v=>zcn v.1 }
def ahj:TEnv:={ pure:=[(92,vu)],look:=[(93,ajq)],glob:=G0T,ty:=[(9,.str)],raw:=[],fresh:=[] }
theorem ahi:runY Tryz.prog acm ahk ahj am4 Tryz.f65 ve.ps ve.res=ve.fn:=by kernel_rfl
theorem ack:ax Tryz.prog G0 65 acl:=ad (ai ⟨aq,(ae acV ab),am,(ae adN ab),al⟩ Tryz.func65 rfl (by kernel_rfl))
theorem ahh:TOk acl ve:=aw (E:=acm) (ET:=ahj) (EnvT.ofX (ar (ac ah6 aj)) (uo ajp rfl ak) ao aJ an) ahi rfl
def afn:Env:=(eZ [(30,pY),(63,z6),(64,vY),(65,acl)] [114])
def alV:Hints:=(hZ [] [])
def afm:PFn:=aA (runF Tryz.prog afn alV Tryz.f32)
def aon:TH:={ joins:=[(9,{ keep:=[(1,(.bx 0 0)),(3,.str)],mem:=[.same] }),(8,{ keep:=[(1,(.bx 0 0)),(20,.bool)],mem:=[.same] })],loops:=[],ro:=[1] }
def za4 (a0:vV0):Option (List UInt8) :=
(za8).bind fun r1 =>
(atI r1 a0.1).bind fun x2 =>
(catT x2 [32]).bind fun s3 =>
(cond (decide (a0.1=3)) (
(zbe a0.2.2.2.1).bind fun r4 =>
(catT r4 [32]).bind fun s5 =>
(catT s3 s5).bind fun s6 =>
 some (.inl (s6,()))) (
(cond (decide (a0.1=1)) (
 some (.inl ((decide (a0.1=1)),()))) (
 cond (decide (a0.1=2)) (
 some (.inl ((decide (a0.1=2)),()))) (
 some (.inl ((decide (a0.1=4)),())))):Option ((Bool×Unit)⊕((List UInt8×Unit)⊕List UInt8))).bind (aE fun v7 =>
 cond v7.1 (
(zb7 a0.2.2.1).bind fun r8 =>
(catT r8 [32]).bind fun s9 =>
(catT s3 s9).bind fun s10 =>
 some (.inl (s10,()))) (
 some (.inl (s3,()))))):Option ((List UInt8×Unit)⊕List UInt8)).bind (aE fun v11 =>
(zcn a0.2.1).bind fun r12 =>
(catT v11.1 r12).bind fun s13 =>
 some s13)
def wQ:TFn:={ ps:=(.cons tT7 .unit),res:=.str,fn:=fun v=>za4 v.1 }
def alU:TEnv:=(vZ [(30,zO),(63,tu),(64,vW),(65,ve)])
theorem alT:runY Tryz.prog afn alV alU aon Tryz.f32 wQ.ps wQ.res=wQ.fn:=by kernel_rfl
theorem afl:ax Tryz.prog G0 32 afm:=ad (ai ⟨aq,(ae mR (ae wK (ae vX (ae ack ab)))),am,ab,al⟩ Tryz.func32 rfl (by kernel_rfl))
theorem alS:TOk afm wQ:=aw (E:=afn) (ET:=alU) (EnvT.ofX (ar (ac rC (ac abs (ac abj (ac ahh aj))))) ak ao aJ an) alT rfl
def adL:Env:=(eZ [(11,z8),(28,vT),(29,z7),(30,pY),(31,zE),(32,afm)] [114])
def ajl:Hints:=(hZ [(6,[1,3,4,27,28,29])] [])
def vP:PFn:=aA (runF Tryz.prog adL ajl Tryz.f10)
def anF:TH:={ joins:=[(11,{ keep:=[(1,(.bx 0 0)),(4,.str)],mem:=[.same] }),(13,{ keep:=[(1,(.bx 0 0)),(4,.str)],mem:=[.same] })],loops:=[(6,{ keep:=[(1,(.bx 0 0)),(4,.str),(29,(.int .i64))],mem:=[.same] })],ro:=[1] }
def lD (a0:vV2) (r2:Int) (y6:(List UInt8×Int×Unit)):Option ((List UInt8×Int×Unit)⊕((List UInt8×Unit)⊕List UInt8)) :=
 cond (decide (y6.2.1<(([(1,a0.2.1,()),(4,a0.2.2.2.1,()),(2,a0.2.2.1,())]:List (Int×Int×Unit)).length:Int))) (
(atI ([(1,a0.2.1,()),(4,a0.2.2.2.1,()),(2,a0.2.2.1,())]:List (Int×Int×Unit)) y6.2.1).bind fun x5 =>
 cond (!decide ((IntKind.wrap .i64 ((BitVec.ofInt (IntKind.bits .i64) r2 &&& BitVec.ofInt (IntKind.bits .i64) x5.1).toNat))=0)) (
(zbe x5.2.1).bind fun r6 =>
(catT [32] r6).bind fun s7 =>
(catT y6.1 s7).bind fun s8 =>
 some (.inl (s8,(IntKind.wrap .i64 (y6.2.1+1)),()))) (
 some (.inl (y6.1,(IntKind.wrap .i64 (y6.2.1+1)),())))) (
 some (.inr (.inl (y6.1,()))))
def zbf (a0:vV2):Option (List UInt8) :=
(za5 a0).bind fun r1 =>
 cond (!r1) (
 some []) (
(zba a0.1).bind fun r2 =>
(za7).bind fun r3 =>
(atI r3 a0.1).bind fun x4 =>
(aP (lD a0 r2) (x4,0,()):Option ((List UInt8×Unit)⊕List UInt8)).bind (aE fun v9 =>
(cond (!decide ((IntKind.wrap .i64 ((BitVec.ofInt (IntKind.bits .i64) r2 &&& BitVec.ofInt (IntKind.bits .i64) 8).toNat))=0)) (
(zcu a0.2.2.2.2.2.1).bind fun r10 =>
(catT [32] r10).bind fun s11 =>
(catT v9.1 s11).bind fun s12 =>
 some (.inl (s12,()))) (
 some (.inl (v9.1,()))):Option ((List UInt8×Unit)⊕List UInt8)).bind (aE fun v13 =>
 cond (!decide ((IntKind.wrap .i64 ((BitVec.ofInt (IntKind.bits .i64) r2 &&& BitVec.ofInt (IntKind.bits .i64) 16).toNat))=0)) (
(za4 a0.2.2.2.2.1).bind fun r14 =>
(catT [32] r14).bind fun s15 =>
(catT v13.1 s15).bind fun s16 =>
 some s16) (
 some v13.1))))
def pW:TFn:={ ps:=(.cons tT6 .unit),res:=.str,fn:=fun v=>zbf v.1 }
def ajk:TEnv:={ pure:=[(11,tx),(28,pZ),(29,tw),(30,zO),(31,sY),(32,wQ)],look:=[],glob:=G0T,ty:=[(62,tT10)],raw:=[],fresh:=[] }
theorem ajj:runY Tryz.prog adL ajl ajk anF Tryz.f10 pW.ps pW.res=pW.fn:=by kernel_rfl
theorem pX:ax Tryz.prog G0 10 vP:=ad (ai ⟨aq,(ae wP (ae p3 (ae wL (ae mR (ae uY (ae afl ab)))))),am,ab,al⟩ Tryz.func10 rfl (by kernel_rfl))
theorem vO:TOk vP pW:=aw (E:=adL) (ET:=ajk) (EnvT.ofX (ar (ac abu (ac vS (ac abt (ac rC (ac aba (ac alS aj))))))) ak ao aJ an) ajj rfl
def adM:Env:=(eZ [(10,vP),(28,vT),(29,z7),(44,zN),(45,zZ),(46,tz),(47,ab9),(48,aez)] [114])
def ajo:Hints:=(hZ [(5,[0,2,5,6,7,30,31,32])] [])
def zP:PFn:=aA (runF Tryz.prog adM ajo Tryz.f13)
def anG:TH:={ joins:=[(12,{ keep:=[(2,(.bx 0 0)),(5,.str),(6,(.bx 1 0))],mem:=[.box 34 tT8,.box 34 tT8] }),(14,{ keep:=[(2,(.bx 0 0)),(6,(.bx 1 0))],mem:=[.box 34 tT8,.box 34 tT8] }),(16,{ keep:=[(2,(.bx 0 0)),(6,(.bx 1 0))],mem:=[.box 34 tT8,.box 34 tT6] })],loops:=[(5,{ keep:=[(2,(.bx 0 0)),(5,.str),(6,(.bx 1 0)),(30,(.sl (.agg (.cons (.int .i64) (.cons (.ba 1 0 1 4) .unit))))),(32,(.int .i64))],mem:=[.box 34 tT8,.box 34 tT8] })],ro:=[] }
def eg (r4:Int) (y5:(List UInt8×List (Int×Nat×Unit)×Int×vV1×vV1×Unit)):Option ((List UInt8×List (Int×Nat×Unit)×Int×vV1×vV1×Unit)⊕((List UInt8×vV1×vV1×Unit)⊕(vV2×Int×Unit))) :=
 cond (decide (y5.2.2.1<(([(1,1,()),(4,3,()),(2,2,())]:List (Int×Nat×Unit)).length:Int))) (
(atI y5.2.1 y5.2.2.1).bind fun x5 =>
 cond (!decide ((IntKind.wrap .i64 ((BitVec.ofInt (IntKind.bits .i64) r4 &&& BitVec.ofInt (IntKind.bits .i64) x5.1).toNat))=0)) (
(zbj y5.1).bind fun r6 =>
(za2 r6.1).bind fun r7 =>
(putI .i64 tT8 y5.2.2.2.2.1 (0+x5.2.1*1) r7.1).bind fun x8 =>
 some (.inl (r6.2.1,y5.2.1,(IntKind.wrap .i64 (y5.2.2.1+1)),y5.2.2.2.1,x8,()))) (
 some (.inl (y5.1,y5.2.1,(IntKind.wrap .i64 (y5.2.2.1+1)),y5.2.2.2.1,y5.2.2.2.2.1,())))) (
 some (.inr (.inl (y5.1,y5.2.2.2.1,y5.2.2.2.2.1,()))))
def zbd (a0:List UInt8):Option (vV2×Int×Unit) :=
(zbj a0).bind fun r1 =>
(za7).bind fun r2 =>
(zac r2 r1.1).bind fun r3 =>
(zba (max r3 0)).bind fun r4 =>
(aP (eg r4) (r1.2.1,([(1,1,()),(4,3,()),(2,2,())]:List (Int×Nat×Unit)),0,(0,0,0,0,(0,(),(0,0,[],()),0,(),()),(0,0,()),()),((max r3 0),0,0,0,(0,(),(0,0,[],()),0,(),()),(0,0,()),()),()):Option ((List UInt8×vV1×vV1×Unit)⊕(vV2×Int×Unit))).bind (aE fun v9 =>
(cond (!decide ((IntKind.wrap .i64 ((BitVec.ofInt (IntKind.bits .i64) r4 &&& BitVec.ofInt (IntKind.bits .i64) 8).toNat))=0)) (
(zcs v9.1).bind fun r10 =>
 some (.inl (v9.2.1,(v9.2.2.1.1,v9.2.2.1.2.1,v9.2.2.1.2.2.1,v9.2.2.1.2.2.2.1,v9.2.2.1.2.2.2.2.1,r10.1,()),()))) (
 some (.inl (v9.2.1,v9.2.2.1,()))):Option ((vV1×vV1×Unit)⊕(vV2×Int×Unit))).bind (aE fun v11 =>
(cond (!decide ((IntKind.wrap .i64 ((BitVec.ofInt (IntKind.bits .i64) r4 &&& BitVec.ofInt (IntKind.bits .i64) 16).toNat))=0)) (
(zas v9.1).bind fun r12 =>
 some (.inl (v11.1,(v11.2.1.1,v11.2.1.2.1,v11.2.1.2.2.1,v11.2.1.2.2.2.1,r12,v11.2.1.2.2.2.2.2.1,()),()))) (
 some (.inl (v11.1,(v11.2.1.1,v11.2.1.2.1,v11.2.1.2.2.1,v11.2.1.2.2.2.1,(v11.2.1.2.2.2.2.1.1,[],v11.2.1.2.2.2.2.1.2.2.1,v11.2.1.2.2.2.2.1.2.2.2.1,[],()),v11.2.1.2.2.2.2.2.1,()),()))):Option ((vV1×vV2×Unit)⊕(vV2×Int×Unit))).bind (aE fun v13 =>
 cond (decide (a0=[])) (some ((0,0,0,0,(0,[],(0,0,[],()),0,[],()),(0,0,()),()),19,())) ((zbf v13.2.1).bind fun r14 =>
 cond (!decide (r14=a0)) (
 some ((0,0,0,0,(0,[],(0,0,[],()),0,[],()),(0,0,()),()),19,())) (
 some (v13.2.1,0,()))))))
def ti:TFn:={ ps:=(.cons .str .unit),res:=(.tup (.cons tT6 tT11)),fn:=fun v=>zbd v.1 }
def ajn:TEnv:={ pure:=[(10,pW),(28,pZ),(29,tw),(44,th),(45,tt),(46,wS),(47,u5),(48,wq)],look:=[],glob:=G0T,ty:=[(76,(.agg (.cons (.int .i64) (.cons (.ba 1 0 1 4) .unit))))],raw:=[],fresh:=[] }
theorem ajm:runY Tryz.prog adM ajo ajn anG Tryz.f13 ti.ps ti.res=ti.fn:=by kernel_rfl
theorem vQ:ax Tryz.prog G0 13 zP:=ad (ai ⟨aq,(ae pX (ae p3 (ae wL (ae vK (ae wG (ae mU (ae ab8 (ae aey ab)))))))),am,ab,al⟩ Tryz.func13 rfl (by kernel_rfl))
theorem abi:TOk zP ti:=aw (E:=adM) (ET:=ajn) (EnvT.ofX (ar (ac vO (ac vS (ac abt (ac abh (ac abr (ac rH (ac agZ (ac akx aj))))))))) ak ao aJ an) ajm rfl
def ads:Env:=(eZ [(10,vP),(13,zP)] [114])
def aiP:Hints:=(hZ [] [])
def adr:PFn:=aA (runF Tryz.prog ads aiP Tryz.f7)
def anv:TH:={ loops:=[],cuts:=[(3,[(7,{ keep:=[(1,(.bx 0 0)),(3,(.bx 1 0)),(19,.bool)],mem:=[.box 34 tT6,.box 34 tT6] }),(7,{ keep:=[(1,(.bx 0 0)),(3,(.bx 1 0)),(26,.bool)],mem:=[.box 34 tT6,.box 34 tT6] })])],ro:=[],news:=[] }
def zbo:Option Bool :=
(zbd [100,111,32,48,32,112,117,116,32,53,32,97,47,107]).bind fun r1 =>
(zbd [111,117,116,32,48,32,49,32,51,46,49,55]).bind fun r2 =>
(cond (decide (r1.2.1=0)) (some ((decide (r1.1.1=2)),r1.1,r2.1,())) (some (false,r1.1,r2.1,())):Option (Bool×vV2×vV2×Unit)).bind fun v3 =>
(cond v3.1 (some ((decide (v3.2.1.2.2.2.2.1.2.2.1.2.1=5)),v3.2.1,v3.2.2.1,())) (some (false,v3.2.1,v3.2.2.1,())):Option (Bool×vV2×vV2×Unit)).bind fun v4 =>
 cond v4.1 ((zbf v4.2.1).bind fun r5 =>
 cond (decide (r5=[100,111,32,48,32,112,117,116,32,53,32,97,47,107])) (cond (decide (r2.2.1=0)) (some (decide (v4.2.2.1.2.2.2.2.2.1.2.1=17))) (some false)) (some false)) (some false)
def vF:TFn:={ ps:=.unit,res:=.bool,fn:=fun v=>zbo  }
def aiO:TEnv:=(vZ [(10,pW),(13,ti)])
theorem aiN:runY Tryz.prog ads aiP aiO anv Tryz.f7 vF.ps vF.res=vF.fn:=by kernel_rfl
theorem adq:ax Tryz.prog G0 7 adr:=ad (ai ⟨aq,(ae pX (ae vQ ab)),am,ab,al⟩ Tryz.func7 rfl (by kernel_rfl))
theorem aiM:TOk adr vF:=aw (E:=ads) (ET:=aiO) (EnvT.ofX (ar (ac vO (ac abi aj))) ak ao aJ an) aiN rfl
def ac3:Env:=(eZ [] [114])
def aih:Hints:=(hZ [] [])
def ac2:PFn:=aA (runF Tryz.prog ac3 aih Tryz.f8)
def ank:TH:={ loops:=[],ro:=[1] }
def zby (a0:vV2):Option vV2 :=
 some (a0.1,a0.2.1,a0.2.2.1,a0.2.2.2.1,a0.2.2.2.2.1,a0.2.2.2.2.2.1,())
def vx:TFn:={ ps:=(.cons tT6 .unit),res:=tT6,fn:=fun v=>zby v.1 }
def aig:TEnv:=(vZ [])
theorem aif:runY Tryz.prog ac3 aih aig ank Tryz.f8 vx.ps vx.res=vx.fn:=by kernel_rfl
theorem ac1:ax Tryz.prog G0 8 ac2:=ad (ai ⟨aq,ab,am,ab,al⟩ Tryz.func8 rfl (by kernel_rfl))
theorem aie:TOk ac2 vx:=aw (E:=ac3) (ET:=aig) (EnvT.ofX (ar aj) ak ao aJ an) aif rfl
def acg:Env:=(eZ [] [114])
def ahc:Hints:=(hZ [] [])
def zF:PFn:=aA (runF Tryz.prog acg ahc Tryz.f23)
def am2:TH:=yZ
def zcp (a0:Int) (a1:Int):Option Bool :=
 cond (decide (a1=114)) (
 cond (decide (a0<11)) (some true) (some (decide (a0>14)))) (
 cond (decide (a1=110)) (
 cond (decide (a0≥9)) (some (decide (a0≤16))) (some false)) (
 cond (decide (a1=117)) (
 cond (decide (a0=1)) (some true) (cond (decide (a0≥5)) (cond (decide (a0≤8)) (some true) (some (decide (a0=14)))) (some (decide (a0=14))))) (
 cond (decide (a1=100)) (
 cond (decide (a0=7)) (some true) (some (decide (a0=8)))) (
 cond (decide (a1=111)) (
 some (decide (a0=2))) (
 some false)))))
def sZ:TFn:={ ps:=(.cons (.int .i64) (.cons (.int .u8) .unit)),res:=.bool,fn:=fun v=>zcp v.1 v.2.1 }
def ahb:TEnv:=(vZ [])
theorem aha:runY Tryz.prog acg ahc ahb am2 Tryz.f23 sZ.ps sZ.res=sZ.fn:=by kernel_rfl
theorem vc:ax Tryz.prog G0 23 zF:=ad (ai ⟨aq,ab,am,ab,al⟩ Tryz.func23 rfl (by kernel_rfl))
theorem abb:TOk zF sZ:=aw (E:=acg) (ET:=ahb) (EnvT.ofX (ar aj) ak ao aJ an) aha rfl
def aff:Env:=(eZ [] [114])
def alH:Hints:=(hZ [] [])
def afe:PFn:=aA (runF Tryz.prog aff alH Tryz.f22)
def aoi:TH:=yZ
def za9 (a0:Int) (a1:Bool):Option Bool :=
 cond (decide (a0=0)) (some true) (cond a1 (cond (decide (a0>0)) (some (decide (a0≤2147483647))) (some false)) (some false))
def wJ:TFn:={ ps:=(.cons (.int .i64) (.cons .bool .unit)),res:=.bool,fn:=fun v=>za9 v.1 v.2.1 }
def alG:TEnv:=(vZ [])
theorem alF:runY Tryz.prog aff alH alG aoi Tryz.f22 wJ.ps wJ.res=wJ.fn:=by kernel_rfl
theorem afd:ax Tryz.prog G0 22 afe:=ad (ai ⟨aq,ab,am,ab,al⟩ Tryz.func22 rfl (by kernel_rfl))
theorem alE:TOk afe wJ:=aw (E:=aff) (ET:=alG) (EnvT.ofX (ar aj) ak ao aJ an) alF rfl
def ac7:Env:=(eZ [] [114])
def aio:Hints:=(hZ [] [])
def zH:PFn:=aA (runF Tryz.prog ac7 aio Tryz.f24)
def anm:TH:={ loops:=[],ro:=[1] }
def zbw (a0:(Int×Int×Unit)):Option Bool :=
 cond (decide (a0.1≥0)) (cond (decide (a0.1≤15)) (cond (decide (a0.2.1≥1)) (some (decide (a0.2.1≤1048576))) (some false)) (some false)) (some false)
def tb:TFn:={ ps:=(.cons tT10 .unit),res:=.bool,fn:=fun v=>zbw v.1 }
def ain:TEnv:=(vZ [])
theorem aim:runY Tryz.prog ac7 aio ain anm Tryz.f24 tb.ps tb.res=tb.fn:=by kernel_rfl
theorem vz:ax Tryz.prog G0 24 zH:=ad (ai ⟨aq,ab,am,ab,al⟩ Tryz.func24 rfl (by kernel_rfl))
theorem abd:TOk zH tb:=aw (E:=ac7) (ET:=ain) (EnvT.ofX (ar aj) ak ao aJ an) aim rfl
def acU:Env:=(eZ [] [114])
def ah5:Hints:=(hZ [] [])
def acT:PFn:=aA (runF Tryz.prog acU ah5 Tryz.f25)
def anh:TH:={ loops:=[],cuts:=[(2,[(9,{ keep:=[(1,(.bx 0 0)),(3,(.bx 1 0)),(13,.bool)],mem:=[.same,.box 24 tT9] })])],ro:=[1],news:=[] }
def zcb (a0:vV0):Option Bool :=
(cond (decide (a0.1=0)) (some ((decide ((a0.2.1.length:Int)=0)),(0,0,[],()),())) (some (false,(0,0,[],()),())):Option (Bool×vV3×Unit)).bind fun v1 =>
 cond v1.1 (cond (eqV tT9 a0.2.2.1 v1.2.1) (cond (decide (a0.2.2.2.1=0)) (some (decide ((a0.2.2.2.2.1.length:Int)=0))) (some false)) (some false)) (some false)
def vt:TFn:={ ps:=(.cons tT7 .unit),res:=.bool,fn:=fun v=>zcb v.1 }
def ah4:TEnv:=(vZ [])
theorem ah3:runY Tryz.prog acU ah5 ah4 anh Tryz.f25 vt.ps vt.res=vt.fn:=by kernel_rfl
theorem acS:ax Tryz.prog G0 25 acT:=ad (ai ⟨aq,ab,am,ab,al⟩ Tryz.func25 rfl (by kernel_rfl))
theorem ah2:TOk acT vt:=aw (E:=acU) (ET:=ah4) (EnvT.ofX (ar aj) ak ao aJ an) ah3 rfl
def acz:Env:=(eZ [] [114])
def ahD:Hints:=(hZ [(17,[0,4,5,6,7])] [])
def acy:PFn:=aA (runF Tryz.prog acz ahD Tryz.f116)
def am9:TH:={ joins:=[(14,{ keep:=[(4,(.int .i64)),(5,(.int .i64)),(6,(.int .i64))],mem:=[] }),(9,{ keep:=[(18,.bool)],mem:=[] }),(22,{ keep:=[(4,(.int .i64))],mem:=[] }),(24,{ keep:=[],mem:=[] })],loops:=[(17,{ keep:=[(4,(.int .i64)),(7,(.int .i64))],mem:=[] })],ro:=[] }
def fg (a0:List UInt8) (v3:(Int×Int×Int×Unit)) (y17:(Int×Int×Unit)):Option ((Int×Int×Unit)⊕((Int×Unit)⊕(Int×Int×Unit))) :=
 cond (decide (y17.2.1<v3.2.1)) (
(atI a0 y17.2.1).bind fun b4 =>
 cond (decide ((b4.toNat:Int)<128)) (some (.inr (.inr (0,0,())))) ((atI a0 y17.2.1).bind fun b5 =>
 cond (decide ((b5.toNat:Int)>191)) (
 some (.inr (.inr (0,0,())))) (
(atI a0 y17.2.1).bind fun b6 =>
 some (.inl ((IntKind.wrap .i64 ((IntKind.wrap .i64 ((IntKind.wrap .i64 (64*y17.1))+(IntKind.wrap .i64 (b6.toNat:Int))))-128)),(IntKind.wrap .i64 (y17.2.1+1)),()))))) (
 some (.inr (.inl (y17.1,()))))
def zci (a0:List UInt8):Option (Int×Int×Unit) :=
 cond (decide ((a0.length:Int)=0)) (
 some (0,0,())) (
(atI a0 0).bind fun b1 =>
(cond (decide ((IntKind.wrap .i64 (b1.toNat:Int))<128)) (
 some (.inr ((IntKind.wrap .i64 (b1.toNat:Int)),1,()))) (
(cond (decide ((IntKind.wrap .i64 (b1.toNat:Int))≥194)) (some (.inl ((decide ((IntKind.wrap .i64 (b1.toNat:Int))<224)),()))) (some (.inl (false,()))):Option ((Bool×Unit)⊕((Int×Int×Int×Unit)⊕(Int×Int×Unit)))).bind (aE fun v2 =>
 cond v2.1 (
 some (.inl ((IntKind.wrap .i64 ((IntKind.wrap .i64 (b1.toNat:Int))-192)),2,128,()))) (
 cond (decide ((IntKind.wrap .i64 (b1.toNat:Int))≥224)) (cond (decide ((IntKind.wrap .i64 (b1.toNat:Int))<240)) (
 some (.inl ((IntKind.wrap .i64 ((IntKind.wrap .i64 (b1.toNat:Int))-224)),3,2048,()))) (
 cond (decide ((IntKind.wrap .i64 (b1.toNat:Int))≥240)) (cond (decide ((IntKind.wrap .i64 (b1.toNat:Int))<245)) (
 some (.inl ((IntKind.wrap .i64 ((IntKind.wrap .i64 (b1.toNat:Int))-240)),4,65536,()))) (
 some (.inr (0,0,())))) (some (.inr (0,0,()))))) (cond (decide ((IntKind.wrap .i64 (b1.toNat:Int))≥240)) (cond (decide ((IntKind.wrap .i64 (b1.toNat:Int))<245)) (
 some (.inl ((IntKind.wrap .i64 ((IntKind.wrap .i64 (b1.toNat:Int))-240)),4,65536,()))) (
 some (.inr (0,0,())))) (some (.inr (0,0,()))))))):Option ((Int×Int×Int×Unit)⊕(Int×Int×Unit))).bind (aE fun v3 =>
 cond (decide ((a0.length:Int)<v3.2.1)) (
 some (0,0,())) (
(aP (fg a0 v3) (v3.1,1,()):Option ((Int×Unit)⊕(Int×Int×Unit))).bind (aE fun v7 =>
(cond (decide (v7.1<v3.2.2.1)) (some (.inr (0,0,()))) (cond (decide (v7.1>1114111)) (some (.inr (0,0,()))) (cond (decide (v7.1≥55296)) (cond (decide (v7.1≤57343)) (
 some (.inr (0,0,()))) (
 some (.inl ()))) (some (.inl ())))):Option (Unit⊕(Int×Int×Unit))).bind (aE fun v8 =>
 some (v7.1,v3.2.1,()))))))
def vj:TFn:={ ps:=(.cons .str .unit),res:=(.tup (.cons (.int .i64) tT11)),fn:=fun v=>zci v.1 }
def ahC:TEnv:=(vZ [])
theorem ahB:runY Tryz.prog acz ahD ahC am9 Tryz.f116 vj.ps vj.res=vj.fn:=by kernel_rfl
theorem acx:ax Tryz.prog G0 116 acy:=ad (ai ⟨aq,ab,am,ab,al⟩ Tryz.func116 rfl (by kernel_rfl))
theorem ahA:TOk acy vj:=aw (E:=acz) (ET:=ahC) (EnvT.ofX (ar aj) ak ao aJ an) ahB rfl
def adx:Env:=(eZ [(116,acy)] [114])
def aiZ:Hints:=(hZ [(3,[0,4,5])] [])
def zM:PFn:=aA (runF Tryz.prog adx aiZ Tryz.f86)
def anz:TH:={ loops:=[(3,{ keep:=[(4,(.own 0)),(5,(.int .i64))],mem:=[.row true 3 (.int .i64)] })],ro:=[] }
def lC (a0:List UInt8) (y3:(Int×List Int×Unit)):Option ((Int×List Int×Unit)⊕(List Int×Bool×Unit)) :=
 cond (decide (y3.1<(a0.length:Int))) (
(subI a0 y3.1 (a0.length:Int)).bind fun s1 =>
(zci s1).bind fun r2 =>
 cond (decide (r2.2.1=0)) (
 some (.inr ([],false,()))) (
(fa (y3.2.1.length+([r2.1]:List Int).length)).bind fun u3 =>
 some (.inl ((IntKind.wrap .i64 (y3.1+r2.2.1)),(y3.2.1++([r2.1]:List Int)),())))) (
 some (.inr (y3.2.1,true,())))
def zbl (a0:List UInt8):Option (List Int×Bool×Unit) :=
 aP (lC a0) (0,[],())
def tg:TFn:={ ps:=(.cons .str .unit),res:=(.tup (.cons (.sl (.int .i64)) (.cons .bool .unit))),fn:=fun v=>zbl v.1 }
def aiY:TEnv:={ pure:=[(116,vj)],look:=[],glob:=G0T,ty:=[(3,(.int .i64))],raw:=[],fresh:=[] }
theorem aiX:runY Tryz.prog adx aiZ aiY anz Tryz.f86 tg.ps tg.res=tg.fn:=by kernel_rfl
theorem vI:ax Tryz.prog G0 86 zM:=ad (ai ⟨aq,(ae acx ab),am,ab,al⟩ Tryz.func86 rfl (by kernel_rfl))
theorem abg:TOk zM tg:=aw (E:=adx) (ET:=aiY) (EnvT.ofX (ar (ac ahA aj)) ak ao aJ an) aiX rfl
def acp:Env:=(eZ [] [114])
def aho:Hints:=(hZ [] [])
def aco:PFn:=aA (runF Tryz.prog acp aho Tryz.f115)
def am5:TH:=yZ
def zcm (a0:Int):Option Bool :=
 cond (decide (a0≥32)) (cond (decide (a0<127)) (some (!decide (a0=65533))) (cond (decide (a0>159)) (some (!decide (a0=65533))) (some false))) (some false)
def vf:TFn:={ ps:=tT11,res:=.bool,fn:=fun v=>zcm v.1 }
def ahn:TEnv:=(vZ [])
theorem ahm:runY Tryz.prog acp aho ahn am5 Tryz.f115 vf.ps vf.res=vf.fn:=by kernel_rfl
theorem acn:ax Tryz.prog G0 115 aco:=ad (ai ⟨aq,ab,am,ab,al⟩ Tryz.func115 rfl (by kernel_rfl))
theorem ahl:TOk aco vf:=aw (E:=acp) (ET:=ahn) (EnvT.ofX (ar aj) ak ao aJ an) ahm rfl
def ada:Env:=(eZ [(86,zM),(115,aco)] [114])
def ais:Hints:=(hZ [(3,[3,4,5])] [])
def ac9:PFn:=aA (runF Tryz.prog ada ais Tryz.f85)
def ann:TH:={ joins:=[(7,{ keep:=[],mem:=[] })],loops:=[(3,{ keep:=[(5,(.int .i64))],mem:=[] })],ro:=[] }
def od (r1:(List Int×Bool×Unit)) (y3:(Int×Unit)):Option ((Int×Unit)⊕(Unit⊕Bool)) :=
 cond (decide (y3.1<(r1.1.length:Int))) (
(atI r1.1 y3.1).bind fun x2 =>
(zcm x2).bind fun r3 =>
 cond (!r3) (
 some (.inr (.inr false))) (
 some (.inl ((IntKind.wrap .i64 (y3.1+1)),())))) (
 some (.inr (.inl ())))
def zbv (a0:List UInt8):Option Bool :=
(zbl a0).bind fun r1 =>
(aP (od r1) (0,()):Option (Unit⊕Bool)).bind (aE fun v4 =>
 cond r1.2.1 (cond (decide ((r1.1.length:Int)≥1)) (some (decide ((r1.1.length:Int)≤24))) (some false)) (some false))
def vA:TFn:={ ps:=(.cons .str .unit),res:=.bool,fn:=fun v=>zbv v.1 }
def air:TEnv:=(vZ [(86,tg),(115,vf)])
theorem aiq:runY Tryz.prog ada ais air ann Tryz.f85 vA.ps vA.res=vA.fn:=by kernel_rfl
theorem ac8:ax Tryz.prog G0 85 ac9:=ad (ai ⟨aq,(ae vI (ae acn ab)),am,ab,al⟩ Tryz.func85 rfl (by kernel_rfl))
theorem aip:TOk ac9 vA:=aw (E:=ada) (ET:=air) (EnvT.ofX (ar (ac abg (ac ahl aj))) ak ao aJ an) aiq rfl
def adA:Env:=(eZ [(85,ac9)] [114])
def ai3:Hints:=(hZ [(6,[0,3])] [])
def adz:PFn:=aA (runF Tryz.prog adA ai3 Tryz.f59)
def anA:TH:={ loops:=[(6,{ keep:=[(3,(.int .i64))],mem:=[] })],ro:=[] }
def rA (a0:List (List UInt8)) (y6:(Int×Unit)):Option ((Int×Unit)⊕Int) :=
 cond (decide (y6.1<(a0.length:Int))) (
(atI a0 y6.1).bind fun x1 =>
(zbv x1).bind fun r2 =>
 cond (!r2) (
 some (.inr 8)) (
 some (.inl ((IntKind.wrap .i64 (y6.1+1)),())))) (
 some (.inr 0))
def zbk (a0:List (List UInt8)):Option Int :=
 cond (decide ((a0.length:Int)=0)) (
 some 8) (
 cond (decide ((a0.length:Int)>8)) (
 some 9) (
 aP (rA a0) (0,())))
def vJ:TFn:={ ps:=(.cons (.sl .str) .unit),res:=(.int .i64),fn:=fun v=>zbk v.1 }
def ai2:TEnv:=(vZ [(85,vA)])
theorem ai1:runY Tryz.prog adA ai3 ai2 anA Tryz.f59 vJ.ps vJ.res=vJ.fn:=by kernel_rfl
theorem ady:ax Tryz.prog G0 59 adz:=ad (ai ⟨aq,(ae ac8 ab),am,ab,al⟩ Tryz.func59 rfl (by kernel_rfl))
theorem ai0:TOk adz vJ:=aw (E:=adA) (ET:=ai2) (EnvT.ofX (ar (ac aip aj)) ak ao aJ an) ai1 rfl
def adv:Env:=(eZ [(86,zM)] [114])
def aiT:Hints:=(hZ [] [])
def adu:PFn:=aA (runF Tryz.prog adv aiT Tryz.f60)
def anw:TH:={ loops:=[],ro:=[1] }
def zbn (a0:vV3):Option Bool :=
 cond (decide (a0.1=1)) (
 cond (decide (a0.2.2.1=[])) (cond (decide (a0.2.1≥(-2147483647))) (some (decide (a0.2.1≤2147483647))) (some false)) (some false)) (
 cond (decide (a0.1=2)) (
(zbl a0.2.2.1).bind fun r1 =>
 cond (decide (a0.2.1=0)) (cond r1.2.1 (some (decide ((a0.2.2.1.length:Int)≤64))) (some false)) (some false)) (
 cond (decide (a0.1=3)) (cond (decide (a0.2.2.1=[])) (cond (decide (a0.2.1≥0)) (some (decide (a0.2.1≤1))) (some false)) (some false)) (some false)))
def vG:TFn:={ ps:=(.cons tT9 .unit),res:=.bool,fn:=fun v=>zbn v.1 }
def aiS:TEnv:=(vZ [(86,tg)])
theorem aiR:runY Tryz.prog adv aiT aiS anw Tryz.f60 vG.ps vG.res=vG.fn:=by kernel_rfl
theorem adt:ax Tryz.prog G0 60 adu:=ad (ai ⟨aq,(ae vI ab),am,ab,al⟩ Tryz.func60 rfl (by kernel_rfl))
theorem aiQ:TOk adu vG:=aw (E:=adv) (ET:=aiS) (EnvT.ofX (ar (ac abg aj)) ak ao aJ an) aiR rfl
def ad3:Env:=(eZ [] [114])
def ajQ:Hints:=(hZ [] [])
def zR:PFn:=aA (runF Tryz.prog ad3 ajQ Tryz.f118)
def anO:TH:=yZ
def zb4 (a0:Int) (a1:Int):Option Int :=
 cond (decide (a0<a1)) (
 some (-1)) (
 cond (decide (a0>a1)) (
 some 1) (
 some 0))
def tk:TFn:={ ps:=(.cons (.int .i64) tT11),res:=(.int .i64),fn:=fun v=>zb4 v.1 v.2.1 }
def ajP:TEnv:=(vZ [])
theorem ajO:runY Tryz.prog ad3 ajQ ajP anO Tryz.f118 tk.ps tk.res=tk.fn:=by kernel_rfl
theorem wd:ax Tryz.prog G0 118 zR:=ad (ai ⟨aq,ab,am,ab,al⟩ Tryz.func118 rfl (by kernel_rfl))
theorem abl:TOk zR tk:=aw (E:=ad3) (ET:=ajP) (EnvT.ofX (ar aj) ak ao aJ an) ajO rfl
def aft:Env:=(eZ [(118,zR)] [114])
def al3:Hints:=(hZ [] [])
def afs:PFn:=aA (runF Tryz.prog aft al3 Tryz.f117)
def aoq:TH:={ loops:=[],ro:=[2,3] }
def za1 (a0:(Int×Int×Unit)) (a1:(Int×Int×Unit)):Option Int :=
 cond (!decide (a0.1=a1.1)) (
(zb4 a0.1 a1.1).bind fun r1 =>
 some r1) (
(zb4 a0.2.1 a1.2.1).bind fun r2 =>
 some r2)
def wT:TFn:={ ps:=(.cons tT10 (.cons tT10 .unit)),res:=(.int .i64),fn:=fun v=>za1 v.1 v.2.1 }
def al2:TEnv:=(vZ [(118,tk)])
theorem al1:runY Tryz.prog aft al3 al2 aoq Tryz.f117 wT.ps wT.res=wT.fn:=by kernel_rfl
theorem afr:ax Tryz.prog G0 117 afs:=ad (ai ⟨aq,(ae wd ab),am,ab,al⟩ Tryz.func117 rfl (by kernel_rfl))
theorem al0:TOk afs wT:=aw (E:=aft) (ET:=al2) (EnvT.ofX (ar (ac abl aj)) ak ao aJ an) al1 rfl
def acO:Env:=(eZ [(117,afs),(118,zR)] [114])
def ahX:Hints:=(hZ [] [])
def acN:PFn:=aA (runF Tryz.prog acO ahX Tryz.f87)
def anf:TH:={ loops:=[],ro:=[2,3] }
def zcd (a0:vV5) (a1:vV5):Option Int :=
(za1 a0.1 a1.1).bind fun r1 =>
 cond (!decide (r1=0)) (
(za1 a0.1 a1.1).bind fun r2 =>
 some r2) (
(zb4 a0.2.1 a1.2.1).bind fun r3 =>
 some r3)
def vq:TFn:={ ps:=(.cons (.agg (.cons tT10 tT11)) (.cons (.agg (.cons tT10 tT11)) .unit)),res:=(.int .i64),fn:=fun v=>zcd v.1 v.2.1 }
def ahW:TEnv:=(vZ [(117,wT),(118,tk)])
theorem ahV:runY Tryz.prog acO ahX ahW anf Tryz.f87 vq.ps vq.res=vq.fn:=by kernel_rfl
theorem acM:ax Tryz.prog G0 87 acN:=ad (ai ⟨aq,(ae afr (ae wd ab)),am,ab,al⟩ Tryz.func87 rfl (by kernel_rfl))
theorem ahU:TOk acN vq:=aw (E:=acO) (ET:=ahW) (EnvT.ofX (ar (ac al0 (ac abl aj))) ak ao aJ an) ahV rfl
def ad6:Env:=(eZ [(24,zH),(87,acN)] [114])
def ajU:Hints:=(hZ [(2,[0,3])] [])
def ad5:PFn:=aA (runF Tryz.prog ad6 ajU Tryz.f61)
def anP:TH:={ loops:=[(2,{ keep:=[(3,(.int .i64))],mem:=[] })],ro:=[] }
def rE (a0:List vV5) (y2:(Int×Unit)):Option ((Int×Unit)⊕Bool) :=
 cond (decide (y2.1<(a0.length:Int))) (
(atI a0 y2.1).bind fun x1 =>
(zbw x1.1).bind fun r2 =>
 cond (!r2) (some (.inr false)) ((atI a0 y2.1).bind fun x3 =>
 cond (decide (x3.2.1<0)) (some (.inr false)) ((atI a0 y2.1).bind fun x4 =>
 cond (decide (x4.2.1>15)) (
 some (.inr false)) (
 cond (decide (y2.1>0)) ((atI a0 (IntKind.wrap .i64 (y2.1-1))).bind fun x5 =>
(atI a0 y2.1).bind fun x6 =>
(zcd x5 x6).bind fun r7 =>
 cond (!decide (r7=(-1))) (
 some (.inr false)) (
 some (.inl ((IntKind.wrap .i64 (y2.1+1)),())))) (some (.inl ((IntKind.wrap .i64 (y2.1+1)),()))))))) (
 some (.inr true))
def zb3 (a0:List vV5):Option Bool :=
 aP (rE a0) (0,())
def we:TFn:={ ps:=(.cons (.sl (.agg (.cons tT10 tT11))) .unit),res:=.bool,fn:=fun v=>zb3 v.1 }
def ajT:TEnv:=(vZ [(24,tb),(87,vq)])
theorem ajS:runY Tryz.prog ad6 ajU ajT anP Tryz.f61 we.ps we.res=we.fn:=by kernel_rfl
theorem ad4:ax Tryz.prog G0 61 ad5:=ad (ai ⟨aq,(ae vz (ae acM ab)),am,ab,al⟩ Tryz.func61 rfl (by kernel_rfl))
theorem ajR:TOk ad5 we:=aw (E:=ad6) (ET:=ajT) (EnvT.ofX (ar (ac abd (ac ahU aj))) ak ao aJ an) ajS rfl
def adK:Env:=(eZ [(59,adz),(60,adu),(61,ad5)] [114])
def aji:Hints:=(hZ [] [])
def adJ:PFn:=aA (runF Tryz.prog adK aji Tryz.f26)
def anE:TH:={ joins:=[(9,{ keep:=[(1,(.bx 0 0))],mem:=[.same,.gone] }),(11,{ keep:=[(1,(.bx 0 0))],mem:=[.same,.gone] }),(13,{ keep:=[(1,(.bx 0 0))],mem:=[.same,.gone] }),(15,{ keep:=[(1,(.bx 0 0))],mem:=[.same,.gone] })],loops:=[],cuts:=[(11,[(8,{ keep:=[(1,(.bx 0 0)),(55,.bool)],mem:=[.same,.gone] })])],ro:=[1],news:=[] }
def zbg (a0:vV0):Option Int :=
 cond (decide (a0.1<1)) (some 18) (cond (decide (a0.1>5)) (
 some 18) (
(zbk a0.2.1).bind fun r1 =>
 cond (!decide (r1=0)) (
 some r1) (
(cond (decide (a0.1=3)) (cond (!(eqV tT9 a0.2.2.1 (0,0,[],()))) (
 some (.inr 2)) (
 some (.inl ()))) (cond (decide (a0.1=5)) (cond (!(eqV tT9 a0.2.2.1 (0,0,[],()))) (
 some (.inr 2)) (
 some (.inl ()))) (some (.inl ()))):Option (Unit⊕Int)).bind (aE fun v2 =>
(cond (!decide (a0.1=3)) (cond (!decide (a0.1=5)) ((zbn a0.2.2.1).bind fun r3 =>
 cond (!r3) (
 some (.inr 2)) (
 some (.inl ()))) (some (.inl ()))) (some (.inl ())):Option (Unit⊕Int)).bind (aE fun v4 =>
((cond (!decide (a0.1=3)) (some ((!decide (a0.2.2.2.1=0)),())) (some (false,())):Option (Bool×Unit)).bind fun v5 =>
 cond v5.1 (some (.inr 2)) (cond (decide (a0.1=3)) (cond (decide (a0.2.2.2.1=0)) (some (.inr 2)) (cond (decide (a0.2.2.2.1>2147483647)) (some (.inr 2)) (cond (decide (a0.2.2.2.1<(-2147483647))) (
 some (.inr 2)) (
 some (.inl ()))))) (some (.inl ()))):Option (Unit⊕Int)).bind (aE fun v6 =>
(cond (decide (a0.1=2)) (cond (decide ((a0.2.2.2.2.1.length:Int)>0)) (
 some (.inr 2)) (
 some (.inl ()))) (cond (decide (a0.1=3)) (cond (decide ((a0.2.2.2.2.1.length:Int)>0)) (
 some (.inr 2)) (
 some (.inl ()))) (some (.inl ()))):Option (Unit⊕Int)).bind (aE fun v7 =>
 cond (decide ((a0.2.2.2.2.1.length:Int)>256)) (
 some 7) (
(zb3 a0.2.2.2.2.1).bind fun r8 =>
 cond (!r8) (
 some 2) (
 some 0)))))))))
def vN:TFn:={ ps:=(.cons tT7 .unit),res:=(.int .i64),fn:=fun v=>zbg v.1 }
def ajh:TEnv:=(vZ [(59,vJ),(60,vG),(61,we)])
theorem ajg:runY Tryz.prog adK aji ajh anE Tryz.f26 vN.ps vN.res=vN.fn:=by kernel_rfl
theorem adI:ax Tryz.prog G0 26 adJ:=ad (ai ⟨aq,(ae ady (ae adt (ae ad4 ab))),am,ab,al⟩ Tryz.func26 rfl (by kernel_rfl))
theorem ajf:TOk adJ vN:=aw (E:=adK) (ET:=ajh) (EnvT.ofX (ar (ac ai0 (ac aiQ (ac ajR aj)))) ak ao aJ an) ajg rfl
def acL:Env:=(eZ [] [114])
def ahT:Hints:=(hZ [(2,[0,3])] [])
def acK:PFn:=aA (runF Tryz.prog acL ahT Tryz.f27)
def ane:TH:={ loops:=[(2,{ keep:=[(3,(.int .i64))],mem:=[] })],ro:=[] }
def ry (a0:List UInt8) (y2:(Int×Unit)):Option ((Int×Unit)⊕Bool) :=
 cond (decide (y2.1<(a0.length:Int))) (
(atI a0 y2.1).bind fun b1 =>
 cond (decide ((b1.toNat:Int)=10)) (
 some (.inr true)) (
 some (.inl ((IntKind.wrap .i64 (y2.1+1)),())))) (
 some (.inr false))
def zce (a0:List UInt8):Option Bool :=
 aP (ry a0) (0,())
def vp:TFn:={ ps:=(.cons .str .unit),res:=.bool,fn:=fun v=>zce v.1 }
def ahS:TEnv:=(vZ [])
theorem ahR:runY Tryz.prog acL ahT ahS ane Tryz.f27 vp.ps vp.res=vp.fn:=by kernel_rfl
theorem acJ:ax Tryz.prog G0 27 acK:=ad (ai ⟨aq,ab,am,ab,al⟩ Tryz.func27 rfl (by kernel_rfl))
theorem ahQ:TOk acK vp:=aw (E:=acL) (ET:=ahS) (EnvT.ofX (ar aj) ak ao aJ an) ahR rfl
def adw:Env:=(eZ [(22,afe),(23,zF),(24,zH),(25,acT),(26,adJ),(27,acK)] [114])
def aiW:Hints:=(hZ [] [])
def zL:PFn:=aA (runF Tryz.prog adw aiW Tryz.f9)
def anx:TH:={ joins:=[(7,{ keep:=[(1,(.bx 0 0))],mem:=[.same,.gone] })],loops:=[],cuts:=[(2,[(6,{ keep:=[(1,(.bx 0 0)),(12,.bool)],mem:=[.same] }),(8,{ keep:=[(1,(.bx 0 0)),(20,.bool)],mem:=[.same] })])],ro:=[1],news:=[] }
def zbm (a0:vV2):Option Bool :=
(cond (decide (a0.1<1)) (some (true,())) (some ((decide (a0.1>19)),())):Option (Bool×Unit)).bind fun v1 =>
(cond v1.1 (some (true,())) ((zcp a0.1 114).bind fun r2 =>
(za9 a0.2.1 r2).bind fun r3 =>
 some ((!r3),())):Option (Bool×Unit)).bind fun v4 =>
 cond v4.1 (some false) ((zcp a0.1 110).bind fun r5 =>
(za9 a0.2.2.2.1 r5).bind fun r6 =>
 cond (!r6) (some false) ((zcp a0.1 117).bind fun r7 =>
(za9 a0.2.2.1 r7).bind fun r8 =>
 cond (!r8) (
 some false) (
((zcp a0.1 100).bind fun r9 =>
 cond (!(r9==(!(eqV tT10 a0.2.2.2.2.2.1 (0,0,()))))) (some (.inr false)) ((zcp a0.1 100).bind fun r10 =>
 cond r10 ((zbw a0.2.2.2.2.2.1).bind fun r11 =>
 cond (!r11) (
 some (.inr false)) (
 some (.inl ()))) (some (.inl ()))):Option (Unit⊕Bool)).bind (aE fun v12 =>
 cond (!decide (a0.1=2)) (
(zcb a0.2.2.2.2.1).bind fun r13 =>
 some r13) (
(zbg a0.2.2.2.2.1).bind fun r14 =>
 cond (decide (r14=0)) (cond (decide ((a0.2.2.2.2.1.2.2.2.2.1.length:Int)=0)) ((zce a0.2.2.2.2.1.2.2.1.2.2.1).bind fun r15 =>
 some (!r15)) (some false)) (some false))))))
def td:TFn:={ ps:=(.cons tT6 .unit),res:=.bool,fn:=fun v=>zbm v.1 }
def aiV:TEnv:=(vZ [(22,wJ),(23,sZ),(24,tb),(25,vt),(26,vN),(27,vp)])
theorem aiU:runY Tryz.prog adw aiW aiV anx Tryz.f9 td.ps td.res=td.fn:=by kernel_rfl
theorem vH:ax Tryz.prog G0 9 zL:=ad (ai ⟨aq,(ae afd (ae vc (ae vz (ae acS (ae adI (ae acJ ab)))))),am,ab,al⟩ Tryz.func9 rfl (by kernel_rfl))
theorem abf:TOk zL td:=aw (E:=adw) (ET:=aiV) (EnvT.ofX (ar (ac alE (ac abb (ac abd (ac ah2 (ac ajf (ac ahQ aj))))))) ak ao aJ an) aiU rfl
def adY:Env:=(eZ [] [114])
def ajF:Hints:=(hZ [] [])
def adX:PFn:=aA (runF Tryz.prog adY ajF Tryz.f38)
def anK:TH:=yZ
def zb8 (a0:Int):Option (List UInt8) :=
(atI ([[],[98,101,103,105,110],[100,111],[99,111,109,109,105,116],[97,98,111,114,116],[117,110,100,111],[114,101,100,111],[111,117,116],[98,97,99,107],[115,101,110,100],[115,97,121],[100,101,108,105,118,101,114],[100,114,111,112],[116,119,105,99,101],[115,112,111,105,108],[99,114,97,115,104],[116,101,97,114],[114,101,115,116,97,114,116],[115,101,97,108],[99,111,109,112,97,99,116]]:List (List UInt8)) a0).bind fun x1 =>
 some x1
def vV:TFn:={ ps:=tT11,res:=.str,fn:=fun v=>zb8 v.1 }
def ajE:TEnv:={ pure:=[],look:=[],glob:=G0T,ty:=[(9,.str)],raw:=[],fresh:=[] }
theorem ajD:runY Tryz.prog adY ajF ajE anK Tryz.f38 vV.ps vV.res=vV.fn:=by kernel_rfl
theorem adW:ax Tryz.prog G0 38 adX:=ad (ai ⟨aq,ab,am,ab,al⟩ Tryz.func38 rfl (by kernel_rfl))
theorem ajC:TOk adX vV:=aw (E:=adY) (ET:=ajE) (EnvT.ofX (ar aj) ak ao aJ an) ajD rfl
def wO (F:PFn):Env:=(eZ [(39,F)] [114])
def afj:Hints:=(hZ [] [])
def lg (F:PFn):PFn:=aA (runF Tryz.prog (wO F) afj Tryz.f39)
def aol:TH:=yZ
def dZ (rec:((Int×Unit)→Option (List UInt8))) (a0:Int):Option (List UInt8) :=
 cond (decide (a0<0)) (
 cond (decide (a0>(-10))) (
(rec ((IntKind.wrap .i64 (0-a0)),())).bind fun r1 =>
(catT [45] r1).bind fun s2 =>
 some s2) (
(quoT .i64 a0 10).bind fun t3 =>
(rec ((IntKind.wrap .i64 (0-t3)),())).bind fun r4 =>
(catT [45] r4).bind fun s5 =>
(remT a0 10).bind fun t6 =>
(rec ((IntKind.wrap .i64 (0-t6)),())).bind fun r7 =>
(catT s5 r7).bind fun s8 =>
 some s8)) (
 cond (decide (a0<10)) (
(subI [48,49,50,51,52,53,54,55,56,57] a0 (IntKind.wrap .i64 (a0+1))).bind fun s9 =>
 some s9) (
(quoT .i64 a0 10).bind fun t10 =>
(rec (t10,())).bind fun r11 =>
(remT a0 10).bind fun t12 =>
(remT a0 10).bind fun t13 =>
(subI [48,49,50,51,52,53,54,55,56,57] t12 (IntKind.wrap .i64 (t13+1))).bind fun s14 =>
(catT r11 s14).bind fun s15 =>
 some s15))
def e7:((Int×Unit)→Option (List UInt8)):=fixT fun rec v=>dZ rec v.1
def za6 (a0:Int):Option (List UInt8):=e7 (a0,())
def qc:TFn:={ ps:=tT11,res:=.str,fn:=fixT fun (rec:((Int×Unit)→Option (List UInt8))) v=>dZ rec v.1 }
def wN:PFn:=fixF lg qc
def afi (rec:((Int×Unit)→Option (List UInt8))):TEnv:=(vZ [(39,{ ps:=tT11,res:=.str,fn:=rec })])
theorem alO (F:PFn) (rec:((Int×Unit)→Option (List UInt8))):runY Tryz.prog (wO F) afj (afi rec) aol Tryz.f39 qc.ps qc.res=fun v=>dZ rec v.1:=by kernel_rfl
theorem qd:ax Tryz.prog G0 39 wN:=xy ⟨Tryz.f39,Tryz.func39,rfl,by kernel_rfl⟩ fun F hF=>ad (ai (P:=Tryz.prog) (E:=wO F) (h:=afj) (f:=39) (fn:=Tryz.f39) ⟨aq,(ae hF ab),am,ab,al⟩ Tryz.func39 rfl (by kernel_rfl))
theorem wM:TOk wN qc:=amj rfl fun F rec hF=>aw (E:=wO F) (ET:=afi rec) (EnvT.ofX (E:=wO F) (ET:=afi rec) (ar (ac hF aj)) ak ao aJ an) (alO F rec) rfl
def acC:Env:=(eZ [(39,wN)] [114])
def ahH:Hints:=(hZ [] [])
def acB:PFn:=aA (runF Tryz.prog acC ahH Tryz.f40)
def ana:TH:={ loops:=[],ro:=[1] }
def zch (a0:(Int×Int×Unit)):Option (List UInt8) :=
(za6 a0.1).bind fun r1 =>
(catT r1 [46]).bind fun s2 =>
(za6 a0.2.1).bind fun r3 =>
(catT s2 r3).bind fun s4 =>
 some s4
def vl:TFn:={ ps:=(.cons tT10 .unit),res:=.str,fn:=fun v=>zch v.1 }
def ahG:TEnv:=(vZ [(39,qc)])
theorem ahF:runY Tryz.prog acC ahH ahG ana Tryz.f40 vl.ps vl.res=vl.fn:=by kernel_rfl
theorem acA:ax Tryz.prog G0 40 acB:=ad (ai ⟨aq,(ae qd ab),am,ab,al⟩ Tryz.func40 rfl (by kernel_rfl))
theorem ahE:TOk acB vl:=aw (E:=acC) (ET:=ahG) (EnvT.ofX (ar (ac wM aj)) ak ao aJ an) ahF rfl
def act:Env:=(eZ [] [114])
def ahv:Hints:=(hZ [] [])
def acs:PFn:=aA (runF Tryz.prog act ahv Tryz.f41)
def am7:TH:=yZ
def zck (a0:Int):Option (List UInt8) :=
(atI ([[],[112,117,116],[97,100,100],[105,110,99],[114,101,109,111,118,101],[114,101,115,101,116]]:List (List UInt8)) a0).bind fun x1 =>
 some x1
def vh:TFn:={ ps:=tT11,res:=.str,fn:=fun v=>zck v.1 }
def ahu:TEnv:={ pure:=[],look:=[],glob:=G0T,ty:=[(9,.str)],raw:=[],fresh:=[] }
theorem aht:runY Tryz.prog act ahv ahu am7 Tryz.f41 vh.ps vh.res=vh.fn:=by kernel_rfl
theorem acr:ax Tryz.prog G0 41 acs:=ad (ai ⟨aq,ab,am,ab,al⟩ Tryz.func41 rfl (by kernel_rfl))
theorem ahs:TOk acs vh:=aw (E:=act) (ET:=ahu) (EnvT.ofX (ar aj) ak ao aJ an) aht rfl
def acR:Env:=(eZ [(39,wN)] [114])
def ah1:Hints:=(hZ [(9,[1,3,4])] [])
def acQ:PFn:=aA (runF Tryz.prog acR ah1 Tryz.f42)
def ang:TH:={ joins:=[(13,{ keep:=[(1,(.bx 0 0)),(3,.str)],mem:=[.same] })],loops:=[(9,{ keep:=[(1,(.bx 0 0)),(3,.str),(4,(.int .i64))],mem:=[.same] })],ro:=[1] }
def oc (a0:vV3) (y9:(List UInt8×Int×Unit)):Option ((List UInt8×Int×Unit)⊕List UInt8) :=
 cond (decide (y9.2.1<(a0.2.2.1.length:Int))) (
((atI a0.2.2.1 y9.2.1).bind fun b2 =>
 cond (decide ((b2.toNat:Int)=34)) ((catT y9.1 [92]).bind fun s3 =>
 some (.inl (s3,()))) ((atI a0.2.2.1 y9.2.1).bind fun b4 =>
 cond (decide ((b4.toNat:Int)=92)) (
(catT y9.1 [92]).bind fun s5 =>
 some (.inl (s5,()))) (
 some (.inl (y9.1,())))):Option ((List UInt8×Unit)⊕((List UInt8×Int×Unit)⊕List UInt8))).bind (aE fun v6 =>
(subI a0.2.2.1 y9.2.1 (IntKind.wrap .i64 (y9.2.1+1))).bind fun s7 =>
(catT v6.1 s7).bind fun s8 =>
 some (.inl (s8,(IntKind.wrap .i64 (y9.2.1+1)),())))) (
((catT y9.1 [34]).bind fun s9 =>
 some s9).map .inr)
def zcc (a0:vV3):Option (List UInt8) :=
 cond (decide (a0.1=1)) (
(za6 a0.2.1).bind fun r1 =>
 some r1) (
 cond (decide (a0.1=3)) (
 cond (decide (a0.2.1=1)) (
 some [116,114,117,101]) (
 some [102,97,108,115,101])) (
 aP (oc a0) ([34],0,())))
def vr:TFn:={ ps:=(.cons tT9 .unit),res:=.str,fn:=fun v=>zcc v.1 }
def ah0:TEnv:=(vZ [(39,qc)])
theorem ahZ:runY Tryz.prog acR ah1 ah0 ang Tryz.f42 vr.ps vr.res=vr.fn:=by kernel_rfl
theorem acP:ax Tryz.prog G0 42 acQ:=ad (ai ⟨aq,(ae qd ab),am,ab,al⟩ Tryz.func42 rfl (by kernel_rfl))
theorem ahY:TOk acQ vr:=aw (E:=acR) (ET:=ah0) (EnvT.ofX (ar (ac wM aj)) ak ao aJ an) ahZ rfl
def adE:Env:=(eZ [] [114])
def aja:Hints:=(hZ [(3,[0,3,4])] [])
def adD:PFn:=aA (runF Tryz.prog adE aja Tryz.f71)
def anC:TH:={ joins:=[(7,{ keep:=[(3,.str)],mem:=[] })],loops:=[(3,{ keep:=[(3,.str),(4,(.int .i64))],mem:=[] })],ro:=[] }
def rB (a0:List UInt8) (y3:(List UInt8×Int×Unit)):Option ((List UInt8×Int×Unit)⊕List UInt8) :=
 cond (decide (y3.2.1<(a0.length:Int))) (
((atI a0 y3.2.1).bind fun b1 =>
 cond (decide ((b1.toNat:Int)=47)) ((catT y3.1 [92]).bind fun s2 =>
 some (.inl (s2,()))) ((atI a0 y3.2.1).bind fun b3 =>
 cond (decide ((b3.toNat:Int)=92)) (
(catT y3.1 [92]).bind fun s4 =>
 some (.inl (s4,()))) (
 some (.inl (y3.1,())))):Option ((List UInt8×Unit)⊕((List UInt8×Int×Unit)⊕List UInt8))).bind (aE fun v5 =>
(subI a0 y3.2.1 (IntKind.wrap .i64 (y3.2.1+1))).bind fun s6 =>
(catT v5.1 s6).bind fun s7 =>
 some (.inl (s7,(IntKind.wrap .i64 (y3.2.1+1)),())))) (
 some (.inr y3.1))
def zbi (a0:List UInt8):Option (List UInt8) :=
 aP (rB a0) ([],0,())
def vL:TFn:={ ps:=(.cons .str .unit),res:=.str,fn:=fun v=>zbi v.1 }
def ai9:TEnv:=(vZ [])
theorem ai8:runY Tryz.prog adE aja ai9 anC Tryz.f71 vL.ps vL.res=vL.fn:=by kernel_rfl
theorem adC:ax Tryz.prog G0 71 adD:=ad (ai ⟨aq,ab,am,ab,al⟩ Tryz.func71 rfl (by kernel_rfl))
theorem ai7:TOk adD vL:=aw (E:=adE) (ET:=ai9) (EnvT.ofX (ar aj) ak ao aJ an) ai8 rfl
def adV:Env:=(eZ [(71,adD)] [114])
def ajB:Hints:=(hZ [(3,[0,3,4])] [])
def adU:PFn:=aA (runF Tryz.prog adV ajB Tryz.f43)
def anJ:TH:={ joins:=[(7,{ keep:=[(3,.str)],mem:=[] })],loops:=[(3,{ keep:=[(3,.str),(4,(.int .i64))],mem:=[] })],ro:=[] }
def rD (a0:List (List UInt8)) (y3:(List UInt8×Int×Unit)):Option ((List UInt8×Int×Unit)⊕List UInt8) :=
 cond (decide (y3.2.1<(a0.length:Int))) (
(cond (decide (y3.2.1>0)) (
(catT y3.1 [47]).bind fun s1 =>
 some (.inl (s1,()))) (
 some (.inl (y3.1,()))):Option ((List UInt8×Unit)⊕((List UInt8×Int×Unit)⊕List UInt8))).bind (aE fun v2 =>
(atI a0 y3.2.1).bind fun x3 =>
(zbi x3).bind fun r4 =>
(catT v2.1 r4).bind fun s5 =>
 some (.inl (s5,(IntKind.wrap .i64 (y3.2.1+1)),())))) (
 some (.inr y3.1))
def zb9 (a0:List (List UInt8)):Option (List UInt8) :=
 aP (rD a0) ([],0,())
def vU:TFn:={ ps:=(.cons (.sl .str) .unit),res:=.str,fn:=fun v=>zb9 v.1 }
def ajA:TEnv:=(vZ [(71,vL)])
theorem ajz:runY Tryz.prog adV ajB ajA anJ Tryz.f43 vU.ps vU.res=vU.fn:=by kernel_rfl
theorem adT:ax Tryz.prog G0 43 adU:=ad (ai ⟨aq,(ae adC ab),am,ab,al⟩ Tryz.func43 rfl (by kernel_rfl))
theorem ajy:TOk adU vU:=aw (E:=adV) (ET:=ajA) (EnvT.ofX (ar (ac ai7 aj)) ak ao aJ an) ajz rfl
def ad1:Env:=(eZ [(9,zL),(23,zF),(38,adX),(39,wN),(40,acB),(41,acs),(42,acQ),(43,adU)] [114])
def ajK:Hints:=(hZ [] [])
def ad0:PFn:=aA (runF Tryz.prog ad1 ajK Tryz.f12)
def anM:TH:={ joins:=[(6,{ keep:=[(1,(.bx 0 0)),(3,.str)],mem:=[.same] }),(8,{ keep:=[(1,(.bx 0 0)),(3,.str)],mem:=[.same] }),(10,{ keep:=[(1,(.bx 0 0)),(3,.str)],mem:=[.same] }),(12,{ keep:=[(1,(.bx 0 0)),(3,.str)],mem:=[.same] }),(19,{ keep:=[(1,(.bx 0 0)),(3,.str)],mem:=[.same] })],loops:=[],ro:=[1] }
def zb6 (a0:vV2):Option (List UInt8) :=
(zbm a0).bind fun r1 =>
 cond (!r1) (
 some []) (
(zb8 a0.1).bind fun r2 =>
((zcp a0.1 114).bind fun r3 =>
 cond r3 (
(catT r2 [32]).bind fun s4 =>
(za6 a0.2.1).bind fun r5 =>
(catT s4 r5).bind fun s6 =>
 some (.inl (s6,()))) (
 some (.inl (r2,()))):Option ((List UInt8×Unit)⊕List UInt8)).bind (aE fun v7 =>
((zcp a0.1 110).bind fun r8 =>
 cond r8 (
(catT v7.1 [32]).bind fun s9 =>
(za6 a0.2.2.2.1).bind fun r10 =>
(catT s9 r10).bind fun s11 =>
 some (.inl (s11,()))) (
 some (.inl (v7.1,()))):Option ((List UInt8×Unit)⊕List UInt8)).bind (aE fun v12 =>
((zcp a0.1 117).bind fun r13 =>
 cond r13 (
(catT v12.1 [32]).bind fun s14 =>
(za6 a0.2.2.1).bind fun r15 =>
(catT s14 r15).bind fun s16 =>
 some (.inl (s16,()))) (
 some (.inl (v12.1,()))):Option ((List UInt8×Unit)⊕List UInt8)).bind (aE fun v17 =>
((zcp a0.1 100).bind fun r18 =>
 cond r18 (
(catT v17.1 [32]).bind fun s19 =>
(zch a0.2.2.2.2.2.1).bind fun r20 =>
(catT s19 r20).bind fun s21 =>
 some (.inl (s21,()))) (
 some (.inl (v17.1,()))):Option ((List UInt8×Unit)⊕List UInt8)).bind (aE fun v22 =>
 cond (!decide (a0.1=2)) (
 some v22.1) (
(catT v22.1 [32]).bind fun s23 =>
(zck a0.2.2.2.2.1.1).bind fun r24 =>
(catT s23 r24).bind fun s25 =>
(catT s25 [32]).bind fun s26 =>
(cond (decide (a0.2.2.2.2.1.1=3)) (
(za6 a0.2.2.2.2.1.2.2.2.1).bind fun r27 =>
(catT s26 r27).bind fun s28 =>
(catT s28 [32]).bind fun s29 =>
 some (.inl (s29,()))) (
 cond (!decide (a0.2.2.2.2.1.1=5)) (
(zcc a0.2.2.2.2.1.2.2.1).bind fun r30 =>
(catT s26 r30).bind fun s31 =>
(catT s31 [32]).bind fun s32 =>
 some (.inl (s32,()))) (
 some (.inl (s26,())))):Option ((List UInt8×Unit)⊕List UInt8)).bind (aE fun v33 =>
(zb9 a0.2.2.2.2.1.2.1).bind fun r34 =>
(catT v33.1 r34).bind fun s35 =>
 some s35)))))))
def wa:TFn:={ ps:=(.cons tT6 .unit),res:=.str,fn:=fun v=>zb6 v.1 }
def ajJ:TEnv:=(vZ [(9,td),(23,sZ),(38,vV),(39,qc),(40,vl),(41,vh),(42,vr),(43,vU)])
theorem ajI:runY Tryz.prog ad1 ajK ajJ anM Tryz.f12 wa.ps wa.res=wa.fn:=by kernel_rfl
theorem adZ:ax Tryz.prog G0 12 ad0:=ad (ai ⟨aq,(ae vH (ae vc (ae adW (ae qd (ae acA (ae acr (ae acP (ae adT ab)))))))),am,ab,al⟩ Tryz.func12 rfl (by kernel_rfl))
theorem ajH:TOk ad0 wa:=aw (E:=ad1) (ET:=ajJ) (EnvT.ofX (ar (ac abf (ac abb (ac ajC (ac wM (ac ahE (ac ahs (ac ahY (ac ajy aj))))))))) ak ao aJ an) ajI rfl
def afq:Env:=(eZ [] [114])
def alZ:Hints:=(hZ [] [])
def afp:PFn:=aA (runF Tryz.prog afq alZ Tryz.f15)
def aoo:TH:={ loops:=[],ro:=[1] }
def za3 (a0:vV2):Option vV2 :=
 some (a0.1,a0.2.1,a0.2.2.1,a0.2.2.2.1,a0.2.2.2.2.1,a0.2.2.2.2.2.1,())
def wR:TFn:={ ps:=(.cons tT6 .unit),res:=tT6,fn:=fun v=>za3 v.1 }
def alY:TEnv:=(vZ [])
theorem alX:runY Tryz.prog afq alZ alY aoo Tryz.f15 wR.ps wR.res=wR.fn:=by kernel_rfl
theorem afo:ax Tryz.prog G0 15 afp:=ad (ai ⟨aq,ab,am,ab,al⟩ Tryz.func15 rfl (by kernel_rfl))
theorem alW:TOk afp wR:=aw (E:=afq) (ET:=alY) (EnvT.ofX (ar aj) ak ao aJ an) alX rfl
def aed:Env:=(eZ [] [114])
def aj5:Hints:=(hZ [(4,[0,1,5])] [])
def aec:PFn:=aA (runF Tryz.prog aed aj5 Tryz.f78)
def anS:TH:={ loops:=[(4,{ keep:=[(5,(.int .i64))],mem:=[] })],ro:=[] }
def rG (a0:List (List UInt8)) (a1:List (List UInt8)) (y4:(Int×Unit)):Option ((Int×Unit)⊕Bool) :=
 cond (decide (y4.1<(a0.length:Int))) (
(atI a0 y4.1).bind fun x1 =>
(atI a1 y4.1).bind fun x2 =>
 cond (!decide (x1=x2)) (
 some (.inr false)) (
 some (.inl ((IntKind.wrap .i64 (y4.1+1)),())))) (
 some (.inr true))
def zb0 (a0:List (List UInt8)) (a1:List (List UInt8)):Option Bool :=
 cond (!decide ((a0.length:Int)=(a1.length:Int))) (
 some false) (
 aP (rG a0 a1) (0,()))
def wi:TFn:={ ps:=(.cons (.sl .str) (.cons (.sl .str) .unit)),res:=.bool,fn:=fun v=>zb0 v.1 v.2.1 }
def aj4:TEnv:=(vZ [])
theorem aj3:runY Tryz.prog aed aj5 aj4 anS Tryz.f78 wi.ps wi.res=wi.fn:=by kernel_rfl
theorem aeb:ax Tryz.prog G0 78 aec:=ad (ai ⟨aq,ab,am,ab,al⟩ Tryz.func78 rfl (by kernel_rfl))
theorem aj2:TOk aec wi:=aw (E:=aed) (ET:=aj4) (EnvT.ofX (ar aj) ak ao aJ an) aj3 rfl
def acI:Env:=(eZ [(78,aec)] [114])
def ahP:Hints:=(hZ [(4,[2,3,5])] [])
def acH:PFn:=aA (runF Tryz.prog acI ahP Tryz.f49)
def anc:TH:={ loops:=[(4,{ keep:=[(2,(.bx 0 0)),(3,(.bx 1 0)),(5,(.int .i64))],mem:=[.same,.same] })],cuts:=[(1,[(12,{ keep:=[(2,(.bx 0 0)),(3,(.bx 1 0)),(17,.bool)],mem:=[.same,.same] }),(7,{ keep:=[(2,(.bx 0 0)),(3,(.bx 1 0)),(24,.bool)],mem:=[.same,.same] })])],ro:=[2,3],news:=[] }
def rx (a0:vV0) (a1:vV0) (y4:(Int×Unit)):Option ((Int×Unit)⊕Bool) :=
 cond (decide (y4.1<(a0.2.2.2.2.1.length:Int))) (
(atI a0.2.2.2.2.1 y4.1).bind fun x4 =>
(atI a1.2.2.2.2.1 y4.1).bind fun x5 =>
 cond (!(eqV (.agg (.cons tT10 tT11)) x4 x5)) (
 some (.inr false)) (
 some (.inl ((IntKind.wrap .i64 (y4.1+1)),())))) (
 some (.inr true))
def zcf (a0:vV0) (a1:vV0):Option Bool :=
(cond (!decide (a0.1=a1.1)) (some (true,())) (some ((!(eqV tT9 a0.2.2.1 a1.2.2.1)),())):Option (Bool×Unit)).bind fun v1 =>
(cond v1.1 (some (true,())) (some ((!decide (a0.2.2.2.1=a1.2.2.2.1)),())):Option (Bool×Unit)).bind fun v2 =>
 cond v2.1 (some false) ((zb0 a0.2.1 a1.2.1).bind fun r3 =>
 cond (!r3) (some false) (cond (!decide ((a0.2.2.2.2.1.length:Int)=(a1.2.2.2.2.1.length:Int))) (
 some false) (
 aP (rx a0 a1) (0,()))))
def vo:TFn:={ ps:=(.cons tT7 (.cons tT7 .unit)),res:=.bool,fn:=fun v=>zcf v.1 v.2.1 }
def ahO:TEnv:=(vZ [(78,wi)])
theorem ahN:runY Tryz.prog acI ahP ahO anc Tryz.f49 vo.ps vo.res=vo.fn:=by kernel_rfl
theorem acG:ax Tryz.prog G0 49 acH:=ad (ai ⟨aq,(ae aeb ab),am,ab,al⟩ Tryz.func49 rfl (by kernel_rfl))
theorem ahM:TOk acH vo:=aw (E:=acI) (ET:=ahO) (EnvT.ofX (ar (ac aj2 aj)) ak ao aJ an) ahN rfl
def ac0:Env:=(eZ [(49,acH)] [114])
def aid:Hints:=(hZ [] [])
def acZ:PFn:=aA (runF Tryz.prog ac0 aid Tryz.f14)
def anj:TH:={ loops:=[],cuts:=[(1,[(12,{ keep:=[(2,(.bx 0 0)),(3,(.bx 1 0)),(16,.bool)],mem:=[.same,.same] }),(7,{ keep:=[(2,(.bx 0 0)),(3,(.bx 1 0)),(23,.bool)],mem:=[.same,.same] }),(7,{ keep:=[(2,(.bx 0 0)),(3,(.bx 1 0)),(30,.bool)],mem:=[.same,.same] })])],ro:=[2,3],news:=[] }
def zbz (a0:vV2) (a1:vV2):Option Bool :=
(cond (decide (a0.1=a1.1)) (some ((decide (a0.2.1=a1.2.1)),())) (some (false,())):Option (Bool×Unit)).bind fun v1 =>
(cond v1.1 (some ((decide (a0.2.2.1=a1.2.2.1)),())) (some (false,())):Option (Bool×Unit)).bind fun v2 =>
(cond v2.1 (some ((decide (a0.2.2.2.1=a1.2.2.2.1)),())) (some (false,())):Option (Bool×Unit)).bind fun v3 =>
 cond v3.1 (cond (eqV tT10 a0.2.2.2.2.2.1 a1.2.2.2.2.2.1) ((zcf a0.2.2.2.2.1 a1.2.2.2.2.1).bind fun r4 =>
 some r4) (some false)) (some false)
def vv:TFn:={ ps:=(.cons tT6 (.cons tT6 .unit)),res:=.bool,fn:=fun v=>zbz v.1 v.2.1 }
def aic:TEnv:=(vZ [(49,vo)])
theorem aib:runY Tryz.prog ac0 aid aic anj Tryz.f14 vv.ps vv.res=vv.fn:=by kernel_rfl
theorem acY:ax Tryz.prog G0 14 acZ:=ad (ai ⟨aq,(ae acG ab),am,ab,al⟩ Tryz.func14 rfl (by kernel_rfl))
theorem aia:TOk acZ vv:=aw (E:=ac0) (ET:=aic) (EnvT.ofX (ar (ac ahM aj)) ak ao aJ an) aib rfl
def aeE:Env:=(eZ [(6,adG),(7,adr),(8,ac2),(9,zL),(10,vP),(11,z8),(12,ad0),(13,zP),(14,acZ),(15,afp)] [114])
def akH:Hints:=(hZ [] [])
def akI:PFn:=aA (runF Tryz.prog aeE akH Tryz.f3)
def an2:TH:={ loops:=[],cuts:=[(9,[(6,{ keep:=[(1,(.bx 0 0)),(6,(.bx 2 0)),(45,.bool)],mem:=[.same,.gone,.box 34 tT6] })])],ro:=[1],news:=[] }
def zaq (a0:vV2):Option Bool :=
(zbh a0.2.2.2.2.1).bind fun r1 =>
 cond (!r1) (
(zbo).bind fun r2 =>
 some r2) (
(zby a0).bind fun r3 =>
(zbm a0).bind fun r4 =>
(zbf r3).bind fun r5 =>
(za5 r3).bind fun r6 =>
 cond (!(r6==r4)) (some false) ((zb6 a0).bind fun r7 =>
 cond (!decide (r5=r7)) (some false) (cond (!(r4==(!decide (r5=[])))) (
 some false) (
(zbd r5).bind fun r8 =>
(cond (!r4) (some ((decide (r8.2.1=19)),r8.1,())) (some (false,r8.1,())):Option (Bool×vV2×Unit)).bind fun v9 =>
 cond v9.1 ((zbo).bind fun r10 =>
 some r10) (cond r4 (cond (decide (r8.2.1=0)) ((za3 v9.2.1).bind fun r11 =>
(zbz r11 a0).bind fun r12 =>
 cond r12 ((zbo).bind fun r13 =>
 some r13) (some false)) (some false)) (some false))))))
def p6:TFn:={ ps:=(.cons tT6 .unit),res:=.bool,fn:=fun v=>zaq v.1 }
def akG:TEnv:=(vZ [(6,vM),(7,vF),(8,vx),(9,td),(10,pW),(11,tx),(12,wa),(13,ti),(14,vv),(15,wR)])
theorem akF:runY Tryz.prog aeE akH akG an2 Tryz.f3 p6.ps p6.res=p6.fn:=by kernel_rfl
theorem zaq_Fok:ax Tryz.prog G0 3 akI:=ad (ai ⟨aq,(ae adF (ae adq (ae ac1 (ae vH (ae pX (ae wP (ae adZ (ae vQ (ae acY (ae afo ab)))))))))),am,ab,al⟩ Tryz.func3 rfl (by kernel_rfl))
theorem zaq_ok:TOk akI p6:=aw (E:=aeE) (ET:=akG) (EnvT.ofX (ar (ac ajb (ac aiM (ac aie (ac abf (ac vO (ac abu (ac ajH (ac abi (ac aia (ac alW aj))))))))))) ak ao aJ an) akF rfl
end
end Go.Proofs.YtmklghkhfimfgaaGreatDoor.Y
