import Derived.Test.YtnbgkhdcidbkaaaGreatDoorS
import Derived.Test.YtnbgkhdcidbkaaaGreatDoorT32
import GoSem.PinnedTables
set_option linter.unusedVariables false
set_option maxRecDepth 100000
namespace Go.Proofs.YtnbgkhdcidbkaaaGreatDoor.Y
open Go.EM Go.TY Go.Proofs
theorem zb.{u,v}{A:Type u}{B:Type v} (a:A) (f:A→Option B):(some a).bind f=f a:=rfl
theorem zg.{u}{A:Type u}{l:List A}{i:Nat} (h:i<l.length):l[i]? = some l[i]:=List.getElem?_eq_getElem h
theorem zl.{u}{A:Type u}{a:A}{l:List A}:(a::l).length=l.length+1:=rfl
theorem zf {p:Prop} [Decidable p] (h:¬p):decide p=false:=decide_eq_false h
theorem zn.{u}{c:Prop}{h:Decidable c} (hc:¬c) {A:Sort u}{t e:A}:ite c t e=e:=if_neg hc
theorem zp.{u}{c:Prop}{h:Decidable c} (hc:c) {A:Sort u}{t e:A}:ite c t e=t:=if_pos hc
theorem zm.{u}{A:Type u}{l:List A}{n:Nat} (h:n<l.length):l[n]∈l:=List.getElem_mem h
theorem zt {p:Prop} [Decidable p] (h:p):decide p=true:=decide_eq_true h
noncomputable section
def G0:List (Nat×AVal):=[(3,.rptr (Lib.pow10Tab.map (AVal.int .u64)))]
def G0T:List (Nat×TV):=[]
theorem aM:qF G0 G0T:=adv
theorem au:∀ f,memN f [274]=true→Same Tryz.prog f:=by
 intro f h
 by_cases e274:f=274
 · subst e274; exact ⟨Tryz.f274,Tryz.func274,by kernel_rfl,by kernel_rfl,by kernel_rfl,by kernel_rfl⟩
 simp_all [memN]
def eZ (l:List (Nat×PFn)) (s:List Nat):Env:={ pure:=l,raw:=[],glob:=G0,same:=s,look:=[],ext:=[] }
def vZ (l:List (Nat×TFn)):TEnv:={ pure:=l,look:=[],glob:=G0T,ty:=[],raw:=[],fresh:=[] }
def hZ (l:List (Nat×List Nat)) (o:List Nat):Hints:={ seqs:=[],loops:=l,own:=o }
def yZ:TH:={ joins:=[],loops:=[],cuts:=[],ro:=[],news:=[] }
abbrev vV0:=(Int×List (List UInt8)×(Int×Int×List UInt8×Unit)×Int×List ((Int×Int×Unit)×Int×Unit)×Unit)
abbrev vV1:=(List ((Int×Int×Unit)×Int×Int×Bool×List vV0×Unit)×List ((Int×Int×Unit)×Int×Unit)×(List Int×List (Int×Int×Unit)×Unit)×(List Int×List (Int×Int×Unit)×Unit)×List (List (Int×Int×Unit))×Unit)
abbrev vV2:=(List (List UInt8)×Int×List (Int×Int×List UInt8×Unit)×Int×Unit)
abbrev vV3:=((Int×Int×Unit)×Int×Unit)
abbrev vV4:=((Int×Int×Unit)×Int×Int×Bool×List vV0×Unit)
abbrev vV5:=(Int×Int×List UInt8×Unit)
abbrev vV6:=(List (List UInt8)×Int×Unit)
abbrev vV7:=(vV3×vV0×Int×Unit)
abbrev vV8:=(List Int×List (Int×Int×Unit)×Unit)
abbrev vV9:=(Int×vV2×vV2×Unit)
abbrev vV10:=(Int×List (vV3×Bool)×Unit)
abbrev vV11:=(List Int×Unit×Unit)
abbrev vV12:=(Bool×Unit×Unit)
abbrev tT13:Ty:=(.agg (.cons (.sl (.agg (.cons (.agg (.cons (.int .i64) (.cons (.int .i64) .unit))) (.cons (.int .i64) (.cons (.int .i64) (.cons .bool (.cons (.sl (.agg (.cons (.int .i64) (.cons (.sl .str) (.cons (.agg (.cons (.int .i64) (.cons (.int .i64) (.cons .str .unit)))) (.cons (.int .i64) (.cons (.sl (.agg (.cons (.agg (.cons (.int .i64) (.cons (.int .i64) .unit))) (.cons (.int .i64) .unit)))) .unit))))))) .unit))))))) (.cons (.sl (.agg (.cons (.agg (.cons (.int .i64) (.cons (.int .i64) .unit))) (.cons (.int .i64) .unit)))) (.cons (.agg (.cons (.arr 16 (.int .i64)) (.cons (.sl (.agg (.cons (.int .i64) (.cons (.int .i64) .unit)))) .unit))) (.cons (.agg (.cons (.arr 16 (.int .i64)) (.cons (.sl (.agg (.cons (.int .i64) (.cons (.int .i64) .unit)))) .unit))) (.cons (.arr 8 (.sl (.agg (.cons (.int .i64) (.cons (.int .i64) .unit))))) .unit))))))
abbrev tT14:Ty:=(.agg (.cons (.int .i64) (.cons (.sl .str) (.cons (.agg (.cons (.int .i64) (.cons (.int .i64) (.cons .str .unit)))) (.cons (.int .i64) (.cons (.sl (.agg (.cons (.agg (.cons (.int .i64) (.cons (.int .i64) .unit))) (.cons (.int .i64) .unit)))) .unit))))))
abbrev tT15:Ty:=(.agg (.cons (.int .i64) (.cons (.int .i64) .unit)))
abbrev tT16:Ty:=(.agg (.cons (.sl .str) (.cons (.int .i64) (.cons (.sl (.agg (.cons (.int .i64) (.cons (.int .i64) (.cons .str .unit))))) (.cons (.int .i64) .unit)))))
abbrev tT17:Ty:=(.agg (.cons tT15 (.cons (.int .i64) .unit)))
abbrev tT18:Ty:=(.agg (.cons (.int .i64) (.cons (.int .i64) (.cons .str .unit))))
abbrev tT19:Ty:=(.agg (.cons tT15 (.cons (.int .i64) (.cons (.int .i64) (.cons .bool (.cons (.sl tT14) .unit))))))
abbrev tT20:Ty:=(.agg (.cons tT17 (.cons tT14 (.cons (.int .i64) .unit))))
abbrev tT21:Ty:=(.agg (.cons (.arr 16 (.int .i64)) (.cons (.sl tT15) .unit)))
abbrev tT22:Ty:=(.cons (.sl .str) (.cons (.int .i64) .unit))
abbrev tT23:Ty:=(.agg (.cons (.int .i64) (.cons tT16 (.cons tT16 .unit))))
abbrev tT24:Ty:=(.agg (.cons (.op 0) (.cons (.own 1) .unit)))
abbrev tT25:Ty:=(.agg (.cons (.arr 16 (.int .i64)) (.cons .nilsl .unit)))
abbrev tT26:Ty:=(.agg (.cons (.op 1) (.cons (.own 0) .unit)))
def aiO:Env:=(eZ [] [274])
def aqj:Hints:=(hZ [(4,[0,3])] [])
def aiN:PFn:=aG (runF Tryz.prog aiO aqj Tryz.f15)
def axa:TH:={ loops:=[(4,{ keep:=[(3,(.int .i64))],mem:=[] })],ro:=[] }
def vX (a0:List (List UInt8)) (y4:(Int×Unit)):Option ((Int×Unit)⊕Bool) :=
 cond (decide (y4.1<(a0.length:Int))) (
(atI a0 y4.1).bind fun x1 =>
 cond (decide ((x1.length:Int)>120)) (
 some (.inr false)) (
 some (.inl ((IntKind.wrap .i64 (y4.1+1)),())))) (
 some (.inr true))
def zcq (a0:List (List UInt8)):Option Bool :=
 cond (decide ((a0.length:Int)>12)) (
 some false) (
 aI (vX a0) (0,()))
def aaC:TFn:={ ps:=(.cons (.sl .str) .unit),res:=.bool,fn:=fun v=>zcq v.1 }
def aqi:TEnv:=(vZ [])
theorem aqh:runY Tryz.prog aiO aqj aqi axa Tryz.f15 aaC.ps aaC.res=aaC.fn:=by kernel_rfl
theorem aiM:aB Tryz.prog G0 15 aiN:=ah (ak ⟨au,ac,ap,ac,an⟩ Tryz.func15 rfl (by kernel_rfl))
theorem aqg:TOk aiN aaC:=aA (E:=aiO) (ET:=aqi) (EnvT.ofX (ax al) am ar aM aq) aqh rfl
def ai2:Env:=(eZ [(15,aiN)] [274])
def aqC:Hints:=(hZ [] [])
def ai1:PFn:=aG (runF Tryz.prog ai2 aqC Tryz.f108)
def axh:TH:={ loops:=[],ro:=[1] }
def zck (a0:vV0):Option Bool :=
(zcq a0.2.1).bind fun r1 =>
 cond r1 (cond (decide ((a0.2.2.1.2.2.1.length:Int)≤200)) (some (decide ((a0.2.2.2.2.1.length:Int)≤300))) (some false)) (some false)
def aaG:TFn:={ ps:=(.cons tT14 .unit),res:=.bool,fn:=fun v=>zck v.1 }
def aqB:TEnv:=(vZ [(15,aaC)])
theorem aqA:runY Tryz.prog ai2 aqC aqB axh Tryz.f108 aaG.ps aaG.res=aaG.fn:=by kernel_rfl
theorem ai0:aB Tryz.prog G0 108 ai1:=ah (ak ⟨au,(aj aiM ac),ap,ac,an⟩ Tryz.func108 rfl (by kernel_rfl))
theorem aqz:TOk ai1 aaG:=aA (E:=ai2) (ET:=aqB) (EnvT.ofX (ax (ai aqg al)) am ar aM aq) aqA rfl
def ajk:Env:=(eZ [(108,ai1)] [274])
def aq0:Hints:=(hZ [(4,[1,3])] [])
def ajj:PFn:=aG (runF Tryz.prog ajk aq0 Tryz.f41)
def axn:TH:={ loops:=[(4,{ keep:=[(1,(.bx 0 0)),(3,(.int .i64))],mem:=[.same] })],ro:=[1] }
def wg (a0:vV4) (y4:(Int×Unit)):Option ((Int×Unit)⊕Bool) :=
 cond (decide (y4.1<(a0.2.2.2.2.1.length:Int))) (
(atI a0.2.2.2.2.1 y4.1).bind fun x1 =>
(zck x1).bind fun r2 =>
 cond (!r2) (
 some (.inr false)) (
 some (.inl ((IntKind.wrap .i64 (y4.1+1)),())))) (
 some (.inr true))
def zce (a0:vV4):Option Bool :=
 cond (decide ((a0.2.2.2.2.1.length:Int)>20)) (
 some false) (
 aI (wg a0) (0,()))
def aaM:TFn:={ ps:=(.cons tT19 .unit),res:=.bool,fn:=fun v=>zce v.1 }
def aqZ:TEnv:=(vZ [(108,aaG)])
theorem aqY:runY Tryz.prog ajk aq0 aqZ axn Tryz.f41 aaM.ps aaM.res=aaM.fn:=by kernel_rfl
theorem aji:aB Tryz.prog G0 41 ajj:=ah (ak ⟨au,(aj ai0 ac),ap,ac,an⟩ Tryz.func41 rfl (by kernel_rfl))
theorem aqX:TOk ajj aaM:=aA (E:=ajk) (ET:=aqZ) (EnvT.ofX (ax (ai aqz al)) am ar aM aq) aqY rfl
def ajh:Env:=(eZ [(41,ajj)] [274])
def aqW:Hints:=(hZ [(4,[1,3]),(9,[1,4])] [])
def ajg:PFn:=aG (runF Tryz.prog ajh aqW Tryz.f95)
def axm:TH:={ joins:=[(8,{ keep:=[(1,(.bx 0 0))],mem:=[.box 69 tT13] })],loops:=[(4,{ keep:=[(1,(.bx 0 0)),(3,(.int .i64))],mem:=[.box 69 tT13] }),(9,{ keep:=[(1,(.bx 0 0)),(4,(.int .i64))],mem:=[.box 69 tT13] })],cuts:=[(1,[(10,{ keep:=[(1,(.bx 0 0)),(14,.bool)],mem:=[.box 69 tT13] })])],ro:=[],news:=[] }
def nN (y4:(Int×vV1×Unit)):Option ((Int×vV1×Unit)⊕((vV1×Unit)⊕Bool)) :=
 cond (decide (y4.1<(y4.2.1.1.length:Int))) (
(atI y4.2.1.1 y4.1).bind fun x2 =>
(zce x2).bind fun r3 =>
 cond (!r3) (
 some (.inr (.inr false))) (
 some (.inl ((IntKind.wrap .i64 (y4.1+1)),y4.2.1,())))) (
 some (.inr (.inl (y4.2.1,()))))
def nM (y9:(Int×vV1×Unit)):Option ((Int×vV1×Unit)⊕Bool) :=
 cond (decide (y9.1<8)) (
(inI 8 y9.1).bind fun i5 =>
(y9.2.1.2.2.2.2.1[i5]?).bind fun x6 =>
 cond (decide ((x6.length:Int)>40)) (
 some (.inr false)) (
 some (.inl ((IntKind.wrap .i64 (y9.1+1)),y9.2.1,())))) (
 some (.inr true))
def zcf (a0:vV1):Option Bool :=
(cond (decide ((a0.1.length:Int)>20)) (some (true,a0,())) (some ((decide ((a0.2.1.length:Int)>100)),a0,())):Option (Bool×vV1×Unit)).bind fun v1 =>
 cond v1.1 (some false) (cond (decide ((v1.2.1.2.2.1.2.1.length:Int)>100)) (some false) (cond (decide ((v1.2.1.2.2.2.1.2.1.length:Int)>100)) (
 some false) (
(aI (nN) (0,v1.2.1,()):Option ((vV1×Unit)⊕Bool)).bind (bc fun v4 =>
 aI (nM) (0,v4.1,())))))
def aaL:TFn:={ ps:=(.cons tT13 .unit),res:=.bool,fn:=fun v=>zcf v.1 }
def aqV:TEnv:=(vZ [(41,aaM)])
theorem aqU:runY Tryz.prog ajh aqW aqV axm Tryz.f95 aaL.ps aaL.res=aaL.fn:=by kernel_rfl
theorem ajf:aB Tryz.prog G0 95 ajg:=ah (ak ⟨au,(aj aji ac),ap,ac,an⟩ Tryz.func95 rfl (by kernel_rfl))
theorem aqT:TOk ajg aaL:=aA (E:=ajh) (ET:=aqV) (EnvT.ofX (ax (ai aqX al)) am ar aM aq) aqU rfl
def ajJ:Env:=(eZ [] [274])
def arG:Hints:=(hZ [] [])
def aey:PFn:=aG (runF Tryz.prog ajJ arG Tryz.f172)
def axy:TH:=yZ
def zc3 (a0:Int) (a1:Int):Option Int :=
 cond (decide (a0<a1)) (
 some (-1)) (
 cond (decide (a0>a1)) (
 some 1) (
 some 0))
def yb:TFn:={ ps:=(.cons (.int .i64) (.cons (.int .i64) .unit)),res:=(.int .i64),fn:=fun v=>zc3 v.1 v.2.1 }
def arF:TEnv:=(vZ [])
theorem arE:runY Tryz.prog ajJ arG arF axy Tryz.f172 yb.ps yb.res=yb.fn:=by kernel_rfl
theorem aaX:aB Tryz.prog G0 172 aey:=ah (ak ⟨au,ac,ap,ac,an⟩ Tryz.func172 rfl (by kernel_rfl))
theorem agv:TOk aey yb:=aA (E:=ajJ) (ET:=arF) (EnvT.ofX (ax al) am ar aM aq) arE rfl
def aj7:Env:=(eZ [(172,aey)] [274])
def asm:Hints:=(hZ [] [])
def tM:PFn:=aG (runF Tryz.prog aj7 asm Tryz.f101)
def axK:TH:={ loops:=[],ro:=[2,3] }
def zbp (a0:(Int×Int×Unit)) (a1:(Int×Int×Unit)):Option Int :=
 cond (!decide (a0.1=a1.1)) (
(zc3 a0.1 a1.1).bind fun r1 =>
 some r1) (
(zc3 a0.2.1 a1.2.1).bind fun r2 =>
 some r2)
def pm:TFn:={ ps:=(.cons tT15 (.cons tT15 .unit)),res:=(.int .i64),fn:=fun v=>zbp v.1 v.2.1 }
def asl:TEnv:=(vZ [(172,yb)])
theorem ask:runY Tryz.prog aj7 asm asl axK Tryz.f101 pm.ps pm.res=pm.fn:=by kernel_rfl
theorem lk:aB Tryz.prog G0 101 tM:=ah (ak ⟨au,(aj aaX ac),ap,ac,an⟩ Tryz.func101 rfl (by kernel_rfl))
theorem qM:TOk tM pm:=aA (E:=aj7) (ET:=asl) (EnvT.ofX (ax (ai agv al)) am ar aM aq) ask rfl
def aiL:Env:=(eZ [(101,tM)] [274])
def aqf:Hints:=(hZ [(2,[0,3])] [])
def aiK:PFn:=aG (runF Tryz.prog aiL aqf Tryz.f152)
def aw9:TH:={ loops:=[(2,{ keep:=[(3,(.int .i64))],mem:=[] })],ro:=[] }
def vW (a0:List vV4) (y2:(Int×Unit)):Option ((Int×Unit)⊕Bool) :=
 cond (decide (y2.1<(a0.length:Int))) (
(atI a0 (IntKind.wrap .i64 (y2.1-1))).bind fun x1 =>
(atI a0 y2.1).bind fun x2 =>
(zbp x1.1 x2.1).bind fun r3 =>
 cond (!decide (r3=(-1))) (
 some (.inr false)) (
 some (.inl ((IntKind.wrap .i64 (y2.1+1)),())))) (
 some (.inr true))
def zcr (a0:List vV4):Option Bool :=
 aI (vW a0) (1,())
def aaB:TFn:={ ps:=(.cons (.sl tT19) .unit),res:=.bool,fn:=fun v=>zcr v.1 }
def aqe:TEnv:=(vZ [(101,pm)])
theorem aqd:runY Tryz.prog aiL aqf aqe aw9 Tryz.f152 aaB.ps aaB.res=aaB.fn:=by kernel_rfl
theorem aiJ:aB Tryz.prog G0 152 aiK:=ah (ak ⟨au,(aj lk ac),ap,ac,an⟩ Tryz.func152 rfl (by kernel_rfl))
theorem aqc:TOk aiK aaB:=aA (E:=aiL) (ET:=aqe) (EnvT.ofX (ax (ai qM al)) am ar aM aq) aqd rfl
def akJ:Env:=(eZ [] [274])
def atp:Hints:=(hZ [] [])
def pr:PFn:=aG (runF Tryz.prog akJ atp Tryz.f109)
def ax0:TH:={ loops:=[],ro:=[1] }
def zb8 (a0:(Int×Int×Unit)):Option Bool :=
 cond (decide (a0.1≥0)) (cond (decide (a0.1≤15)) (cond (decide (a0.2.1≥1)) (some (decide (a0.2.1≤1048576))) (some false)) (some false)) (some false)
def lp:TFn:={ ps:=(.cons tT15 .unit),res:=.bool,fn:=fun v=>zb8 v.1 }
def ato:TEnv:=(vZ [])
theorem atn:runY Tryz.prog akJ atp ato ax0 Tryz.f109 lp.ps lp.res=lp.fn:=by kernel_rfl
theorem iq:aB Tryz.prog G0 109 pr:=ah (ak ⟨au,ac,ap,ac,an⟩ Tryz.func109 rfl (by kernel_rfl))
theorem lm:TOk pr lp:=aA (E:=akJ) (ET:=ato) (EnvT.ofX (ax al) am ar aM aq) atn rfl
def ahC:Env:=(eZ [(109,pr)] [274])
def aoz:Hints:=(hZ [] [])
def ahB:PFn:=aG (runF Tryz.prog ahC aoz Tryz.f224)
def awI:TH:={ loops:=[],ro:=[1] }
def zdo (a0:vV3):Option Bool :=
(zb8 a0.1).bind fun r1 =>
 cond r1 (cond (decide (a0.2.1≥1)) (some (decide (a0.2.1≤64))) (some false)) (some false)
def aaa:TFn:={ ps:=(.cons tT17 .unit),res:=.bool,fn:=fun v=>zdo v.1 }
def aoy:TEnv:=(vZ [(109,lp)])
theorem aox:runY Tryz.prog ahC aoz aoy awI Tryz.f224 aaa.ps aaa.res=aaa.fn:=by kernel_rfl
theorem ahA:aB Tryz.prog G0 224 ahB:=ah (ak ⟨au,(aj iq ac),ap,ac,an⟩ Tryz.func224 rfl (by kernel_rfl))
theorem aow:TOk ahB aaa:=aA (E:=ahC) (ET:=aoy) (EnvT.ofX (ax (ai lm al)) am ar aM aq) aox rfl
def akN:Env:=(eZ [(101,tM),(224,ahB)] [274])
def atw:Hints:=(hZ [(2,[0,3])] [])
def akM:PFn:=aG (runF Tryz.prog akN atw Tryz.f153)
def ax2:TH:={ loops:=[(2,{ keep:=[(3,(.int .i64))],mem:=[] })],ro:=[] }
def wz (a0:List vV3) (y2:(Int×Unit)):Option ((Int×Unit)⊕Bool) :=
 cond (decide (y2.1<(a0.length:Int))) (
(atI a0 y2.1).bind fun x1 =>
(zdo x1).bind fun r2 =>
 cond (!r2) (some (.inr false)) (cond (decide (y2.1>0)) ((atI a0 (IntKind.wrap .i64 (y2.1-1))).bind fun x3 =>
(atI a0 y2.1).bind fun x4 =>
(zbp x3.1 x4.1).bind fun r5 =>
 cond (!decide (r5=(-1))) (
 some (.inr false)) (
 some (.inl ((IntKind.wrap .i64 (y2.1+1)),())))) (some (.inl ((IntKind.wrap .i64 (y2.1+1)),()))))) (
 some (.inr true))
def zb6 (a0:List vV3):Option Bool :=
 aI (wz a0) (0,())
def abq:TFn:={ ps:=(.cons (.sl tT17) .unit),res:=.bool,fn:=fun v=>zb6 v.1 }
def atv:TEnv:=(vZ [(101,pm),(224,aaa)])
theorem atu:runY Tryz.prog akN atw atv ax2 Tryz.f153 abq.ps abq.res=abq.fn:=by kernel_rfl
theorem akL:aB Tryz.prog G0 153 akM:=ah (ak ⟨au,(aj lk (aj ahA ac)),ap,ac,an⟩ Tryz.func153 rfl (by kernel_rfl))
theorem att:TOk akM abq:=aA (E:=akN) (ET:=atv) (EnvT.ofX (ax (ai qM (ai aow al))) am ar aM aq) atu rfl
def ai8:Env:=(eZ [] [274])
def aqK:Hints:=(hZ [(2,[1,3])] [])
def ai7:PFn:=aG (runF Tryz.prog ai8 aqK Tryz.f235)
def axj:TH:={ loops:=[(2,{ keep:=[(1,(.bx 0 0)),(3,(.int .i64))],mem:=[.box 63 (.arr 16 (.int .i64))] })],ro:=[] }
def wb (y2:(Int×List Int×Unit)):Option ((Int×List Int×Unit)⊕Bool) :=
 cond (decide (y2.1<16)) (
(inI 16 y2.1).bind fun i1 =>
(y2.2.1[i1]?).bind fun x2 =>
 cond (decide (x2<0)) (some (.inr false)) ((inI 16 y2.1).bind fun i3 =>
(y2.2.1[i3]?).bind fun x4 =>
 cond (decide (x4>1048576)) (
 some (.inr false)) (
 some (.inl ((IntKind.wrap .i64 (y2.1+1)),y2.2.1,()))))) (
 some (.inr true))
def zci (a0:List Int):Option Bool :=
 aI (wb) (0,a0,())
def aaI:TFn:={ ps:=(.cons (.arr 16 (.int .i64)) .unit),res:=.bool,fn:=fun v=>zci v.1 }
def aqJ:TEnv:=(vZ [])
theorem aqI:runY Tryz.prog ai8 aqK aqJ axj Tryz.f235 aaI.ps aaI.res=aaI.fn:=by kernel_rfl
theorem ai6:aB Tryz.prog G0 235 ai7:=ah (ak ⟨au,ac,ap,ac,an⟩ Tryz.func235 rfl (by kernel_rfl))
theorem aqH:TOk ai7 aaI:=aA (E:=ai8) (ET:=aqJ) (EnvT.ofX (ax al) am ar aM aq) aqI rfl
def ai5:Env:=(eZ [(101,tM),(109,pr),(235,ai7)] [274])
def aqG:Hints:=(hZ [(4,[1,3])] [])
def ai4:PFn:=aG (runF Tryz.prog ai5 aqG Tryz.f166)
def axi:TH:={ loops:=[(4,{ keep:=[(1,(.bx 0 0)),(3,(.int .i64))],mem:=[.box 66 tT21] })],ro:=[] }
def wa (y4:(Int×vV8×Unit)):Option ((Int×vV8×Unit)⊕Bool) :=
 cond (decide (y4.1<(y4.2.1.2.1.length:Int))) (
(atI y4.2.1.2.1 y4.1).bind fun x2 =>
(zb8 x2).bind fun r3 =>
 cond (!r3) (some (.inr false)) ((inI 16 x2.1).bind fun i4 =>
(y4.2.1.1[i4]?).bind fun x5 =>
 cond (decide ((IntKind.wrap .i64 (x2.2.1-1))≤x5)) (
 some (.inr false)) (
 cond (decide (y4.1>0)) ((atI y4.2.1.2.1 (IntKind.wrap .i64 (y4.1-1))).bind fun x6 =>
(zbp x6 x2).bind fun r7 =>
 cond (!decide (r7=(-1))) (
 some (.inr false)) (
 some (.inl ((IntKind.wrap .i64 (y4.1+1)),y4.2.1,())))) (some (.inl ((IntKind.wrap .i64 (y4.1+1)),y4.2.1,())))))) (
 some (.inr true))
def zcj (a0:vV8):Option Bool :=
(zci a0.1).bind fun r1 =>
 cond (!r1) (some false) (cond (decide ((a0.2.1.length:Int)>4096)) (
 some false) (
 aI (wa) (0,a0,())))
def aaH:TFn:={ ps:=(.cons tT21 .unit),res:=.bool,fn:=fun v=>zcj v.1 }
def aqF:TEnv:=(vZ [(101,pm),(109,lp),(235,aaI)])
theorem aqE:runY Tryz.prog ai5 aqG aqF axi Tryz.f166 aaH.ps aaH.res=aaH.fn:=by kernel_rfl
theorem ai3:aB Tryz.prog G0 166 ai4:=ah (ak ⟨au,(aj lk (aj iq (aj ai6 ac))),ap,ac,an⟩ Tryz.func166 rfl (by kernel_rfl))
theorem aqD:TOk ai4 aaH:=aA (E:=ai5) (ET:=aqF) (EnvT.ofX (ax (ai qM (ai lm (ai aqH al)))) am ar aM aq) aqE rfl
def ajE:Env:=(eZ [] [274])
def arx:Hints:=(hZ [(17,[0,4,5,6,7])] [])
def ajD:PFn:=aG (runF Tryz.prog ajE arx Tryz.f216)
def axv:TH:={ joins:=[(14,{ keep:=[(4,(.int .i64)),(5,(.int .i64)),(6,(.int .i64))],mem:=[] }),(9,{ keep:=[(18,.bool)],mem:=[] }),(22,{ keep:=[(4,(.int .i64))],mem:=[] }),(24,{ keep:=[],mem:=[] })],loops:=[(17,{ keep:=[(4,(.int .i64)),(7,(.int .i64))],mem:=[] })],ro:=[] }
def gj (a0:List UInt8) (v3:(Int×Int×Int×Unit)) (y17:(Int×Int×Unit)):Option ((Int×Int×Unit)⊕((Int×Unit)⊕(Int×Int×Unit))) :=
 cond (decide (y17.2.1<v3.2.1)) (
(atI a0 y17.2.1).bind fun b4 =>
 cond (decide ((b4.toNat:Int)<128)) (some (.inr (.inr (0,0,())))) ((atI a0 y17.2.1).bind fun b5 =>
 cond (decide ((b5.toNat:Int)>191)) (
 some (.inr (.inr (0,0,())))) (
(atI a0 y17.2.1).bind fun b6 =>
 some (.inl ((IntKind.wrap .i64 ((IntKind.wrap .i64 ((IntKind.wrap .i64 (64*y17.1))+(IntKind.wrap .i64 (b6.toNat:Int))))-128)),(IntKind.wrap .i64 (y17.2.1+1)),()))))) (
 some (.inr (.inl (y17.1,()))))
def zc6 (a0:List UInt8):Option (Int×Int×Unit) :=
 cond (decide ((a0.length:Int)=0)) (
 some (0,0,())) (
(atI a0 0).bind fun b1 =>
(cond (decide ((IntKind.wrap .i64 (b1.toNat:Int))<128)) (
 some (.inr ((IntKind.wrap .i64 (b1.toNat:Int)),1,()))) (
(cond (decide ((IntKind.wrap .i64 (b1.toNat:Int))≥194)) (some (.inl ((decide ((IntKind.wrap .i64 (b1.toNat:Int))<224)),()))) (some (.inl (false,()))):Option ((Bool×Unit)⊕((Int×Int×Int×Unit)⊕(Int×Int×Unit)))).bind (bc fun v2 =>
 cond v2.1 (
 some (.inl ((IntKind.wrap .i64 ((IntKind.wrap .i64 (b1.toNat:Int))-192)),2,128,()))) (
 cond (decide ((IntKind.wrap .i64 (b1.toNat:Int))≥224)) (cond (decide ((IntKind.wrap .i64 (b1.toNat:Int))<240)) (
 some (.inl ((IntKind.wrap .i64 ((IntKind.wrap .i64 (b1.toNat:Int))-224)),3,2048,()))) (
 cond (decide ((IntKind.wrap .i64 (b1.toNat:Int))≥240)) (cond (decide ((IntKind.wrap .i64 (b1.toNat:Int))<245)) (
 some (.inl ((IntKind.wrap .i64 ((IntKind.wrap .i64 (b1.toNat:Int))-240)),4,65536,()))) (
 some (.inr (0,0,())))) (some (.inr (0,0,()))))) (cond (decide ((IntKind.wrap .i64 (b1.toNat:Int))≥240)) (cond (decide ((IntKind.wrap .i64 (b1.toNat:Int))<245)) (
 some (.inl ((IntKind.wrap .i64 ((IntKind.wrap .i64 (b1.toNat:Int))-240)),4,65536,()))) (
 some (.inr (0,0,())))) (some (.inr (0,0,()))))))):Option ((Int×Int×Int×Unit)⊕(Int×Int×Unit))).bind (bc fun v3 =>
 cond (decide ((a0.length:Int)<v3.2.1)) (
 some (0,0,())) (
(aI (gj a0 v3) (v3.1,1,()):Option ((Int×Unit)⊕(Int×Int×Unit))).bind (bc fun v7 =>
(cond (decide (v7.1<v3.2.2.1)) (some (.inr (0,0,()))) (cond (decide (v7.1>1114111)) (some (.inr (0,0,()))) (cond (decide (v7.1≥55296)) (cond (decide (v7.1≤57343)) (
 some (.inr (0,0,()))) (
 some (.inl ()))) (some (.inl ())))):Option (Unit⊕(Int×Int×Unit))).bind (bc fun v8 =>
 some (v7.1,v3.2.1,()))))))
def aaV:TFn:={ ps:=(.cons .str .unit),res:=(.tup (.cons (.int .i64) (.cons (.int .i64) .unit))),fn:=fun v=>zc6 v.1 }
def arw:TEnv:=(vZ [])
theorem arv:runY Tryz.prog ajE arx arw axv Tryz.f216 aaV.ps aaV.res=aaV.fn:=by kernel_rfl
theorem ajC:aB Tryz.prog G0 216 ajD:=ah (ak ⟨au,ac,ap,ac,an⟩ Tryz.func216 rfl (by kernel_rfl))
theorem aru:TOk ajD aaV:=aA (E:=ajE) (ET:=arw) (EnvT.ofX (ax al) am ar aM aq) arv rfl
def aju:Env:=(eZ [(216,ajD)] [274])
def arh:Hints:=(hZ [(3,[0,4,5])] [])
def aev:PFn:=aG (runF Tryz.prog aju arh Tryz.f144)
def axr:TH:={ loops:=[(3,{ keep:=[(4,(.own 0)),(5,(.int .i64))],mem:=[.row true 3 (.int .i64)] })],ro:=[] }
def nO (a0:List UInt8) (y3:(Int×List Int×Unit)):Option ((Int×List Int×Unit)⊕(List Int×Bool×Unit)) :=
 cond (decide (y3.1<(a0.length:Int))) (
(subI a0 y3.1 (a0.length:Int)).bind fun s1 =>
(zc6 s1).bind fun r2 =>
 cond (decide (r2.2.1=0)) (
 some (.inr ([],false,()))) (
(bP (y3.2.1.length+([r2.1]:List Int).length)).bind fun u3 =>
 some (.inl ((IntKind.wrap .i64 (y3.1+r2.2.1)),(y3.2.1++([r2.1]:List Int)),())))) (
 some (.inr (y3.2.1,true,())))
def zca (a0:List UInt8):Option (List Int×Bool×Unit) :=
 aI (nO a0) (0,[],())
def ya:TFn:={ ps:=(.cons .str .unit),res:=(.tup (.cons (.sl (.int .i64)) (.cons .bool .unit))),fn:=fun v=>zca v.1 }
def arf:TEnv:={ pure:=[(216,aaV)],look:=[],glob:=G0T,ty:=[(3,(.int .i64))],raw:=[],fresh:=[] }
theorem ard:runY Tryz.prog aju arh arf axr Tryz.f144 ya.ps ya.res=ya.fn:=by kernel_rfl
theorem aaQ:aB Tryz.prog G0 144 aev:=ah (ak ⟨au,(aj ajC ac),ap,ac,an⟩ Tryz.func144 rfl (by kernel_rfl))
theorem agu:TOk aev ya:=aA (E:=aju) (ET:=arf) (EnvT.ofX (ax (ai aru al)) am ar aM aq) ard rfl
def ahP:Env:=(eZ [] [274])
def aoS:Hints:=(hZ [] [])
def ahO:PFn:=aG (runF Tryz.prog ahP aoS Tryz.f306)
def awN:TH:=yZ
def zdj (a0:Int):Option Bool :=
 cond (decide (a0≥32)) (cond (decide (a0<127)) (some (!decide (a0=65533))) (cond (decide (a0>159)) (some (!decide (a0=65533))) (some false))) (some false)
def aaf:TFn:={ ps:=(.cons (.int .i64) .unit),res:=.bool,fn:=fun v=>zdj v.1 }
def aoR:TEnv:=(vZ [])
theorem aoQ:runY Tryz.prog ahP aoS aoR awN Tryz.f306 aaf.ps aaf.res=aaf.fn:=by kernel_rfl
theorem ahN:aB Tryz.prog G0 306 ahO:=ah (ak ⟨au,ac,ap,ac,an⟩ Tryz.func306 rfl (by kernel_rfl))
theorem aoP:TOk ahO aaf:=aA (E:=ahP) (ET:=aoR) (EnvT.ofX (ax al) am ar aM aq) aoQ rfl
def ajq:Env:=(eZ [(144,aev),(306,ahO)] [274])
def aq8:Hints:=(hZ [(3,[3,4,5])] [])
def ajp:PFn:=aG (runF Tryz.prog ajq aq8 Tryz.f253)
def axp:TH:={ joins:=[(7,{ keep:=[],mem:=[] })],loops:=[(3,{ keep:=[(5,(.int .i64))],mem:=[] })],ro:=[] }
def qL (r1:(List Int×Bool×Unit)) (y3:(Int×Unit)):Option ((Int×Unit)⊕(Unit⊕Bool)) :=
 cond (decide (y3.1<(r1.1.length:Int))) (
(atI r1.1 y3.1).bind fun x2 =>
(zdj x2).bind fun r3 =>
 cond (!r3) (
 some (.inr (.inr false))) (
 some (.inl ((IntKind.wrap .i64 (y3.1+1)),())))) (
 some (.inr (.inl ())))
def zcc (a0:List UInt8):Option Bool :=
(zca a0).bind fun r1 =>
(aI (qL r1) (0,()):Option (Unit⊕Bool)).bind (bc fun v4 =>
 cond r1.2.1 (cond (decide ((r1.1.length:Int)≥1)) (some (decide ((r1.1.length:Int)≤24))) (some false)) (some false))
def aaO:TFn:={ ps:=(.cons .str .unit),res:=.bool,fn:=fun v=>zcc v.1 }
def aq7:TEnv:=(vZ [(144,ya),(306,aaf)])
theorem aq6:runY Tryz.prog ajq aq8 aq7 axp Tryz.f253 aaO.ps aaO.res=aaO.fn:=by kernel_rfl
theorem ajo:aB Tryz.prog G0 253 ajp:=ah (ak ⟨au,(aj aaQ (aj ahN ac)),ap,ac,an⟩ Tryz.func253 rfl (by kernel_rfl))
theorem aq5:TOk ajp aaO:=aA (E:=ajq) (ET:=aq7) (EnvT.ofX (ax (ai agu (ai aoP al))) am ar aM aq) aq6 rfl
def ajt:Env:=(eZ [(253,ajp)] [274])
def arc:Hints:=(hZ [(6,[0,3])] [])
def ajs:PFn:=aG (runF Tryz.prog ajt arc Tryz.f183)
def axq:TH:={ loops:=[(6,{ keep:=[(3,(.int .i64))],mem:=[] })],ro:=[] }
def wh (a0:List (List UInt8)) (y6:(Int×Unit)):Option ((Int×Unit)⊕Int) :=
 cond (decide (y6.1<(a0.length:Int))) (
(atI a0 y6.1).bind fun x1 =>
(zcc x1).bind fun r2 =>
 cond (!r2) (
 some (.inr 8)) (
 some (.inl ((IntKind.wrap .i64 (y6.1+1)),())))) (
 some (.inr 0))
def zcb (a0:List (List UInt8)):Option Int :=
 cond (decide ((a0.length:Int)=0)) (
 some 8) (
 cond (decide ((a0.length:Int)>8)) (
 some 9) (
 aI (wh a0) (0,())))
def aaP:TFn:={ ps:=(.cons (.sl .str) .unit),res:=(.int .i64),fn:=fun v=>zcb v.1 }
def arb:TEnv:=(vZ [(253,aaO)])
theorem ara:runY Tryz.prog ajt arc arb axq Tryz.f183 aaP.ps aaP.res=aaP.fn:=by kernel_rfl
theorem ajr:aB Tryz.prog G0 183 ajs:=ah (ak ⟨au,(aj ajo ac),ap,ac,an⟩ Tryz.func183 rfl (by kernel_rfl))
theorem aq9:TOk ajs aaP:=aA (E:=ajt) (ET:=arb) (EnvT.ofX (ax (ai aq5 al)) am ar aM aq) ara rfl
def aiT:Env:=(eZ [(144,aev)] [274])
def aqr:Hints:=(hZ [] [])
def aiS:PFn:=aG (runF Tryz.prog aiT aqr Tryz.f184)
def axc:TH:={ loops:=[],ro:=[1] }
def zco (a0:vV5):Option Bool :=
 cond (decide (a0.1=1)) (
 cond (decide (a0.2.2.1=[])) (cond (decide (a0.2.1≥(-2147483647))) (some (decide (a0.2.1≤2147483647))) (some false)) (some false)) (
 cond (decide (a0.1=2)) (
(zca a0.2.2.1).bind fun r1 =>
 cond (decide (a0.2.1=0)) (cond r1.2.1 (some (decide ((a0.2.2.1.length:Int)≤64))) (some false)) (some false)) (
 cond (decide (a0.1=3)) (cond (decide (a0.2.2.1=[])) (cond (decide (a0.2.1≥0)) (some (decide (a0.2.1≤1))) (some false)) (some false)) (some false)))
def aaD:TFn:={ ps:=(.cons tT18 .unit),res:=.bool,fn:=fun v=>zco v.1 }
def aqq:TEnv:=(vZ [(144,ya)])
theorem aqp:runY Tryz.prog aiT aqr aqq axc Tryz.f184 aaD.ps aaD.res=aaD.fn:=by kernel_rfl
theorem aiR:aB Tryz.prog G0 184 aiS:=ah (ak ⟨au,(aj aaQ ac),ap,ac,an⟩ Tryz.func184 rfl (by kernel_rfl))
theorem aqo:TOk aiS aaD:=aA (E:=aiT) (ET:=aqq) (EnvT.ofX (ax (ai agu al)) am ar aM aq) aqp rfl
def aiF:Env:=(eZ [(101,tM),(172,aey)] [274])
def ap7:Hints:=(hZ [] [])
def aiE:PFn:=aG (runF Tryz.prog aiF ap7 Tryz.f254)
def aw7:TH:={ loops:=[],ro:=[2,3] }
def zct (a0:vV3) (a1:vV3):Option Int :=
(zbp a0.1 a1.1).bind fun r1 =>
 cond (!decide (r1=0)) (
(zbp a0.1 a1.1).bind fun r2 =>
 some r2) (
(zc3 a0.2.1 a1.2.1).bind fun r3 =>
 some r3)
def aaz:TFn:={ ps:=(.cons tT17 (.cons tT17 .unit)),res:=(.int .i64),fn:=fun v=>zct v.1 v.2.1 }
def ap6:TEnv:=(vZ [(101,pm),(172,yb)])
theorem ap5:runY Tryz.prog aiF ap7 ap6 aw7 Tryz.f254 aaz.ps aaz.res=aaz.fn:=by kernel_rfl
theorem aiD:aB Tryz.prog G0 254 aiE:=ah (ak ⟨au,(aj lk (aj aaX ac)),ap,ac,an⟩ Tryz.func254 rfl (by kernel_rfl))
theorem ap4:TOk aiE aaz:=aA (E:=aiF) (ET:=ap6) (EnvT.ofX (ax (ai qM (ai agv al))) am ar aM aq) ap5 rfl
def ajI:Env:=(eZ [(109,pr),(254,aiE)] [274])
def arD:Hints:=(hZ [(2,[0,3])] [])
def ajH:PFn:=aG (runF Tryz.prog ajI arD Tryz.f185)
def axx:TH:={ loops:=[(2,{ keep:=[(3,(.int .i64))],mem:=[] })],ro:=[] }
def wj (a0:List vV3) (y2:(Int×Unit)):Option ((Int×Unit)⊕Bool) :=
 cond (decide (y2.1<(a0.length:Int))) (
(atI a0 y2.1).bind fun x1 =>
(zb8 x1.1).bind fun r2 =>
 cond (!r2) (some (.inr false)) ((atI a0 y2.1).bind fun x3 =>
 cond (decide (x3.2.1<0)) (some (.inr false)) ((atI a0 y2.1).bind fun x4 =>
 cond (decide (x4.2.1>15)) (
 some (.inr false)) (
 cond (decide (y2.1>0)) ((atI a0 (IntKind.wrap .i64 (y2.1-1))).bind fun x5 =>
(atI a0 y2.1).bind fun x6 =>
(zct x5 x6).bind fun r7 =>
 cond (!decide (r7=(-1))) (
 some (.inr false)) (
 some (.inl ((IntKind.wrap .i64 (y2.1+1)),())))) (some (.inl ((IntKind.wrap .i64 (y2.1+1)),()))))))) (
 some (.inr true))
def zc4 (a0:List vV3):Option Bool :=
 aI (wj a0) (0,())
def aaW:TFn:={ ps:=(.cons (.sl tT17) .unit),res:=.bool,fn:=fun v=>zc4 v.1 }
def arC:TEnv:=(vZ [(109,lp),(254,aaz)])
theorem arB:runY Tryz.prog ajI arD arC axx Tryz.f185 aaW.ps aaW.res=aaW.fn:=by kernel_rfl
theorem ajG:aB Tryz.prog G0 185 ajH:=ah (ak ⟨au,(aj iq (aj aiD ac)),ap,ac,an⟩ Tryz.func185 rfl (by kernel_rfl))
theorem arA:TOk ajH aaW:=aA (E:=ajI) (ET:=arC) (EnvT.ofX (ax (ai lm (ai ap4 al))) am ar aM aq) arB rfl
def ak3:Env:=(eZ [(183,ajs),(184,aiS),(185,ajH)] [274])
def atV:Hints:=(hZ [] [])
def ak2:PFn:=aG (runF Tryz.prog ak3 atV Tryz.f110)
def ax8:TH:={ joins:=[(9,{ keep:=[(1,(.bx 0 0))],mem:=[.same,.gone] }),(11,{ keep:=[(1,(.bx 0 0))],mem:=[.same,.gone] }),(13,{ keep:=[(1,(.bx 0 0))],mem:=[.same,.gone] }),(15,{ keep:=[(1,(.bx 0 0))],mem:=[.same,.gone] })],loops:=[],cuts:=[(11,[(8,{ keep:=[(1,(.bx 0 0)),(55,.bool)],mem:=[.same,.gone] })])],ro:=[1],news:=[] }
def zb0 (a0:vV0):Option Int :=
 cond (decide (a0.1<1)) (some 18) (cond (decide (a0.1>5)) (
 some 18) (
(zcb a0.2.1).bind fun r1 =>
 cond (!decide (r1=0)) (
 some r1) (
(cond (decide (a0.1=3)) (cond (!(eqV tT18 a0.2.2.1 (0,0,[],()))) (
 some (.inr 2)) (
 some (.inl ()))) (cond (decide (a0.1=5)) (cond (!(eqV tT18 a0.2.2.1 (0,0,[],()))) (
 some (.inr 2)) (
 some (.inl ()))) (some (.inl ()))):Option (Unit⊕Int)).bind (bc fun v2 =>
(cond (!decide (a0.1=3)) (cond (!decide (a0.1=5)) ((zco a0.2.2.1).bind fun r3 =>
 cond (!r3) (
 some (.inr 2)) (
 some (.inl ()))) (some (.inl ()))) (some (.inl ())):Option (Unit⊕Int)).bind (bc fun v4 =>
((cond (!decide (a0.1=3)) (some ((!decide (a0.2.2.2.1=0)),())) (some (false,())):Option (Bool×Unit)).bind fun v5 =>
 cond v5.1 (some (.inr 2)) (cond (decide (a0.1=3)) (cond (decide (a0.2.2.2.1=0)) (some (.inr 2)) (cond (decide (a0.2.2.2.1>2147483647)) (some (.inr 2)) (cond (decide (a0.2.2.2.1<(-2147483647))) (
 some (.inr 2)) (
 some (.inl ()))))) (some (.inl ()))):Option (Unit⊕Int)).bind (bc fun v6 =>
(cond (decide (a0.1=2)) (cond (decide ((a0.2.2.2.2.1.length:Int)>0)) (
 some (.inr 2)) (
 some (.inl ()))) (cond (decide (a0.1=3)) (cond (decide ((a0.2.2.2.2.1.length:Int)>0)) (
 some (.inr 2)) (
 some (.inl ()))) (some (.inl ()))):Option (Unit⊕Int)).bind (bc fun v7 =>
 cond (decide ((a0.2.2.2.2.1.length:Int)>256)) (
 some 7) (
(zc4 a0.2.2.2.2.1).bind fun r8 =>
 cond (!r8) (
 some 2) (
 some 0)))))))))
def abw:TFn:={ ps:=(.cons tT14 .unit),res:=(.int .i64),fn:=fun v=>zb0 v.1 }
def atU:TEnv:=(vZ [(183,aaP),(184,aaD),(185,aaW)])
theorem atT:runY Tryz.prog ak3 atV atU ax8 Tryz.f110 abw.ps abw.res=abw.fn:=by kernel_rfl
theorem ak1:aB Tryz.prog G0 110 ak2:=ah (ak ⟨au,(aj ajr (aj aiR (aj ajG ac))),ap,ac,an⟩ Tryz.func110 rfl (by kernel_rfl))
theorem atS:TOk ak2 abw:=aA (E:=ak3) (ET:=atU) (EnvT.ofX (ax (ai aq9 (ai aqo (ai arA al)))) am ar aM aq) atT rfl
def aiz:Env:=(eZ [] [274])
def apZ:Hints:=(hZ [] [])
def aiy:PFn:=aG (runF Tryz.prog aiz apZ Tryz.f111)
def aw5:TH:={ loops:=[],cuts:=[(2,[(9,{ keep:=[(1,(.bx 0 0)),(3,(.bx 1 0)),(13,.bool)],mem:=[.same,.box 132 tT18] })])],ro:=[1],news:=[] }
def zcv (a0:vV0):Option Bool :=
(cond (decide (a0.1=0)) (some ((decide ((a0.2.1.length:Int)=0)),(0,0,[],()),())) (some (false,(0,0,[],()),())):Option (Bool×vV5×Unit)).bind fun v1 =>
 cond v1.1 (cond (eqV tT18 a0.2.2.1 v1.2.1) (cond (decide (a0.2.2.2.1=0)) (some (decide ((a0.2.2.2.2.1.length:Int)=0))) (some false)) (some false)) (some false)
def aax:TFn:={ ps:=(.cons tT14 .unit),res:=.bool,fn:=fun v=>zcv v.1 }
def apY:TEnv:=(vZ [])
theorem apX:runY Tryz.prog aiz apZ apY aw5 Tryz.f111 aax.ps aax.res=aax.fn:=by kernel_rfl
theorem aix:aB Tryz.prog G0 111 aiy:=ah (ak ⟨au,ac,ap,ac,an⟩ Tryz.func111 rfl (by kernel_rfl))
theorem apW:TOk aiy aax:=aA (E:=aiz) (ET:=apY) (EnvT.ofX (ax al) am ar aM aq) apX rfl
def akQ:Env:=(eZ [(109,pr),(110,ak2),(111,aiy)] [274])
def atA:Hints:=(hZ [(8,[1,3])] [])
def akP:PFn:=aG (runF Tryz.prog akQ atA Tryz.f42)
def ax3:TH:={ loops:=[(8,{ keep:=[(1,(.bx 0 0)),(3,(.int .i64))],mem:=[.same] })],cuts:=[(1,[(9,{ keep:=[(1,(.bx 0 0)),(13,.bool)],mem:=[.same] })])],ro:=[1],news:=[] }
def qQ (a0:vV4) (y8:(Int×Unit)):Option ((Int×Unit)⊕Int) :=
 cond (decide (y8.1<(a0.2.2.2.2.1.length:Int))) (
(atI a0.2.2.2.2.1 y8.1).bind fun x3 =>
(zb0 x3).bind fun r4 =>
 cond (!decide (r4=0)) (cond a0.2.2.2.1 ((atI a0.2.2.2.2.1 y8.1).bind fun x5 =>
(zcv x5).bind fun r6 =>
 cond (!r6) (
 some (.inr r4)) (
 some (.inl ((IntKind.wrap .i64 (y8.1+1)),())))) (some (.inr r4))) (some (.inl ((IntKind.wrap .i64 (y8.1+1)),())))) (
 some (.inr 0))
def zb5 (a0:vV4):Option Int :=
((zb8 a0.1).bind fun r1 =>
 cond (!r1) (some (true,())) (some ((decide (a0.2.1<0)),())):Option (Bool×Unit)).bind fun v2 =>
 cond v2.1 (some 2) (cond (decide (a0.2.1>7)) (some 2) (cond (decide (a0.2.2.1<1)) (some 2) (cond (decide (a0.2.2.1>1099511627776)) (
 some 2) (
 cond (decide ((a0.2.2.2.2.1.length:Int)=0)) (
 some 11) (
 cond (decide ((a0.2.2.2.2.1.length:Int)>16)) (
 some 7) (
 aI (qQ a0) (0,())))))))
def abr:TFn:={ ps:=(.cons tT19 .unit),res:=(.int .i64),fn:=fun v=>zb5 v.1 }
def atz:TEnv:=(vZ [(109,lp),(110,abw),(111,aax)])
theorem aty:runY Tryz.prog akQ atA atz ax3 Tryz.f42 abr.ps abr.res=abr.fn:=by kernel_rfl
theorem akO:aB Tryz.prog G0 42 akP:=ah (ak ⟨au,(aj iq (aj ak1 (aj aix ac))),ap,ac,an⟩ Tryz.func42 rfl (by kernel_rfl))
theorem atx:TOk akP abr:=aA (E:=akQ) (ET:=atz) (EnvT.ofX (ax (ai lm (ai atS (ai apW al)))) am ar aM aq) aty rfl
def ah5:Env:=(eZ [(109,pr)] [274])
def apf:Hints:=(hZ [] [])
def ah4:PFn:=aG (runF Tryz.prog ah5 apf Tryz.f320)
def awT:TH:={ loops:=[],ro:=[3] }
def zdd (a0:List Int) (a1:(Int×Int×Unit)):Option Bool :=
(zb8 a1).bind fun r1 =>
 cond r1 ((inI 16 a1.1).bind fun i2 =>
(a0[i2]?).bind fun x3 =>
 some (decide (x3≥a1.2.1))) (some false)
def aam:TFn:={ ps:=(.cons (.arr 16 (.int .i64)) (.cons tT15 .unit)),res:=.bool,fn:=fun v=>zdd v.1 v.2.1 }
def ape:TEnv:=(vZ [(109,lp)])
theorem apd:runY Tryz.prog ah5 apf ape awT Tryz.f320 aam.ps aam.res=aam.fn:=by kernel_rfl
theorem ah3:aB Tryz.prog G0 320 ah4:=ah (ak ⟨au,(aj iq ac),ap,ac,an⟩ Tryz.func320 rfl (by kernel_rfl))
theorem apc:TOk ah4 aam:=aA (E:=ah5) (ET:=ape) (EnvT.ofX (ax (ai lm al)) am ar aM aq) apd rfl
def ahF:Env:=(eZ [(320,ah4)] [274])
def aoD:Hints:=(hZ [(4,[2,3,5])] [])
def ahE:PFn:=aG (runF Tryz.prog ahF aoD Tryz.f270)
def awJ:TH:={ loops:=[(4,{ keep:=[(2,(.bx 0 0)),(3,(.bx 1 0)),(5,(.int .i64))],mem:=[.same,.same] })],ro:=[2,3] }
def vL (a0:vV8) (a1:(Int×Int×Unit)) (y4:(Int×Unit)):Option ((Int×Unit)⊕Bool) :=
 cond (decide (y4.1<(a0.2.1.length:Int))) (
(atI a0.2.1 y4.1).bind fun x2 =>
 cond (eqV tT15 x2 a1) (
 some (.inr true)) (
 some (.inl ((IntKind.wrap .i64 (y4.1+1)),())))) (
 some (.inr false))
def zdn (a0:vV8) (a1:(Int×Int×Unit)):Option Bool :=
(zdd a0.1 a1).bind fun r1 =>
 cond r1 (
 some true) (
 aI (vL a0 a1) (0,()))
def aab:TFn:={ ps:=(.cons tT21 (.cons tT15 .unit)),res:=.bool,fn:=fun v=>zdn v.1 v.2.1 }
def aoC:TEnv:=(vZ [(320,aam)])
theorem aoB:runY Tryz.prog ahF aoD aoC awJ Tryz.f270 aab.ps aab.res=aab.fn:=by kernel_rfl
theorem ahD:aB Tryz.prog G0 270 ahE:=ah (ak ⟨au,(aj ah3 ac),ap,ac,an⟩ Tryz.func270 rfl (by kernel_rfl))
theorem aoA:TOk ahE aab:=aA (E:=ahF) (ET:=aoC) (EnvT.ofX (ax (ai apc al)) am ar aM aq) aoB rfl
def aj4:Env:=(eZ [] [274])
def asd:Hints:=(hZ [(3,[1,2,3,4])] [])
def aj3:PFn:=aG (runF Tryz.prog aj4 asd Tryz.f294)
def axH:TH:={ loops:=[(3,{ keep:=[(1,(.bx 0 0)),(2,(.bx 1 0)),(3,(.bx 2 0)),(4,(.int .i64))],mem:=[.same,.box 66 tT25,.box 66 (.agg (.cons (.arr 16 (.int .i64)) (.cons (.own 4) .unit))),.gone,.row true 72 tT15] })],ro:=[1] }
def wm (a0:vV8) (y3:(Int×vV11×vV11×List (Int×Int×Unit)×Unit)):Option ((Int×vV11×vV11×List (Int×Int×Unit)×Unit)⊕vV8) :=
 cond (decide (y3.1<(a0.2.1.length:Int))) (
(atI a0.2.1 y3.1).bind fun x1 =>
(inI 16 x1.1).bind fun i2 =>
(y3.2.2.1.1[i2]?).bind fun x3 =>
 cond (decide (x1.2.1=(IntKind.wrap .i64 (x3+1)))) (
(inI 16 x1.1).bind fun i4 =>
(y3.2.2.1.1[i4]?).bind fun x5 =>
 some (.inl ((IntKind.wrap .i64 (y3.1+1)),y3.2.1,((y3.2.2.1.1.set i4 x1.2.1),y3.2.2.1.2.1,()),y3.2.2.2.1,()))) (
(inI 16 x1.1).bind fun i6 =>
(y3.2.2.1.1[i6]?).bind fun x7 =>
 cond (decide (x1.2.1>x7)) (
(bP (y3.2.2.2.1.length+([x1]:List (Int×Int×Unit)).length)).bind fun u8 =>
 some (.inl ((IntKind.wrap .i64 (y3.1+1)),y3.2.1,(y3.2.2.1.1,(),()),(y3.2.2.2.1++([x1]:List (Int×Int×Unit))),()))) (
 some (.inl ((IntKind.wrap .i64 (y3.1+1)),y3.2.1,y3.2.2.1,y3.2.2.2.1,()))))) (
 some (.inr (y3.2.2.1.1,y3.2.2.2.1,())))
def zbs (a0:vV8):Option vV8 :=
 aI (wm a0) (0,([0,0,0,0,0,0,0,0,0,0,0,0,0,0,0,0],(),()),(a0.1,(),()),[],())
def aba:TFn:={ ps:=(.cons tT21 .unit),res:=tT21,fn:=fun v=>zbs v.1 }
def asc:TEnv:={ pure:=[],look:=[],glob:=G0T,ty:=[(72,tT15)],raw:=[],fresh:=[] }
theorem asb:runY Tryz.prog aj4 asd asc axH Tryz.f294 aba.ps aba.res=aba.fn:=by kernel_rfl
theorem aj2:aB Tryz.prog G0 294 aj3:=ah (ak ⟨au,ac,ap,ac,an⟩ Tryz.func294 rfl (by kernel_rfl))
theorem asa:TOk aj3 aba:=aA (E:=aj4) (ET:=asc) (EnvT.ofX (ax al) am ar aM aq) asb rfl
def ahI:Env:=(eZ [(101,tM),(109,pr),(270,ahE),(294,aj3)] [274])
def aoH:Hints:=(hZ [(6,[2,3,4,5,6,7])] [56])
def ahH:PFn:=aG (runF Tryz.prog ahI aoH Tryz.f236)
def awK:TH:={ joins:=[(12,{ keep:=[(2,(.bx 0 0)),(3,(.bx 1 0)),(4,(.bx 2 0)),(5,(.own 3)),(6,.bool)],mem:=[.same,.same,.box 66 tT25,.row true 72 tT15] }),(11,{ keep:=[(2,(.bx 0 0)),(3,(.bx 1 0)),(4,(.bx 2 0)),(5,(.own 3)),(6,.bool)],mem:=[.same,.same,.box 66 tT25,.row true 72 tT15] }),(14,{ keep:=[(2,(.bx 0 0)),(4,(.bx 2 0)),(5,(.own 3))],mem:=[.same,.same,.box 66 tT25,.row true 72 tT15] })],loops:=[(6,{ keep:=[(2,(.bx 0 0)),(3,(.bx 1 0)),(4,(.bx 2 0)),(5,(.own 3)),(6,.bool),(7,(.int .i64))],mem:=[.same,.same,.box 66 tT25,.row true 72 tT15] })],ro:=[2,3] }
def vM (a0:vV8) (a1:(Int×Int×Unit)) (y6:(Bool×Int×vV11×List (Int×Int×Unit)×Unit)):Option ((Bool×Int×vV11×List (Int×Int×Unit)×Unit)⊕((Bool×vV11×List (Int×Int×Unit)×Unit)⊕vV8)) :=
 cond (decide (y6.2.1<(a0.2.1.length:Int))) (
(cond (!y6.1) ((atI a0.2.1 y6.2.1).bind fun x3 =>
(zbp a1 x3).bind fun r4 =>
 cond (decide (r4<0)) (
(bP (y6.2.2.2.1.length+([a1]:List (Int×Int×Unit)).length)).bind fun u5 =>
 some (.inl (true,y6.2.2.1,(y6.2.2.2.1++([a1]:List (Int×Int×Unit))),()))) (
 some (.inl (y6.1,y6.2.2.1,y6.2.2.2.1,())))) (some (.inl (y6.1,y6.2.2.1,y6.2.2.2.1,()))):Option ((Bool×vV11×List (Int×Int×Unit)×Unit)⊕((Bool×Int×vV11×List (Int×Int×Unit)×Unit)⊕((Bool×vV11×List (Int×Int×Unit)×Unit)⊕vV8)))).bind (bc fun v6 =>
(atI a0.2.1 y6.2.1).bind fun x7 =>
(bP (v6.2.2.1.length+([x7]:List (Int×Int×Unit)).length)).bind fun u8 =>
 some (.inl (v6.1,(IntKind.wrap .i64 (y6.2.1+1)),v6.2.1,(v6.2.2.1++([x7]:List (Int×Int×Unit))),())))) (
 some (.inr (.inl (y6.1,y6.2.2.1,y6.2.2.2.1,()))))
def zdm (a0:vV8) (a1:(Int×Int×Unit)):Option vV8 :=
(zb8 a1).bind fun r1 =>
 cond (!r1) (some a0) ((zdn a0 a1).bind fun r2 =>
 cond r2 (
 some a0) (
(aI (vM a0 a1) (false,0,([0,0,0,0,0,0,0,0,0,0,0,0,0,0,0,0],(),()),[],()):Option ((Bool×vV11×List (Int×Int×Unit)×Unit)⊕vV8)).bind (bc fun v9 =>
(cond (!v9.1) (
(bP (v9.2.2.1.length+([a1]:List (Int×Int×Unit)).length)).bind fun u10 =>
 some (.inl (v9.2.1,(v9.2.2.1++([a1]:List (Int×Int×Unit))),()))) (
 some (.inl (v9.2.1,v9.2.2.1,()))):Option ((vV11×List (Int×Int×Unit)×Unit)⊕vV8)).bind (bc fun v11 =>
(zbs (a0.1,v11.2.1,())).bind fun r12 =>
 some r12))))
def aac:TFn:={ ps:=(.cons tT21 (.cons tT15 .unit)),res:=tT21,fn:=fun v=>zdm v.1 v.2.1 }
def aoG:TEnv:={ pure:=[(101,pm),(109,lp),(270,aab),(294,aba)],look:=[],glob:=G0T,ty:=[(72,tT15)],raw:=[],fresh:=[] }
theorem aoF:runY Tryz.prog ahI aoH aoG awK Tryz.f236 aac.ps aac.res=aac.fn:=by kernel_rfl
theorem ahG:aB Tryz.prog G0 236 ahH:=ah (ak ⟨au,(aj lk (aj iq (aj ahD (aj aj2 ac)))),ap,ac,an⟩ Tryz.func236 rfl (by kernel_rfl))
theorem aoE:TOk ahH aac:=aA (E:=ahI) (ET:=aoG) (EnvT.ofX (ax (ai qM (ai lm (ai aoA (ai asa al))))) am ar aM aq) aoF rfl
def aje:Env:=(eZ [(236,ahH)] [274])
def aqS:Hints:=(hZ [(3,[0,2,3,4])] [])
def ajd:PFn:=aG (runF Tryz.prog aje aqS Tryz.f168)
def axl:TH:={ loops:=[(3,{ keep:=[(2,(.bx 0 0)),(3,(.bx 1 0)),(4,(.int .i64))],mem:=[.box 66 tT25,.box 66 tT21] })],ro:=[] }
def we (a0:List vV4) (y3:(Int×vV11×vV8×Unit)):Option ((Int×vV11×vV8×Unit)⊕vV8) :=
 cond (decide (y3.1<(a0.length:Int))) (
(atI a0 y3.1).bind fun x1 =>
(zdm y3.2.2.1 x1.1).bind fun r2 =>
 some (.inl ((IntKind.wrap .i64 (y3.1+1)),y3.2.1,r2,()))) (
 some (.inr y3.2.2.1))
def zcg (a0:List vV4):Option vV8 :=
 aI (we a0) (0,([0,0,0,0,0,0,0,0,0,0,0,0,0,0,0,0],(),()),([0,0,0,0,0,0,0,0,0,0,0,0,0,0,0,0],[],()),())
def aaK:TFn:={ ps:=(.cons (.sl tT19) .unit),res:=tT21,fn:=fun v=>zcg v.1 }
def aqR:TEnv:=(vZ [(236,aac)])
theorem aqQ:runY Tryz.prog aje aqS aqR axl Tryz.f168 aaK.ps aaK.res=aaK.fn:=by kernel_rfl
theorem ajc:aB Tryz.prog G0 168 ajd:=ah (ak ⟨au,(aj ahG ac),ap,ac,an⟩ Tryz.func168 rfl (by kernel_rfl))
theorem aqP:TOk ajd aaK:=aA (E:=aje) (ET:=aqR) (EnvT.ofX (ax (ai aoE al)) am ar aM aq) aqQ rfl
def ait:Env:=(eZ [] [274])
def apR:Hints:=(hZ [(4,[0,1,5])] [])
def ais:PFn:=aG (runF Tryz.prog ait apR Tryz.f65)
def aw3:TH:={ loops:=[(4,{ keep:=[(5,(.int .i64))],mem:=[] })],ro:=[] }
def vT (a0:List (Int×Int×Unit)) (a1:List (Int×Int×Unit)) (y4:(Int×Unit)):Option ((Int×Unit)⊕Bool) :=
 cond (decide (y4.1<(a0.length:Int))) (
(atI a0 y4.1).bind fun x1 =>
(atI a1 y4.1).bind fun x2 =>
 cond (!(eqV tT15 x1 x2)) (
 some (.inr false)) (
 some (.inl ((IntKind.wrap .i64 (y4.1+1)),())))) (
 some (.inr true))
def zcx (a0:List (Int×Int×Unit)) (a1:List (Int×Int×Unit)):Option Bool :=
 cond (!decide ((a0.length:Int)=(a1.length:Int))) (
 some false) (
 aI (vT a0 a1) (0,()))
def aav:TFn:={ ps:=(.cons (.sl tT15) (.cons (.sl tT15) .unit)),res:=.bool,fn:=fun v=>zcx v.1 v.2.1 }
def apQ:TEnv:=(vZ [])
theorem apP:runY Tryz.prog ait apR apQ aw3 Tryz.f65 aav.ps aav.res=aav.fn:=by kernel_rfl
theorem air:aB Tryz.prog G0 65 ais:=ah (ak ⟨au,ac,ap,ac,an⟩ Tryz.func65 rfl (by kernel_rfl))
theorem apO:TOk ais aav:=aA (E:=ait) (ET:=apQ) (EnvT.ofX (ax al) am ar aM aq) apP rfl
def ajB:Env:=(eZ [(65,ais)] [274])
def art:Hints:=(hZ [] [])
def ajA:PFn:=aG (runF Tryz.prog ajB art Tryz.f167)
def axu:TH:={ loops:=[],ro:=[2,3] }
def zc7 (a0:vV8) (a1:vV8):Option Bool :=
 cond (eqV (.arr 16 (.int .i64)) a0.1 a1.1) ((zcx a0.2.1 a1.2.1).bind fun r1 =>
 some r1) (some false)
def aaU:TFn:={ ps:=(.cons tT21 (.cons tT21 .unit)),res:=.bool,fn:=fun v=>zc7 v.1 v.2.1 }
def ars:TEnv:=(vZ [(65,aav)])
theorem arq:runY Tryz.prog ajB art ars axu Tryz.f167 aaU.ps aaU.res=aaU.fn:=by kernel_rfl
theorem ajz:aB Tryz.prog G0 167 ajA:=ah (ak ⟨au,(aj air ac),ap,ac,an⟩ Tryz.func167 rfl (by kernel_rfl))
theorem arp:TOk ajA aaU:=aA (E:=ajB) (ET:=ars) (EnvT.ofX (ax (ai apO al)) am ar aM aq) arq rfl
def ajb:Env:=(eZ [(42,akP),(109,pr),(152,aiK),(153,akM),(166,ai4),(167,ajA),(168,ajd)] [274])
def aqO:Hints:=(hZ [(4,[1,3]),(9,[1,4]),(14,[1,4,5])] [])
def aja:PFn:=aG (runF Tryz.prog ajb aqO Tryz.f96)
def axk:TH:={ joins:=[(8,{ keep:=[(1,(.bx 0 0))],mem:=[.box 69 tT13] }),(18,{ keep:=[(1,(.bx 0 0))],mem:=[.box 69 tT13] })],loops:=[(4,{ keep:=[(1,(.bx 0 0)),(3,(.int .i64))],mem:=[.box 69 tT13] }),(9,{ keep:=[(1,(.bx 0 0)),(4,(.int .i64))],mem:=[.box 69 tT13] }),(14,{ keep:=[(1,(.bx 0 0)),(5,(.int .i64))],mem:=[.box 69 tT13] })],ro:=[] }
def wd (y4:(Int×vV1×Unit)):Option ((Int×vV1×Unit)⊕((vV1×Unit)⊕Bool)) :=
 cond (decide (y4.1<(y4.2.1.1.length:Int))) (
(atI y4.2.1.1 y4.1).bind fun x4 =>
(zb5 x4).bind fun r5 =>
 cond (!decide (r5=0)) (
 some (.inr (.inr false))) (
 some (.inl ((IntKind.wrap .i64 (y4.1+1)),y4.2.1,())))) (
 some (.inr (.inl (y4.2.1,()))))
def pj (y9:(Int×vV1×Unit)) (y14:(Int×vV1×Unit)):Option ((Int×vV1×Unit)⊕((Int×vV1×Unit)⊕((vV1×Unit)⊕Bool))) :=
(inI 8 y9.1).bind fun i9 =>
(y14.2.1.2.2.2.2.1[i9]?).bind fun x10 =>
 cond (decide (y14.1<(x10.length:Int))) (
(inI 8 y9.1).bind fun i11 =>
(y14.2.1.2.2.2.2.1[i11]?).bind fun x12 =>
(atI x12 y14.1).bind fun x13 =>
(zb8 x13).bind fun r14 =>
 cond (!r14) (
 some (.inr (.inr (.inr false)))) (
 some (.inl ((IntKind.wrap .i64 (y14.1+1)),y14.2.1,())))) (
 some (.inr (.inl ((IntKind.wrap .i64 (y9.1+1)),y14.2.1,()))))
def nL (y9:(Int×vV1×Unit)):Option ((Int×vV1×Unit)⊕((vV1×Unit)⊕Bool)) :=
 cond (decide (y9.1<8)) (
(inI 8 y9.1).bind fun i7 =>
(y9.2.1.2.2.2.2.1[i7]?).bind fun x8 =>
 cond (decide ((x8.length:Int)>1000)) (
 some (.inr (.inr false))) (
 aI (pj y9) (0,y9.2.1,()))) (
 some (.inr (.inl (y9.2.1,()))))
def zch (a0:vV1):Option Bool :=
 cond (decide ((a0.1.length:Int)>1000)) (some false) ((zcr a0.1).bind fun r1 =>
 cond (!r1) (some false) ((zb6 a0.2.1).bind fun r2 =>
 cond (!r2) (some false) ((zcj a0.2.2.2.1).bind fun r3 =>
 cond (!r3) (
 some false) (
(aI (wd) (0,a0,()):Option ((vV1×Unit)⊕Bool)).bind (bc fun v6 =>
(aI (nL) (0,v6.1,()):Option ((vV1×Unit)⊕Bool)).bind (bc fun v15 =>
(zcj v15.1.2.2.1).bind fun r16 =>
 cond r16 ((zcg v15.1.1).bind fun r17 =>
(zc7 v15.1.2.2.1 r17).bind fun r18 =>
 some r18) (some false)))))))
def aaJ:TFn:={ ps:=(.cons tT13 .unit),res:=.bool,fn:=fun v=>zch v.1 }
def aqN:TEnv:=(vZ [(42,abr),(109,lp),(152,aaB),(153,abq),(166,aaH),(167,aaU),(168,aaK)])
theorem aqM:runY Tryz.prog ajb aqO aqN axk Tryz.f96 aaJ.ps aaJ.res=aaJ.fn:=by kernel_rfl
theorem ai9:aB Tryz.prog G0 96 aja:=ah (ak ⟨au,(aj akO (aj iq (aj aiJ (aj akL (aj ai3 (aj ajz (aj ajc ac))))))),ap,ac,an⟩ Tryz.func96 rfl (by kernel_rfl))
theorem aqL:TOk aja aaJ:=aA (E:=ajb) (ET:=aqN) (EnvT.ofX (ax (ai atx (ai lm (ai aqc (ai att (ai aqD (ai arp (ai aqP al)))))))) am ar aM aq) aqM rfl
def ajM:Env:=(eZ [(95,ajg),(96,aja)] [274])
def arK:Hints:=(hZ [] [])
def ajL:PFn:=aG (runF Tryz.prog ajM arK Tryz.f33)
def axz:TH:={ loops:=[],ro:=[1] }
def zc2 (a0:vV1):Option Bool :=
(zcf a0).bind fun r1 =>
 cond r1 ((zch a0).bind fun r2 =>
 some r2) (some false)
def aaY:TFn:={ ps:=(.cons tT13 .unit),res:=.bool,fn:=fun v=>zc2 v.1 }
def arJ:TEnv:=(vZ [(95,aaL),(96,aaJ)])
theorem arI:runY Tryz.prog ajM arK arJ axz Tryz.f33 aaY.ps aaY.res=aaY.fn:=by kernel_rfl
theorem ajK:aB Tryz.prog G0 33 ajL:=ah (ak ⟨au,(aj ajf (aj ai9 ac)),ap,ac,an⟩ Tryz.func33 rfl (by kernel_rfl))
theorem arH:TOk ajL aaY:=aA (E:=ajM) (ET:=arJ) (EnvT.ofX (ax (ai aqT (ai aqL al))) am ar aM aq) arI rfl
def aic:Env:=(eZ [] [274])
def apr:Hints:=(hZ [] [])
def aib:PFn:=aG (runF Tryz.prog aic apr Tryz.f119)
def awW:TH:=yZ
def zda (a0:Int) (a1:Int) (a2:List vV3):Option vV4 :=
 some ((0,a0,()),0,a0,false,([(1,([[97]]:List (List UInt8)),(1,a1,[],()),0,a2,())]:List vV0),())
def aap:TFn:={ ps:=(.cons (.int .i64) (.cons (.int .i64) (.cons (.sl tT17) .unit))),res:=tT19,fn:=fun v=>zda v.1 v.2.1 v.2.2.1 }
def apq:TEnv:={ pure:=[],look:=[],glob:=G0T,ty:=[(9,.str),(135,tT14)],raw:=[],fresh:=[] }
theorem apo:runY Tryz.prog aic apr apq awW Tryz.f119 aap.ps aap.res=aap.fn:=by kernel_rfl
theorem aia:aB Tryz.prog G0 119 aib:=ah (ak ⟨au,ac,ap,ac,an⟩ Tryz.func119 rfl (by kernel_rfl))
theorem apn:TOk aib aap:=aA (E:=aic) (ET:=apq) (EnvT.ofX (ax al) am ar aM aq) apo rfl
def akh:Env:=(eZ [] [274])
def asC:Hints:=(hZ [] [])
def aeJ:PFn:=aG (runF Tryz.prog akh asC Tryz.f226)
def axO:TH:=yZ
def zbl (a0:Int):Option Bool :=
 some (!decide (a0=a0))
def abh:TFn:={ ps:=(.cons (.int .i64) .unit),res:=.bool,fn:=fun v=>zbl v.1 }
def asB:TEnv:=(vZ [])
theorem asA:runY Tryz.prog akh asC asB axO Tryz.f226 abh.ps abh.res=abh.fn:=by kernel_rfl
theorem akg:aB Tryz.prog G0 226 aeJ:=ah (ak ⟨au,ac,ap,ac,an⟩ Tryz.func226 rfl (by kernel_rfl))
theorem asz:TOk aeJ abh:=aA (E:=akh) (ET:=asB) (EnvT.ofX (ax al) am ar aM aq) asA rfl
def akp:Env:=(eZ [(226,aeJ)] [274])
def asP:Hints:=(hZ [] [])
def tN:PFn:=aG (runF Tryz.prog akp asP Tryz.f156)
def axR:TH:=yZ
def zbh (a0:Int) (a1:Int):Option Int :=
(zbl a0).bind fun r1 =>
(zbl a1).bind fun r2 =>
 cond r1 (
 cond r2 (
 some 0) (
 some (-1))) (
 cond r2 (
 some 1) (
 cond (decide (a0<a1)) (
 some (-1)) (
 cond (decide (a0>a1)) (
 some 1) (
 some 0))))
def qO:TFn:={ ps:=(.cons (.int .i64) (.cons (.int .i64) .unit)),res:=(.int .i64),fn:=fun v=>zbh v.1 v.2.1 }
def asO:TEnv:=(vZ [(226,abh)])
theorem asN:runY Tryz.prog akp asP asO axR Tryz.f156 qO.ps qO.res=qO.fn:=by kernel_rfl
theorem po:aB Tryz.prog G0 156 tN:=ah (ak ⟨au,(aj akg ac),ap,ac,an⟩ Tryz.func156 rfl (by kernel_rfl))
theorem wo:TOk tN qO:=aA (E:=akp) (ET:=asO) (EnvT.ofX (ax (ai asz al)) am ar aM aq) asN rfl
def aiq:Env:=(eZ [] [274])
def apN:Hints:=(hZ [(3,[3,6,7,8])] [])
def tJ:PFn:=aG (runF Tryz.prog aiq apN Tryz.f154)
def aw2:TH:={ loops:=[(3,{ keep:=[(8,(.int .i64))],mem:=[] })],ro:=[] }
def f8 (a0:List Int) (y3:(Int×Unit)):Option ((Int×Unit)⊕Int) :=
 cond (decide (y3.1<(a0.length:Int))) (
(atI a0 y3.1).bind fun x1 =>
 cond (!decide (x1=0)) (
 some (.inr x1)) (
 some (.inl ((IntKind.wrap .i64 (y3.1+1)),())))) (
 some (.inr 0))
def zcy (a0:List Int):Option Int :=
 aI (f8 a0) (0,())
def qK:TFn:={ ps:=(.cons (.sl (.int .i64)) .unit),res:=(.int .i64),fn:=fun v=>zcy v.1 }
def apM:TEnv:=(vZ [])
theorem apL:runY Tryz.prog aiq apN apM aw2 Tryz.f154 qK.ps qK.res=qK.fn:=by kernel_rfl
theorem pi:aB Tryz.prog G0 154 tJ:=ah (ak ⟨au,ac,ap,ac,an⟩ Tryz.func154 rfl (by kernel_rfl))
theorem vR:TOk tJ qK:=aA (E:=aiq) (ET:=apM) (EnvT.ofX (ax al) am ar aM aq) apL rfl
def akI:Env:=(eZ [(154,tJ),(156,tN)] [274])
def atm:Hints:=(hZ [] [])
def yh:PFn:=aG (runF Tryz.prog akI atm Tryz.f171)
def axZ:TH:={ loops:=[],ro:=[2,3] }
def zb9 (a0:(Int×Int×Unit)) (a1:(Int×Int×Unit)):Option Int :=
(zbh a0.1 a1.1).bind fun r1 =>
(zbh a0.2.1 a1.2.1).bind fun r2 =>
(zcy ([r1,r2]:List Int)).bind fun r3 =>
 some r3
def qP:TFn:={ ps:=(.cons tT15 (.cons tT15 .unit)),res:=(.int .i64),fn:=fun v=>zb9 v.1 v.2.1 }
def atl:TEnv:={ pure:=[(154,qK),(156,qO)],look:=[],glob:=G0T,ty:=[(3,(.int .i64))],raw:=[],fresh:=[] }
theorem atk:runY Tryz.prog akI atm atl axZ Tryz.f171 qP.ps qP.res=qP.fn:=by kernel_rfl
theorem pp:aB Tryz.prog G0 171 yh:=ah (ak ⟨au,(aj pi (aj po ac)),ap,ac,an⟩ Tryz.func171 rfl (by kernel_rfl))
theorem wx:TOk yh qP:=aA (E:=akI) (ET:=atl) (EnvT.ofX (ax (ai vR (ai wo al))) am ar aM aq) atk rfl
def ajP:Env:=(eZ [(171,yh)] [274])
def arO:Hints:=(hZ [] [])
def ajO:PFn:=aG (runF Tryz.prog ajP arO Tryz.f193)
def axA:TH:={ loops:=[],ro:=[2,3] }
def zc1 (a0:vV4) (a1:(Int×Int×Unit)):Option Int :=
(zb9 a0.1 a1).bind fun r1 =>
 some r1
def aaZ:TFn:={ ps:=(.cons tT19 (.cons tT15 .unit)),res:=(.int .i64),fn:=fun v=>zc1 v.1 v.2.1 }
def arN:TEnv:=(vZ [(171,qP)])
theorem arM:runY Tryz.prog ajP arO arN axA Tryz.f193 aaZ.ps aaZ.res=aaZ.fn:=by kernel_rfl
theorem ajN:aB Tryz.prog G0 193 ajO:=ah (ak ⟨au,(aj pp ac),ap,ac,an⟩ Tryz.func193 rfl (by kernel_rfl))
theorem arL:TOk ajO aaZ:=aA (E:=ajP) (ET:=arN) (EnvT.ofX (ax (ai wx al)) am ar aM aq) arM rfl
def al8:Env:=(eZ [(193,ajO)] [274])
def au4:Hints:=(hZ [(3,[0,2,4,8,9,10])] [])
def al7:PFn:=aG (runF Tryz.prog al8 au4 Tryz.f192)
def ayl:TH:={ joins:=[(8,{ keep:=[(4,(.bx 0 0)),(9,(.int .i64))],mem:=[.same] })],loops:=[(3,{ keep:=[(4,(.bx 0 0)),(9,(.int .i64)),(10,(.int .i64))],mem:=[.same] })],ro:=[4] }
def qS (a0:List vV4) (a1:(Int×Int×Unit)) (y3:(Int×Int×Unit)):Option ((Int×Int×Unit)⊕((Int×Unit)⊕(Int×Bool×Unit))) :=
 cond (decide (y3.1<y3.2.1)) (
(shrT .u64 (IntKind.wrap .u64 (IntKind.wrap .i64 (y3.1+y3.2.1))) 1).bind fun t1 =>
(atI a0 (IntKind.wrap .i64 t1)).bind fun x2 =>
(zc1 x2 a1).bind fun r3 =>
 cond (decide (r3<0)) (
 some (.inl ((IntKind.wrap .i64 ((IntKind.wrap .i64 t1)+1)),y3.2.1,()))) (
 some (.inl (y3.1,(IntKind.wrap .i64 t1),())))) (
 some (.inr (.inl (y3.1,()))))
def zae (a0:List vV4) (a1:(Int×Int×Unit)) (a2:Unit):Option (Int×Bool×Unit) :=
(aI (qS a0 a1) (0,(a0.length:Int),()):Option ((Int×Unit)⊕(Int×Bool×Unit))).bind (bc fun v4 =>
 cond (decide (v4.1<(a0.length:Int))) ((atI a0 v4.1).bind fun x5 =>
(zc1 x5 a1).bind fun r6 =>
 some (v4.1,(decide (r6=0)),())) (some (v4.1,false,())))
def abG:TFn:={ ps:=(.cons (.sl tT19) (.cons tT15 (.cons (.fn 193) .unit))),res:=(.tup (.cons (.int .i64) (.cons .bool .unit))),fn:=fun v=>zae v.1 v.2.1 v.2.2.1 }
def au3:TEnv:=(vZ [(193,aaZ)])
theorem au2:runY Tryz.prog al8 au4 au3 ayl Tryz.f192 abG.ps abG.res=abG.fn:=by kernel_rfl
theorem al6:aB Tryz.prog G0 192 al7:=ah (ak ⟨au,(aj ajN ac),ap,ac,an⟩ Tryz.func192 rfl (by kernel_rfl))
theorem au1:TOk al7 abG:=aA (E:=al8) (ET:=au3) (EnvT.ofX (ax (ai arL al)) am ar aM aq) au2 rfl
def ahd:Env:=(eZ [(192,al7)] [274])
def anZ:Hints:=(hZ [] [])
def zT:PFn:=aG (runF Tryz.prog ahd anZ Tryz.f114)
def awz:TH:={ loops:=[],ro:=[3] }
def zdx (a0:List vV4) (a1:(Int×Int×Unit)):Option Int :=
(zae a0 a1 ()).bind fun r1 =>
 cond (!r1.2.1) (
 some (-1)) (
 some r1.1)
def tD:TFn:={ ps:=(.cons (.sl tT19) (.cons tT15 .unit)),res:=(.int .i64),fn:=fun v=>zdx v.1 v.2.1 }
def anY:TEnv:=(vZ [(192,abG)])
theorem anX:runY Tryz.prog ahd anZ anY awz Tryz.f114 tD.ps tD.res=tD.fn:=by kernel_rfl
theorem tE:aB Tryz.prog G0 114 zT:=ah (ak ⟨au,(aj al6 ac),ap,ac,an⟩ Tryz.func114 rfl (by kernel_rfl))
theorem zS:TOk zT tD:=aA (E:=ahd) (ET:=anY) (EnvT.ofX (ax (ai au1 al)) am ar aM aq) anX rfl
def ahz:Env:=(eZ [(171,yh)] [274])
def aov:Hints:=(hZ [] [])
def ahy:PFn:=aG (runF Tryz.prog ahz aov Tryz.f237)
def awH:TH:={ loops:=[],ro:=[2,3] }
def zdp (a0:vV4) (a1:(Int×Int×Unit)):Option Int :=
(zb9 a0.1 a1).bind fun r1 =>
 some r1
def z8:TFn:={ ps:=(.cons tT19 (.cons tT15 .unit)),res:=(.int .i64),fn:=fun v=>zdp v.1 v.2.1 }
def aou:TEnv:=(vZ [(171,qP)])
theorem aot:runY Tryz.prog ahz aov aou awH Tryz.f237 z8.ps z8.res=z8.fn:=by kernel_rfl
theorem ahx:aB Tryz.prog G0 237 ahy:=ah (ak ⟨au,(aj pp ac),ap,ac,an⟩ Tryz.func237 rfl (by kernel_rfl))
theorem aos:TOk ahy z8:=aA (E:=ahz) (ET:=aou) (EnvT.ofX (ax (ai wx al)) am ar aM aq) aot rfl
def ala:Go.Shelf.Ren:=⟨fun | 41=>181 | n=>n,fun | 22=>22 | 23=>78 | 4=>4 | n=>n,fun | n=>n⟩
theorem aeV:Go.Proofs.SlLaysE0.n41 Tryz.prog ala:={
 mixed:=by kernel_rfl
 f41:=⟨Tryz.f181.name,by decide,Tryz.func181.trans (congrArg some (by kernel_rfl))⟩
 t4:=Tryz.underlying4
 a4:=Tryz.isAgg4
 z4:=Tryz.sizeOf4
 v4:=Tryz.zeroValue4
 t22:=Tryz.underlying22
 a22:=Tryz.isAgg22
 z22:=Tryz.sizeOf22
 v22:=Tryz.zeroValue22 }
def alc:SFn:=mR 6 78
theorem alb:bw Tryz.prog G0 181 alc:=tb aeV rfl rfl (fC (P:=Tryz.prog) (te:=78) (M:=6) (by kernel_rfl) (by kernel_rfl) (by kernel_rfl) (by kernel_rfl) (by kernel_rfl) (by kernel_rfl) (by kernel_rfl) (by kernel_rfl)) ⟨Tryz.f181,Tryz.func181,rfl,by kernel_rfl⟩
def zax (a0:List vV4):Option (List vV4):=fE a0
def at4:TNew:=oY 78 tT19
theorem at3:TNewOk alc at4:=th rfl rfl rfl
def ali:Go.Shelf.Ren:=⟨fun | 22=>238 | 29=>295 | 30=>296 | n=>n,fun | 24=>22 | 9=>78 | 0=>0 | 3=>3 | 4=>4 | n=>n,fun | n=>n⟩
theorem aeZ:InsL Tryz.prog ali:={
 mixed:=by kernel_rfl
 f22:=⟨Tryz.f238.name,by decide,Tryz.func238.trans (congrArg some (by kernel_rfl))⟩
 f29:=⟨Tryz.f295.name,by decide,by kernel_rfl,by kernel_rfl,Tryz.func295.trans (congrArg some (by kernel_rfl))⟩
 t0:=Tryz.underlying0
 a0:=Tryz.isAgg0
 z0:=Tryz.sizeOf0
 v0:=Tryz.zeroValue0
 t3:=Tryz.underlying3
 a3:=Tryz.isAgg3
 z3:=Tryz.sizeOf3
 v3:=Tryz.zeroValue3
 t4:=Tryz.underlying4
 a4:=Tryz.isAgg4
 z4:=Tryz.sizeOf4
 v4:=Tryz.zeroValue4
 t24:=Tryz.underlying22
 a24:=Tryz.isAgg22
 z24:=Tryz.sizeOf22
 v24:=Tryz.zeroValue22 }
def alk:SFn:=dZ 6 78
theorem alj:bw Tryz.prog G0 238 alk:=j5 aeZ rfl rfl rfl (fC (P:=Tryz.prog) (te:=78) (M:=6) (by kernel_rfl) (by kernel_rfl) (by kernel_rfl) (by kernel_rfl) (by kernel_rfl) (by kernel_rfl) (by kernel_rfl) (by kernel_rfl)) true Tryz.isAgg78 ⟨Tryz.f238,Tryz.func238,rfl,by kernel_rfl⟩
def zau (a1:Int) (a2:List vV4) (w0:List vV4):Option (Unit×List vV4×Unit):=(insT w0 a1 a2).map fun l=>((),(l,()))
def aub:TRaw:=insR false 78 tT19
theorem aua:TRawOk alk aub:=uR rfl rfl rfl rfl (by decide)
def al5:Env:=(eZ [(237,ahy)] [274])
def au0:Hints:=(hZ [(3,[0,2,4,8,9,10])] [])
def al4:PFn:=aG (runF Tryz.prog al5 au0 Tryz.f192)
def ayk:TH:={ joins:=[(8,{ keep:=[(4,(.bx 0 0)),(9,(.int .i64))],mem:=[.same] })],loops:=[(3,{ keep:=[(4,(.bx 0 0)),(9,(.int .i64)),(10,(.int .i64))],mem:=[.same] })],ro:=[4] }
def qR (a0:List vV4) (a1:(Int×Int×Unit)) (y3:(Int×Int×Unit)):Option ((Int×Int×Unit)⊕((Int×Unit)⊕(Int×Bool×Unit))) :=
 cond (decide (y3.1<y3.2.1)) (
(shrT .u64 (IntKind.wrap .u64 (IntKind.wrap .i64 (y3.1+y3.2.1))) 1).bind fun t1 =>
(atI a0 (IntKind.wrap .i64 t1)).bind fun x2 =>
(zdp x2 a1).bind fun r3 =>
 cond (decide (r3<0)) (
 some (.inl ((IntKind.wrap .i64 ((IntKind.wrap .i64 t1)+1)),y3.2.1,()))) (
 some (.inl (y3.1,(IntKind.wrap .i64 t1),())))) (
 some (.inr (.inl (y3.1,()))))
def zaf (a0:List vV4) (a1:(Int×Int×Unit)) (a2:Unit):Option (Int×Bool×Unit) :=
(aI (qR a0 a1) (0,(a0.length:Int),()):Option ((Int×Unit)⊕(Int×Bool×Unit))).bind (bc fun v4 =>
 cond (decide (v4.1<(a0.length:Int))) ((atI a0 v4.1).bind fun x5 =>
(zdp x5 a1).bind fun r6 =>
 some (v4.1,(decide (r6=0)),())) (some (v4.1,false,())))
def abF:TFn:={ ps:=(.cons (.sl tT19) (.cons tT15 (.cons (.fn 237) .unit))),res:=(.tup (.cons (.int .i64) (.cons .bool .unit))),fn:=fun v=>zaf v.1 v.2.1 v.2.2.1 }
def auZ:TEnv:=(vZ [(237,z8)])
theorem auY:runY Tryz.prog al5 au0 auZ ayk Tryz.f192 abF.ps abF.res=abF.fn:=by kernel_rfl
theorem al3:aB Tryz.prog G0 192 al4:=ah (ak ⟨au,(aj ahx ac),ap,ac,an⟩ Tryz.func192 rfl (by kernel_rfl))
theorem auX:TOk al4 abF:=aA (E:=al5) (ET:=auZ) (EnvT.ofX (ax (ai aos al)) am ar aM aq) auY rfl
def ahc:Env:={ pure:=[(192,al4)],raw:=[(181,alc),(238,alk)],glob:=G0,same:=[274],look:=[],ext:=[] }
def anW:Hints:={ seqs:=[],loops:=[],own:=[19],frz:=[(4,[3])] }
def ahb:PFn:=aG (runF Tryz.prog ahc anW Tryz.f169)
def awy:TH:=yZ
def zdy (a0:List vV4) (a1:vV4):Option (List vV4) :=
(zaf a0 a1.1 ()).bind fun r1 =>
 cond r1.2.1 (
 some a0) (
(zax a0).bind fun n2 =>
(zau r1.1 ([a1]:List vV4) n2).bind fun q3 =>
 some q3.2.1)
def zR:TFn:={ ps:=(.cons (.sl tT19) (.cons tT19 .unit)),res:=(.sl tT19),fn:=fun v=>zdy v.1 v.2.1 }
def anV:TEnv:={ pure:=[(192,abF)],look:=[],glob:=G0T,ty:=[(78,tT19)],raw:=[(238,aub)],fresh:=[(181,at4)] }
theorem anU:runY Tryz.prog ahc anW anV awy Tryz.f169 zR.ps zR.res=zR.fn:=by kernel_rfl
theorem aha:aB Tryz.prog G0 169 ahb:=ah (ak ⟨au,(aj al3 ac),(aY alb (aY alj ap)),ac,an⟩ Tryz.func169 rfl (by kernel_rfl))
theorem anT:TOk ahb zR:=aA (E:=ahc) (ET:=anV) (EnvT.ofX (ax (ai auX al)) am (iV (bn aua rfl rfl ar) rfl) aM (jc at3 rfl rfl rfl aq)) anU rfl
def ahW:Env:=(eZ [] [274])
def ao3:Hints:=(hZ [] [])
def aaj:PFn:=aG (runF Tryz.prog ahW ao3 Tryz.f173)
def awQ:TH:={ loops:=[],ro:=[1] }
def zdg (a0:(Int×Int×Unit)):Option Bool :=
 cond (decide (a0.1≥0)) (cond (decide (a0.1<16)) (cond (decide (a0.2.1≥1)) (some (decide (a0.2.1≤1048576))) (some false)) (some false)) (some false)
def tH:TFn:={ ps:=(.cons tT15 .unit),res:=.bool,fn:=fun v=>zdg v.1 }
def ao2:TEnv:=(vZ [])
theorem ao1:runY Tryz.prog ahW ao3 ao2 awQ Tryz.f173 tH.ps tH.res=tH.fn:=by kernel_rfl
theorem tI:aB Tryz.prog G0 173 aaj:=ah (ak ⟨au,ac,ap,ac,an⟩ Tryz.func173 rfl (by kernel_rfl))
theorem aai:TOk aaj tH:=aA (E:=ahW) (ET:=ao2) (EnvT.ofX (ax al) am ar aM aq) ao1 rfl
def aim:Env:=(eZ [(173,aaj)] [274])
def apG:Hints:=(hZ [] [])
def ail:PFn:=aG (runF Tryz.prog aim apG Tryz.f194)
def aw0:TH:={ loops:=[],ro:=[3] }
def zd0 (a0:List Int) (a1:(Int×Int×Unit)):Option Bool :=
(zdg a1).bind fun r1 =>
 cond r1 ((inI 16 a1.1).bind fun i2 =>
(a0[i2]?).bind fun x3 =>
 some (decide (a1.2.1≤x3))) (some false)
def aat:TFn:={ ps:=(.cons (.arr 16 (.int .i64)) (.cons tT15 .unit)),res:=.bool,fn:=fun v=>zd0 v.1 v.2.1 }
def apF:TEnv:=(vZ [(173,tH)])
theorem apE:runY Tryz.prog aim apG apF aw0 Tryz.f194 aat.ps aat.res=aat.fn:=by kernel_rfl
theorem aik:aB Tryz.prog G0 194 ail:=ah (ak ⟨au,(aj tI ac),ap,ac,an⟩ Tryz.func194 rfl (by kernel_rfl))
theorem apD:TOk ail aat:=aA (E:=aim) (ET:=apF) (EnvT.ofX (ax (ai aai al)) am ar aM aq) apE rfl
def al9:Env:=(eZ [(171,yh)] [274])
def au7:Hints:=(hZ [(3,[0,2,4,8,9,10])] [])
def ae5:PFn:=aG (runF Tryz.prog al9 au7 Tryz.f195)
def aym:TH:={ joins:=[(8,{ keep:=[(4,(.bx 0 0)),(9,(.int .i64))],mem:=[.same] })],loops:=[(3,{ keep:=[(4,(.bx 0 0)),(9,(.int .i64)),(10,(.int .i64))],mem:=[.same] })],ro:=[4] }
def wE (a0:List (Int×Int×Unit)) (a1:(Int×Int×Unit)) (y3:(Int×Int×Unit)):Option ((Int×Int×Unit)⊕((Int×Unit)⊕(Int×Bool×Unit))) :=
 cond (decide (y3.1<y3.2.1)) (
(shrT .u64 (IntKind.wrap .u64 (IntKind.wrap .i64 (y3.1+y3.2.1))) 1).bind fun t1 =>
(atI a0 (IntKind.wrap .i64 t1)).bind fun x2 =>
(zb9 x2 a1).bind fun r3 =>
 cond (decide (r3<0)) (
 some (.inl ((IntKind.wrap .i64 ((IntKind.wrap .i64 t1)+1)),y3.2.1,()))) (
 some (.inl (y3.1,(IntKind.wrap .i64 t1),())))) (
 some (.inr (.inl (y3.1,()))))
def zad (a0:List (Int×Int×Unit)) (a1:(Int×Int×Unit)) (a2:Unit):Option (Int×Bool×Unit) :=
(aI (wE a0 a1) (0,(a0.length:Int),()):Option ((Int×Unit)⊕(Int×Bool×Unit))).bind (bc fun v4 =>
 cond (decide (v4.1<(a0.length:Int))) ((atI a0 v4.1).bind fun x5 =>
(zb9 x5 a1).bind fun r6 =>
 some (v4.1,(decide (r6=0)),())) (some (v4.1,false,())))
def yk:TFn:={ ps:=(.cons (.sl tT15) (.cons tT15 (.cons (.fn 171) .unit))),res:=(.tup (.cons (.int .i64) (.cons .bool .unit))),fn:=fun v=>zad v.1 v.2.1 v.2.2.1 }
def au6:TEnv:=(vZ [(171,qP)])
theorem au5:runY Tryz.prog al9 au7 au6 aym Tryz.f195 yk.ps yk.res=yk.fn:=by kernel_rfl
theorem abH:aB Tryz.prog G0 195 ae5:=ah (ak ⟨au,(aj pp ac),ap,ac,an⟩ Tryz.func195 rfl (by kernel_rfl))
theorem agH:TOk ae5 yk:=aA (E:=al9) (ET:=au6) (EnvT.ofX (ax (ai wx al)) am ar aM aq) au5 rfl
def ahn:Env:=(eZ [(194,ail),(195,ae5)] [274])
def aoe:Hints:=(hZ [] [])
def zY:PFn:=aG (runF Tryz.prog ahn aoe Tryz.f115)
def awD:TH:={ loops:=[],ro:=[2,3] }
def zdt (a0:vV8) (a1:(Int×Int×Unit)):Option Bool :=
(zd0 a0.1 a1).bind fun r1 =>
 cond r1 (
 some true) (
(zad a0.2.1 a1 ()).bind fun r2 =>
 some r2.2.1)
def tF:TFn:={ ps:=(.cons tT21 (.cons tT15 .unit)),res:=.bool,fn:=fun v=>zdt v.1 v.2.1 }
def aod:TEnv:=(vZ [(194,aat),(195,yk)])
theorem aoc:runY Tryz.prog ahn aoe aod awD Tryz.f115 tF.ps tF.res=tF.fn:=by kernel_rfl
theorem tG:aB Tryz.prog G0 115 zY:=ah (ak ⟨au,(aj aik (aj abH ac)),ap,ac,an⟩ Tryz.func115 rfl (by kernel_rfl))
theorem zX:TOk zY tF:=aA (E:=ahn) (ET:=aod) (EnvT.ofX (ax (ai apD (ai agH al))) am ar aM aq) aoc rfl
def ak7:Go.Shelf.Ren:=⟨fun | 41=>180 | n=>n,fun | 22=>64 | 23=>72 | 4=>4 | n=>n,fun | n=>n⟩
theorem aeU:Go.Proofs.SlLaysE0.n41 Tryz.prog ak7:={
 mixed:=by kernel_rfl
 f41:=⟨Tryz.f180.name,by decide,Tryz.func180.trans (congrArg some (by kernel_rfl))⟩
 t4:=Tryz.underlying4
 a4:=Tryz.isAgg4
 z4:=Tryz.sizeOf4
 v4:=Tryz.zeroValue4
 t22:=Tryz.underlying64
 a22:=Tryz.isAgg64
 z22:=Tryz.sizeOf64
 v22:=Tryz.zeroValue64 }
def ak9:SFn:=mR 2 72
theorem ak8:bw Tryz.prog G0 180 ak9:=tb aeU rfl rfl (fC (P:=Tryz.prog) (te:=72) (M:=2) (by kernel_rfl) (by kernel_rfl) (by kernel_rfl) (by kernel_rfl) (by kernel_rfl) (by kernel_rfl) (by kernel_rfl) (by kernel_rfl)) ⟨Tryz.f180,Tryz.func180,rfl,by kernel_rfl⟩
def zay (a0:List (Int×Int×Unit)):Option (List (Int×Int×Unit)):=fE a0
def at2:TNew:=oY 72 tT15
theorem at1:TNewOk ak9 at2:=th rfl rfl rfl
def alf:Go.Shelf.Ren:=⟨fun | 22=>239 | 29=>297 | 30=>298 | n=>n,fun | 24=>64 | 9=>72 | 0=>0 | 3=>3 | 4=>4 | n=>n,fun | n=>n⟩
theorem aeY:InsL Tryz.prog alf:={
 mixed:=by kernel_rfl
 f22:=⟨Tryz.f239.name,by decide,Tryz.func239.trans (congrArg some (by kernel_rfl))⟩
 f29:=⟨Tryz.f297.name,by decide,by kernel_rfl,by kernel_rfl,Tryz.func297.trans (congrArg some (by kernel_rfl))⟩
 t0:=Tryz.underlying0
 a0:=Tryz.isAgg0
 z0:=Tryz.sizeOf0
 v0:=Tryz.zeroValue0
 t3:=Tryz.underlying3
 a3:=Tryz.isAgg3
 z3:=Tryz.sizeOf3
 v3:=Tryz.zeroValue3
 t4:=Tryz.underlying4
 a4:=Tryz.isAgg4
 z4:=Tryz.sizeOf4
 v4:=Tryz.zeroValue4
 t24:=Tryz.underlying64
 a24:=Tryz.isAgg64
 z24:=Tryz.sizeOf64
 v24:=Tryz.zeroValue64 }
def alh:SFn:=dZ 2 72
theorem alg:bw Tryz.prog G0 239 alh:=j5 aeY rfl rfl rfl (fC (P:=Tryz.prog) (te:=72) (M:=2) (by kernel_rfl) (by kernel_rfl) (by kernel_rfl) (by kernel_rfl) (by kernel_rfl) (by kernel_rfl) (by kernel_rfl) (by kernel_rfl)) true Tryz.isAgg72 ⟨Tryz.f239,Tryz.func239,rfl,by kernel_rfl⟩
def zav (a1:Int) (a2:List (Int×Int×Unit)) (w0:List (Int×Int×Unit)):Option (Unit×List (Int×Int×Unit)×Unit):=(insT w0 a1 a2).map fun l=>((),(l,()))
def ayb:TRaw:=insR false 72 tT15
theorem at9:TRawOk alh ayb:=uR rfl rfl rfl rfl (by decide)
def ahq:Env:=(eZ [] [274])
def aoi:Hints:=(hZ [(3,[4,5,10,11,12])] [])
def ahp:PFn:=aG (runF Tryz.prog ahq aoi Tryz.f188)
def awE:TH:={ loops:=[(3,{ keep:=[(4,(.bx 1 0)),(5,(.bx 2 0)),(12,(.int .i64))],mem:=[.same,.box 66 tT25,.box 66 (.agg (.cons (.arr 16 (.int .i64)) (.cons (.own 4) .unit))),.gone,.row true 72 tT15] })],ro:=[2] }
def vJ (a1:List (Int×Int×Unit)) (y3:(Int×vV11×vV11×List (Int×Int×Unit)×Unit)):Option ((Int×vV11×vV11×List (Int×Int×Unit)×Unit)⊕vV8) :=
 cond (decide (y3.1<(a1.length:Int))) (
(atI a1 y3.1).bind fun x1 =>
(inI 16 x1.1).bind fun i2 =>
(y3.2.2.1.1[i2]?).bind fun x3 =>
 cond (decide (x1.2.1≤x3)) (
 some (.inl ((IntKind.wrap .i64 (y3.1+1)),y3.2.1,y3.2.2.1,y3.2.2.2.1,()))) (
(inI 16 x1.1).bind fun i4 =>
(y3.2.2.1.1[i4]?).bind fun x5 =>
 cond (decide (x1.2.1=(IntKind.wrap .i64 (x5+1)))) (
(inI 16 x1.1).bind fun i6 =>
(y3.2.2.1.1[i6]?).bind fun x7 =>
 some (.inl ((IntKind.wrap .i64 (y3.1+1)),y3.2.1,((y3.2.2.1.1.set i6 x1.2.1),y3.2.2.1.2.1,()),y3.2.2.2.1,()))) (
 cond (decide ((y3.2.2.2.1.length:Int)=0)) ((bP (y3.2.2.2.1.length+([x1]:List (Int×Int×Unit)).length)).bind fun u8 =>
 some (.inl ((IntKind.wrap .i64 (y3.1+1)),y3.2.1,(y3.2.2.1.1,(),()),(y3.2.2.2.1++([x1]:List (Int×Int×Unit))),()))) ((inI y3.2.2.2.1.length (IntKind.wrap .i64 ((y3.2.2.2.1.length:Int)-1))).bind fun i9 =>
(y3.2.2.2.1[i9]?).bind fun x10 =>
 cond (!(eqV tT15 x10 x1)) (
(bP (y3.2.2.2.1.length+([x1]:List (Int×Int×Unit)).length)).bind fun u11 =>
 some (.inl ((IntKind.wrap .i64 (y3.1+1)),y3.2.1,(y3.2.2.1.1,(),()),(y3.2.2.2.1++([x1]:List (Int×Int×Unit))),()))) (
 some (.inl ((IntKind.wrap .i64 (y3.1+1)),y3.2.1,y3.2.2.1,y3.2.2.2.1,()))))))) (
 some (.inr (y3.2.2.1.1,y3.2.2.2.1,())))
def zds (a0:List Int) (a1:List (Int×Int×Unit)):Option vV8 :=
 aI (vJ a1) (0,([0,0,0,0,0,0,0,0,0,0,0,0,0,0,0,0],(),()),(a0,(),()),[],())
def zZ:TFn:={ ps:=(.cons (.arr 16 (.int .i64)) (.cons (.sl tT15) .unit)),res:=tT21,fn:=fun v=>zds v.1 v.2.1 }
def aoh:TEnv:={ pure:=[],look:=[],glob:=G0T,ty:=[(72,tT15)],raw:=[],fresh:=[] }
theorem aog:runY Tryz.prog ahq aoi aoh awE Tryz.f188 zZ.ps zZ.res=zZ.fn:=by kernel_rfl
theorem aho:aB Tryz.prog G0 188 ahp:=ah (ak ⟨au,ac,ap,ac,an⟩ Tryz.func188 rfl (by kernel_rfl))
theorem aof:TOk ahp zZ:=aA (E:=ahq) (ET:=aoh) (EnvT.ofX (ax al) am ar aM aq) aog rfl
def alw:SFn:=jj alh
theorem alv:bw Tryz.prog G0 239 alw:=iE alg
def zaq (a1:Int) (a2:List (Int×Int×Unit)) (w0:List (Int×Int×Unit)):Option (List (Int×Int×Unit)×Unit):=(zav a1 a2 w0).map fun q=>(q.2.1,())
def aul:TRaw:={ ps:=(.cons (.own 0) (.cons (.int .i64) (.cons (.sl tT15) .unit))),ins:=[.row false 72 tT15],res:=(.sl tT15),outs:=[.gone],fn:=fun v w=>zaq v.2.1 v.2.2.1 w.1 }
theorem auk:TRawOk alw aul:=af1 at9
def ahj:Env:={ pure:=[(115,zY),(173,aaj),(188,ahp),(195,ae5)],raw:=[(180,ak9),(239,alw)],glob:=G0,same:=[274],look:=[],ext:=[] }
def an7:Hints:={ seqs:=[],loops:=[],own:=[24,26,29],frz:=[(4,[2,3])] }
def ahi:PFn:=aG (runF Tryz.prog ahj an7 Tryz.f170)
def awB:TH:=yZ
def zdv (a0:vV8) (a1:(Int×Int×Unit)):Option vV8 :=
(zdg a1).bind fun r1 =>
 cond (!r1) (some a0) ((zdt a0 a1).bind fun r2 =>
 cond r2 (
 some a0) (
(zad a0.2.1 a1 ()).bind fun r3 =>
(zay a0.2.1).bind fun n4 =>
(zaq r3.1 ([a1]:List (Int×Int×Unit)) n4).bind fun q5 =>
(zds a0.1 q5.1).bind fun r6 =>
 some r6))
def zV:TFn:={ ps:=(.cons tT21 (.cons tT15 .unit)),res:=tT21,fn:=fun v=>zdv v.1 v.2.1 }
def an6:TEnv:={ pure:=[(115,tF),(173,tH),(188,zZ),(195,yk)],look:=[],glob:=G0T,ty:=[(72,tT15)],raw:=[(239,aul)],fresh:=[(180,at2)] }
theorem an5:runY Tryz.prog ahj an7 an6 awB Tryz.f170 zV.ps zV.res=zV.fn:=by kernel_rfl
theorem ahh:aB Tryz.prog G0 170 ahi:=ah (ak ⟨au,(aj tG (aj tI (aj aho (aj abH ac)))),(aY ak8 (aY alv ap)),ac,an⟩ Tryz.func170 rfl (by kernel_rfl))
theorem an4:TOk ahi zV:=aA (E:=ahj) (ET:=an6) (EnvT.ofX (ax (ai zX (ai aai (ai aof (ai agH al))))) am (iV (bn auk rfl rfl ar) rfl) aM (jc at1 rfl rfl rfl aq)) an5 rfl
def ahV:Env:=(eZ [(114,zT),(169,ahb),(170,ahi)] [274])
def ao0:Hints:=(hZ [] [])
def ahU:PFn:=aG (runF Tryz.prog ahV ao0 Tryz.f97)
def awP:TH:={ loops:=[],ro:=[3] }
def zdh (a0:vV1) (a1:vV4):Option vV1 :=
(zdx a0.1 a1.1).bind fun r1 =>
 cond (decide (r1≥0)) (
 some a0) (
(zdy a0.1 a1).bind fun r2 =>
(zdv a0.2.2.1 a1.1).bind fun r3 =>
 some (r2,a0.2.1,r3,a0.2.2.2.1,a0.2.2.2.2.1,()))
def aah:TFn:={ ps:=(.cons tT13 (.cons tT19 .unit)),res:=tT13,fn:=fun v=>zdh v.1 v.2.1 }
def aoZ:TEnv:=(vZ [(114,tD),(169,zR),(170,zV)])
theorem aoY:runY Tryz.prog ahV ao0 aoZ awP Tryz.f97 aah.ps aah.res=aah.fn:=by kernel_rfl
theorem ahT:aB Tryz.prog G0 97 ahU:=ah (ak ⟨au,(aj tE (aj aha (aj ahh ac))),ap,ac,an⟩ Tryz.func97 rfl (by kernel_rfl))
theorem aoX:TOk ahU aah:=aA (E:=ahV) (ET:=aoZ) (EnvT.ofX (ax (ai zS (ai anT (ai an4 al)))) am ar aM aq) aoY rfl
def aj5:Env:=(eZ [(171,yh)] [274])
def asg:Hints:=(hZ [] [])
def aeF:PFn:=aG (runF Tryz.prog aj5 asg Tryz.f242)
def axI:TH:={ loops:=[],ro:=[2,3] }
def zbr (a0:vV3) (a1:vV3):Option Int :=
(zb9 a0.1 a1.1).bind fun r1 =>
 some r1
def yf:TFn:={ ps:=(.cons tT17 (.cons tT17 .unit)),res:=(.int .i64),fn:=fun v=>zbr v.1 v.2.1 }
def asf:TEnv:=(vZ [(171,qP)])
theorem ase:runY Tryz.prog aj5 asg asf axI Tryz.f242 yf.ps yf.res=yf.fn:=by kernel_rfl
theorem abb:aB Tryz.prog G0 242 aeF:=ah (ak ⟨au,(aj pp ac),ap,ac,an⟩ Tryz.func242 rfl (by kernel_rfl))
theorem agC:TOk aeF yf:=aA (E:=aj5) (ET:=asf) (EnvT.ofX (ax (ai wx al)) am ar aM aq) ase rfl
def amc:Env:=(eZ [(242,aeF)] [274])
def avb:Hints:=(hZ [(3,[0,2,4,8,9,10])] [])
def amb:PFn:=aG (runF Tryz.prog amc avb Tryz.f284)
def ayn:TH:={ joins:=[(8,{ keep:=[(4,(.bx 0 0)),(9,(.int .i64))],mem:=[.same] })],loops:=[(3,{ keep:=[(4,(.bx 0 0)),(9,(.int .i64)),(10,(.int .i64))],mem:=[.same] })],ro:=[4] }
def nR (a0:List vV3) (a1:vV3) (y3:(Int×Int×Unit)):Option ((Int×Int×Unit)⊕((Int×Unit)⊕(Int×Bool×Unit))) :=
 cond (decide (y3.1<y3.2.1)) (
(shrT .u64 (IntKind.wrap .u64 (IntKind.wrap .i64 (y3.1+y3.2.1))) 1).bind fun t1 =>
(atI a0 (IntKind.wrap .i64 t1)).bind fun x2 =>
(zbr x2 a1).bind fun r3 =>
 cond (decide (r3<0)) (
 some (.inl ((IntKind.wrap .i64 ((IntKind.wrap .i64 t1)+1)),y3.2.1,()))) (
 some (.inl (y3.1,(IntKind.wrap .i64 t1),())))) (
 some (.inr (.inl (y3.1,()))))
def zac (a0:List vV3) (a1:vV3) (a2:Unit):Option (Int×Bool×Unit) :=
(aI (nR a0 a1) (0,(a0.length:Int),()):Option ((Int×Unit)⊕(Int×Bool×Unit))).bind (bc fun v4 =>
 cond (decide (v4.1<(a0.length:Int))) ((atI a0 v4.1).bind fun x5 =>
(zbr x5 a1).bind fun r6 =>
 some (v4.1,(decide (r6=0)),())) (some (v4.1,false,())))
def abI:TFn:={ ps:=(.cons (.sl tT17) (.cons tT17 (.cons (.fn 242) .unit))),res:=(.tup (.cons (.int .i64) (.cons .bool .unit))),fn:=fun v=>zac v.1 v.2.1 v.2.2.1 }
def ava:TEnv:=(vZ [(242,yf)])
theorem au9:runY Tryz.prog amc avb ava ayn Tryz.f284 abI.ps abI.res=abI.fn:=by kernel_rfl
theorem ama:aB Tryz.prog G0 284 amb:=ah (ak ⟨au,(aj abb ac),ap,ac,an⟩ Tryz.func284 rfl (by kernel_rfl))
theorem au8:TOk amb abI:=aA (E:=amc) (ET:=ava) (EnvT.ofX (ax (ai agC al)) am ar aM aq) au9 rfl
def ahm:Env:=(eZ [(284,amb)] [274])
def aob:Hints:=(hZ [] [])
def ahl:PFn:=aG (runF Tryz.prog ahm aob Tryz.f217)
def awC:TH:={ loops:=[],ro:=[3] }
def zdu (a0:List vV3) (a1:(Int×Int×Unit)):Option (Int×Bool×Unit) :=
(zac a0 (a1,0,()) ()).bind fun r1 =>
 some (r1.1,r1.2.1,())
def zW:TFn:={ ps:=(.cons (.sl tT17) (.cons tT15 .unit)),res:=(.tup (.cons (.int .i64) (.cons .bool .unit))),fn:=fun v=>zdu v.1 v.2.1 }
def aoa:TEnv:=(vZ [(284,abI)])
theorem an9:runY Tryz.prog ahm aob aoa awC Tryz.f217 zW.ps zW.res=zW.fn:=by kernel_rfl
theorem ahk:aB Tryz.prog G0 217 ahl:=ah (ak ⟨au,(aj ama ac),ap,ac,an⟩ Tryz.func217 rfl (by kernel_rfl))
theorem an8:TOk ahl zW:=aA (E:=ahm) (ET:=aoa) (EnvT.ofX (ax (ai au8 al)) am ar aM aq) an9 rfl
def ah9:Env:=(eZ [(217,ahl)] [274])
def apm:Hints:=(hZ [] [])
def aep:PFn:=aG (runF Tryz.prog ah9 apm Tryz.f145)
def awV:TH:={ loops:=[],ro:=[3] }
def zdb (a0:List vV3) (a1:(Int×Int×Unit)):Option Int :=
(zdu a0 a1).bind fun r1 =>
 cond r1.2.1 (
(atI a0 r1.1).bind fun x2 =>
 some x2.2.1) (
 some 0)
def xX:TFn:={ ps:=(.cons (.sl tT17) (.cons tT15 .unit)),res:=(.int .i64),fn:=fun v=>zdb v.1 v.2.1 }
def apl:TEnv:=(vZ [(217,zW)])
theorem apk:runY Tryz.prog ah9 apm apl awV Tryz.f145 xX.ps xX.res=xX.fn:=by kernel_rfl
theorem aao:aB Tryz.prog G0 145 aep:=ah (ak ⟨au,(aj ahk ac),ap,ac,an⟩ Tryz.func145 rfl (by kernel_rfl))
theorem agr:TOk aep xX:=aA (E:=ah9) (ET:=apl) (EnvT.ofX (ax (ai an8 al)) am ar aM aq) apk rfl
def ajv:Env:=(eZ [(145,aep)] [274])
def ark:Hints:=(hZ [] [])
def aaS:PFn:=aG (runF Tryz.prog ajv ark Tryz.f75)
def axs:TH:={ loops:=[],ro:=[3] }
def zc9 (a0:List vV3) (a1:(Int×Int×Unit)):Option Bool :=
(zdb a0 a1).bind fun r1 =>
(remT r1 2).bind fun t2 =>
 some (decide (t2=0))
def tK:TFn:={ ps:=(.cons (.sl tT17) (.cons tT15 .unit)),res:=.bool,fn:=fun v=>zc9 v.1 v.2.1 }
def arj:TEnv:=(vZ [(145,xX)])
theorem ari:runY Tryz.prog ajv ark arj axs Tryz.f75 tK.ps tK.res=tK.fn:=by kernel_rfl
theorem tL:aB Tryz.prog G0 75 aaS:=ah (ak ⟨au,(aj aao ac),ap,ac,an⟩ Tryz.func75 rfl (by kernel_rfl))
theorem aaR:TOk aaS tK:=aA (E:=ajv) (ET:=arj) (EnvT.ofX (ax (ai agr al)) am ar aM aq) ari rfl
def akU:Env:=(eZ [(145,aep),(173,aaj)] [274])
def atH:Hints:=(hZ [] [])
def aeT:PFn:=aG (runF Tryz.prog akU atH Tryz.f102)
def ax5:TH:={ loops:=[],ro:=[3] }
def zb3 (a0:List vV3) (a1:(Int×Int×Unit)):Option (vV3×Int×Unit) :=
(zdb a0 a1).bind fun r1 =>
(zdg a1).bind fun r2 =>
 cond (!r2) (
 some (((0,0,()),0,()),2,())) (
 cond (decide (r1≥64)) (
 some (((0,0,()),0,()),14,())) (
 some ((a1,(IntKind.wrap .i64 (r1+1)),()),0,())))
def yj:TFn:={ ps:=(.cons (.sl tT17) (.cons tT15 .unit)),res:=(.tup (.cons tT17 (.cons (.int .i64) .unit))),fn:=fun v=>zb3 v.1 v.2.1 }
def atG:TEnv:=(vZ [(145,xX),(173,tH)])
theorem atF:runY Tryz.prog akU atH atG ax5 Tryz.f102 yj.ps yj.res=yj.fn:=by kernel_rfl
theorem abt:aB Tryz.prog G0 102 aeT:=ah (ak ⟨au,(aj aao (aj tI ac)),ap,ac,an⟩ Tryz.func102 rfl (by kernel_rfl))
theorem agG:TOk aeT yj:=aA (E:=akU) (ET:=atG) (EnvT.ofX (ax (ai agr (ai aai al))) am ar aM aq) atF rfl
def ah8:Env:=(eZ [(102,aeT),(115,zY)] [274])
def apj:Hints:=(hZ [] [])
def ah7:PFn:=aG (runF Tryz.prog ah8 apj Tryz.f100)
def awU:TH:={ loops:=[],ro:=[2,3] }
def zdc (a0:vV1) (a1:(Int×Int×Unit)):Option Int :=
(zdt a0.2.2.2.1 a1).bind fun r1 =>
 cond r1 (
 some 13) (
(zb3 a0.2.1 a1).bind fun r2 =>
 some r2.2.1)
def aan:TFn:={ ps:=(.cons tT13 (.cons tT15 .unit)),res:=(.int .i64),fn:=fun v=>zdc v.1 v.2.1 }
def api:TEnv:=(vZ [(102,yj),(115,tF)])
theorem aph:runY Tryz.prog ah8 apj api awU Tryz.f100 aan.ps aan.res=aan.fn:=by kernel_rfl
theorem ah6:aB Tryz.prog G0 100 ah7:=ah (ak ⟨au,(aj abt (aj tG ac)),ap,ac,an⟩ Tryz.func100 rfl (by kernel_rfl))
theorem apg:TOk ah7 aan:=aA (E:=ah8) (ET:=api) (EnvT.ofX (ax (ai agG (ai zX al))) am ar aM aq) aph rfl
def ajR:Env:=(eZ [(75,aaS),(100,ah7),(114,zT),(115,zY)] [274])
def arU:Hints:=(hZ [] [])
def aeA:PFn:=aG (runF Tryz.prog ajR arU Tryz.f46)
def axC:TH:={ loops:=[],ro:=[3,4] }
def zbz (a0:vV1) (a1:(Int×Int×Unit)) (a2:Bool):Option Int :=
(zdx a0.1 a1).bind fun r1 =>
 cond (decide (r1<0)) (
 some 12) (
(zdt a0.2.2.2.1 a1).bind fun r2 =>
 cond r2 (
 some 13) (
(zc9 a0.2.1 a1).bind fun r3 =>
 cond (r3==a2) (
 some 11) (
(zdc a0 a1).bind fun r4 =>
 some r4)))
def yd:TFn:={ ps:=(.cons tT13 (.cons tT15 (.cons .bool .unit))),res:=(.int .i64),fn:=fun v=>zbz v.1 v.2.1 v.2.2.1 }
def arT:TEnv:=(vZ [(75,tK),(100,aan),(114,tD),(115,tF)])
theorem arS:runY Tryz.prog ajR arU arT axC Tryz.f46 yd.ps yd.res=yd.fn:=by kernel_rfl
theorem aa1:aB Tryz.prog G0 46 aeA:=ah (ak ⟨au,(aj tL (aj ah6 (aj tE (aj tG ac)))),ap,ac,an⟩ Tryz.func46 rfl (by kernel_rfl))
theorem agx:TOk aeA yd:=aA (E:=ajR) (ET:=arT) (EnvT.ofX (ax (ai aaR (ai apg (ai zS (ai zX al))))) am ar aM aq) arS rfl
def aiC:Env:=(eZ [(242,aeF)] [274])
def ap3:Hints:=(hZ [(2,[0,1,5])] [34,38,42,57,68])
def aiB:PFn:=aG (runF Tryz.prog aiC ap3 Tryz.f179)
def aw6:TH:={ joins:=[(3,{ keep:=[(5,(.own 0))],mem:=[.row true 82 tT17] }),(10,{ keep:=[(5,(.own 0)),(6,(.int .i64))],mem:=[.row true 82 tT17] })],loops:=[(2,{ keep:=[(0,(.sl tT17)),(1,(.sl tT17)),(5,(.own 0))],mem:=[.row true 82 tT17] })],ro:=[] }
def f9 (y2:(List vV3×List vV3×List vV3×Unit)):Option ((List vV3×List vV3×List vV3×Unit)⊕List vV3) :=
(cond (decide ((y2.1.length:Int)>0)) (some (.inl (y2.2.2.1,()))) (cond (decide ((y2.2.1.length:Int)>0)) (
 some (.inl (y2.2.2.1,()))) (
 some (.inr (.inr y2.2.2.1)))):Option ((List vV3×Unit)⊕((List vV3×List vV3×List vV3×Unit)⊕List vV3))).bind (bc fun v1 =>
(cond (decide ((y2.1.length:Int)=0)) (
 some (.inl (1,v1.1,()))) (
 cond (decide ((y2.2.1.length:Int)>0)) (
(atI y2.1 0).bind fun x2 =>
(atI y2.2.1 0).bind fun x3 =>
(zbr x2 x3).bind fun r4 =>
 some (.inl (r4,v1.1,()))) (
 some (.inl ((-1),v1.1,())))):Option ((Int×List vV3×Unit)⊕((List vV3×List vV3×List vV3×Unit)⊕List vV3))).bind (bc fun v5 =>
 cond (decide (v5.1<0)) (
(atI y2.1 0).bind fun x6 =>
(bP (v5.2.1.length+([x6]:List vV3).length)).bind fun u7 =>
(subI y2.1 1 (y2.1.length:Int)).bind fun s8 =>
 some (.inl (s8,y2.2.1,(v5.2.1++([x6]:List vV3)),()))) (
 cond (decide (v5.1>0)) (
(atI y2.2.1 0).bind fun x9 =>
(bP (v5.2.1.length+([x9]:List vV3).length)).bind fun u10 =>
(subI y2.2.1 1 (y2.2.1.length:Int)).bind fun s11 =>
 some (.inl (y2.1,s11,(v5.2.1++([x9]:List vV3)),()))) (
(atI y2.1 0).bind fun x12 =>
(atI y2.1 0).bind fun x13 =>
(atI y2.2.1 0).bind fun x14 =>
(bP (v5.2.1.length+([(x12.1,(max x13.2.1 x14.2.1),())]:List vV3).length)).bind fun u15 =>
(subI y2.1 1 (y2.1.length:Int)).bind fun s16 =>
(subI y2.2.1 1 (y2.2.1.length:Int)).bind fun s17 =>
 some (.inl (s16,s17,(v5.2.1++([(x12.1,(max x13.2.1 x14.2.1),())]:List vV3)),()))))))
def zcu (a0:List vV3) (a1:List vV3):Option (List vV3) :=
 aI (f9) (a0,a1,[],())
def aay:TFn:={ ps:=(.cons (.sl tT17) (.cons (.sl tT17) .unit)),res:=(.sl tT17),fn:=fun v=>zcu v.1 v.2.1 }
def ap2:TEnv:={ pure:=[(242,yf)],look:=[],glob:=G0T,ty:=[(82,tT17)],raw:=[],fresh:=[] }
theorem ap1:runY Tryz.prog aiC ap3 ap2 aw6 Tryz.f179 aay.ps aay.res=aay.fn:=by kernel_rfl
theorem aiA:aB Tryz.prog G0 179 aiB:=ah (ak ⟨au,(aj abb ac),ap,ac,an⟩ Tryz.func179 rfl (by kernel_rfl))
theorem ap0:TOk aiB aay:=aA (E:=aiC) (ET:=ap2) (EnvT.ofX (ax (ai agC al)) am ar aM aq) ap1 rfl
def ajn:Env:=(eZ [(179,aiB)] [274])
def aq4:Hints:=(hZ [] [])
def ajm:PFn:=aG (runF Tryz.prog ajn aq4 Tryz.f104)
def axo:TH:=yZ
def zcd (a0:vV1) (a1:List vV3):Option vV1 :=
(zcu a0.2.1 a1).bind fun r1 =>
 some (a0.1,r1,a0.2.2.1,a0.2.2.2.1,a0.2.2.2.2.1,())
def aaN:TFn:={ ps:=(.cons tT13 (.cons (.sl tT17) .unit)),res:=tT13,fn:=fun v=>zcd v.1 v.2.1 }
def aq3:TEnv:=(vZ [(179,aay)])
theorem aq2:runY Tryz.prog ajn aq4 aq3 axo Tryz.f104 aaN.ps aaN.res=aaN.fn:=by kernel_rfl
theorem ajl:aB Tryz.prog G0 104 ajm:=ah (ak ⟨au,(aj aiA ac),ap,ac,an⟩ Tryz.func104 rfl (by kernel_rfl))
theorem aq1:TOk ajm aaN:=aA (E:=ajn) (ET:=aq3) (EnvT.ofX (ax (ai ap0 al)) am ar aM aq) aq2 rfl
def aj6:Env:=(eZ [(102,aeT),(104,ajm)] [274])
def asj:Hints:=(hZ [] [])
def aeG:PFn:=aG (runF Tryz.prog aj6 asj Tryz.f130)
def axJ:TH:={ loops:=[],ro:=[2,3] }
def zbq (a0:vV1) (a1:(Int×Int×Unit)):Option (vV1×Int×Unit) :=
(zb3 a0.2.1 a1).bind fun r1 =>
 cond (!decide (r1.2.1=0)) (
 some (([],[],([0,0,0,0,0,0,0,0,0,0,0,0,0,0,0,0],[],()),([0,0,0,0,0,0,0,0,0,0,0,0,0,0,0,0],[],()),[[],[],[],[],[],[],[],[]],()),r1.2.1,())) (
(zcd a0 ([r1.1]:List vV3)).bind fun r2 =>
 some (r2,0,()))
def yg:TFn:={ ps:=(.cons tT13 (.cons tT15 .unit)),res:=(.tup (.cons tT13 (.cons (.int .i64) .unit))),fn:=fun v=>zbq v.1 v.2.1 }
def asi:TEnv:={ pure:=[(102,yj),(104,aaN)],look:=[],glob:=G0T,ty:=[(82,tT17)],raw:=[],fresh:=[] }
theorem ash:runY Tryz.prog aj6 asj asi axJ Tryz.f130 yg.ps yg.res=yg.fn:=by kernel_rfl
theorem abc:aB Tryz.prog G0 130 aeG:=ah (ak ⟨au,(aj abt (aj ajl ac)),ap,ac,an⟩ Tryz.func130 rfl (by kernel_rfl))
theorem agD:TOk aeG yg:=aA (E:=aj6) (ET:=asi) (EnvT.ofX (ax (ai agG (ai aq1 al))) am ar aM aq) ash rfl
def ajV:Env:=(eZ [(75,aaS)] [274])
def arY:Hints:=(hZ [(3,[1,5,13,14,15]),(7,[1,5,13,14,15,25,26,27]),(10,[1,5,13,14,15,25,26,27,32,33,34])] [])
def ajU:SFn:=runF Tryz.prog ajV arY Tryz.f74
def axD:TH:={ loops:=[(3,{ keep:=[(5,(.mp 0)),(15,(.int .i64))],mem:=[.map tT17 .bool] }),(7,{ keep:=[(5,(.mp 0)),(27,(.int .i64))],mem:=[.map tT17 .bool,.gone] }),(10,{ keep:=[(5,(.mp 0)),(34,(.int .i64))],mem:=[.map tT17 .bool,.gone,.gone] })],ro:=[] }
def pk (y7:vV10) (x3:vV0) (y10:vV10):Option (vV10⊕(vV10⊕(vV10⊕(List (vV3×Bool))))) :=
 cond (decide (y10.1<(x3.2.2.2.2.1.length:Int))) (
(atI x3.2.2.2.2.1 y10.1).bind fun x4 =>
 some (.inl ((IntKind.wrap .i64 (y10.1+1)),(putK tT17 x4 true y10.2.1),()))) (
 some (.inr (.inl ((IntKind.wrap .i64 (y7.1+1)),y10.2.1,()))))
def wk (y3:vV10) (x1:vV4) (y7:vV10):Option (vV10⊕(vV10⊕(List (vV3×Bool)))) :=
 cond (decide (y7.1<(x1.2.2.2.2.1.length:Int))) (
(atI x1.2.2.2.2.1 y7.1).bind fun x3 =>
 aI (pk y7 x3) (0,y7.2.1,())) (
 some (.inr (.inl ((IntKind.wrap .i64 (y3.1+1)),y7.2.1,()))))
def wl (a0:List vV4) (a1:List vV3) (y3:vV10):Option (vV10⊕(List (vV3×Bool))) :=
 cond (decide (y3.1<(a0.length:Int))) (
(atI a0 y3.1).bind fun x1 =>
(zc9 a1 x1.1).bind fun r2 =>
 cond (!r2) (
 some (.inl ((IntKind.wrap .i64 (y3.1+1)),y3.2.1,()))) (
 aI (wk y3 x1) (0,y3.2.1,()))) (
 some (.inr y3.2.1))
def zbx (a0:List vV4) (a1:List vV3):Option (List (vV3×Bool)) :=
 aI (wl a0 a1) (0,[],())
def aeC:TNew:={ ps:=(.cons (.sl tT19) (.cons (.sl tT17) .unit)),e:=143,t:=(.sl (.cons tT17 .bool)),fn:=fun v=>zbx v.1 v.2.1,mp:=true }
def arX:TEnv:={ pure:=[(75,tK)],look:=[],glob:=G0T,ty:=[(4,.bool),(146,tT17)],raw:=[],fresh:=[] }
theorem arW:av6 Tryz.prog ajV arY arX axD Tryz.f74 aeC.ps tT17 .bool=aeC.fn:=by kernel_rfl
theorem ajT:bw Tryz.prog G0 74 ajU:=ak ⟨au,(aj tL ac),ap,ac,an⟩ Tryz.func74 rfl (by kernel_rfl)
theorem arV:TNewOk ajU aeC:=afF (E:=ajV) (ET:=arX) (EnvT.ofX (ax (ai aaR al)) am ar aM aq) arW
def ahg:Env:={ pure:=[(75,aaS)],raw:=[(74,ajU)],glob:=G0,same:=[274],look:=[],ext:=[] }
def an3:Hints:=(hZ [(4,[1,5,6,15,16,17]),(8,[1,5,6,8,15,16,17,27,28,29])] [])
def ahf:PFn:=aG (runF Tryz.prog ahg an3 Tryz.f19)
def awA:TH:={ loops:=[(4,{ keep:=[(5,(.mp 0)),(6,(.own 4)),(17,(.int .i64))],mem:=[.map tT17 .bool,.gone,.gone,.gone,.row true 148 tT20] }),(8,{ keep:=[(5,(.mp 0)),(6,(.own 4)),(8,(.bx 5 0)),(29,(.int .i64))],mem:=[.map tT17 .bool,.gone,.gone,.gone,.row true 148 tT20,.box 78 tT19] })],ro:=[] }
def vH (y4:(Int×List (vV3×Bool)×List vV7×Unit)) (x2:vV4) (y8:(Int×List (vV3×Bool)×List vV7×vV4×Unit)):Option ((Int×List (vV3×Bool)×List vV7×vV4×Unit)⊕((Int×List (vV3×Bool)×List vV7×Unit)⊕List vV7)) :=
 cond (decide (y8.1<(x2.2.2.2.2.1.length:Int))) (
(atI x2.2.2.2.2.1 y8.1).bind fun x4 =>
 cond (decide (x4.1=1)) (cond (!((getK tT17 false (y8.2.2.2.1.1,y8.1,()) y8.2.1).1)) (
(bP (y8.2.2.1.length+([((y8.2.2.2.1.1,y8.1,()),x4,y8.2.2.2.1.2.2.1,())]:List vV7).length)).bind fun u5 =>
 some (.inl ((IntKind.wrap .i64 (y8.1+1)),y8.2.1,(y8.2.2.1++([((y8.2.2.2.1.1,y8.1,()),x4,y8.2.2.2.1.2.2.1,())]:List vV7)),y8.2.2.2.1,()))) (
 some (.inl ((IntKind.wrap .i64 (y8.1+1)),y8.2.1,y8.2.2.1,y8.2.2.2.1,())))) (cond (decide (x4.1=2)) (cond (!((getK tT17 false (y8.2.2.2.1.1,y8.1,()) y8.2.1).1)) (
(bP (y8.2.2.1.length+([((y8.2.2.2.1.1,y8.1,()),x4,y8.2.2.2.1.2.2.1,())]:List vV7).length)).bind fun u6 =>
 some (.inl ((IntKind.wrap .i64 (y8.1+1)),y8.2.1,(y8.2.2.1++([((y8.2.2.2.1.1,y8.1,()),x4,y8.2.2.2.1.2.2.1,())]:List vV7)),y8.2.2.2.1,()))) (
 some (.inl ((IntKind.wrap .i64 (y8.1+1)),y8.2.1,y8.2.2.1,y8.2.2.2.1,())))) (cond (decide (x4.1=3)) (cond (!((getK tT17 false (y8.2.2.2.1.1,y8.1,()) y8.2.1).1)) (
(bP (y8.2.2.1.length+([((y8.2.2.2.1.1,y8.1,()),x4,y8.2.2.2.1.2.2.1,())]:List vV7).length)).bind fun u7 =>
 some (.inl ((IntKind.wrap .i64 (y8.1+1)),y8.2.1,(y8.2.2.1++([((y8.2.2.2.1.1,y8.1,()),x4,y8.2.2.2.1.2.2.1,())]:List vV7)),y8.2.2.2.1,()))) (
 some (.inl ((IntKind.wrap .i64 (y8.1+1)),y8.2.1,y8.2.2.1,y8.2.2.2.1,())))) (some (.inl ((IntKind.wrap .i64 (y8.1+1)),y8.2.1,y8.2.2.1,y8.2.2.2.1,())))))) (
 some (.inr (.inl ((IntKind.wrap .i64 (y4.1+1)),y8.2.1,y8.2.2.1,()))))
def vI (a0:List vV4) (a1:List vV3) (y4:(Int×List (vV3×Bool)×List vV7×Unit)):Option ((Int×List (vV3×Bool)×List vV7×Unit)⊕List vV7) :=
 cond (decide (y4.1<(a0.length:Int))) (
(atI a0 y4.1).bind fun x2 =>
(zc9 a1 x2.1).bind fun r3 =>
 cond (!r3) (
 some (.inl ((IntKind.wrap .i64 (y4.1+1)),y4.2.1,y4.2.2.1,()))) (
 aI (vH y4 x2) (0,y4.2.1,y4.2.2.1,x2,()))) (
 some (.inr y4.2.2.1))
def zdw (a0:List vV4) (a1:List vV3):Option (List vV7) :=
(zbx a0 a1).bind fun n1 =>
 aI (vI a0 a1) (0,n1,[],())
def zU:TFn:={ ps:=(.cons (.sl tT19) (.cons (.sl tT17) .unit)),res:=(.sl tT20),fn:=fun v=>zdw v.1 v.2.1 }
def an2:TEnv:={ pure:=[(75,tK)],look:=[],glob:=G0T,ty:=[(148,tT20)],raw:=[],fresh:=[(74,aeC)] }
theorem an1:runY Tryz.prog ahg an3 an2 awA Tryz.f19 zU.ps zU.res=zU.fn:=by kernel_rfl
theorem ahe:aB Tryz.prog G0 19 ahf:=ah (ak ⟨au,(aj tL ac),(aY ajT ap),ac,an⟩ Tryz.func19 rfl (by kernel_rfl))
theorem an0:TOk ahf zU:=aA (E:=ahg) (ET:=an2) (EnvT.ofX (ax (ai aaR al)) am (iV ar rfl) aM (jc arV rfl rfl rfl aq)) an1 rfl
def aiU:Env:=(eZ [(19,ahf)] [274])
def aqu:Hints:=(hZ [] [])
def aeu:PFn:=aG (runF Tryz.prog aiU aqu Tryz.f50)
def axd:TH:={ loops:=[],ro:=[1] }
def zcn (a0:vV1):Option (List vV7) :=
(zdw a0.1 a0.2.1).bind fun r1 =>
 some r1
def xZ:TFn:={ ps:=(.cons tT13 .unit),res:=(.sl tT20),fn:=fun v=>zcn v.1 }
def aqt:TEnv:=(vZ [(19,zU)])
theorem aqs:runY Tryz.prog aiU aqu aqt axd Tryz.f50 xZ.ps xZ.res=xZ.fn:=by kernel_rfl
theorem aaE:aB Tryz.prog G0 50 aeu:=ah (ak ⟨au,(aj ahe ac),ap,ac,an⟩ Tryz.func50 rfl (by kernel_rfl))
theorem agt:TOk aeu xZ:=aA (E:=aiU) (ET:=aqt) (EnvT.ofX (ax (ai an0 al)) am ar aM aq) aqs rfl
def amC:Go.Shelf.Ren:=⟨fun | 41=>72 | n=>n,fun | 22=>24 | 23=>9 | 4=>4 | n=>n,fun | n=>n⟩
theorem ae7:Go.Proofs.SlLaysE0.n41 Tryz.prog amC:={
 mixed:=by kernel_rfl
 f41:=⟨Tryz.f72.name,by decide,Tryz.func72.trans (congrArg some (by kernel_rfl))⟩
 t4:=Tryz.underlying4
 a4:=Tryz.isAgg4
 z4:=Tryz.sizeOf4
 v4:=Tryz.zeroValue4
 t22:=Tryz.underlying24
 a22:=Tryz.isAgg24
 z22:=Tryz.sizeOf24
 v22:=Tryz.zeroValue24 }
def abT:PFn:=(mS 1)
theorem tX:aB Tryz.prog G0 72 abT:=clone_lays ae7 1 ⟨Tryz.f72,Tryz.func72,rfl,by kernel_rfl⟩ (by kernel_rfl) (by kernel_rfl) (by kernel_rfl) (by kernel_rfl) (by kernel_rfl) (by decide) (fun w=>Tryz.sizeOf9 w)
def za0 (a0:List (List UInt8)):Option (List (List UInt8)):=fE a0
def ae8:TFn:=gV .str
theorem abS:TOk abT ae8:=td rfl rfl rfl
def aij:Env:=(eZ [] [274])
def apC:Hints:=(hZ [] [])
def aer:PFn:=aG (runF Tryz.prog aij apC Tryz.f124)
def awZ:TH:={ joins:=[(6,{ keep:=[(6,.bool)],mem:=[] })],loops:=[],ro:=[] }
def zd1 (a0:Int):Option Int :=
 cond (decide (a0=1)) (
 some 1) (
(cond (decide (a0=2)) (
 some (.inl ((decide (a0=2)),()))) (
 some (.inl ((decide (a0=4)),()))):Option ((Bool×Unit)⊕Int)).bind (bc fun v1 =>
 cond v1.1 (
 some 2) (
 cond (decide (a0=3)) (
 some 3) (
 some 0))))
def xY:TFn:={ ps:=(.cons (.int .i64) .unit),res:=(.int .i64),fn:=fun v=>zd1 v.1 }
def apB:TEnv:=(vZ [])
theorem apA:runY Tryz.prog aij apC apB awZ Tryz.f124 xY.ps xY.res=xY.fn:=by kernel_rfl
theorem aas:aB Tryz.prog G0 124 aer:=ah (ak ⟨au,ac,ap,ac,an⟩ Tryz.func124 rfl (by kernel_rfl))
theorem ags:TOk aer xY:=aA (E:=aij) (ET:=apB) (EnvT.ofX (ax al) am ar aM aq) apA rfl
def akA:Env:=(eZ [] [274])
def as7:Hints:=(hZ [] [])
def aeN:PFn:=aG (runF Tryz.prog akA as7 Tryz.f330)
def axV:TH:=yZ
def zbd (a0:List UInt8):Option Bool :=
 some (!decide (a0=a0))
def abm:TFn:={ ps:=(.cons .str .unit),res:=.bool,fn:=fun v=>zbd v.1 }
def as6:TEnv:=(vZ [])
theorem as5:runY Tryz.prog akA as7 as6 axV Tryz.f330 abm.ps abm.res=abm.fn:=by kernel_rfl
theorem akz:aB Tryz.prog G0 330 aeN:=ah (ak ⟨au,ac,ap,ac,an⟩ Tryz.func330 rfl (by kernel_rfl))
theorem as4:TOk aeN abm:=aA (E:=akA) (ET:=as6) (EnvT.ofX (ax al) am ar aM aq) as5 rfl
def akH:Env:=(eZ [(330,aeN)] [274])
def atj:Hints:=(hZ [] [])
def aeR:PFn:=aG (runF Tryz.prog akH atj Tryz.f287)
def axY:TH:=yZ
def zba (a0:List UInt8) (a1:List UInt8):Option Int :=
(zbd a0).bind fun r1 =>
(zbd a1).bind fun r2 =>
 cond r1 (
 cond r2 (
 some 0) (
 some (-1))) (
 cond r2 (
 some 1) (
 cond (Op.bytesLess a0 a1) (
 some (-1)) (
 cond (!(Op.bytesLess a0 a1||decide (a0=a1))) (
 some 1) (
 some 0))))
def abo:TFn:={ ps:=(.cons .str (.cons .str .unit)),res:=(.int .i64),fn:=fun v=>zba v.1 v.2.1 }
def ati:TEnv:=(vZ [(330,abm)])
theorem ath:runY Tryz.prog akH atj ati axY Tryz.f287 abo.ps abo.res=abo.fn:=by kernel_rfl
theorem akG:aB Tryz.prog G0 287 aeR:=ah (ak ⟨au,(aj akz ac),ap,ac,an⟩ Tryz.func287 rfl (by kernel_rfl))
theorem atg:TOk aeR abo:=aA (E:=akH) (ET:=ati) (EnvT.ofX (ax (ai as4 al)) am ar aM aq) ath rfl
def ale:Env:=(eZ [(287,aeR)] [274])
def at8:Hints:=(hZ [(2,[0,1,9,10,11])] [])
def aeX:PFn:=aG (runF Tryz.prog ale at8 Tryz.f225)
def aya:TH:={ joins:=[(11,{ keep:=[],mem:=[] })],loops:=[(2,{ keep:=[(11,(.int .i64))],mem:=[] })],ro:=[] }
def iM (a0:List (List UInt8)) (a1:List (List UInt8)) (y2:(Int×Unit)):Option ((Int×Unit)⊕(Unit⊕Int)) :=
 cond (decide (y2.1<(a0.length:Int))) (
(atI a0 y2.1).bind fun x1 =>
 cond (decide (y2.1≥(a1.length:Int))) (
 some (.inr (.inr 1))) (
(atI a1 y2.1).bind fun x2 =>
(zba x1 x2).bind fun r3 =>
 cond (!decide (r3=0)) (
 some (.inr (.inr r3))) (
 some (.inl ((IntKind.wrap .i64 (y2.1+1)),()))))) (
 some (.inr (.inl ())))
def zaw (a0:List (List UInt8)) (a1:List (List UInt8)):Option Int :=
(aI (iM a0 a1) (0,()):Option (Unit⊕Int)).bind (bc fun v4 =>
 cond (decide ((a0.length:Int)<(a1.length:Int))) (
 some (-1)) (
 some 0))
def aby:TFn:={ ps:=(.cons (.sl .str) (.cons (.sl .str) .unit)),res:=(.int .i64),fn:=fun v=>zaw v.1 v.2.1 }
def at7:TEnv:=(vZ [(287,abo)])
theorem at6:runY Tryz.prog ale at8 at7 aya Tryz.f225 aby.ps aby.res=aby.fn:=by kernel_rfl
theorem ald:aB Tryz.prog G0 225 aeX:=ah (ak ⟨au,(aj akG ac),ap,ac,an⟩ Tryz.func225 rfl (by kernel_rfl))
theorem at5:TOk aeX aby:=aA (E:=ale) (ET:=at7) (EnvT.ofX (ax (ai atg al)) am ar aM aq) at6 rfl
def aj1:Env:=(eZ [(225,aeX)] [274])
def ar9:Hints:=(hZ [] [])
def aa9:PFn:=aG (runF Tryz.prog aj1 ar9 Tryz.f155)
def axG:TH:=yZ
def zbt (a0:List (List UInt8)) (a1:List (List UInt8)):Option Int :=
(zaw a0 a1).bind fun r1 =>
 some r1
def ye:TFn:={ ps:=(.cons (.sl .str) (.cons (.sl .str) .unit)),res:=(.int .i64),fn:=fun v=>zbt v.1 v.2.1 }
def ar8:TEnv:=(vZ [(225,aby)])
theorem ar7:runY Tryz.prog aj1 ar9 ar8 axG Tryz.f155 ye.ps ye.res=ye.fn:=by kernel_rfl
theorem aa8:aB Tryz.prog G0 155 aa9:=ah (ak ⟨au,(aj ald ac),ap,ac,an⟩ Tryz.func155 rfl (by kernel_rfl))
theorem agB:TOk aa9 ye:=aA (E:=aj1) (ET:=ar8) (EnvT.ofX (ax (ai at5 al)) am ar aM aq) ar7 rfl
def ajX:Env:=(eZ [(154,tJ),(155,aa9),(156,tN)] [274])
def ar2:Hints:=(hZ [] [])
def aa6:PFn:=aG (runF Tryz.prog ajX ar2 Tryz.f126)
def axE:TH:={ loops:=[],ro:=[2,3] }
def zbv (a0:vV6) (a1:vV6):Option Int :=
(zbt a0.1 a1.1).bind fun r1 =>
(zbh a0.2.1 a1.2.1).bind fun r2 =>
(zcy ([r1,r2]:List Int)).bind fun r3 =>
 some r3
def aa5:TFn:={ ps:=(.cons (.agg tT22) (.cons (.agg tT22) .unit)),res:=(.int .i64),fn:=fun v=>zbv v.1 v.2.1 }
def ar1:TEnv:={ pure:=[(154,qK),(155,ye),(156,qO)],look:=[],glob:=G0T,ty:=[(3,(.int .i64))],raw:=[],fresh:=[] }
theorem ar0:runY Tryz.prog ajX ar2 ar1 axE Tryz.f126 aa5.ps aa5.res=aa5.fn:=by kernel_rfl
theorem ajW:aB Tryz.prog G0 126 aa6:=ah (ak ⟨au,(aj pi (aj aa8 (aj po ac))),ap,ac,an⟩ Tryz.func126 rfl (by kernel_rfl))
theorem agA:TOk aa6 aa5:=aA (E:=ajX) (ET:=ar1) (EnvT.ofX (ax (ai vR (ai agB (ai wo al)))) am ar aM aq) ar0 rfl
theorem aeI : @aB ⟨True⟩ Tryz.prog G0 226 aeJ:=by
 letI:Drawn:=⟨True⟩
 exact ah (ak ⟨au,ac,ap,ac,an⟩ Tryz.func226 rfl (by kernel_rfl))
theorem wq : @aB ⟨True⟩ Tryz.prog G0 156 tN:=by
 letI:Drawn:=⟨True⟩
 exact ah (ak ⟨au,(aj aeI ac),ap,ac,an⟩ Tryz.func156 rfl (by kernel_rfl))
theorem vS : @aB ⟨True⟩ Tryz.prog G0 154 tJ:=by
 letI:Drawn:=⟨True⟩
 exact ah (ak ⟨au,ac,ap,ac,an⟩ Tryz.func154 rfl (by kernel_rfl))
theorem aeM : @aB ⟨True⟩ Tryz.prog G0 330 aeN:=by
 letI:Drawn:=⟨True⟩
 exact ah (ak ⟨au,ac,ap,ac,an⟩ Tryz.func330 rfl (by kernel_rfl))
theorem aeQ : @aB ⟨True⟩ Tryz.prog G0 287 aeR:=by
 letI:Drawn:=⟨True⟩
 exact ah (ak ⟨au,(aj aeM ac),ap,ac,an⟩ Tryz.func287 rfl (by kernel_rfl))
theorem aeW : @aB ⟨True⟩ Tryz.prog G0 225 aeX:=by
 letI:Drawn:=⟨True⟩
 exact ah (ak ⟨au,(aj aeQ ac),ap,ac,an⟩ Tryz.func225 rfl (by kernel_rfl))
theorem aeE : @aB ⟨True⟩ Tryz.prog G0 155 aa9:=by
 letI:Drawn:=⟨True⟩
 exact ah (ak ⟨au,(aj aeW ac),ap,ac,an⟩ Tryz.func155 rfl (by kernel_rfl))
theorem aeD : @aB ⟨True⟩ Tryz.prog G0 126 aa6:=by
 letI:Drawn:=⟨True⟩
 exact ah (ak ⟨au,(aj vS (aj aeE (aj wq ac))),ap,ac,an⟩ Tryz.func126 rfl (by kernel_rfl))
def alK:Go.Shelf.Ren:=⟨fun | 6=>125 | 14=>200 | 15=>201 | 20=>260 | 21=>261 | 22=>262 | 23=>263 | 24=>264 | 25=>265 | 26=>266 | 27=>267 | 28=>268 | 29=>269 | 46=>315 | 47=>316 | 48=>317 | 49=>318 | 50=>319 | 57=>351 | n=>n,fun | 0=>0 | 3=>3 | 4=>4 | 5=>5 | 9=>9 | 22=>104 | 24=>109 | 25=>199 | 39=>230 | 45=>314 | 46=>315 | 50=>161 | 53=>321 | 55=>323 | 66=>354 | 70=>358 | 76=>378 | 77=>283 | n=>n,fun | n=>n⟩
theorem ae3:Go.Proofs.SlLaysF0.n6 Tryz.prog alK:={
 mixed:=by kernel_rfl
 f6:=⟨Tryz.f125.name,by decide,Tryz.func125.trans (congrArg some (by kernel_rfl))⟩
 f14:=⟨Tryz.f200.name,by decide,Tryz.func200.trans (congrArg some (by kernel_rfl))⟩
 f15:=Tryz.func201.trans (congrArg some (by kernel_rfl))
 f20:=⟨Tryz.f260.name,by decide,Tryz.func260.trans (congrArg some (by kernel_rfl))⟩
 f21:=⟨Tryz.f261.name,by decide,Tryz.func261.trans (congrArg some (by kernel_rfl))⟩
 f22:=⟨Tryz.f262.name,by decide,Tryz.func262.trans (congrArg some (by kernel_rfl))⟩
 f23:=⟨Tryz.f263.name,by decide,Tryz.func263.trans (congrArg some (by kernel_rfl))⟩
 f24:=⟨Tryz.f264.name,by decide,Tryz.func264.trans (congrArg some (by kernel_rfl))⟩
 f25:=⟨Tryz.f265.name,by decide,Tryz.func265.trans (congrArg some (by kernel_rfl))⟩
 f26:=⟨Tryz.f266.name,by decide,Tryz.func266.trans (congrArg some (by kernel_rfl))⟩
 f27:=⟨Tryz.f267.name,by decide,Tryz.func267.trans (congrArg some (by kernel_rfl))⟩
 f28:=Tryz.func268.trans (congrArg some (by kernel_rfl))
 f29:=Tryz.func269.trans (congrArg some (by kernel_rfl))
 f46:=⟨Tryz.f315.name,by decide,Tryz.func315.trans (congrArg some (by kernel_rfl))⟩
 f47:=Tryz.func316.trans (congrArg some (by kernel_rfl))
 f48:=Tryz.func317.trans (congrArg some (by kernel_rfl))
 f49:=⟨Tryz.f318.name,by decide,Tryz.func318.trans (congrArg some (by kernel_rfl))⟩
 f50:=⟨Tryz.f319.name,by decide,Tryz.func319.trans (congrArg some (by kernel_rfl))⟩
 f57:=⟨Tryz.f351.name,by decide,Tryz.func351.trans (congrArg some (by kernel_rfl))⟩
 t0:=Tryz.underlying0
 a0:=Tryz.isAgg0
 z0:=Tryz.sizeOf0
 v0:=Tryz.zeroValue0
 t3:=Tryz.underlying3
 a3:=Tryz.isAgg3
 z3:=Tryz.sizeOf3
 v3:=Tryz.zeroValue3
 t4:=Tryz.underlying4
 a4:=Tryz.isAgg4
 z4:=Tryz.sizeOf4
 v4:=Tryz.zeroValue4
 t5:=Tryz.underlying5
 a5:=Tryz.isAgg5
 z5:=Tryz.sizeOf5
 v5:=Tryz.zeroValue5
 t9:=Tryz.underlying9
 a9:=Tryz.isAgg9
 z9:=Tryz.sizeOf9
 v9:=Tryz.zeroValue9
 t22:=Tryz.underlying104
 a22:=Tryz.isAgg104
 z22:=Tryz.sizeOf104
 v22:=Tryz.zeroValue104
 t25:=Tryz.underlying199
 a25:=Tryz.isAgg199
 z25:=Tryz.sizeOf199
 v25:=Tryz.zeroValue199
 t39:=Tryz.underlying230
 a39:=Tryz.isAgg230
 z39:=Tryz.sizeOf230
 v39:=Tryz.zeroValue230
 t45:=Tryz.underlying314
 a45:=Tryz.isAgg314
 z45:=Tryz.sizeOf314
 v45:=Tryz.zeroValue314
 t46:=Tryz.underlying315
 a46:=Tryz.isAgg315
 z46:=Tryz.sizeOf315
 v46:=Tryz.zeroValue315
 t50:=Tryz.underlying161
 a50:=Tryz.isAgg161
 z50:=Tryz.sizeOf161
 v50:=Tryz.zeroValue161
 t53:=Tryz.underlying321
 a53:=Tryz.isAgg321
 z53:=Tryz.sizeOf321
 v53:=Tryz.zeroValue321
 t55:=Tryz.underlying323
 a55:=Tryz.isAgg323
 z55:=Tryz.sizeOf323
 v55:=Tryz.zeroValue323
 t66:=Tryz.underlying354
 a66:=Tryz.isAgg354
 z66:=Tryz.sizeOf354
 v66:=Tryz.zeroValue354
 t70:=Tryz.underlying358
 a70:=Tryz.isAgg358
 z70:=Tryz.sizeOf358
 v70:=Tryz.zeroValue358
 t76:=Tryz.underlying378
 a76:=Tryz.isAgg378
 z76:=Tryz.sizeOf378
 v76:=Tryz.zeroValue378
 t77:=Tryz.underlying283
 a77:=Tryz.isAgg283
 z77:=Tryz.sizeOf283
 v77:=Tryz.zeroValue283 }
def alM:SFn:=pG aa6 126 2 109
theorem alL:bw Tryz.prog G0 125 alM:=lM (M:=2) (g:=126) ae3 (by decide) (fun w=>Tryz.isAgg109 w) (fun w=>Tryz.sizeOf109 w) aeD ⟨Tryz.f125,Tryz.func125,rfl,by kernel_rfl⟩
def zal (w0:List vV6):Option (Unit×List vV6×Unit):=(nk (fun x y=>zbv x y) w0).map fun l=>((),(l,()))
def auD:TRaw:=aca false 126 109 (.agg tT22) (fun x y=>zbv x y)
theorem auC:TRawOk alM auD:=wO rfl rfl rfl rfl agA
def akf:Env:=(eZ [(126,aa6)] [274])
def asy:Hints:=(hZ [] [])
def ake:PFn:=aG (runF Tryz.prog akf asy Tryz.f128)
def axN:TH:={ loops:=[],ro:=[2,3] }
def zbm (a0:vV6) (a1:vV6):Option Bool :=
(zbv a0 a1).bind fun r1 =>
 some (decide (r1=0))
def abg:TFn:={ ps:=(.cons (.agg tT22) (.cons (.agg tT22) .unit)),res:=.bool,fn:=fun v=>zbm v.1 v.2.1 }
def asx:TEnv:=(vZ [(126,aa5)])
theorem asw:runY Tryz.prog akf asy asx axN Tryz.f128 abg.ps abg.res=abg.fn:=by kernel_rfl
theorem akd:aB Tryz.prog G0 128 ake:=ah (ak ⟨au,(aj ajW ac),ap,ac,an⟩ Tryz.func128 rfl (by kernel_rfl))
theorem asv:TOk ake abg:=aA (E:=akf) (ET:=asx) (EnvT.ofX (ax (ai agA al)) am ar aM aq) asw rfl
def alZ:Env:=(eZ [(128,ake)] [274])
def auS:Hints:=(hZ [(4,[0,1,5]),(9,[0,1,5,6,7])] [])
def alY:SFn:=jj (runF Tryz.prog alZ auS Tryz.f127)
def ayi:TH:={ joins:=[(14,{ keep:=[(0,(.own 0)),(5,(.int .i64))],mem:=[.row false 109 (.agg tT22)] })],loops:=[(4,{ keep:=[(0,(.own 0)),(5,(.int .i64))],mem:=[.row false 109 (.agg tT22)] }),(9,{ keep:=[(0,(.own 0)),(5,(.int .i64)),(6,(.vw 0)),(7,(.int .i64))],mem:=[.row false 109 (.agg tT22)] })],ro:=[] }
def nQ (y9:(Int×(Nat×Nat)×Int×List vV6×Unit)):Option ((Int×(Nat×Nat)×Int×List vV6×Unit)⊕((Int×List vV6×Unit)⊕((Int×List vV6×Unit)⊕(List vV6)))) :=
 cond (decide (y9.2.2.1<(y9.2.1.2:Int))) (
 cond y9.2.2.2.1.isEmpty (none) ((inI y9.2.1.2 y9.2.2.1).bind fun i7 =>
(y9.2.2.2.1[(y9.2.1.1+i7)]?).bind fun x8 =>
 cond y9.2.2.2.1.isEmpty (none) ((inI y9.2.1.2 (IntKind.wrap .i64 (y9.2.2.1-1))).bind fun i9 =>
(y9.2.2.2.1[(y9.2.1.1+i9)]?).bind fun x10 =>
(zbm x8 x10).bind fun r11 =>
 cond (!r11) (
 cond y9.2.2.2.1.isEmpty (none) ((inI y9.2.1.2 y9.2.2.1).bind fun i12 =>
(y9.2.2.2.1[(y9.2.1.1+i12)]?).bind fun x13 =>
(inI y9.2.2.2.1.length y9.1).bind fun i14 =>
(y9.2.2.2.1[i14]?).bind fun x15 =>
 some (.inl ((IntKind.wrap .i64 (y9.1+1)),y9.2.1,(IntKind.wrap .i64 (y9.2.2.1+1)),(y9.2.2.2.1.set i14 x13),())))) (
 some (.inl (y9.1,y9.2.1,(IntKind.wrap .i64 (y9.2.2.1+1)),y9.2.2.2.1,())))))) (
 some (.inr (.inl (y9.1,y9.2.2.2.1,()))))
def lr (y4:(Int×List vV6×Unit)):Option ((Int×List vV6×Unit)⊕(List vV6)) :=
 cond (decide (y4.1<(y4.2.1.length:Int))) (
(inI y4.2.1.length y4.1).bind fun i1 =>
(y4.2.1[i1]?).bind fun x2 =>
(inI y4.2.1.length (IntKind.wrap .i64 (y4.1-1))).bind fun i3 =>
(y4.2.1[i3]?).bind fun x4 =>
(zbm x2 x4).bind fun r5 =>
 cond r5 (
 cond y4.2.1.isEmpty (none) ((lF (y4.2.1.length) y4.1 (y4.2.1.length:Int)).bind fun p6 =>
(aI (nQ) (y4.1,p6,1,y4.2.1,()):Option ((Int×List vV6×Unit)⊕((Int×List vV6×Unit)⊕(List vV6)))).bind (bc fun v16 =>
 cond v16.2.1.isEmpty (none) ((lF (v16.2.1.length) v16.1 (v16.2.1.length:Int)).bind fun p17 =>
 cond v16.2.1.isEmpty (none) ((if p17.1+p17.2≤v16.2.1.length then some () else none).bind fun u18 =>
 cond (v16.2.1.take p17.1++List.replicate p17.2 ([],0,())++v16.2.1.drop (p17.1+p17.2)).isEmpty (none) ((lF ((v16.2.1.take p17.1++List.replicate p17.2 ([],0,())++v16.2.1.drop (p17.1+p17.2)).length) 0 v16.1).bind fun p19 =>
(cond (v16.2.1.take p17.1++List.replicate p17.2 ([],0,())++v16.2.1.drop (p17.1+p17.2)).isEmpty none (if p19.1+p19.2≤(v16.2.1.take p17.1++List.replicate p17.2 ([],0,())++v16.2.1.drop (p17.1+p17.2)).length then some (((v16.2.1.take p17.1++List.replicate p17.2 ([],0,())++v16.2.1.drop (p17.1+p17.2)).drop p19.1).take p19.2) else none)).map .inr)))))) (
 some (.inl ((IntKind.wrap .i64 (y4.1+1)),y4.2.1,())))) (
 some (.inr y4.2.1))
def alW (w0:List vV6):Option (List vV6) :=
 cond (decide ((w0.length:Int)<2)) (
 some w0) (
 aI (lr) (1,w0,()))
def zah (w0:List vV6):Option (List vV6×Unit):=(alW w0).map fun l=>(l,())
def auR:TRaw:={ ps:=(.cons (.own 0) (.cons (.fn 128) .unit)),ins:=[.row false 109 (.agg tT22)],res:=(.sl (.agg tT22)),outs:=[.gone],fn:=fun v w=>zah w.1 }
def auQ:TEnv:=(vZ [(128,abg)])
theorem auP:af2 Tryz.prog alZ auS auQ ayi Tryz.f127 (.cons (.own 0) (.cons (.fn 128) .unit)) false 109 (.agg tT22)=fun _ w=>alW w:=by kernel_rfl
theorem alX:bw Tryz.prog G0 127 alY:=iE (ak ⟨au,(aj akd ac),ap,ac,an⟩ Tryz.func127 rfl (by kernel_rfl))
theorem auO:TRawOk alY auR:=xr (E:=alZ) (ET:=auQ) (EnvT.ofX (ax (ai asv al)) am ar aM aq) auP
def akK:Env:={ pure:=[(72,abT),(124,aer)],raw:=[(125,alM),(127,alY)],glob:=G0,same:=[274],look:=[],ext:=[] }
def ats:Hints:=(hZ [(3,[3,6,7,8])] [])
def aeS:PFn:=aG (runF Tryz.prog akK ats Tryz.f55)
def ax1:TH:={ joins:=[(7,{ keep:=[(3,(.own 1))],mem:=[.gone,.row true 109 (.agg tT22)] })],loops:=[(3,{ keep:=[(3,(.own 1)),(8,(.int .i64))],mem:=[.gone,.row true 109 (.agg tT22)] })],ro:=[] }
def wy (a0:List vV7) (y3:(Int×List vV6×Unit)):Option ((Int×List vV6×Unit)⊕((List vV6×Unit)⊕List vV6)) :=
 cond (decide (y3.1<(a0.length:Int))) (
(atI a0 y3.1).bind fun x1 =>
(za0 x1.2.1.2.1).bind fun r2 =>
(zd1 x1.2.1.1).bind fun r3 =>
(bP (y3.2.1.length+([(r2,r3,())]:List vV6).length)).bind fun u4 =>
 some (.inl ((IntKind.wrap .i64 (y3.1+1)),(y3.2.1++([(r2,r3,())]:List vV6)),()))) (
 some (.inr (.inl (y3.2.1,()))))
def zb7 (a0:List vV7):Option (List vV6) :=
(aI (wy a0) (0,[],()):Option ((List vV6×Unit)⊕List vV6)).bind (bc fun v5 =>
(zal v5.1).bind fun q6 =>
(zah q6.2.1).bind fun q7 =>
 some q7.1)
def yi:TFn:={ ps:=(.cons (.sl tT20) .unit),res:=(.sl (.agg tT22)),fn:=fun v=>zb7 v.1 }
def atr:TEnv:={ pure:=[(72,ae8),(124,xY)],look:=[],glob:=G0T,ty:=[(109,(.agg tT22))],raw:=[(125,auD),(127,auR)],fresh:=[] }
theorem atq:runY Tryz.prog akK ats atr ax1 Tryz.f55 yi.ps yi.res=yi.fn:=by kernel_rfl
theorem abp:aB Tryz.prog G0 55 aeS:=ah (ak ⟨au,(aj tX (aj aas ac)),(aY alL (aY alX ap)),ac,an⟩ Tryz.func55 rfl (by kernel_rfl))
theorem agF:TOk aeS yi:=aA (E:=akK) (ET:=atr) (EnvT.ofX (ax (ai abS (ai ags al))) am (bn auC rfl rfl (bn auO rfl rfl ar)) aM aq) atq rfl
def ak6:Env:=(eZ [] [274])
def atZ:Hints:=(hZ [(4,[0,1,12,13])] [])
def ak5:PFn:=aG (runF Tryz.prog ak6 atZ Tryz.f196)
def ax9:TH:={ loops:=[(4,{ keep:=[(13,(.int .i64))],mem:=[] })],ro:=[] }
def wA (a0:List (List UInt8)) (a1:List (List UInt8)) (y4:(Int×Unit)):Option ((Int×Unit)⊕Bool) :=
 cond (decide (y4.1<(a0.length:Int))) (
(atI a0 y4.1).bind fun x1 =>
(atI a1 y4.1).bind fun x2 =>
 cond (!decide (x1=x2)) (
 some (.inr false)) (
 some (.inl ((IntKind.wrap .i64 (y4.1+1)),())))) (
 some (.inr true))
def zaz (a0:List (List UInt8)) (a1:List (List UInt8)):Option Bool :=
 cond (!decide ((a0.length:Int)=(a1.length:Int))) (
 some false) (
 aI (wA a0 a1) (0,()))
def abx:TFn:={ ps:=(.cons (.sl .str) (.cons (.sl .str) .unit)),res:=.bool,fn:=fun v=>zaz v.1 v.2.1 }
def atY:TEnv:=(vZ [])
theorem atX:runY Tryz.prog ak6 atZ atY ax9 Tryz.f196 abx.ps abx.res=abx.fn:=by kernel_rfl
theorem ak4:aB Tryz.prog G0 196 ak5:=ah (ak ⟨au,ac,ap,ac,an⟩ Tryz.func196 rfl (by kernel_rfl))
theorem atW:TOk ak5 abx:=aA (E:=ak6) (ET:=atY) (EnvT.ofX (ax al) am ar aM aq) atX rfl
def ahJ:Env:=(eZ [(196,ak5)] [274])
def aoK:Hints:=(hZ [] [])
def aeo:PFn:=aG (runF Tryz.prog ahJ aoK Tryz.f160)
def awL:TH:=yZ
def zdl (a0:List (List UInt8)) (a1:List (List UInt8)):Option Bool :=
(zaz a0 a1).bind fun r1 =>
 some r1
def xW:TFn:={ ps:=(.cons (.sl .str) (.cons (.sl .str) .unit)),res:=.bool,fn:=fun v=>zdl v.1 v.2.1 }
def aoJ:TEnv:=(vZ [(196,abx)])
theorem aoI:runY Tryz.prog ahJ aoK aoJ awL Tryz.f160 xW.ps xW.res=xW.fn:=by kernel_rfl
theorem aad:aB Tryz.prog G0 160 aeo:=ah (ak ⟨au,(aj ak4 ac),ap,ac,an⟩ Tryz.func160 rfl (by kernel_rfl))
theorem agq:TOk aeo xW:=aA (E:=ahJ) (ET:=aoJ) (EnvT.ofX (ax (ai atW al)) am ar aM aq) aoI rfl
def ag9:Env:=(eZ [(124,aer),(160,aeo)] [274])
def anS:Hints:=(hZ [(3,[1,2,7,10,11,12])] [])
def zQ:PFn:=aG (runF Tryz.prog ag9 anS Tryz.f229)
def awx:TH:={ loops:=[(3,{ keep:=[(7,(.own 1)),(12,(.int .i64))],mem:=[.gone,.row true 148 tT20] })],ro:=[] }
def vG (a0:List vV7) (a1:List (List UInt8)) (a2:Int) (y3:(Int×List vV7×Unit)):Option ((Int×List vV7×Unit)⊕List vV7) :=
 cond (decide (y3.1<(a0.length:Int))) (
(atI a0 y3.1).bind fun x1 =>
(zd1 x1.2.1.1).bind fun r2 =>
 cond (decide (r2=a2)) ((zdl x1.2.1.2.1 a1).bind fun r3 =>
 cond r3 (
(bP (y3.2.1.length+([x1]:List vV7).length)).bind fun u4 =>
 some (.inl ((IntKind.wrap .i64 (y3.1+1)),(y3.2.1++([x1]:List vV7)),()))) (
 some (.inl ((IntKind.wrap .i64 (y3.1+1)),y3.2.1,())))) (some (.inl ((IntKind.wrap .i64 (y3.1+1)),y3.2.1,())))) (
 some (.inr y3.2.1))
def zdz (a0:List vV7) (a1:List (List UInt8)) (a2:Int):Option (List vV7) :=
 aI (vG a0 a1 a2) (0,[],())
def tz:TFn:={ ps:=(.cons (.sl tT20) tT22),res:=(.sl tT20),fn:=fun v=>zdz v.1 v.2.1 v.2.2.1 }
def anR:TEnv:={ pure:=[(124,xY),(160,xW)],look:=[],glob:=G0T,ty:=[(148,tT20)],raw:=[],fresh:=[] }
theorem anQ:runY Tryz.prog ag9 anS anR awx Tryz.f229 tz.ps tz.res=tz.fn:=by kernel_rfl
theorem tC:aB Tryz.prog G0 229 zQ:=ah (ak ⟨au,(aj aas (aj aad ac)),ap,ac,an⟩ Tryz.func229 rfl (by kernel_rfl))
theorem zP:TOk zQ tz:=aA (E:=ag9) (ET:=anR) (EnvT.ofX (ax (ai ags (ai agq al))) am ar aM aq) anQ rfl
def aeL:PFn:=cmpF
theorem akl:aB Tryz.prog G0 291 aeL:=sY ⟨Tryz.f291,Tryz.func291,rfl,by kernel_rfl⟩ Tryz.strings_Compare
def zbj (a0:List UInt8) (a1:List UInt8):Option Int:=cmpT a0 a1
def asI:TFn:=adU
theorem asH:TOk aeL asI:=anz
def aj9:Env:=(eZ [(154,tJ),(156,tN),(291,aeL)] [274])
def asq:Hints:=(hZ [] [])
def abe:PFn:=aG (runF Tryz.prog aj9 asq Tryz.f231)
def axL:TH:={ loops:=[],ro:=[2,3] }
def zbo (a0:vV5) (a1:vV5):Option Int :=
(zbh a0.1 a1.1).bind fun r1 =>
(zbh a0.2.1 a1.2.1).bind fun r2 =>
(zbj a0.2.2.1 a1.2.2.1).bind fun r3 =>
(zcy ([r1,r2,r3]:List Int)).bind fun r4 =>
 some r4
def abd:TFn:={ ps:=(.cons tT18 (.cons tT18 .unit)),res:=(.int .i64),fn:=fun v=>zbo v.1 v.2.1 }
def aso:TEnv:={ pure:=[(154,qK),(156,qO),(291,asI)],look:=[],glob:=G0T,ty:=[(3,(.int .i64))],raw:=[],fresh:=[] }
theorem asn:runY Tryz.prog aj9 asq aso axL Tryz.f231 abd.ps abd.res=abd.fn:=by kernel_rfl
theorem aj8:aB Tryz.prog G0 231 abe:=ah (ak ⟨au,(aj pi (aj po (aj akl ac))),ap,ac,an⟩ Tryz.func231 rfl (by kernel_rfl))
theorem agE:TOk abe abd:=aA (E:=aj9) (ET:=aso) (EnvT.ofX (ax (ai vR (ai wo (ai asH al)))) am ar aM aq) asn rfl
theorem aeK : @aB ⟨True⟩ Tryz.prog G0 291 aeL:=by
 letI:Drawn:=⟨True⟩
 exact sY ⟨Tryz.f291,Tryz.func291,rfl,by kernel_rfl⟩ Tryz.strings_Compare
theorem aeH : @aB ⟨True⟩ Tryz.prog G0 231 abe:=by
 letI:Drawn:=⟨True⟩
 exact ah (ak ⟨au,(aj vS (aj wq (aj aeK ac))),ap,ac,an⟩ Tryz.func231 rfl (by kernel_rfl))
def alN:Go.Shelf.Ren:=⟨fun | 6=>230 | 14=>290 | 15=>201 | 20=>332 | 21=>333 | 22=>334 | 23=>335 | 24=>336 | 25=>337 | 26=>338 | 27=>339 | 28=>268 | 29=>269 | 46=>359 | 47=>316 | 48=>317 | 49=>360 | 50=>361 | 57=>374 | n=>n,fun | 0=>0 | 3=>3 | 4=>4 | 5=>5 | 9=>9 | 22=>123 | 24=>132 | 25=>296 | 39=>230 | 45=>314 | 46=>315 | 50=>161 | 53=>321 | 55=>323 | 66=>354 | 70=>358 | 76=>378 | 77=>283 | n=>n,fun | n=>n⟩
theorem ae4:Go.Proofs.SlLaysF0.n6 Tryz.prog alN:={
 mixed:=by kernel_rfl
 f6:=⟨Tryz.f230.name,by decide,Tryz.func230.trans (congrArg some (by kernel_rfl))⟩
 f14:=⟨Tryz.f290.name,by decide,Tryz.func290.trans (congrArg some (by kernel_rfl))⟩
 f15:=Tryz.func201.trans (congrArg some (by kernel_rfl))
 f20:=⟨Tryz.f332.name,by decide,Tryz.func332.trans (congrArg some (by kernel_rfl))⟩
 f21:=⟨Tryz.f333.name,by decide,Tryz.func333.trans (congrArg some (by kernel_rfl))⟩
 f22:=⟨Tryz.f334.name,by decide,Tryz.func334.trans (congrArg some (by kernel_rfl))⟩
 f23:=⟨Tryz.f335.name,by decide,Tryz.func335.trans (congrArg some (by kernel_rfl))⟩
 f24:=⟨Tryz.f336.name,by decide,Tryz.func336.trans (congrArg some (by kernel_rfl))⟩
 f25:=⟨Tryz.f337.name,by decide,Tryz.func337.trans (congrArg some (by kernel_rfl))⟩
 f26:=⟨Tryz.f338.name,by decide,Tryz.func338.trans (congrArg some (by kernel_rfl))⟩
 f27:=⟨Tryz.f339.name,by decide,Tryz.func339.trans (congrArg some (by kernel_rfl))⟩
 f28:=Tryz.func268.trans (congrArg some (by kernel_rfl))
 f29:=Tryz.func269.trans (congrArg some (by kernel_rfl))
 f46:=⟨Tryz.f359.name,by decide,Tryz.func359.trans (congrArg some (by kernel_rfl))⟩
 f47:=Tryz.func316.trans (congrArg some (by kernel_rfl))
 f48:=Tryz.func317.trans (congrArg some (by kernel_rfl))
 f49:=⟨Tryz.f360.name,by decide,Tryz.func360.trans (congrArg some (by kernel_rfl))⟩
 f50:=⟨Tryz.f361.name,by decide,Tryz.func361.trans (congrArg some (by kernel_rfl))⟩
 f57:=⟨Tryz.f374.name,by decide,Tryz.func374.trans (congrArg some (by kernel_rfl))⟩
 t0:=Tryz.underlying0
 a0:=Tryz.isAgg0
 z0:=Tryz.sizeOf0
 v0:=Tryz.zeroValue0
 t3:=Tryz.underlying3
 a3:=Tryz.isAgg3
 z3:=Tryz.sizeOf3
 v3:=Tryz.zeroValue3
 t4:=Tryz.underlying4
 a4:=Tryz.isAgg4
 z4:=Tryz.sizeOf4
 v4:=Tryz.zeroValue4
 t5:=Tryz.underlying5
 a5:=Tryz.isAgg5
 z5:=Tryz.sizeOf5
 v5:=Tryz.zeroValue5
 t9:=Tryz.underlying9
 a9:=Tryz.isAgg9
 z9:=Tryz.sizeOf9
 v9:=Tryz.zeroValue9
 t22:=Tryz.underlying123
 a22:=Tryz.isAgg123
 z22:=Tryz.sizeOf123
 v22:=Tryz.zeroValue123
 t25:=Tryz.underlying296
 a25:=Tryz.isAgg296
 z25:=Tryz.sizeOf296
 v25:=Tryz.zeroValue296
 t39:=Tryz.underlying230
 a39:=Tryz.isAgg230
 z39:=Tryz.sizeOf230
 v39:=Tryz.zeroValue230
 t45:=Tryz.underlying314
 a45:=Tryz.isAgg314
 z45:=Tryz.sizeOf314
 v45:=Tryz.zeroValue314
 t46:=Tryz.underlying315
 a46:=Tryz.isAgg315
 z46:=Tryz.sizeOf315
 v46:=Tryz.zeroValue315
 t50:=Tryz.underlying161
 a50:=Tryz.isAgg161
 z50:=Tryz.sizeOf161
 v50:=Tryz.zeroValue161
 t53:=Tryz.underlying321
 a53:=Tryz.isAgg321
 z53:=Tryz.sizeOf321
 v53:=Tryz.zeroValue321
 t55:=Tryz.underlying323
 a55:=Tryz.isAgg323
 z55:=Tryz.sizeOf323
 v55:=Tryz.zeroValue323
 t66:=Tryz.underlying354
 a66:=Tryz.isAgg354
 z66:=Tryz.sizeOf354
 v66:=Tryz.zeroValue354
 t70:=Tryz.underlying358
 a70:=Tryz.isAgg358
 z70:=Tryz.sizeOf358
 v70:=Tryz.zeroValue358
 t76:=Tryz.underlying378
 a76:=Tryz.isAgg378
 z76:=Tryz.sizeOf378
 v76:=Tryz.zeroValue378
 t77:=Tryz.underlying283
 a77:=Tryz.isAgg283
 z77:=Tryz.sizeOf283
 v77:=Tryz.zeroValue283 }
def alP:SFn:=pG abe 231 3 132
theorem alO:bw Tryz.prog G0 230 alP:=lM (M:=3) (g:=231) ae4 (by decide) (fun w=>Tryz.isAgg132 w) (fun w=>Tryz.sizeOf132 w) aeH ⟨Tryz.f230,Tryz.func230,rfl,by kernel_rfl⟩
def zak (w0:List vV5):Option (Unit×List vV5×Unit):=(nk (fun x y=>zbo x y) w0).map fun l=>((),(l,()))
def auF:TRaw:=aca false 231 132 tT18 (fun x y=>zbo x y)
theorem auE:TRawOk alP auF:=wO rfl rfl rfl rfl agE
def alG:Env:=(eZ [] [274])
def aux:Hints:=(hZ [(4,[0,3]),(9,[0,3,4,5])] [])
def alF:SFn:=jj (runF Tryz.prog alG aux Tryz.f232)
def aye:TH:={ joins:=[(14,{ keep:=[(0,(.own 0)),(3,(.int .i64))],mem:=[.row false 132 tT18] })],loops:=[(4,{ keep:=[(0,(.own 0)),(3,(.int .i64))],mem:=[.row false 132 tT18] }),(9,{ keep:=[(0,(.own 0)),(3,(.int .i64)),(4,(.vw 0)),(5,(.int .i64))],mem:=[.row false 132 tT18] })],ro:=[] }
def nP (y9:(Int×(Nat×Nat)×Int×List vV5×Unit)):Option ((Int×(Nat×Nat)×Int×List vV5×Unit)⊕((Int×List vV5×Unit)⊕((Int×List vV5×Unit)⊕(List vV5)))) :=
 cond (decide (y9.2.2.1<(y9.2.1.2:Int))) (
 cond y9.2.2.2.1.isEmpty (none) ((inI y9.2.1.2 y9.2.2.1).bind fun i6 =>
(y9.2.2.2.1[(y9.2.1.1+i6)]?).bind fun x7 =>
 cond y9.2.2.2.1.isEmpty (none) ((inI y9.2.1.2 (IntKind.wrap .i64 (y9.2.2.1-1))).bind fun i8 =>
(y9.2.2.2.1[(y9.2.1.1+i8)]?).bind fun x9 =>
 cond (!(eqV tT18 x7 x9)) (
 cond y9.2.2.2.1.isEmpty (none) ((inI y9.2.1.2 y9.2.2.1).bind fun i10 =>
(y9.2.2.2.1[(y9.2.1.1+i10)]?).bind fun x11 =>
(inI y9.2.2.2.1.length y9.1).bind fun i12 =>
(y9.2.2.2.1[i12]?).bind fun x13 =>
 some (.inl ((IntKind.wrap .i64 (y9.1+1)),y9.2.1,(IntKind.wrap .i64 (y9.2.2.1+1)),(y9.2.2.2.1.set i12 x11),())))) (
 some (.inl (y9.1,y9.2.1,(IntKind.wrap .i64 (y9.2.2.1+1)),y9.2.2.2.1,())))))) (
 some (.inr (.inl (y9.1,y9.2.2.2.1,()))))
def lq (y4:(Int×List vV5×Unit)):Option ((Int×List vV5×Unit)⊕(List vV5)) :=
 cond (decide (y4.1<(y4.2.1.length:Int))) (
(inI y4.2.1.length y4.1).bind fun i1 =>
(y4.2.1[i1]?).bind fun x2 =>
(inI y4.2.1.length (IntKind.wrap .i64 (y4.1-1))).bind fun i3 =>
(y4.2.1[i3]?).bind fun x4 =>
 cond (eqV tT18 x2 x4) (
 cond y4.2.1.isEmpty (none) ((lF (y4.2.1.length) y4.1 (y4.2.1.length:Int)).bind fun p5 =>
(aI (nP) (y4.1,p5,1,y4.2.1,()):Option ((Int×List vV5×Unit)⊕((Int×List vV5×Unit)⊕(List vV5)))).bind (bc fun v14 =>
 cond v14.2.1.isEmpty (none) ((lF (v14.2.1.length) v14.1 (v14.2.1.length:Int)).bind fun p15 =>
 cond v14.2.1.isEmpty (none) ((if p15.1+p15.2≤v14.2.1.length then some () else none).bind fun u16 =>
 cond (v14.2.1.take p15.1++List.replicate p15.2 (0,0,[],())++v14.2.1.drop (p15.1+p15.2)).isEmpty (none) ((lF ((v14.2.1.take p15.1++List.replicate p15.2 (0,0,[],())++v14.2.1.drop (p15.1+p15.2)).length) 0 v14.1).bind fun p17 =>
(cond (v14.2.1.take p15.1++List.replicate p15.2 (0,0,[],())++v14.2.1.drop (p15.1+p15.2)).isEmpty none (if p17.1+p17.2≤(v14.2.1.take p15.1++List.replicate p15.2 (0,0,[],())++v14.2.1.drop (p15.1+p15.2)).length then some (((v14.2.1.take p15.1++List.replicate p15.2 (0,0,[],())++v14.2.1.drop (p15.1+p15.2)).drop p17.1).take p17.2) else none)).map .inr)))))) (
 some (.inl ((IntKind.wrap .i64 (y4.1+1)),y4.2.1,())))) (
 some (.inr y4.2.1))
def alD (w0:List vV5):Option (List vV5) :=
 cond (decide ((w0.length:Int)<2)) (
 some w0) (
 aI (lq) (1,w0,()))
def zan (w0:List vV5):Option (List vV5×Unit):=(alD w0).map fun l=>(l,())
def auw:TRaw:={ ps:=(.cons (.own 0) .unit),ins:=[.row false 132 tT18],res:=(.sl tT18),outs:=[.gone],fn:=fun v w=>zan w.1 }
def auv:TEnv:=(vZ [])
theorem auu:af2 Tryz.prog alG aux auv aye Tryz.f232 (.cons (.own 0) .unit) false 132 tT18=fun _ w=>alD w:=by kernel_rfl
theorem alE:bw Tryz.prog G0 232 alF:=iE (ak ⟨au,ac,ap,ac,an⟩ Tryz.func232 rfl (by kernel_rfl))
theorem aut:TRawOk alF auw:=xr (E:=alG) (ET:=auv) (EnvT.ofX (ax al) am ar aM aq) auu
def ajy:Env:={ pure:=[(229,zQ)],raw:=[(230,alP),(232,alF)],glob:=G0,same:=[274],look:=[],ext:=[] }
def aro:Hints:=(hZ [(3,[5,10,11,12])] [])
def ajx:PFn:=aG (runF Tryz.prog ajy aro Tryz.f163)
def axt:TH:={ joins:=[(7,{ keep:=[(5,(.own 1))],mem:=[.gone,.row true 132 tT18] })],loops:=[(3,{ keep:=[(5,(.own 1)),(12,(.int .i64))],mem:=[.gone,.row true 132 tT18] })],ro:=[] }
def wi (r1:List vV7) (y3:(Int×List vV5×Unit)):Option ((Int×List vV5×Unit)⊕((List vV5×Unit)⊕List vV5)) :=
 cond (decide (y3.1<(r1.length:Int))) (
(atI r1 y3.1).bind fun x2 =>
(bP (y3.2.1.length+([x2.2.1.2.2.1]:List vV5).length)).bind fun u3 =>
 some (.inl ((IntKind.wrap .i64 (y3.1+1)),(y3.2.1++([x2.2.1.2.2.1]:List vV5)),()))) (
 some (.inr (.inl (y3.2.1,()))))
def zc8 (a0:List vV7) (a1:List (List UInt8)):Option (List vV5) :=
((zdz a0 a1 1).bind fun r1 =>
 aI (wi r1) (0,[],()):Option ((List vV5×Unit)⊕List vV5)).bind (bc fun v4 =>
(zak v4.1).bind fun q5 =>
(zan q5.2.1).bind fun q6 =>
 some q6.1)
def aaT:TFn:={ ps:=(.cons (.sl tT20) (.cons (.sl .str) .unit)),res:=(.sl tT18),fn:=fun v=>zc8 v.1 v.2.1 }
def arn:TEnv:={ pure:=[(229,tz)],look:=[],glob:=G0T,ty:=[(132,tT18)],raw:=[(230,auF),(232,auw)],fresh:=[] }
theorem arm:runY Tryz.prog ajy aro arn axt Tryz.f163 aaT.ps aaT.res=aaT.fn:=by kernel_rfl
theorem ajw:aB Tryz.prog G0 163 ajx:=ah (ak ⟨au,(aj tC ac),(aY alO (aY alE ap)),ac,an⟩ Tryz.func163 rfl (by kernel_rfl))
theorem arl:TOk ajx aaT:=aA (E:=ajy) (ET:=arn) (EnvT.ofX (ax (ai zP al)) am (bn auE rfl rfl (bn aut rfl rfl ar)) aM aq) arm rfl
def alA:Go.Shelf.Ren:=⟨fun | 22=>234 | 29=>292 | 30=>293 | n=>n,fun | 24=>123 | 9=>132 | 0=>0 | 3=>3 | 4=>4 | n=>n,fun | n=>n⟩
theorem ae2:InsL Tryz.prog alA:={
 mixed:=by kernel_rfl
 f22:=⟨Tryz.f234.name,by decide,Tryz.func234.trans (congrArg some (by kernel_rfl))⟩
 f29:=⟨Tryz.f292.name,by decide,by kernel_rfl,by kernel_rfl,Tryz.func292.trans (congrArg some (by kernel_rfl))⟩
 t0:=Tryz.underlying0
 a0:=Tryz.isAgg0
 z0:=Tryz.sizeOf0
 v0:=Tryz.zeroValue0
 t3:=Tryz.underlying3
 a3:=Tryz.isAgg3
 z3:=Tryz.sizeOf3
 v3:=Tryz.zeroValue3
 t4:=Tryz.underlying4
 a4:=Tryz.isAgg4
 z4:=Tryz.sizeOf4
 v4:=Tryz.zeroValue4
 t24:=Tryz.underlying123
 a24:=Tryz.isAgg123
 z24:=Tryz.sizeOf123
 v24:=Tryz.zeroValue123 }
def alC:SFn:=dZ 3 132
theorem alB:bw Tryz.prog G0 234 alC:=j5 ae2 rfl rfl rfl (fC (P:=Tryz.prog) (te:=132) (M:=3) (by kernel_rfl) (by kernel_rfl) (by kernel_rfl) (by kernel_rfl) (by kernel_rfl) (by kernel_rfl) (by kernel_rfl) (by kernel_rfl)) true Tryz.isAgg132 ⟨Tryz.f234,Tryz.func234,rfl,by kernel_rfl⟩
def zao (a1:Int) (a2:List vV5) (w0:List vV5):Option (Unit×List vV5×Unit):=(insT w0 a1 a2).map fun l=>((),(l,()))
def aus:TRaw:=insR false 132 tT18
theorem aur:TRawOk alC aus:=uR rfl rfl rfl rfl (by decide)
def amf:Env:=(eZ [(231,abe)] [274])
def avf:Hints:=(hZ [(3,[0,2,4,8,9,10])] [])
def ame:PFn:=aG (runF Tryz.prog amf avf Tryz.f233)
def ayo:TH:={ joins:=[(8,{ keep:=[(4,(.bx 0 0)),(9,(.int .i64))],mem:=[.same] })],loops:=[(3,{ keep:=[(4,(.bx 0 0)),(9,(.int .i64)),(10,(.int .i64))],mem:=[.same] })],ro:=[4] }
def nS (a0:List vV5) (a1:vV5) (y3:(Int×Int×Unit)):Option ((Int×Int×Unit)⊕((Int×Unit)⊕(Int×Bool×Unit))) :=
 cond (decide (y3.1<y3.2.1)) (
(shrT .u64 (IntKind.wrap .u64 (IntKind.wrap .i64 (y3.1+y3.2.1))) 1).bind fun t1 =>
(atI a0 (IntKind.wrap .i64 t1)).bind fun x2 =>
(zbo x2 a1).bind fun r3 =>
 cond (decide (r3<0)) (
 some (.inl ((IntKind.wrap .i64 ((IntKind.wrap .i64 t1)+1)),y3.2.1,()))) (
 some (.inl (y3.1,(IntKind.wrap .i64 t1),())))) (
 some (.inr (.inl (y3.1,()))))
def zab (a0:List vV5) (a1:vV5) (a2:Unit):Option (Int×Bool×Unit) :=
(aI (nS a0 a1) (0,(a0.length:Int),()):Option ((Int×Unit)⊕(Int×Bool×Unit))).bind (bc fun v4 =>
 cond (decide (v4.1<(a0.length:Int))) ((atI a0 v4.1).bind fun x5 =>
(zbo x5 a1).bind fun r6 =>
 some (v4.1,(decide (r6=0)),())) (some (v4.1,false,())))
def abJ:TFn:={ ps:=(.cons (.sl tT18) (.cons tT18 (.cons (.fn 231) .unit))),res:=(.tup (.cons (.int .i64) (.cons .bool .unit))),fn:=fun v=>zab v.1 v.2.1 v.2.2.1 }
def ave:TEnv:=(vZ [(231,abd)])
theorem avd:runY Tryz.prog amf avf ave ayo Tryz.f233 abJ.ps abJ.res=abJ.fn:=by kernel_rfl
theorem amd:aB Tryz.prog G0 233 ame:=ah (ak ⟨au,(aj aj8 ac),ap,ac,an⟩ Tryz.func233 rfl (by kernel_rfl))
theorem avc:TOk ame abJ:=aA (E:=amf) (ET:=ave) (EnvT.ofX (ax (ai agE al)) am ar aM aq) avd rfl
def aiw:Env:={ pure:=[(229,zQ)],raw:=[(234,alC)],glob:=G0,same:=[274],look:=[(233,ame)],ext:=[] }
def apV:Hints:=(hZ [(3,[5,12,13,14])] [])
def aiv:PFn:=aG (runF Tryz.prog aiw apV Tryz.f164)
def aw4:TH:={ loops:=[(3,{ keep:=[(5,(.own 1)),(14,(.int .i64))],mem:=[.gone,.row false 132 tT18] })],ro:=[] }
def vU (r1:List vV7) (y3:(Int×List vV5×Unit)):Option ((Int×List vV5×Unit)⊕List vV5) :=
 cond (decide (y3.1<(r1.length:Int))) (
(atI r1 y3.1).bind fun x2 =>
(zab y3.2.1 x2.2.1.2.2.1 ()).bind fun r3 =>
 cond (!r3.2.1) (
(zao r3.1 ([x2.2.1.2.2.1]:List vV5) y3.2.1).bind fun q4 =>
 some (.inl ((IntKind.wrap .i64 (y3.1+1)),q4.2.1,()))) (
 some (.inl ((IntKind.wrap .i64 (y3.1+1)),y3.2.1,())))) (
 some (.inr y3.2.1))
def zcw (a0:List vV7) (a1:List (List UInt8)):Option (List vV5) :=
(zdz a0 a1 2).bind fun r1 =>
 aI (vU r1) (0,[],())
def aaw:TFn:={ ps:=(.cons (.sl tT20) (.cons (.sl .str) .unit)),res:=(.sl tT18),fn:=fun v=>zcw v.1 v.2.1 }
def apU:TEnv:={ pure:=[(229,tz)],look:=[(233,abJ)],glob:=G0T,ty:=[(132,tT18)],raw:=[(234,aus)],fresh:=[] }
theorem apT:runY Tryz.prog aiw apV apU aw4 Tryz.f164 aaw.ps aaw.res=aaw.fn:=by kernel_rfl
theorem aiu:aB Tryz.prog G0 164 aiv:=ah (ak ⟨au,(aj tC ac),(aY alB ap),(aj amd ac),an⟩ Tryz.func164 rfl (by kernel_rfl))
theorem apS:TOk aiv aaw:=aA (E:=aiw) (ET:=apU) (EnvT.ofX (ax (ai zP al)) (jZ avc rfl am) (bn aur rfl rfl ar) aM aq) apT rfl
def aht:Env:=(eZ [(229,zQ)] [274])
def aom:Hints:=(hZ [(3,[5,10,11,12])] [])
def ahs:PFn:=aG (runF Tryz.prog aht aom Tryz.f165)
def awF:TH:={ loops:=[(3,{ keep:=[(5,(.int .i64)),(12,(.int .i64))],mem:=[] })],ro:=[] }
def vK (r1:List vV7) (y3:(Int×Int×Unit)):Option ((Int×Int×Unit)⊕Int) :=
 cond (decide (y3.2.1<(r1.length:Int))) (
(atI r1 y3.2.1).bind fun x2 =>
 some (.inl ((IntKind.wrap .i64 (y3.1+x2.2.1.2.2.2.1)),(IntKind.wrap .i64 (y3.2.1+1)),()))) (
 some (.inr y3.1))
def zdr (a0:List vV7) (a1:List (List UInt8)):Option Int :=
(zdz a0 a1 3).bind fun r1 =>
 aI (vK r1) (0,0,())
def z6:TFn:={ ps:=(.cons (.sl tT20) (.cons (.sl .str) .unit)),res:=(.int .i64),fn:=fun v=>zdr v.1 v.2.1 }
def aol:TEnv:=(vZ [(229,tz)])
theorem aok:runY Tryz.prog aht aom aol awF Tryz.f165 z6.ps z6.res=z6.fn:=by kernel_rfl
theorem ahr:aB Tryz.prog G0 165 ahs:=ah (ak ⟨au,(aj tC ac),ap,ac,an⟩ Tryz.func165 rfl (by kernel_rfl))
theorem aoj:TOk ahs z6:=aA (E:=aht) (ET:=aol) (EnvT.ofX (ax (ai zP al)) am ar aM aq) aok rfl
def aif:Env:=(eZ [(72,abT),(163,ajx),(164,aiv),(165,ahs)] [274])
def apv:Hints:=(hZ [] [])
def aie:PFn:=aG (runF Tryz.prog aif apv Tryz.f94)
def awX:TH:=yZ
def zd3 (a0:List vV7) (a1:List (List UInt8)) (a2:Int):Option vV2 :=
(za0 a1).bind fun r1 =>
 cond (decide (a2=1)) (
(zc8 a0 a1).bind fun r2 =>
 some (r1,a2,r2,0,())) (
 cond (decide (a2=2)) (
(zcw a0 a1).bind fun r3 =>
 some (r1,a2,r3,0,())) (
 cond (decide (a2=3)) (
(zdr a0 a1).bind fun r4 =>
 some (r1,a2,[],r4,())) (
 some (r1,a2,[],0,()))))
def aaq:TFn:={ ps:=(.cons (.sl tT20) tT22),res:=tT16,fn:=fun v=>zd3 v.1 v.2.1 v.2.2.1 }
def apu:TEnv:=(vZ [(72,ae8),(163,aaT),(164,aaw),(165,z6)])
theorem apt:runY Tryz.prog aif apv apu awX Tryz.f94 aaq.ps aaq.res=aaq.fn:=by kernel_rfl
theorem aid:aB Tryz.prog G0 94 aie:=ah (ak ⟨au,(aj tX (aj ajw (aj aiu (aj ahr ac)))),ap,ac,an⟩ Tryz.func94 rfl (by kernel_rfl))
theorem aps:TOk aie aaq:=aA (E:=aif) (ET:=apu) (EnvT.ofX (ax (ai abS (ai arl (ai apS (ai aoj al))))) am ar aM aq) apt rfl
def aii:Env:=(eZ [(55,aeS),(94,aie)] [274])
def apz:Hints:=(hZ [(3,[0,3,7,8,9])] [])
def aih:PFn:=aG (runF Tryz.prog aii apz Tryz.f68)
def awY:TH:={ loops:=[(3,{ keep:=[(3,(.own 1)),(9,(.int .i64))],mem:=[.gone,.row true 125 tT16] })],ro:=[] }
def vQ (a0:List vV7) (r1:List vV6) (y3:(Int×List vV2×Unit)):Option ((Int×List vV2×Unit)⊕List vV2) :=
 cond (decide (y3.1<(r1.length:Int))) (
(atI r1 y3.1).bind fun x2 =>
(zd3 a0 x2.1 x2.2.1).bind fun r3 =>
(bP (y3.2.1.length+([r3]:List vV2).length)).bind fun u4 =>
 some (.inl ((IntKind.wrap .i64 (y3.1+1)),(y3.2.1++([r3]:List vV2)),()))) (
 some (.inr y3.2.1))
def zd2 (a0:List vV7):Option (List vV2) :=
(zb7 a0).bind fun r1 =>
 aI (vQ a0 r1) (0,[],())
def aar:TFn:={ ps:=(.cons (.sl tT20) .unit),res:=(.sl tT16),fn:=fun v=>zd2 v.1 }
def apy:TEnv:={ pure:=[(55,yi),(94,aaq)],look:=[],glob:=G0T,ty:=[(125,tT16)],raw:=[],fresh:=[] }
theorem apx:runY Tryz.prog aii apz apy awY Tryz.f68 aar.ps aar.res=aar.fn:=by kernel_rfl
theorem aig:aB Tryz.prog G0 68 aih:=ah (ak ⟨au,(aj abp (aj aid ac)),ap,ac,an⟩ Tryz.func68 rfl (by kernel_rfl))
theorem apw:TOk aih aar:=aA (E:=aii) (ET:=apy) (EnvT.ofX (ax (ai agF (ai aps al))) am ar aM aq) apx rfl
def akk:Env:=(eZ [(154,tJ),(155,aa9),(156,tN)] [274])
def asG:Hints:=(hZ [] [])
def akj:PFn:=aG (runF Tryz.prog akk asG Tryz.f86)
def axP:TH:={ loops:=[],ro:=[2,3] }
def zbk (a0:vV2) (a1:vV2):Option Int :=
(zbt a0.1 a1.1).bind fun r1 =>
(zbh a0.2.1 a1.2.1).bind fun r2 =>
(zcy ([r1,r2]:List Int)).bind fun r3 =>
 some r3
def abi:TFn:={ ps:=(.cons tT16 (.cons tT16 .unit)),res:=(.int .i64),fn:=fun v=>zbk v.1 v.2.1 }
def asF:TEnv:={ pure:=[(154,qK),(155,ye),(156,qO)],look:=[],glob:=G0T,ty:=[(3,(.int .i64))],raw:=[],fresh:=[] }
theorem asE:runY Tryz.prog akk asG asF axP Tryz.f86 abi.ps abi.res=abi.fn:=by kernel_rfl
theorem aki:aB Tryz.prog G0 86 akj:=ah (ak ⟨au,(aj pi (aj aa8 (aj po ac))),ap,ac,an⟩ Tryz.func86 rfl (by kernel_rfl))
theorem asD:TOk akj abi:=aA (E:=akk) (ET:=asF) (EnvT.ofX (ax (ai vR (ai agB (ai wo al)))) am ar aM aq) asE rfl
def als:Go.Shelf.Ren:=⟨fun | 41=>159 | n=>n,fun | 22=>123 | 23=>132 | 4=>4 | n=>n,fun | n=>n⟩
theorem ae1:Go.Proofs.SlLaysE0.n41 Tryz.prog als:={
 mixed:=by kernel_rfl
 f41:=⟨Tryz.f159.name,by decide,Tryz.func159.trans (congrArg some (by kernel_rfl))⟩
 t4:=Tryz.underlying4
 a4:=Tryz.isAgg4
 z4:=Tryz.sizeOf4
 v4:=Tryz.zeroValue4
 t22:=Tryz.underlying123
 a22:=Tryz.isAgg123
 z22:=Tryz.sizeOf123
 v22:=Tryz.zeroValue123 }
def alu:PFn:=(mS 3)
theorem alt:aB Tryz.prog G0 159 alu:=clone_lays ae1 3 ⟨Tryz.f159,Tryz.func159,rfl,by kernel_rfl⟩ (by kernel_rfl) (by kernel_rfl) (by kernel_rfl) (by kernel_rfl) (by kernel_rfl) (by decide) (fun w=>Tryz.sizeOf132 w)
def zar (a0:List vV5):Option (List vV5):=fE a0
def auj:TFn:=gV tT18
theorem aui:TOk alu auj:=td rfl rfl rfl
def aj0:Env:=(eZ [(72,abT),(159,alu)] [274])
def ar6:Hints:=(hZ [] [])
def ajZ:PFn:=aG (runF Tryz.prog aj0 ar6 Tryz.f89)
def axF:TH:=yZ
def zbu (a0:vV2):Option vV2 :=
(za0 a0.1).bind fun r1 =>
(zar a0.2.2.1).bind fun r2 =>
 some (r1,a0.2.1,r2,a0.2.2.2.1,())
def aa7:TFn:={ ps:=(.cons tT16 .unit),res:=tT16,fn:=fun v=>zbu v.1 }
def ar5:TEnv:=(vZ [(72,ae8),(159,auj)])
theorem ar4:runY Tryz.prog aj0 ar6 ar5 axF Tryz.f89 aa7.ps aa7.res=aa7.fn:=by kernel_rfl
theorem ajY:aB Tryz.prog G0 89 ajZ:=ah (ak ⟨au,(aj tX (aj alt ac)),ap,ac,an⟩ Tryz.func89 rfl (by kernel_rfl))
theorem ar3:TOk ajZ aa7:=aA (E:=aj0) (ET:=ar5) (EnvT.ofX (ax (ai abS (ai aui al))) am ar aM aq) ar4 rfl
def alr:Env:=(eZ [] [274])
def auh:Hints:=(hZ [(4,[0,1,12,13])] [])
def alq:PFn:=aG (runF Tryz.prog alr auh Tryz.f161)
def ayc:TH:={ loops:=[(4,{ keep:=[(13,(.int .i64))],mem:=[] })],ro:=[] }
def wB (a0:List vV5) (a1:List vV5) (y4:(Int×Unit)):Option ((Int×Unit)⊕Bool) :=
 cond (decide (y4.1<(a0.length:Int))) (
(atI a0 y4.1).bind fun x1 =>
(atI a1 y4.1).bind fun x2 =>
 cond (!(eqV tT18 x1 x2)) (
 some (.inr false)) (
 some (.inl ((IntKind.wrap .i64 (y4.1+1)),())))) (
 some (.inr true))
def zas (a0:List vV5) (a1:List vV5):Option Bool :=
 cond (!decide ((a0.length:Int)=(a1.length:Int))) (
 some false) (
 aI (wB a0 a1) (0,()))
def abz:TFn:={ ps:=(.cons (.sl tT18) (.cons (.sl tT18) .unit)),res:=.bool,fn:=fun v=>zas v.1 v.2.1 }
def aug:TEnv:=(vZ [])
theorem auf:runY Tryz.prog alr auh aug ayc Tryz.f161 abz.ps abz.res=abz.fn:=by kernel_rfl
theorem alp:aB Tryz.prog G0 161 alq:=ah (ak ⟨au,ac,ap,ac,an⟩ Tryz.func161 rfl (by kernel_rfl))
theorem aue:TOk alq abz:=aA (E:=alr) (ET:=aug) (EnvT.ofX (ax al) am ar aM aq) auf rfl
def ahw:Env:=(eZ [(160,aeo),(161,alq)] [274])
def aor:Hints:=(hZ [] [])
def ahv:PFn:=aG (runF Tryz.prog ahw aor Tryz.f92)
def awG:TH:={ loops:=[],cuts:=[(1,[(12,{ keep:=[(2,(.bx 0 0)),(3,(.bx 1 0)),(16,.bool)],mem:=[.same,.same] })])],ro:=[2,3],news:=[] }
def zdq (a0:vV2) (a1:vV2):Option Bool :=
(cond (decide (a0.2.1=a1.2.1)) (some ((decide (a0.2.2.2.1=a1.2.2.2.1)),())) (some (false,())):Option (Bool×Unit)).bind fun v1 =>
 cond v1.1 ((zdl a0.1 a1.1).bind fun r2 =>
 cond r2 ((zas a0.2.2.1 a1.2.2.1).bind fun r3 =>
 some r3) (some false)) (some false)
def z7:TFn:={ ps:=(.cons tT16 (.cons tT16 .unit)),res:=.bool,fn:=fun v=>zdq v.1 v.2.1 }
def aoq:TEnv:=(vZ [(160,xW),(161,abz)])
theorem aoo:runY Tryz.prog ahw aor aoq awG Tryz.f92 z7.ps z7.res=z7.fn:=by kernel_rfl
theorem ahu:aB Tryz.prog G0 92 ahv:=ah (ak ⟨au,(aj aad (aj alp ac)),ap,ac,an⟩ Tryz.func92 rfl (by kernel_rfl))
theorem aon:TOk ahv z7:=aA (E:=ahw) (ET:=aoq) (EnvT.ofX (ax (ai agq (ai aue al))) am ar aM aq) aoo rfl
def ami:Env:=(eZ [(92,ahv)] [274])
def avj:Hints:=(hZ [(4,[1,2,15,16,17])] [])
def amh:PFn:=aG (runF Tryz.prog ami avj Tryz.f91)
def ayp:TH:={ loops:=[(4,{ keep:=[(17,(.int .i64))],mem:=[] })],ro:=[] }
def wF (a0:List vV2) (a1:List vV2) (y4:(Int×Unit)):Option ((Int×Unit)⊕Bool) :=
 cond (decide (y4.1<(a0.length:Int))) (
(atI a0 y4.1).bind fun x1 =>
(atI a1 y4.1).bind fun x2 =>
(zdq x1 x2).bind fun r3 =>
 cond (!r3) (
 some (.inr false)) (
 some (.inl ((IntKind.wrap .i64 (y4.1+1)),())))) (
 some (.inr true))
def zaa (a0:List vV2) (a1:List vV2) (a2:Unit):Option Bool :=
 cond (!decide ((a0.length:Int)=(a1.length:Int))) (
 some false) (
 aI (wF a0 a1) (0,()))
def abK:TFn:={ ps:=(.cons (.sl tT16) (.cons (.sl tT16) (.cons (.fn 92) .unit))),res:=.bool,fn:=fun v=>zaa v.1 v.2.1 v.2.2.1 }
def avi:TEnv:=(vZ [(92,z7)])
theorem avh:runY Tryz.prog ami avj avi ayp Tryz.f91 abK.ps abK.res=abK.fn:=by kernel_rfl
theorem amg:aB Tryz.prog G0 91 amh:=ah (ak ⟨au,(aj ahu ac),ap,ac,an⟩ Tryz.func91 rfl (by kernel_rfl))
theorem avg:TOk amh abK:=aA (E:=ami) (ET:=avi) (EnvT.ofX (ax (ai aon al)) am ar aM aq) avh rfl
def ahS:Env:=(eZ [(91,amh)] [274])
def aoW:Hints:=(hZ [] [])
def ahR:PFn:=aG (runF Tryz.prog ahS aoW Tryz.f31)
def awO:TH:=yZ
def zdi (a0:List vV2) (a1:List vV2):Option Bool :=
(zaa a0 a1 ()).bind fun r1 =>
 some r1
def aag:TFn:={ ps:=(.cons (.sl tT16) (.cons (.sl tT16) .unit)),res:=.bool,fn:=fun v=>zdi v.1 v.2.1 }
def aoV:TEnv:=(vZ [(91,abK)])
theorem aoU:runY Tryz.prog ahS aoW aoV awO Tryz.f31 aag.ps aag.res=aag.fn:=by kernel_rfl
theorem ahQ:aB Tryz.prog G0 31 ahR:=ah (ak ⟨au,(aj amg ac),ap,ac,an⟩ Tryz.func31 rfl (by kernel_rfl))
theorem aoT:TOk ahR aag:=aA (E:=ahS) (ET:=aoV) (EnvT.ofX (ax (ai avg al)) am ar aM aq) aoU rfl
def akT:Env:=(eZ [(31,ahR)] [274])
def atE:Hints:=(hZ [] [])
def akS:PFn:=aG (runF Tryz.prog akT atE Tryz.f87)
def ax4:TH:={ loops:=[],ro:=[2,3] }
def zb4 (a0:vV2) (a1:vV2):Option Bool :=
(zdi ([a0]:List vV2) ([a1]:List vV2)).bind fun r1 =>
 some r1
def abs:TFn:={ ps:=(.cons tT16 (.cons tT16 .unit)),res:=.bool,fn:=fun v=>zb4 v.1 v.2.1 }
def atD:TEnv:={ pure:=[(31,aag)],look:=[],glob:=G0T,ty:=[(125,tT16)],raw:=[],fresh:=[] }
theorem atC:runY Tryz.prog akT atE atD ax4 Tryz.f87 abs.ps abs.res=abs.fn:=by kernel_rfl
theorem akR:aB Tryz.prog G0 87 akS:=ah (ak ⟨au,(aj ahQ ac),ap,ac,an⟩ Tryz.func87 rfl (by kernel_rfl))
theorem atB:TOk akS abs:=aA (E:=akT) (ET:=atD) (EnvT.ofX (ax (ai aoT al)) am ar aM aq) atC rfl
def ak0:Env:=(eZ [(86,akj),(87,akS),(89,ajZ)] [274])
def atR:Hints:=(hZ [(2,[0,1,5])] [41,45,60,73])
def akZ:PFn:=aG (runF Tryz.prog ak0 atR Tryz.f76)
def ax7:TH:={ joins:=[(3,{ keep:=[(5,(.own 0))],mem:=[.row true 127 tT23] }),(11,{ keep:=[(5,(.own 0)),(6,(.int .i64))],mem:=[.row true 127 tT23] }),(10,{ keep:=[(5,(.own 0))],mem:=[.row true 127 tT23] })],loops:=[(2,{ keep:=[(0,(.sl tT16)),(1,(.sl tT16)),(5,(.own 0))],mem:=[.row true 127 tT23] })],ro:=[] }
def iL (y2:(List vV2×List vV2×List vV9×Unit)):Option ((List vV2×List vV2×List vV9×Unit)⊕List vV9) :=
(cond (decide ((y2.1.length:Int)>0)) (some (.inl (y2.2.2.1,()))) (cond (decide ((y2.2.1.length:Int)>0)) (
 some (.inl (y2.2.2.1,()))) (
 some (.inr (.inr y2.2.2.1)))):Option ((List vV9×Unit)⊕((List vV2×List vV2×List vV9×Unit)⊕List vV9))).bind (bc fun v1 =>
(cond (decide ((y2.2.1.length:Int)=0)) (
 some (.inl ((-1),v1.1,()))) (
 cond (decide ((y2.1.length:Int)>0)) (
(atI y2.1 0).bind fun x2 =>
(atI y2.2.1 0).bind fun x3 =>
(zbk x2 x3).bind fun r4 =>
 some (.inl (r4,v1.1,()))) (
 some (.inl (1,v1.1,())))):Option ((Int×List vV9×Unit)⊕((List vV2×List vV2×List vV9×Unit)⊕List vV9))).bind (bc fun v5 =>
 cond (decide (v5.1<0)) (
(atI y2.1 0).bind fun x6 =>
(zbu x6).bind fun r7 =>
(bP (v5.2.1.length+([(2,r7,([],0,[],0,()),())]:List vV9).length)).bind fun u8 =>
(subI y2.1 1 (y2.1.length:Int)).bind fun s9 =>
 some (.inl (s9,y2.2.1,(v5.2.1++([(2,r7,([],0,[],0,()),())]:List vV9)),()))) (
 cond (decide (v5.1>0)) (
(atI y2.2.1 0).bind fun x10 =>
(zbu x10).bind fun r11 =>
(bP (v5.2.1.length+([(1,([],0,[],0,()),r11,())]:List vV9).length)).bind fun u12 =>
(subI y2.2.1 1 (y2.2.1.length:Int)).bind fun s13 =>
 some (.inl (y2.1,s13,(v5.2.1++([(1,([],0,[],0,()),r11,())]:List vV9)),()))) (
((atI y2.1 0).bind fun x14 =>
(atI y2.2.1 0).bind fun x15 =>
(zb4 x14 x15).bind fun r16 =>
 cond (!r16) (
(atI y2.1 0).bind fun x17 =>
(zbu x17).bind fun r18 =>
(atI y2.2.1 0).bind fun x19 =>
(zbu x19).bind fun r20 =>
(bP (v5.2.1.length+([(3,r18,r20,())]:List vV9).length)).bind fun u21 =>
 some (.inl ((v5.2.1++([(3,r18,r20,())]:List vV9)),()))) (
 some (.inl (v5.2.1,()))):Option ((List vV9×Unit)⊕((List vV2×List vV2×List vV9×Unit)⊕List vV9))).bind (bc fun v22 =>
(subI y2.1 1 (y2.1.length:Int)).bind fun s23 =>
(subI y2.2.1 1 (y2.2.1.length:Int)).bind fun s24 =>
 some (.inl (s23,s24,v22.1,())))))))
def zb1 (a0:List vV2) (a1:List vV2):Option (List vV9) :=
 aI (iL) (a0,a1,[],())
def abv:TFn:={ ps:=(.cons (.sl tT16) (.cons (.sl tT16) .unit)),res:=(.sl tT23),fn:=fun v=>zb1 v.1 v.2.1 }
def atQ:TEnv:={ pure:=[(86,abi),(87,abs),(89,aa7)],look:=[],glob:=G0T,ty:=[(127,tT23)],raw:=[],fresh:=[] }
theorem atP:runY Tryz.prog ak0 atR atQ ax7 Tryz.f76 abv.ps abv.res=abv.fn:=by kernel_rfl
theorem akY:aB Tryz.prog G0 76 akZ:=ah (ak ⟨au,(aj aki (aj akR (aj ajY ac))),ap,ac,an⟩ Tryz.func76 rfl (by kernel_rfl))
theorem atO:TOk akZ abv:=aA (E:=ak0) (ET:=atQ) (EnvT.ofX (ax (ai asD (ai atB (ai ar3 al)))) am ar aM aq) atP rfl
def ajQ:Env:=(eZ [(46,aeA),(50,aeu),(68,aih),(76,akZ),(130,aeG)] [274])
def arR:Hints:=(hZ [] [])
def aez:PFn:=aG (runF Tryz.prog ajQ arR Tryz.f59)
def axB:TH:={ loops:=[],ro:=[3,4] }
def zc0 (a0:vV1) (a1:(Int×Int×Unit)) (a2:Bool):Option (List vV9×Int×Unit) :=
(zbz a0 a1 a2).bind fun r1 =>
 cond (!decide (r1=0)) (
 some ([],r1,())) (
(zbq a0 a1).bind fun r2 =>
 cond (!decide (r2.2.1=0)) (
 some ([],r2.2.1,())) (
(zcn a0).bind fun r3 =>
(zd2 r3).bind fun r4 =>
(zcn r2.1).bind fun r5 =>
(zd2 r5).bind fun r6 =>
(zb1 r4 r6).bind fun r7 =>
 some (r7,0,())))
def yc:TFn:={ ps:=(.cons tT13 (.cons tT15 (.cons .bool .unit))),res:=(.tup (.cons (.sl tT23) (.cons (.int .i64) .unit))),fn:=fun v=>zc0 v.1 v.2.1 v.2.2.1 }
def arQ:TEnv:=(vZ [(46,yd),(50,xZ),(68,aar),(76,abv),(130,yg)])
theorem arP:runY Tryz.prog ajQ arR arQ axB Tryz.f59 yc.ps yc.res=yc.fn:=by kernel_rfl
theorem aa0:aB Tryz.prog G0 59 aez:=ah (ak ⟨au,(aj aa1 (aj aaE (aj aig (aj akY (aj abc ac))))),ap,ac,an⟩ Tryz.func59 rfl (by kernel_rfl))
theorem agw:TOk aez yc:=aA (E:=ajQ) (ET:=arQ) (EnvT.ofX (ax (ai agx (ai agt (ai apw (ai atO (ai agD al)))))) am ar aM aq) arP rfl
def axg:Env:=(eZ [] [274])
def axf:Hints:=(hZ [] [])
def aiZ:PFn:=aG (runF Tryz.prog axg axf Tryz.f275)
theorem aiY:aB Tryz.prog G0 275 aiZ:=ah (ak ⟨au,ac,ap,ac,an⟩ Tryz.func275 rfl (by kernel_rfl))
def amv:Env:=(eZ [] [274])
def avI:Hints:=(hZ [] [6,9,11,19])
def abR:SFn:=runF Tryz.prog amv avI Tryz.f209
def ayw:TH:=yZ
def za3 (w0:vV12) (w1:List Int):Option (Unit×vV12×List Int×Unit) :=
 cond (!w0.1) (
 some ((),(true,w0.2.1,()),w1,())) (
 cond (!w0.1) (
 none) (
 some ((),w0,w1,())))
def px:TRaw:={ ps:=(.cons (.bx 0 0) .unit),ins:=[.box 216 tT24,.row true 5 (.int .u8)],res:=(.tup .unit),outs:=[.box 216 tT24,.row true 5 (.int .u8)],fn:=fun v w=>za3 w.1 w.2.1 }
def avH:TEnv:=(vZ [])
theorem avG:rawY Tryz.prog amv avI avH ayw [(0,0)] Tryz.f209 px.ps px.ins px.res px.outs=px.fn:=by kernel_rfl
theorem tU:bw Tryz.prog G0 209 abR:=ak ⟨au,ac,ap,ac,an⟩ Tryz.func209 rfl (by kernel_rfl)
theorem abQ:TRawOk abR px:=iy (E:=amv) (ET:=avH) (EnvT.ofX (ax al) am ar aM aq) avG
def amu:Env:={ pure:=[],raw:=[(209,abR)],glob:=G0,same:=[274],look:=[],ext:=[] }
def avF:Hints:=(hZ [] [])
def ae6:SFn:=runF Tryz.prog amu avF Tryz.f323
def ayv:TH:=yZ
def za4 (a1:Int) (w0:vV12) (w1:List Int):Option (Bool×vV12×List Int×Unit) :=
(za3 w0 w1).bind fun q1 =>
(bP (q1.2.2.1.length+([a1]:List Int).length)).bind fun u2 =>
 some (false,(q1.2.1.1,(),()),(q1.2.2.1++([a1]:List Int)),())
def qU:TRaw:={ ps:=(.cons (.bx 0 0) (.cons (.int .u8) .unit)),ins:=[.box 216 tT24,.row true 5 (.int .u8)],res:=.err,outs:=[.box 216 tT24,.row true 5 (.int .u8)],fn:=fun v w=>za4 v.2.1 w.1 w.2.1 }
def avE:TEnv:={ pure:=[],look:=[],glob:=G0T,ty:=[(5,(.int .u8))],raw:=[(209,px)],fresh:=[] }
theorem avD:rawY Tryz.prog amu avF avE ayv [(0,0)] Tryz.f323 qU.ps qU.ins qU.res qU.outs=qU.fn:=by kernel_rfl
theorem abP:bw Tryz.prog G0 323 ae6:=ak ⟨au,ac,(aY tU ap),ac,an⟩ Tryz.func323 rfl (by kernel_rfl)
theorem agI:TRawOk ae6 qU:=iy (E:=amu) (ET:=avE) (EnvT.ofX (ax al) am (bn abQ rfl rfl ar) aM aq) avD
def amt:Env:=(eZ [] [274])
def avC:Hints:=(hZ [] [])
def ams:SFn:=runF Tryz.prog amt avC Tryz.f369
def ayu:TH:={ joins:=[(7,{ keep:=[(0,(.own 0)),(25,.bool)],mem:=[.row true 5 (.int .u8)] })],loops:=[],cuts:=[(6,[(6,{ keep:=[(0,(.own 0)),(33,.bool)],mem:=[.row true 5 (.int .u8)] })])],ro:=[],news:=[] }
def za5 (a1:Int) (w0:List Int):Option (Unit×List Int×Unit) :=
 cond (decide ((IntKind.wrap .u32 a1)≤2047)) (
(shrT .i32 a1 6).bind fun t1 =>
(bP (w0.length+([(IntKind.wrap .u8 ((BitVec.ofInt (IntKind.bits .u8) 192 ||| BitVec.ofInt (IntKind.bits .u8) (IntKind.wrap .u8 t1)).toNat)),(IntKind.wrap .u8 ((BitVec.ofInt (IntKind.bits .u8) 128 ||| BitVec.ofInt (IntKind.bits .u8) (IntKind.wrap .u8 ((BitVec.ofInt (IntKind.bits .u8) (IntKind.wrap .u8 a1) &&& BitVec.ofInt (IntKind.bits .u8) 63).toNat))).toNat))]:List Int).length)).bind fun u2 =>
 some ((),(w0++([(IntKind.wrap .u8 ((BitVec.ofInt (IntKind.bits .u8) 192 ||| BitVec.ofInt (IntKind.bits .u8) (IntKind.wrap .u8 t1)).toNat)),(IntKind.wrap .u8 ((BitVec.ofInt (IntKind.bits .u8) 128 ||| BitVec.ofInt (IntKind.bits .u8) (IntKind.wrap .u8 ((BitVec.ofInt (IntKind.bits .u8) (IntKind.wrap .u8 a1) &&& BitVec.ofInt (IntKind.bits .u8) 63).toNat))).toNat))]:List Int)),())) (
(cond (decide ((IntKind.wrap .u32 a1)<55296)) (
 some (.inl ((decide ((IntKind.wrap .u32 a1)<55296)),w0,()))) (
(cond (decide (57343<(IntKind.wrap .u32 a1))) (some ((decide ((IntKind.wrap .u32 a1)≤65535)),w0,())) (some (false,w0,())):Option (Bool×List Int×Unit)).bind fun v3 =>
 some (.inl (v3.1,v3.2.1,()))):Option ((Bool×List Int×Unit)⊕(Unit×List Int×Unit))).bind (bc fun v4 =>
 cond v4.1 (
(shrT .i32 a1 12).bind fun t5 =>
(shrT .i32 a1 6).bind fun t6 =>
(bP (v4.2.1.length+([(IntKind.wrap .u8 ((BitVec.ofInt (IntKind.bits .u8) 224 ||| BitVec.ofInt (IntKind.bits .u8) (IntKind.wrap .u8 t5)).toNat)),(IntKind.wrap .u8 ((BitVec.ofInt (IntKind.bits .u8) 128 ||| BitVec.ofInt (IntKind.bits .u8) (IntKind.wrap .u8 ((BitVec.ofInt (IntKind.bits .u8) (IntKind.wrap .u8 t6) &&& BitVec.ofInt (IntKind.bits .u8) 63).toNat))).toNat)),(IntKind.wrap .u8 ((BitVec.ofInt (IntKind.bits .u8) 128 ||| BitVec.ofInt (IntKind.bits .u8) (IntKind.wrap .u8 ((BitVec.ofInt (IntKind.bits .u8) (IntKind.wrap .u8 a1) &&& BitVec.ofInt (IntKind.bits .u8) 63).toNat))).toNat))]:List Int).length)).bind fun u7 =>
 some ((),(v4.2.1++([(IntKind.wrap .u8 ((BitVec.ofInt (IntKind.bits .u8) 224 ||| BitVec.ofInt (IntKind.bits .u8) (IntKind.wrap .u8 t5)).toNat)),(IntKind.wrap .u8 ((BitVec.ofInt (IntKind.bits .u8) 128 ||| BitVec.ofInt (IntKind.bits .u8) (IntKind.wrap .u8 ((BitVec.ofInt (IntKind.bits .u8) (IntKind.wrap .u8 t6) &&& BitVec.ofInt (IntKind.bits .u8) 63).toNat))).toNat)),(IntKind.wrap .u8 ((BitVec.ofInt (IntKind.bits .u8) 128 ||| BitVec.ofInt (IntKind.bits .u8) (IntKind.wrap .u8 ((BitVec.ofInt (IntKind.bits .u8) (IntKind.wrap .u8 a1) &&& BitVec.ofInt (IntKind.bits .u8) 63).toNat))).toNat))]:List Int)),())) (
 cond (decide ((IntKind.wrap .u32 a1)>65535)) (cond (decide ((IntKind.wrap .u32 a1)≤1114111)) (
(shrT .i32 a1 18).bind fun t8 =>
(shrT .i32 a1 12).bind fun t9 =>
(shrT .i32 a1 6).bind fun t10 =>
(bP (v4.2.1.length+([(IntKind.wrap .u8 ((BitVec.ofInt (IntKind.bits .u8) 240 ||| BitVec.ofInt (IntKind.bits .u8) (IntKind.wrap .u8 t8)).toNat)),(IntKind.wrap .u8 ((BitVec.ofInt (IntKind.bits .u8) 128 ||| BitVec.ofInt (IntKind.bits .u8) (IntKind.wrap .u8 ((BitVec.ofInt (IntKind.bits .u8) (IntKind.wrap .u8 t9) &&& BitVec.ofInt (IntKind.bits .u8) 63).toNat))).toNat)),(IntKind.wrap .u8 ((BitVec.ofInt (IntKind.bits .u8) 128 ||| BitVec.ofInt (IntKind.bits .u8) (IntKind.wrap .u8 ((BitVec.ofInt (IntKind.bits .u8) (IntKind.wrap .u8 t10) &&& BitVec.ofInt (IntKind.bits .u8) 63).toNat))).toNat)),(IntKind.wrap .u8 ((BitVec.ofInt (IntKind.bits .u8) 128 ||| BitVec.ofInt (IntKind.bits .u8) (IntKind.wrap .u8 ((BitVec.ofInt (IntKind.bits .u8) (IntKind.wrap .u8 a1) &&& BitVec.ofInt (IntKind.bits .u8) 63).toNat))).toNat))]:List Int).length)).bind fun u11 =>
 some ((),(v4.2.1++([(IntKind.wrap .u8 ((BitVec.ofInt (IntKind.bits .u8) 240 ||| BitVec.ofInt (IntKind.bits .u8) (IntKind.wrap .u8 t8)).toNat)),(IntKind.wrap .u8 ((BitVec.ofInt (IntKind.bits .u8) 128 ||| BitVec.ofInt (IntKind.bits .u8) (IntKind.wrap .u8 ((BitVec.ofInt (IntKind.bits .u8) (IntKind.wrap .u8 t9) &&& BitVec.ofInt (IntKind.bits .u8) 63).toNat))).toNat)),(IntKind.wrap .u8 ((BitVec.ofInt (IntKind.bits .u8) 128 ||| BitVec.ofInt (IntKind.bits .u8) (IntKind.wrap .u8 ((BitVec.ofInt (IntKind.bits .u8) (IntKind.wrap .u8 t10) &&& BitVec.ofInt (IntKind.bits .u8) 63).toNat))).toNat)),(IntKind.wrap .u8 ((BitVec.ofInt (IntKind.bits .u8) 128 ||| BitVec.ofInt (IntKind.bits .u8) (IntKind.wrap .u8 ((BitVec.ofInt (IntKind.bits .u8) (IntKind.wrap .u8 a1) &&& BitVec.ofInt (IntKind.bits .u8) 63).toNat))).toNat))]:List Int)),())) (
(bP (v4.2.1.length+([239,191,189]:List Int).length)).bind fun u12 =>
 some ((),(v4.2.1++([239,191,189]:List Int)),()))) ((bP (v4.2.1.length+([239,191,189]:List Int).length)).bind fun u13 =>
 some ((),(v4.2.1++([239,191,189]:List Int)),())))))
def tT:TRaw:={ ps:=(.cons (.own 0) (.cons (.int .i32) .unit)),ins:=[.row true 5 (.int .u8)],res:=(.own 0),outs:=[.row true 5 (.int .u8)],fn:=fun v w=>za5 v.2.1 w.1 }
def avB:TEnv:={ pure:=[],look:=[],glob:=G0T,ty:=[(5,(.int .u8))],raw:=[],fresh:=[] }
theorem avA:rawY Tryz.prog amt avC avB ayu [] Tryz.f369 tT.ps tT.ins tT.res tT.outs=tT.fn:=by kernel_rfl
theorem amr:bw Tryz.prog G0 369 ams:=ak ⟨au,ac,ap,ac,an⟩ Tryz.func369 rfl (by kernel_rfl)
theorem avz:TRawOk ams tT:=iy (E:=amt) (ET:=avB) (EnvT.ofX (ax al) am ar aM aq) avA
def aks:Env:={ pure:=[],raw:=[(369,ams)],glob:=G0,same:=[274],look:=[],ext:=[] }
def asT:Hints:=(hZ [] [])
def akr:SFn:=runF Tryz.prog aks asT Tryz.f353
def axS:TH:=yZ
def zbg (a1:Int) (w0:List Int):Option (Unit×List Int×Unit) :=
 cond (decide ((IntKind.wrap .u32 a1)≤127)) (
(bP (w0.length+([(IntKind.wrap .u8 a1)]:List Int).length)).bind fun u1 =>
 some ((),(w0++([(IntKind.wrap .u8 a1)]:List Int)),())) (
(za5 a1 w0).bind fun q2 =>
 some (q2.1,q2.2.1,()))
def tO:TRaw:={ ps:=(.cons (.own 0) (.cons (.int .i32) .unit)),ins:=[.row true 5 (.int .u8)],res:=(.own 0),outs:=[.row true 5 (.int .u8)],fn:=fun v w=>zbg v.2.1 w.1 }
def asS:TEnv:={ pure:=[],look:=[],glob:=G0T,ty:=[(5,(.int .u8))],raw:=[(369,tT)],fresh:=[] }
theorem asR:rawY Tryz.prog aks asT asS axS [] Tryz.f353 tO.ps tO.ins tO.res tO.outs=tO.fn:=by kernel_rfl
theorem akq:bw Tryz.prog G0 353 akr:=ak ⟨au,ac,(aY amr ap),ac,an⟩ Tryz.func353 rfl (by kernel_rfl)
theorem asQ:TRawOk akr tO:=iy (E:=aks) (ET:=asS) (EnvT.ofX (ax al) am (bn avz rfl rfl ar) aM aq) asR
def amy:Env:={ pure:=[],raw:=[(209,abR),(353,akr)],glob:=G0,same:=[274],look:=[],ext:=[] }
def avM:Hints:=(hZ [] [])
def amx:SFn:=runF Tryz.prog amy avM Tryz.f324
def ayx:TH:=yZ
def za2 (a1:Int) (w0:vV12) (w1:List Int):Option ((Int×Bool×Unit)×vV12×List Int×Unit) :=
(za3 w0 w1).bind fun q1 =>
(zbg a1 q1.2.2.1).bind fun q2 =>
 some (((IntKind.wrap .i64 ((q2.2.1.length:Int)-(q1.2.2.1.length:Int))),false,()),(q1.2.1.1,q2.1,()),q2.2.1,())
def tV:TRaw:={ ps:=(.cons (.bx 0 0) (.cons (.int .i32) .unit)),ins:=[.box 216 tT24,.row true 5 (.int .u8)],res:=(.tup (.cons (.int .i64) (.cons .err .unit))),outs:=[.box 216 tT24,.row true 5 (.int .u8)],fn:=fun v w=>za2 v.2.1 w.1 w.2.1 }
def avL:TEnv:={ pure:=[],look:=[],glob:=G0T,ty:=[],raw:=[(209,px),(353,tO)],fresh:=[] }
theorem avK:rawY Tryz.prog amy avM avL ayx [(0,0)] Tryz.f324 tV.ps tV.ins tV.res tV.outs=tV.fn:=by kernel_rfl
theorem amw:bw Tryz.prog G0 324 amx:=ak ⟨au,ac,(aY tU (aY akq ap)),ac,an⟩ Tryz.func324 rfl (by kernel_rfl)
theorem avJ:TRawOk amx tV:=iy (E:=amy) (ET:=avL) (EnvT.ofX (ax al) am (bn abQ rfl rfl (bn asQ rfl rfl ar)) aM aq) avK
def amn:Env:=(eZ [] [274])
def avu:Hints:=(hZ [] [])
def abN:SFn:=runF Tryz.prog amn avu Tryz.f140
def ays:TH:=yZ
def za7 (w0:vV12) (w1:List Int):Option (List UInt8×vV12×Unit) :=
 cond w1.isEmpty ((ag8 (w1.length:Int)).bind fun u1 =>
 some ([],w0,())) ((qW 0 w1.length (w1.length:Int)).bind fun u2 =>
 some ((w1.map fun n=>UInt8.ofNat n.toNat),w0,()))
def pw:TRaw:={ ps:=(.cons (.bx 0 0) .unit),ins:=[.box 216 tT24,.row true 5 (.int .u8)],res:=.str,outs:=[.box 216 tT24,.gone],fn:=fun v w=>za7 w.1 w.2.1 }
def avt:TEnv:=(vZ [])
theorem avs:rawY Tryz.prog amn avu avt ays [(0,0)] Tryz.f140 pw.ps pw.ins pw.res pw.outs=pw.fn:=by kernel_rfl
theorem tQ:bw Tryz.prog G0 140 abN:=ak ⟨au,ac,ap,ac,an⟩ Tryz.func140 rfl (by kernel_rfl)
theorem abM:TRawOk abN pw:=iy (E:=amn) (ET:=avt) (EnvT.ofX (ax al) am ar aM aq) avs
def aiQ:Env:={ pure:=[],raw:=[(140,abN),(323,ae6),(324,amx)],glob:=G0,same:=[274],look:=[],ext:=[] }
def aqn:Hints:=(hZ [(4,[3,8])] [])
def aet:PFn:=aG (runF Tryz.prog aiQ aqn Tryz.f276)
def axb:TH:={ loops:=[(4,{ keep:=[(3,(.bx 1 0)),(8,(.it 2))],mem:=[.row true 5 (.int .u8),.box 216 tT26,.iter] })],cuts:=[],ro:=[],news:=[(3,(tT26,[(5,(.int .u8))]))] }
def nK (a0:List UInt8) (y4:(List Int×vV12×Nat×Unit)):Option ((List Int×vV12×Nat×Unit)⊕List UInt8) :=
 cond (decide (y4.2.2.1<a0.length)) (cond (decide (((Utf8.decode ⟨a0.toArray⟩ y4.2.2.1).1:Int)=34)) ((za4 92 (y4.2.1.1,(),()) y4.1).bind fun q2 =>
(za2 ((Utf8.decode ⟨a0.toArray⟩ y4.2.2.1).1:Int) (q2.2.1.1,(),()) q2.2.2.1).bind fun q3 =>
 some (.inl (q3.2.2.1,q3.2.1,(y4.2.2.1+(Utf8.decode ⟨a0.toArray⟩ y4.2.2.1).2),()))) (cond (decide (((Utf8.decode ⟨a0.toArray⟩ y4.2.2.1).1:Int)=92)) (
(za4 92 (y4.2.1.1,(),()) y4.1).bind fun q4 =>
(za2 ((Utf8.decode ⟨a0.toArray⟩ y4.2.2.1).1:Int) (q4.2.1.1,(),()) q4.2.2.1).bind fun q5 =>
 some (.inl (q5.2.2.1,q5.2.1,(y4.2.2.1+(Utf8.decode ⟨a0.toArray⟩ y4.2.2.1).2),()))) (
(za2 ((Utf8.decode ⟨a0.toArray⟩ y4.2.2.1).1:Int) (y4.2.1.1,(),()) y4.1).bind fun q6 =>
 some (.inl (q6.2.2.1,q6.2.1,(y4.2.2.1+(Utf8.decode ⟨a0.toArray⟩ y4.2.2.1).2),()))))) (((za4 34 (y4.2.1.1,(),()) y4.1).bind fun q7 =>
(za7 (q7.2.1.1,(),()) q7.2.2.1).bind fun q8 =>
 some q8.1).map .inr)
def zcp (a0:List UInt8):Option (List UInt8) :=
(za4 34 (false,(),()) []).bind fun q1 =>
 aI (nK a0) (q1.2.2.1,q1.2.1,0,())
def aes:TFn:={ ps:=(.cons .str .unit),res:=.str,fn:=fun v=>zcp v.1 }
def aqm:TEnv:={ pure:=[],look:=[],glob:=G0T,ty:=[],raw:=[(140,pw),(323,qU),(324,tV)],fresh:=[] }
theorem aql:runY Tryz.prog aiQ aqn aqm axb Tryz.f276 aes.ps aes.res=aes.fn:=by kernel_rfl
theorem aiP:aB Tryz.prog G0 276 aet:=ah (ak ⟨au,ac,(aY tQ (aY abP (aY amw ap))),ac,an⟩ Tryz.func276 rfl (by kernel_rfl))
theorem aqk:TOk aet aes:=aA (E:=aiQ) (ET:=aqm) (EnvT.ofX (ax al) am (bn abM rfl rfl (bn agI rfl rfl (bn avJ rfl rfl ar))) aM aq) aql rfl
def amq:Env:=(eZ [] [274])
def avy:Hints:=(hZ [] [])
def amp:PFn:=aG (runF Tryz.prog amq avy Tryz.f325)
def ayt:TH:=yZ
def za6 (a0:Bool):Option (List UInt8) :=
 cond a0 (
 some [116,114,117,101]) (
 some [102,97,108,115,101])
def abO:TFn:={ ps:=(.cons .bool .unit),res:=.str,fn:=fun v=>za6 v.1 }
def avx:TEnv:=(vZ [])
theorem avw:runY Tryz.prog amq avy avx ayt Tryz.f325 abO.ps abO.res=abO.fn:=by kernel_rfl
theorem amo:aB Tryz.prog G0 325 amp:=ah (ak ⟨au,ac,ap,ac,an⟩ Tryz.func325 rfl (by kernel_rfl))
theorem avv:TOk amp abO:=aA (E:=amq) (ET:=avx) (EnvT.ofX (ax al) am ar aM aq) avw rfl
def akF:Env:=(eZ [(325,amp)] [274])
def atf:Hints:=(hZ [] [])
def aeP:PFn:=aG (runF Tryz.prog akF atf Tryz.f277)
def axX:TH:=yZ
def zbb (a0:Bool):Option (List UInt8) :=
(za6 a0).bind fun r1 =>
 some r1
def aeO:TFn:={ ps:=(.cons .bool .unit),res:=.str,fn:=fun v=>zbb v.1 }
def ate:TEnv:=(vZ [(325,abO)])
theorem atd:runY Tryz.prog akF atf ate axX Tryz.f277 aeO.ps aeO.res=aeO.fn:=by kernel_rfl
theorem akE:aB Tryz.prog G0 277 aeP:=ah (ak ⟨au,(aj amo ac),ap,ac,an⟩ Tryz.func277 rfl (by kernel_rfl))
theorem atc:TOk aeP aeO:=aA (E:=akF) (ET:=ate) (EnvT.ofX (ax (ai avv al)) am ar aM aq) atd rfl
def aa4:PFn:=afV
theorem aa3:aB Tryz.prog G0 213 aa4:=zi (g:=3) ⟨Tryz.f213,Tryz.func213,rfl,by kernel_rfl⟩ (by kernel_rfl) (by kernel_rfl) Tryz.strconv_Itoa
def zbw (a0:Int):Option (List UInt8):=itoa a0
def arZ:TFn:=xf
theorem agz:TOk aa4 arZ:=am7
def axw:Env:=(eZ [(275,aiZ),(276,aet),(277,aeP),(213,aa4)] [274])
def arz:Hints:=(hZ [] [])
def aex:PFn:=aG (runF Tryz.prog axw arz Tryz.f210)
theorem ajF:aB Tryz.prog G0 210 aex:=ah (ak ⟨au,(aj aiY (aj aiP (aj akE (aj aa3 ac)))),ap,ac,an⟩ Tryz.func210 rfl (by kernel_rfl))
def ci (Fq Fb Fs:PFn):PFn:=aG (runF Tryz.prog (eZ [(275,aiZ),(276,Fq),(277,Fb),(213,Fs)] [274]) arz Tryz.f210)
theorem lG:aex=ci aet aeP aa4:=rfl
theorem rd (Fq Fb Fs:PFn) (n:Int) (s:List UInt8):ci Fq Fb Fs [.agg [.int .i64 2,.int .i64 n,.str s]]=((Fq [.str s]).bind fun t=>some (t,[AReg.row 132 3 [.agg [.int .i64 2,.int .i64 n,.str s]]])).bind fun p=>bU p.2 p.1:=by kernel_rfl
theorem rc (Fq Fb Fs:PFn) (n:Int) (s:List UInt8):ci Fq Fb Fs [.agg [.int .i64 3,.int .i64 n,.str s]]=((Fb [.bool (n==1)]).bind fun t=>some (t,[AReg.row 132 3 [.agg [.int .i64 3,.int .i64 n,.str s]]])).bind fun p=>bU p.2 p.1:=by kernel_rfl
theorem rf (Fq Fb Fs:PFn) (n:Int) (s:List UInt8):ci Fq Fb Fs [.agg [.int .i64 (Int.ofNat 0),.int .i64 n,.str s]]=((Fs [.int .i64 n]).bind fun t=>some (t,[AReg.row 132 3 [.agg [.int .i64 (Int.ofNat 0),.int .i64 n,.str s]]])).bind fun p=>bU p.2 p.1:=by kernel_rfl
theorem re (Fq Fb Fs:PFn) (n:Int) (s:List UInt8):ci Fq Fb Fs [.agg [.int .i64 (Int.ofNat 1),.int .i64 n,.str s]]=((Fs [.int .i64 n]).bind fun t=>some (t,[AReg.row 132 3 [.agg [.int .i64 (Int.ofNat 1),.int .i64 n,.str s]]])).bind fun p=>bU p.2 p.1:=by kernel_rfl
theorem q9 (Fq Fb Fs:PFn) (k:Nat) (n:Int) (s:List UInt8):ci Fq Fb Fs [.agg [.int .i64 (Int.ofNat (k+4)),.int .i64 n,.str s]]=((Fs [.int .i64 n]).bind fun t=>some (t,[AReg.row 132 3 [.agg [.int .i64 (Int.ofNat (k+4)),.int .i64 n,.str s]]])).bind fun p=>bU p.2 p.1:=by kernel_rfl
theorem qZ (Fq Fb Fs:PFn) (k:Nat) (n:Int) (s:List UInt8):ci Fq Fb Fs [.agg [.int .i64 (Int.negSucc k),.int .i64 n,.str s]]=((Fs [.int .i64 n]).bind fun t=>some (t,[AReg.row 132 3 [.agg [.int .i64 (Int.negSucc k),.int .i64 n,.str s]]])).bind fun p=>bU p.2 p.1:=by kernel_rfl
theorem qY (Fq Fb Fs:PFn) (k n:Int) (s:List UInt8) (h2:k≠2) (h3:k≠3):ci Fq Fb Fs [.agg [.int .i64 k,.int .i64 n,.str s]]=((Fs [.int .i64 n]).bind fun t=>some (t,[AReg.row 132 3 [.agg [.int .i64 k,.int .i64 n,.str s]]])).bind fun p=>bU p.2 p.1:=by
 match k,h2,h3 with
 | .ofNat 0,_,_=>exact rf Fq Fb Fs n s
 | .ofNat 1,_,_=>exact re Fq Fb Fs n s
 | .ofNat 2,h,_=>exact absurd rfl h
 | .ofNat 3,_,h=>exact absurd rfl h
 | .ofNat (k+4),_,_=>exact q9 Fq Fb Fs k n s
 | .negSucc k,_,_=>exact qZ Fq Fb Fs k n s
def zc5 (a0:Int×Int×List UInt8×Unit):Option (List UInt8):=if a0.1=2 then zcp a0.2.2.1 else if a0.1=3 then zbb (a0.2.1==1) else zbw a0.2.1
def aew:TFn:={ ps:=.cons tT18 .unit,res:=.str,fn:=fun v=>zc5 v.1 }
theorem ary:TOk aex aew:=⟨rfl,rfl,rfl,fun v r xs hr hps=>by
 obtain ⟨⟨k,n,s,⟨⟩⟩,⟨⟩⟩:=v
 simp only[R,aew] at hps
 obtain ⟨l1,l2,rfl,⟨cs,rfl,a1,a2,rfl,rfl,a3,a4,rfl,rfl,a5,a6,rfl,rfl,rfl⟩,rfl⟩:=hps
 rw[lG]
 simp only[aew,zc5] at hr
 have done:∀ {o:Option AVal}{t:List UInt8}{st:az},o=some (.str t)→((o.bind fun t=>some (t,st)).bind fun p=>bU p.2 p.1)=some (.str t):=fun h=>by rw[h]; rfl
 simp only[List.cons_append,List.nil_append,List.append_nil]
 split at hr
 · rename_i h; subst h
   obtain ⟨a,h1,h2⟩:=aqk.run (s,()) r [.str s] hr ⟨[.str s],[],rfl,rfl,rfl⟩
   have h2:=agp h2; subst h2
   exact ⟨_,(rd _ _ _ n s).trans (done h1),rfl⟩
 · split at hr
   · rename_i h; subst h
     obtain ⟨a,h1,h2⟩:=atc.run ((n==1),()) r [.bool (n==1)] hr ⟨[.bool (n==1)],[],rfl,rfl,rfl⟩
     have h2:=agp h2; subst h2
     exact ⟨_,(rc _ _ _ n s).trans (done h1),rfl⟩
   · rename_i h g
     obtain ⟨a,h1,h2⟩:=agz.run (n,()) r [.int .i64 n] hr ⟨[.int .i64 n],[],rfl,rfl,rfl⟩
     have h2:=agp h2; subst h2
     exact ⟨_,(qY _ _ _ k n s h g).trans (done h1),rfl⟩⟩
def aeB:PFn:=adj
theorem aa2:aB Tryz.prog G0 211 aeB:=zh ⟨Tryz.f211,Tryz.func211,rfl,by kernel_rfl⟩ Tryz.strings_Join_none Tryz.strings_Join
def zby (a0:List (List UInt8)) (a1:List UInt8):Option (List UInt8):=afT a0 a1
def ajS:TFn:=qe
theorem agy:TOk aeB ajS:=afS
def aip:Env:={ pure:=[],raw:=[(140,abN),(323,ae6)],glob:=G0,same:=[274],look:=[],ext:=[] }
def apK:Hints:=(hZ [(3,[0,3,6,7])] [])
def aio:PFn:=aG (runF Tryz.prog aip apK Tryz.f279)
def aw1:TH:={ joins:=[(7,{ keep:=[(3,(.bx 1 0))],mem:=[.row true 5 (.int .u8),.box 216 tT26] })],loops:=[(3,{ keep:=[(3,(.bx 1 0)),(7,(.int .i64))],mem:=[.row true 5 (.int .u8),.box 216 tT26] })],cuts:=[],ro:=[],news:=[(3,(tT26,[(5,(.int .u8))]))] }
def nJ (a0:List UInt8) (y3:(Int×List Int×vV12×Unit)):Option ((Int×List Int×vV12×Unit)⊕List UInt8) :=
 cond (decide (y3.1<(a0.length:Int))) (
((atI a0 y3.1).bind fun b1 =>
 cond (decide ((b1.toNat:Int)=47)) ((za4 92 (y3.2.2.1.1,(),()) y3.2.1).bind fun q2 =>
 some (.inl (q2.2.2.1,q2.2.1,()))) ((atI a0 y3.1).bind fun b3 =>
 cond (decide ((b3.toNat:Int)=92)) (
(za4 92 (y3.2.2.1.1,(),()) y3.2.1).bind fun q4 =>
 some (.inl (q4.2.2.1,q4.2.1,()))) (
 some (.inl (y3.2.1,y3.2.2.1,())))):Option ((List Int×vV12×Unit)⊕((Int×List Int×vV12×Unit)⊕List UInt8))).bind (bc fun v5 =>
(atI a0 y3.1).bind fun b6 =>
(za4 (b6.toNat:Int) (v5.2.1.1,(),()) v5.1).bind fun q7 =>
 some (.inl ((IntKind.wrap .i64 (y3.1+1)),q7.2.2.1,q7.2.1,())))) (
((za7 (y3.2.2.1.1,(),()) y3.2.1).bind fun q8 =>
 some q8.1).map .inr)
def zcz (a0:List UInt8):Option (List UInt8) :=
 aI (nJ a0) (0,[],(false,(),()),())
def aau:TFn:={ ps:=(.cons .str .unit),res:=.str,fn:=fun v=>zcz v.1 }
def apJ:TEnv:={ pure:=[],look:=[],glob:=G0T,ty:=[],raw:=[(140,pw),(323,qU)],fresh:=[] }
theorem apI:runY Tryz.prog aip apK apJ aw1 Tryz.f279 aau.ps aau.res=aau.fn:=by kernel_rfl
theorem ain:aB Tryz.prog G0 279 aio:=ah (ak ⟨au,ac,(aY tQ (aY abP ap)),ac,an⟩ Tryz.func279 rfl (by kernel_rfl))
theorem apH:TOk aio aau:=aA (E:=aip) (ET:=apJ) (EnvT.ofX (ax al) am (bn abM rfl rfl (bn agI rfl rfl ar)) aM aq) apI rfl
def ah2:Env:={ pure:=[(279,aio)],raw:=[],glob:=G0,same:=[274],look:=[(211,aeB)],ext:=[] }
def apb:Hints:=(hZ [(3,[3,6,7,8])] [])
def ah1:PFn:=aG (runF Tryz.prog ah2 apb Tryz.f212)
def awS:TH:={ loops:=[(3,{ keep:=[(3,(.own 0)),(8,(.int .i64))],mem:=[.row true 9 .str] })],ro:=[] }
def vP (a0:List (List UInt8)) (y3:(Int×List (List UInt8)×Unit)):Option ((Int×List (List UInt8)×Unit)⊕List UInt8) :=
 cond (decide (y3.1<(a0.length:Int))) (
(atI a0 y3.1).bind fun x1 =>
(zcz x1).bind fun r2 =>
(bP (y3.2.1.length+([r2]:List (List UInt8)).length)).bind fun u3 =>
 some (.inl ((IntKind.wrap .i64 (y3.1+1)),(y3.2.1++([r2]:List (List UInt8))),()))) (
((zby y3.2.1 [47]).bind fun r4 =>
 some r4).map .inr)
def zde (a0:List (List UInt8)):Option (List UInt8) :=
 aI (vP a0) (0,[],())
def aal:TFn:={ ps:=(.cons (.sl .str) .unit),res:=.str,fn:=fun v=>zde v.1 }
def apa:TEnv:={ pure:=[(279,aau)],look:=[(211,ajS)],glob:=G0T,ty:=[(9,.str)],raw:=[],fresh:=[] }
theorem ao9:runY Tryz.prog ah2 apb apa awS Tryz.f212 aal.ps aal.res=aal.fn:=by kernel_rfl
theorem ah0:aB Tryz.prog G0 212 ah1:=ah (ak ⟨au,(aj ain ac),ap,(aj aa2 ac),an⟩ Tryz.func212 rfl (by kernel_rfl))
theorem ao8:TOk ah1 aal:=aA (E:=ah2) (ET:=apa) (EnvT.ofX (ax (ai apH al)) (jZ agy rfl am) ar aM aq) ao9 rfl
def ahZ:Env:={ pure:=[(210,aex),(212,ah1),(213,aa4)],raw:=[],glob:=G0,same:=[274],look:=[(211,aeB)],ext:=[] }
def ao7:Hints:=(hZ [(3,[1,3,8,9,10])] [])
def ahY:PFn:=aG (runF Tryz.prog ahZ ao7 Tryz.f139)
def awR:TH:={ joins:=[(7,{ keep:=[(1,(.bx 0 0)),(3,(.own 2))],mem:=[.same,.gone,.row true 9 .str] })],loops:=[(3,{ keep:=[(1,(.bx 0 0)),(3,(.own 2)),(10,(.int .i64))],mem:=[.same,.gone,.row true 9 .str] })],ro:=[1] }
def vO (a0:vV2) (y3:(Int×List (List UInt8)×Unit)):Option ((Int×List (List UInt8)×Unit)⊕((List (List UInt8)×Unit)⊕List UInt8)) :=
 cond (decide (y3.1<(a0.2.2.1.length:Int))) (
(atI a0.2.2.1 y3.1).bind fun x1 =>
(zc5 x1).bind fun r2 =>
(bP (y3.2.1.length+([r2]:List (List UInt8)).length)).bind fun u3 =>
 some (.inl ((IntKind.wrap .i64 (y3.1+1)),(y3.2.1++([r2]:List (List UInt8))),()))) (
 some (.inr (.inl (y3.2.1,()))))
def zdf (a0:vV2):Option (List UInt8) :=
(aI (vO a0) (0,[],()):Option ((List (List UInt8)×Unit)⊕List UInt8)).bind (bc fun v4 =>
(zby v4.1 [32]).bind fun r5 =>
 cond (decide (a0.2.1=1)) (
(zde a0.1).bind fun r6 =>
(catT r6 [32,61,32]).bind fun s7 =>
(catT s7 r5).bind fun s8 =>
 some s8) (
 cond (decide (a0.2.1=2)) (
(zde a0.1).bind fun r9 =>
(catT r9 [32,58,32]).bind fun s10 =>
(catT s10 r5).bind fun s11 =>
 some s11) (
(zde a0.1).bind fun r12 =>
(catT r12 [32,35,32]).bind fun s13 =>
(zbw a0.2.2.2.1).bind fun r14 =>
(catT s13 r14).bind fun s15 =>
 some s15)))
def aak:TFn:={ ps:=(.cons tT16 .unit),res:=.str,fn:=fun v=>zdf v.1 }
def ao6:TEnv:={ pure:=[(210,aew),(212,aal),(213,arZ)],look:=[(211,ajS)],glob:=G0T,ty:=[(9,.str)],raw:=[],fresh:=[] }
theorem ao5:runY Tryz.prog ahZ ao7 ao6 awR Tryz.f139 aak.ps aak.res=aak.fn:=by kernel_rfl
theorem ahX:aB Tryz.prog G0 139 ahY:=ah (ak ⟨au,(aj ajF (aj ah0 (aj aa3 ac))),ap,(aj aa2 ac),an⟩ Tryz.func139 rfl (by kernel_rfl))
theorem ao4:TOk ahY aak:=aA (E:=ahZ) (ET:=ao6) (EnvT.ofX (ax (ai ary (ai ao8 (ai agz al)))) (jZ agy rfl am) ar aM aq) ao5 rfl
def amB:Env:={ pure:=[],raw:=[(209,abR)],glob:=G0,same:=[274],look:=[],ext:=[] }
def avQ:Hints:=(hZ [] [])
def amA:SFn:=runF Tryz.prog amB avQ Tryz.f138
def ayy:TH:=yZ
def za1 (a1:List UInt8) (w0:vV12) (w1:List Int):Option ((Int×Bool×Unit)×vV12×List Int×Unit) :=
(za3 w0 w1).bind fun q1 =>
(bP (q1.2.2.1.length+(a1.map fun b=>(b.toNat:Int)).length)).bind fun u2 =>
 some (((a1.length:Int),false,()),(q1.2.1.1,(),()),(q1.2.2.1++(a1.map fun b=>(b.toNat:Int))),())
def tW:TRaw:={ ps:=(.cons (.bx 0 0) (.cons .str .unit)),ins:=[.box 216 tT24,.row true 5 (.int .u8)],res:=(.tup (.cons (.int .i64) (.cons .err .unit))),outs:=[.box 216 tT24,.row true 5 (.int .u8)],fn:=fun v w=>za1 v.2.1 w.1 w.2.1 }
def avP:TEnv:={ pure:=[],look:=[],glob:=G0T,ty:=[(5,(.int .u8))],raw:=[(209,px)],fresh:=[] }
theorem avO:rawY Tryz.prog amB avQ avP ayy [(0,0)] Tryz.f138 tW.ps tW.ins tW.res tW.outs=tW.fn:=by kernel_rfl
theorem amz:bw Tryz.prog G0 138 amA:=ak ⟨au,ac,(aY tU ap),ac,an⟩ Tryz.func138 rfl (by kernel_rfl)
theorem avN:TRawOk amA tW:=iy (E:=amB) (ET:=avP) (EnvT.ofX (ax al) am (bn abQ rfl rfl ar) aM aq) avO
def aiX:Env:={ pure:=[(139,ahY)],raw:=[(138,amA),(140,abN)],glob:=G0,same:=[274],look:=[],ext:=[] }
def aqy:Hints:=(hZ [(3,[3,6,7,8])] [])
def aiW:PFn:=aG (runF Tryz.prog aiX aqy Tryz.f69)
def axe:TH:={ joins:=[(7,{ keep:=[(3,(.bx 1 0)),(5,(.bx 2 0))],mem:=[.row true 5 (.int .u8),.box 216 tT26,.box 127 tT23] })],loops:=[(3,{ keep:=[(3,(.bx 1 0)),(8,(.int .i64))],mem:=[.row true 5 (.int .u8),.box 216 tT26] })],cuts:=[],ro:=[],news:=[(3,(tT26,[(5,(.int .u8))]))] }
def vY (a0:List vV9) (y3:(Int×List Int×vV12×Unit)):Option ((Int×List Int×vV12×Unit)⊕List UInt8) :=
 cond (decide (y3.1<(a0.length:Int))) (
(atI a0 y3.1).bind fun x1 =>
(cond (!decide (x1.1=1)) (
(zdf x1.2.1).bind fun r2 =>
(catT [45,32] r2).bind fun s3 =>
(catT s3 [10]).bind fun s4 =>
(za1 s4 (y3.2.2.1.1,(),()) y3.2.1).bind fun q5 =>
 some (.inl (q5.2.2.1,q5.2.1,x1,()))) (
 some (.inl (y3.2.1,y3.2.2.1,x1,()))):Option ((List Int×vV12×vV9×Unit)⊕((Int×List Int×vV12×Unit)⊕List UInt8))).bind (bc fun v6 =>
 cond (!decide (v6.2.2.1.1=2)) (
(zdf v6.2.2.1.2.2.1).bind fun r7 =>
(catT [43,32] r7).bind fun s8 =>
(catT s8 [10]).bind fun s9 =>
(za1 s9 (v6.2.1.1,(),()) v6.1).bind fun q10 =>
 some (.inl ((IntKind.wrap .i64 (y3.1+1)),q10.2.2.1,q10.2.1,()))) (
 some (.inl ((IntKind.wrap .i64 (y3.1+1)),v6.1,v6.2.1,()))))) (
((za7 (y3.2.2.1.1,(),()) y3.2.1).bind fun q11 =>
 some q11.1).map .inr)
def zcm (a0:List vV9):Option (List UInt8) :=
 aI (vY a0) (0,[],(false,(),()),())
def aaF:TFn:={ ps:=(.cons (.sl tT23) .unit),res:=.str,fn:=fun v=>zcm v.1 }
def aqx:TEnv:={ pure:=[(139,aak)],look:=[],glob:=G0T,ty:=[],raw:=[(138,tW),(140,pw)],fresh:=[] }
theorem aqw:runY Tryz.prog aiX aqy aqx axe Tryz.f69 aaF.ps aaF.res=aaF.fn:=by kernel_rfl
theorem aiV:aB Tryz.prog G0 69 aiW:=ah (ak ⟨au,(aj ahX ac),(aY amz (aY tQ ap)),ac,an⟩ Tryz.func69 rfl (by kernel_rfl))
theorem aqv:TOk aiW aaF:=aA (E:=aiX) (ET:=aqx) (EnvT.ofX (ax (ai ao4 al)) am (bn avN rfl rfl (bn abM rfl rfl ar)) aM aq) aqw rfl
def akc:Env:=(eZ [(114,zT)] [274])
def asu:Hints:=(hZ [(6,[2,3,6,26,27,28]),(9,[2,3,6,26,27,28,33,34,35]),(16,[3,6,11,45,46,47])] [])
def akb:PFn:=aG (runF Tryz.prog akc asu Tryz.f53)
def axM:TH:={ joins:=[(14,{ keep:=[(2,(.bx 0 0)),(3,(.bx 1 0)),(6,(.mp 2))],mem:=[.same,.same,.map tT15 .bool] })],loops:=[(6,{ keep:=[(2,(.bx 0 0)),(3,(.bx 1 0)),(6,(.mp 2)),(28,(.int .i64))],mem:=[.same,.same,.map tT15 .bool] }),(9,{ keep:=[(2,(.bx 0 0)),(3,(.bx 1 0)),(6,(.mp 2)),(35,(.int .i64))],mem:=[.same,.same,.map tT15 .bool,.gone] }),(16,{ keep:=[(3,(.bx 1 0)),(6,(.mp 2)),(11,(.own 4)),(47,(.int .i64))],mem:=[.same,.same,.map tT15 .bool,.gone,.row true 72 tT15] })],ro:=[2,3] }
def wn (y6:(Int×List ((Int×Int×Unit)×Bool)×Unit)) (x3:vV0) (y9:(Int×List ((Int×Int×Unit)×Bool)×Unit)):Option ((Int×List ((Int×Int×Unit)×Bool)×Unit)⊕((Int×List ((Int×Int×Unit)×Bool)×Unit)⊕((List ((Int×Int×Unit)×Bool)×Unit)⊕List (Int×Int×Unit)))) :=
 cond (decide (y9.1<(x3.2.2.2.2.1.length:Int))) (
(atI x3.2.2.2.2.1 y9.1).bind fun x4 =>
 some (.inl ((IntKind.wrap .i64 (y9.1+1)),(putK tT15 x4.1 true y9.2.1),()))) (
 some (.inr (.inl ((IntKind.wrap .i64 (y6.1+1)),y9.2.1,()))))
def qN (x2:vV4) (y6:(Int×List ((Int×Int×Unit)×Bool)×Unit)):Option ((Int×List ((Int×Int×Unit)×Bool)×Unit)⊕((List ((Int×Int×Unit)×Bool)×Unit)⊕List (Int×Int×Unit))) :=
 cond (decide (y6.1<(x2.2.2.2.2.1.length:Int))) (
(atI x2.2.2.2.2.1 y6.1).bind fun x3 =>
 aI (wn y6 x3) (0,y6.2.1,())) (
 some (.inr (.inl (y6.2.1,()))))
def pn (a0:vV1) (a1:(Int×Int×Unit)) (y16:(Int×List ((Int×Int×Unit)×Bool)×List (Int×Int×Unit)×Unit)):Option ((Int×List ((Int×Int×Unit)×Bool)×List (Int×Int×Unit)×Unit)⊕List (Int×Int×Unit)) :=
 cond (decide (y16.1<(a0.1.length:Int))) (
(atI a0.1 y16.1).bind fun x6 =>
 cond ((getK tT15 false x6.1 y16.2.1).1) (cond (!(eqV tT15 x6.1 a1)) (
(bP (y16.2.2.1.length+([x6.1]:List (Int×Int×Unit)).length)).bind fun u7 =>
 some (.inl ((IntKind.wrap .i64 (y16.1+1)),y16.2.1,(y16.2.2.1++([x6.1]:List (Int×Int×Unit))),()))) (
 some (.inl ((IntKind.wrap .i64 (y16.1+1)),y16.2.1,y16.2.2.1,())))) (some (.inl ((IntKind.wrap .i64 (y16.1+1)),y16.2.1,y16.2.2.1,())))) (
 some (.inr y16.2.2.1))
def zbn (a0:vV1) (a1:(Int×Int×Unit)):Option (List (Int×Int×Unit)) :=
(zdx a0.1 a1).bind fun r1 =>
 cond (decide (r1<0)) (
 some []) (
((atI a0.1 r1).bind fun x2 =>
 aI (qN x2) (0,[],()):Option ((List ((Int×Int×Unit)×Bool)×Unit)⊕List (Int×Int×Unit))).bind (bc fun v5 =>
 aI (pn a0 a1) (0,v5.1,[],())))
def abf:TFn:={ ps:=(.cons tT13 (.cons tT15 .unit)),res:=(.sl tT15),fn:=fun v=>zbn v.1 v.2.1 }
def ast:TEnv:={ pure:=[(114,tD)],look:=[],glob:=G0T,ty:=[(4,.bool),(72,tT15)],raw:=[],fresh:=[] }
theorem ass:runY Tryz.prog akc asu ast axM Tryz.f53 abf.ps abf.res=abf.fn:=by kernel_rfl
theorem aka:aB Tryz.prog G0 53 akb:=ah (ak ⟨au,(aj tE ac),ap,ac,an⟩ Tryz.func53 rfl (by kernel_rfl))
theorem asr:TOk akb abf:=aA (E:=akc) (ET:=ast) (EnvT.ofX (ax (ai zS al)) am ar aM aq) ass rfl
def aml:Env:=(eZ [] [274])
def avn:Hints:=(hZ [] [])
def amk:PFn:=aG (runF Tryz.prog aml avn Tryz.f123)
def ayq:TH:={ loops:=[],ro:=[2] }
def za9 (a0:vV3) (a1:(Int×Int×Unit)):Option Bool :=
 some (eqV tT15 a0.1 a1)
def abL:TFn:={ ps:=(.cons tT17 (.cons (.rp tT15 0) .unit)),res:=.bool,fn:=fun v=>za9 v.1 v.2.1 }
def avm:TEnv:=(vZ [])
theorem avl:runY Tryz.prog aml avn avm ayq Tryz.f123 abL.ps abL.res=abL.fn:=by kernel_rfl
theorem amj:aB Tryz.prog G0 123 amk:=ah (ak ⟨au,ac,ap,ac,an⟩ Tryz.func123 rfl (by kernel_rfl))
theorem avk:TOk amk abL:=aA (E:=aml) (ET:=avm) (EnvT.ofX (ax al) am ar aM aq) avl rfl
def alV:Env:=(eZ [(123,amk)] [274])
def auN:Hints:=(hZ [(2,[0,1,7,8])] [])
def alU:PFn:=aG (runF Tryz.prog alV auN Tryz.f199)
def ayh:TH:={ loops:=[(2,{ keep:=[(8,(.int .i64))],mem:=[] })],ro:=[] }
def wD (a0:List vV3) (a1:((Int×Int×Unit)×Unit)) (y2:(Int×Unit)):Option ((Int×Unit)⊕Int) :=
 cond (decide (y2.1<(a0.length:Int))) (
(atI a0 y2.1).bind fun x1 =>
(za9 x1 a1.1).bind fun r2 =>
 cond r2 (
 some (.inr y2.1)) (
 some (.inl ((IntKind.wrap .i64 (y2.1+1)),())))) (
 some (.inr (-1)))
def zai (a0:List vV3) (a1:((Int×Int×Unit)×Unit)):Option Int :=
 aI (wD a0 a1) (0,())
def abD:TFn:={ ps:=(.cons (.sl tT17) (.cons (.cl 123 (.cons (.rp tT15 0) .unit)) .unit)),res:=(.int .i64),fn:=fun v=>zai v.1 v.2.1 }
def auM:TEnv:=(vZ [(123,abL)])
theorem auL:runY Tryz.prog alV auN auM ayh Tryz.f199 abD.ps abD.res=abD.fn:=by kernel_rfl
theorem alT:aB Tryz.prog G0 199 alU:=ah (ak ⟨au,(aj amj ac),ap,ac,an⟩ Tryz.func199 rfl (by kernel_rfl))
theorem auK:TOk alU abD:=aA (E:=alV) (ET:=auM) (EnvT.ofX (ax (ai avk al)) am ar aM aq) auL rfl
def al2:Env:=(eZ [(199,alU)] [274])
def auW:Hints:=(hZ [] [])
def al1:PFn:=aG (runF Tryz.prog al2 auW Tryz.f122)
def ayj:TH:=yZ
def zag (a0:List vV3) (a1:((Int×Int×Unit)×Unit)):Option Bool :=
(zai a0 a1).bind fun r1 =>
 some (decide (r1≥0))
def abE:TFn:={ ps:=(.cons (.sl tT17) (.cons (.cl 123 (.cons (.rp tT15 0) .unit)) .unit)),res:=.bool,fn:=fun v=>zag v.1 v.2.1 }
def auV:TEnv:=(vZ [(199,abD)])
theorem auU:runY Tryz.prog al2 auW auV ayj Tryz.f122 abE.ps abE.res=abE.fn:=by kernel_rfl
theorem al0:aB Tryz.prog G0 122 al1:=ah (ak ⟨au,(aj alT ac),ap,ac,an⟩ Tryz.func122 rfl (by kernel_rfl))
theorem auT:TOk al1 abE:=aA (E:=al2) (ET:=auV) (EnvT.ofX (ax (ai auK al)) am ar aM aq) auU rfl
def akD:Env:=(eZ [(122,al1)] [274])
def atb:Hints:=(hZ [] [])
def akC:PFn:=aG (runF Tryz.prog akD atb Tryz.f121)
def axW:TH:={ loops:=[],ro:=[2] }
def zbc (a0:vV0) (a1:(Int×Int×Unit)):Option Bool :=
(zag a0.2.2.2.2.1 (a1,())).bind fun r1 =>
 some r1
def abn:TFn:={ ps:=(.cons tT14 (.cons (.rp tT15 0) .unit)),res:=.bool,fn:=fun v=>zbc v.1 v.2.1 }
def ata:TEnv:=(vZ [(122,abE)])
theorem as9:runY Tryz.prog akD atb ata axW Tryz.f121 abn.ps abn.res=abn.fn:=by kernel_rfl
theorem akB:aB Tryz.prog G0 121 akC:=ah (ak ⟨au,(aj al0 ac),ap,ac,an⟩ Tryz.func121 rfl (by kernel_rfl))
theorem as8:TOk akC abn:=aA (E:=akD) (ET:=ata) (EnvT.ofX (ax (ai auT al)) am ar aM aq) as9 rfl
def alJ:Env:=(eZ [(121,akC)] [274])
def auB:Hints:=(hZ [(2,[0,1,7,8])] [])
def alI:PFn:=aG (runF Tryz.prog alJ auB Tryz.f198)
def ayf:TH:={ loops:=[(2,{ keep:=[(8,(.int .i64))],mem:=[] })],ro:=[] }
def wC (a0:List vV0) (a1:((Int×Int×Unit)×Unit)) (y2:(Int×Unit)):Option ((Int×Unit)⊕Int) :=
 cond (decide (y2.1<(a0.length:Int))) (
(atI a0 y2.1).bind fun x1 =>
(zbc x1 a1.1).bind fun r2 =>
 cond r2 (
 some (.inr y2.1)) (
 some (.inl ((IntKind.wrap .i64 (y2.1+1)),())))) (
 some (.inr (-1)))
def zam (a0:List vV0) (a1:((Int×Int×Unit)×Unit)):Option Int :=
 aI (wC a0 a1) (0,())
def abB:TFn:={ ps:=(.cons (.sl tT14) (.cons (.cl 121 (.cons (.rp tT15 0) .unit)) .unit)),res:=(.int .i64),fn:=fun v=>zam v.1 v.2.1 }
def auA:TEnv:=(vZ [(121,abn)])
theorem auz:runY Tryz.prog alJ auB auA ayf Tryz.f198 abB.ps abB.res=abB.fn:=by kernel_rfl
theorem alH:aB Tryz.prog G0 198 alI:=ah (ak ⟨au,(aj akB ac),ap,ac,an⟩ Tryz.func198 rfl (by kernel_rfl))
theorem auy:TOk alI abB:=aA (E:=alJ) (ET:=auA) (EnvT.ofX (ax (ai as8 al)) am ar aM aq) auz rfl
def alS:Env:=(eZ [(198,alI)] [274])
def auJ:Hints:=(hZ [] [])
def alR:PFn:=aG (runF Tryz.prog alS auJ Tryz.f120)
def ayg:TH:=yZ
def zaj (a0:List vV0) (a1:((Int×Int×Unit)×Unit)):Option Bool :=
(zam a0 a1).bind fun r1 =>
 some (decide (r1≥0))
def abC:TFn:={ ps:=(.cons (.sl tT14) (.cons (.cl 121 (.cons (.rp tT15 0) .unit)) .unit)),res:=.bool,fn:=fun v=>zaj v.1 v.2.1 }
def auI:TEnv:=(vZ [(198,abB)])
theorem auH:runY Tryz.prog alS auJ auI ayg Tryz.f120 abC.ps abC.res=abC.fn:=by kernel_rfl
theorem alQ:aB Tryz.prog G0 120 alR:=ah (ak ⟨au,(aj alH ac),ap,ac,an⟩ Tryz.func120 rfl (by kernel_rfl))
theorem auG:TOk alR abC:=aA (E:=alS) (ET:=auI) (EnvT.ofX (ax (ai auy al)) am ar aM aq) auH rfl
def aky:Env:=(eZ [(120,alR)] [274])
def as3:Hints:={ seqs:=[],loops:=[(3,[3,5,9,10,11])],own:=[],frz:=[(1,[3])] }
def akx:PFn:=aG (runF Tryz.prog aky as3 Tryz.f54)
def axU:TH:={ loops:=[(3,{ keep:=[(5,(.own 3)),(11,(.int .i64))],mem:=[.same,.gone,.gone,.row true 72 tT15] })],ro:=[2] }
def ww (a0:vV1) (a1:(Int×Int×Unit)) (y3:(Int×List (Int×Int×Unit)×Unit)):Option ((Int×List (Int×Int×Unit)×Unit)⊕List (Int×Int×Unit)) :=
 cond (decide (y3.1<(a0.1.length:Int))) (
(atI a0.1 y3.1).bind fun x1 =>
 cond (!(eqV tT15 x1.1 a1)) ((zaj x1.2.2.2.2.1 (a1,())).bind fun r2 =>
 cond r2 (
(bP (y3.2.1.length+([x1.1]:List (Int×Int×Unit)).length)).bind fun u3 =>
 some (.inl ((IntKind.wrap .i64 (y3.1+1)),(y3.2.1++([x1.1]:List (Int×Int×Unit))),()))) (
 some (.inl ((IntKind.wrap .i64 (y3.1+1)),y3.2.1,())))) (some (.inl ((IntKind.wrap .i64 (y3.1+1)),y3.2.1,())))) (
 some (.inr y3.2.1))
def zbe (a0:vV1) (a1:(Int×Int×Unit)):Option (List (Int×Int×Unit)) :=
 aI (ww a0 a1) (0,[],())
def abl:TFn:={ ps:=(.cons tT13 (.cons tT15 .unit)),res:=(.sl tT15),fn:=fun v=>zbe v.1 v.2.1 }
def as0:TEnv:={ pure:=[(120,abC)],look:=[],glob:=G0T,ty:=[(72,tT15)],raw:=[],fresh:=[] }
theorem asZ:runY Tryz.prog aky as3 as0 axU Tryz.f54 abl.ps abl.res=abl.fn:=by kernel_rfl
theorem akw:aB Tryz.prog G0 54 akx:=ah (ak ⟨au,(aj alQ ac),ap,ac,an⟩ Tryz.func54 rfl (by kernel_rfl))
theorem asY:TOk akx abl:=aA (E:=aky) (ET:=as0) (EnvT.ofX (ax (ai auG al)) am ar aM aq) asZ rfl
def akX:Env:=(eZ [(53,akb),(54,akx),(59,aez),(69,aiW),(97,ahU),(119,aib)] [274])
def atN:Hints:=(hZ [] [])
def akW:PFn:=aG (runF Tryz.prog akX atN Tryz.f51)
def ax6:TH:={ loops:=[],cuts:=[(3,[(7,{ keep:=[(1,(.bx 0 0)),(24,.bool)],mem:=[.box 69 tT13] })])],ro:=[],news:=[] }
def zb2:Option Bool :=
(zda 1 1 []).bind fun r1 =>
(zdh ([],[],([0,0,0,0,0,0,0,0,0,0,0,0,0,0,0,0],[],()),([0,0,0,0,0,0,0,0,0,0,0,0,0,0,0,0],[],()),[[],[],[],[],[],[],[],[]],()) r1).bind fun r2 =>
(zda 2 2 ([((0,1,()),0,())]:List vV3)).bind fun r3 =>
(zdh r2 r3).bind fun r4 =>
(zc0 r4 (0,2,()) false).bind fun r5 =>
(cond (decide (r5.2.1=0)) ((zcm r5.1).bind fun r6 =>
 some ((decide (r6=[45,32,97,32,61,32,50,10,43,32,97,32,61,32,49,10])),r4,())) (some (false,r4,())):Option (Bool×vV1×Unit)).bind fun v7 =>
 cond v7.1 ((zbn v7.2.1 (0,2,())).bind fun r8 =>
 cond (decide ((r8.length:Int)=1)) ((zbe v7.2.1 (0,1,())).bind fun r9 =>
 some (decide ((r9.length:Int)=1))) (some false)) (some false)
def abu:TFn:={ ps:=.unit,res:=.bool,fn:=fun v=>zb2  }
def atL:TEnv:={ pure:=[(53,abf),(54,abl),(59,yc),(69,aaF),(97,aah),(119,aap)],look:=[],glob:=G0T,ty:=[(146,tT17)],raw:=[],fresh:=[] }
theorem atK:runY Tryz.prog akX atN atL ax6 Tryz.f51 abu.ps abu.res=abu.fn:=by kernel_rfl
theorem akV:aB Tryz.prog G0 51 akW:=ah (ak ⟨au,(aj aka (aj akw (aj aa0 (aj aiV (aj ahT (aj aia ac)))))),ap,ac,an⟩ Tryz.func51 rfl (by kernel_rfl))
theorem atJ:TOk akW abu:=aA (E:=akX) (ET:=atL) (EnvT.ofX (ax (ai asr (ai asY (ai agw (ai aqv (ai aoX (ai apn al))))))) am ar aM aq) atK rfl
def eW (a0:List (Int×Int×Unit)) (a1:(Int×Int×Unit)) (y2:(Int×Unit)):Option ((Int×Unit)⊕Bool) :=
 cond (decide (y2.1<(a0.length:Int))) (
(atI a0 y2.1).bind fun x1 =>
 cond (eqV tT15 x1 a1) (
 some (.inr true)) (
 some (.inl ((IntKind.wrap .i64 (y2.1+1)),())))) (
 some (.inr false))
def jh (a0:List (Int×Int×Unit)) (a1:(Int×Int×Unit)):Option Bool :=
 aI (eW a0 a1) (0,())
def jS (a0:List (List UInt8)) (a1:List (List UInt8)):Option Bool :=
 cond (decide ((a0.length:Int)≥(a1.length:Int))) ((subI a0 0 (a1.length:Int)).bind fun s1 =>
(zaz s1 a1).bind fun r2 =>
 some r2) (some false)
def cQ (a0:List vV6) (a1:List (List UInt8)) (a2:Int) (y3:(Int×List vV6×Unit)):Option ((Int×List vV6×Unit)⊕List vV6) :=
 cond (decide (y3.1<(a0.length:Int))) (
(atI a0 y3.1).bind fun x1 =>
(jS x1.1 a1).bind fun r2 =>
 cond r2 (cond (decide (a2=0)) ((bP (y3.2.1.length+([x1]:List vV6).length)).bind fun u3 =>
 some (.inl ((IntKind.wrap .i64 (y3.1+1)),(y3.2.1++([x1]:List vV6)),()))) (cond (decide (x1.2.1=a2)) (
(bP (y3.2.1.length+([x1]:List vV6).length)).bind fun u4 =>
 some (.inl ((IntKind.wrap .i64 (y3.1+1)),(y3.2.1++([x1]:List vV6)),()))) (
 some (.inl ((IntKind.wrap .i64 (y3.1+1)),y3.2.1,()))))) (some (.inl ((IntKind.wrap .i64 (y3.1+1)),y3.2.1,())))) (
 some (.inr y3.2.1))
def fN (a0:List vV6) (a1:List (List UInt8)) (a2:Int):Option (List vV6) :=
 aI (cQ a0 a1 a2) (0,[],())
def dL (a0:List (List UInt8)) (a1:List (List UInt8)) (y4:(Int×Unit)):Option ((Int×Unit)⊕Bool) :=
 cond (decide (y4.1<(a1.length:Int))) (
(atI a0 y4.1).bind fun x1 =>
(atI a1 y4.1).bind fun x2 =>
 cond (!decide (x1=x2)) (
 some (.inr false)) (
 some (.inl ((IntKind.wrap .i64 (y4.1+1)),())))) (
 some (.inr true))
def ix (a0:List (List UInt8)) (a1:List (List UInt8)):Option Bool :=
 cond (decide ((a1.length:Int)>(a0.length:Int))) (
 some false) (
 aI (dL a0 a1) (0,()))
def aiI:Env:=(eZ [] [274])
def aqb:Hints:=(hZ [(4,[0,1,5])] [])
def aiH:PFn:=aG (runF Tryz.prog aiI aqb Tryz.f58)
def aw8:TH:={ loops:=[(4,{ keep:=[(5,(.int .i64))],mem:=[] })],ro:=[] }
def vV (a0:List (List UInt8)) (a1:List (List UInt8)) (y4:(Int×Unit)):Option ((Int×Unit)⊕Bool) :=
 cond (decide (y4.1<(a0.length:Int))) (
(atI a0 y4.1).bind fun x1 =>
(atI a1 y4.1).bind fun x2 =>
 cond (!decide (x1=x2)) (
 some (.inr false)) (
 some (.inl ((IntKind.wrap .i64 (y4.1+1)),())))) (
 some (.inr true))
def zcs (a0:List (List UInt8)) (a1:List (List UInt8)):Option Bool :=
 cond (!decide ((a0.length:Int)=(a1.length:Int))) (
 some false) (
 aI (vV a0 a1) (0,()))
def aaA:TFn:={ ps:=(.cons (.sl .str) (.cons (.sl .str) .unit)),res:=.bool,fn:=fun v=>zcs v.1 v.2.1 }
def aqa:TEnv:=(vZ [])
theorem ap9:runY Tryz.prog aiI aqb aqa aw8 Tryz.f58 aaA.ps aaA.res=aaA.fn:=by kernel_rfl
theorem aiG:aB Tryz.prog G0 58 aiH:=ah (ak ⟨au,ac,ap,ac,an⟩ Tryz.func58 rfl (by kernel_rfl))
theorem ap8:TOk aiH aaA:=aA (E:=aiI) (ET:=aqa) (EnvT.ofX (ax al) am ar aM aq) ap9 rfl
def bu (a0:vV1) (a2:(Int×Int×Unit)) (y5:(Bool×Int×Unit)):Option ((Bool×Int×Unit)⊕((Bool×Unit)⊕Bool)) :=
 cond (decide (y5.2.1<(a0.1.length:Int))) (
 cond y5.1 (some (.inl (true,(IntKind.wrap .i64 (y5.2.1+1)),()))) ((atI a0.1 y5.2.1).bind fun x5 =>
 some (.inl ((eqV tT15 x5.1 a2),(IntKind.wrap .i64 (y5.2.1+1)),())))) (
 some (.inr (.inl (y5.1,()))))
def bf (a3:List (List UInt8)) (a4:Int) (r13:List vV6) (r14:List vV6) (y15:(Int×Int×Unit)):Option ((Int×Int×Unit)⊕((Int×Unit)⊕Bool)) :=
 cond (decide (y15.2.1<(r13.length:Int))) (
(atI r13 y15.2.1).bind fun x15 =>
(ix x15.1 a3).bind fun r16 =>
 cond r16 (cond (decide (a4=0)) ((cond (decide (y15.1≥(r14.length:Int))) (some (true,())) ((atI r14 y15.1).bind fun x17 =>
(atI r13 y15.2.1).bind fun x18 =>
 some ((!decide (x17.2.1=x18.2.1)),())):Option (Bool×Unit)).bind fun v19 =>
 cond v19.1 (some (.inr (.inr false))) ((atI r14 y15.1).bind fun x20 =>
(atI r13 y15.2.1).bind fun x21 =>
(zcs x20.1 x21.1).bind fun r22 =>
 cond (!r22) (
 some (.inr (.inr false))) (
 some (.inl ((IntKind.wrap .i64 (y15.1+1)),(IntKind.wrap .i64 (y15.2.1+1)),()))))) ((atI r13 y15.2.1).bind fun x23 =>
 cond (decide (x23.2.1=a4)) (
(cond (decide (y15.1≥(r14.length:Int))) (some (true,())) ((atI r14 y15.1).bind fun x24 =>
(atI r13 y15.2.1).bind fun x25 =>
 some ((!decide (x24.2.1=x25.2.1)),())):Option (Bool×Unit)).bind fun v26 =>
 cond v26.1 (some (.inr (.inr false))) ((atI r14 y15.1).bind fun x27 =>
(atI r13 y15.2.1).bind fun x28 =>
(zcs x27.1 x28.1).bind fun r29 =>
 cond (!r29) (
 some (.inr (.inr false))) (
 some (.inl ((IntKind.wrap .i64 (y15.1+1)),(IntKind.wrap .i64 (y15.2.1+1)),()))))) (
 some (.inl (y15.1,(IntKind.wrap .i64 (y15.2.1+1)),()))))) (some (.inl (y15.1,(IntKind.wrap .i64 (y15.2.1+1)),())))) (
 some (.inr (.inl (y15.1,()))))
def de (a0:vV1) (a1:(Int×Int×Unit)) (a2:(Int×Int×Unit)) (a3:List (List UInt8)) (a4:Int):Option Bool :=
(zc2 a0).bind fun r1 =>
 cond (!r1) ((zb2).bind fun r2 =>
 some r2) ((zcq a3).bind fun r3 =>
 cond (!r3) (
(zb2).bind fun r4 =>
 some r4) (
(aI (bu a0 a2) (false,0,()):Option ((Bool×Unit)⊕Bool)).bind (bc fun v6 =>
(zbn a0 a1).bind fun r7 =>
(jh r7 a2).bind fun r8 =>
(zbe a0 a2).bind fun r9 =>
(jh r9 a1).bind fun r10 =>
(cond r10 (cond (!(r8==v6.1)) (
 some (.inr false)) (
 some (.inl ()))) (cond (!(r8==false)) (
 some (.inr false)) (
 some (.inl ()))):Option (Unit⊕Bool)).bind (bc fun v11 =>
(zcn a0).bind fun r12 =>
(zb7 r12).bind fun r13 =>
(fN r13 a3 a4).bind fun r14 =>
(aI (bf a3 a4 r13 r14) (0,0,()):Option ((Int×Unit)⊕Bool)).bind (bc fun v30 =>
 cond (decide (v30.1=(r14.length:Int))) ((zb2).bind fun r31 =>
 some r31) (some false))))))
def cN:TFn:={ ps:=(.cons tT13 (.cons tT15 (.cons tT15 tT22))),res:=.bool,fn:=fun v=>de v.1 v.2.1 v.2.2.1 v.2.2.2.1 v.2.2.2.2.1 }
def ahM:Env:=(eZ [] [274])
def aoO:Hints:=(hZ [(3,[3,6,7,8])] [])
def ahL:PFn:=aG (runF Tryz.prog ahM aoO Tryz.f206)
def awM:TH:={ loops:=[(3,{ keep:=[(3,(.own 1)),(8,(.int .i64))],mem:=[.gone,.row true 146 tT17] })],ro:=[] }
def vN (a0:List vV7) (y3:(Int×List vV3×Unit)):Option ((Int×List vV3×Unit)⊕List vV3) :=
 cond (decide (y3.1<(a0.length:Int))) (
(atI a0 y3.1).bind fun x1 =>
(bP (y3.2.1.length+([x1.1]:List vV3).length)).bind fun u2 =>
 some (.inl ((IntKind.wrap .i64 (y3.1+1)),(y3.2.1++([x1.1]:List vV3)),()))) (
 some (.inr y3.2.1))
def zdk (a0:List vV7):Option (List vV3) :=
 aI (vN a0) (0,[],())
def aae:TFn:={ ps:=(.cons (.sl tT20) .unit),res:=(.sl tT17),fn:=fun v=>zdk v.1 }
def aoN:TEnv:={ pure:=[],look:=[],glob:=G0T,ty:=[(146,tT17)],raw:=[],fresh:=[] }
theorem aoM:runY Tryz.prog ahM aoO aoN awM Tryz.f206 aae.ps aae.res=aae.fn:=by kernel_rfl
theorem ahK:aB Tryz.prog G0 206 ahL:=ah (ak ⟨au,ac,ap,ac,an⟩ Tryz.func206 rfl (by kernel_rfl))
theorem aoL:TOk ahL aae:=aA (E:=ahM) (ET:=aoN) (EnvT.ofX (ax al) am ar aM aq) aoM rfl
def akv:Env:=(eZ [(206,ahL)] [274])
def asX:Hints:=(hZ [(3,[0,5,13,14,15]),(9,[5,8,22,23,24])] [])
def aku:PFn:=aG (runF Tryz.prog akv asX Tryz.f134)
def axT:TH:={ joins:=[(7,{ keep:=[(5,(.mp 0))],mem:=[.map tT17 .bool] })],loops:=[(3,{ keep:=[(5,(.mp 0)),(15,(.int .i64))],mem:=[.map tT17 .bool] }),(9,{ keep:=[(5,(.mp 0)),(8,(.own 2)),(24,(.int .i64))],mem:=[.map tT17 .bool,.gone,.row true 148 tT20] })],ro:=[] }
def wu (r1:List vV3) (y3:vV10):Option (vV10⊕((List (vV3×Bool)×Unit)⊕List vV7)) :=
 cond (decide (y3.1<(r1.length:Int))) (
(atI r1 y3.1).bind fun x2 =>
 some (.inl ((IntKind.wrap .i64 (y3.1+1)),(putK tT17 x2 true y3.2.1),()))) (
 some (.inr (.inl (y3.2.1,()))))
def wr (a0:List vV7) (y9:(Int×List (vV3×Bool)×List vV7×Unit)):Option ((Int×List (vV3×Bool)×List vV7×Unit)⊕List vV7) :=
 cond (decide (y9.1<(a0.length:Int))) (
(atI a0 y9.1).bind fun x4 =>
 cond (!((getK tT17 false x4.1 y9.2.1).1)) (
(bP (y9.2.2.1.length+([x4]:List vV7).length)).bind fun u5 =>
 some (.inl ((IntKind.wrap .i64 (y9.1+1)),y9.2.1,(y9.2.2.1++([x4]:List vV7)),()))) (
 some (.inl ((IntKind.wrap .i64 (y9.1+1)),y9.2.1,y9.2.2.1,())))) (
 some (.inr y9.2.2.1))
def zbf (a0:List vV7) (a1:List vV7):Option (List vV7) :=
((zdk a1).bind fun r1 =>
 aI (wu r1) (0,[],()):Option ((List (vV3×Bool)×Unit)⊕List vV7)).bind (bc fun v3 =>
 aI (wr a0) (0,v3.1,[],()))
def abk:TFn:={ ps:=(.cons (.sl tT20) (.cons (.sl tT20) .unit)),res:=(.sl tT20),fn:=fun v=>zbf v.1 v.2.1 }
def asW:TEnv:={ pure:=[(206,aae)],look:=[],glob:=G0T,ty:=[(4,.bool),(146,tT17),(148,tT20)],raw:=[],fresh:=[] }
theorem asV:runY Tryz.prog akv asX asW axT Tryz.f134 abk.ps abk.res=abk.fn:=by kernel_rfl
theorem akt:aB Tryz.prog G0 134 aku:=ah (ak ⟨au,(aj ahK ac),ap,ac,an⟩ Tryz.func134 rfl (by kernel_rfl))
theorem asU:TOk aku abk:=aA (E:=akv) (ET:=asW) (EnvT.ofX (ax (ai aoL al)) am ar aM aq) asV rfl
def alm:Go.Shelf.Ren:=⟨fun | 4=>205 | n=>n,fun | 22=>37 | 25=>148 | 0=>0 | 3=>3 | 4=>4 | 9=>9 | 20=>20 | n=>n,fun | n=>n⟩
theorem ae0:Go.Proofs.Lays8.n4 Tryz.prog alm:={
 mixed:=by kernel_rfl
 f4:=⟨Tryz.f205.name,by decide,Tryz.func205.trans (congrArg some (by kernel_rfl))⟩
 t0:=Tryz.underlying0
 a0:=Tryz.isAgg0
 z0:=Tryz.sizeOf0
 v0:=Tryz.zeroValue0
 t3:=Tryz.underlying3
 a3:=Tryz.isAgg3
 z3:=Tryz.sizeOf3
 v3:=Tryz.zeroValue3
 t4:=Tryz.underlying4
 a4:=Tryz.isAgg4
 z4:=Tryz.sizeOf4
 v4:=Tryz.zeroValue4
 t9:=Tryz.underlying9
 a9:=Tryz.isAgg9
 z9:=Tryz.sizeOf9
 v9:=Tryz.zeroValue9
 t20:=Tryz.underlying20
 a20:=Tryz.isAgg20
 z20:=Tryz.sizeOf20
 v20:=Tryz.zeroValue20
 t22:=Tryz.underlying37
 a22:=Tryz.isAgg37
 z22:=Tryz.sizeOf37
 v22:=Tryz.zeroValue37 }
def alo:SFn:=uV 11 148
theorem aln:bw Tryz.prog G0 205 alo:=afY ae0 rfl rfl (fC (P:=Tryz.prog) (te:=148) (M:=11) (by kernel_rfl) (by kernel_rfl) (by kernel_rfl) (by kernel_rfl) (by kernel_rfl) (by kernel_rfl) (by kernel_rfl) (by kernel_rfl)) ⟨Tryz.f205,Tryz.func205,rfl,by kernel_rfl⟩
def zat (a0:Unit) (a1:Int):Option (List vV7):=afZ a1
def aud:TNew:=adu 148 tT20
theorem auc:TNewOk alo aud:=af0 rfl
def alz:Env:={ pure:=[],raw:=[(205,alo)],glob:=G0,same:=[274],look:=[],ext:=[] }
def auq:Hints:=(hZ [(3,[0,3,9,10,11]),(11,[6,25,26,27])] [])
def aly:PFn:=aG (runF Tryz.prog alz auq Tryz.f133)
def ayd:TH:={ joins:=[(9,{ keep:=[(3,(.int .i64))],mem:=[] })],loops:=[(3,{ keep:=[(3,(.int .i64)),(11,(.int .i64))],mem:=[] }),(11,{ keep:=[(6,(.own 0)),(27,(.int .i64))],mem:=[.row false 148 tT20] })],ro:=[] }
def kg (a0:List (List vV7)) (y3:(Int×Int×Unit)):Option ((Int×Int×Unit)⊕((Int×Unit)⊕List vV7)) :=
 cond (decide (y3.2.1<(a0.length:Int))) (
(atI a0 y3.2.1).bind fun x1 =>
 cond (decide ((IntKind.wrap .i64 (y3.1+(x1.length:Int)))<0)) (
 none) (
 some (.inl ((IntKind.wrap .i64 (y3.1+(x1.length:Int))),(IntKind.wrap .i64 (y3.2.1+1)),())))) (
 some (.inr (.inl (y3.1,()))))
def gm (a0:List (List vV7)) (y11:(Int×List vV7×Unit)):Option ((Int×List vV7×Unit)⊕List vV7) :=
 cond (decide (y11.1<(a0.length:Int))) (
(atI a0 y11.1).bind fun x4 =>
(bP (y11.2.1.length+x4.length)).bind fun u5 =>
 some (.inl ((IntKind.wrap .i64 (y11.1+1)),(y11.2.1++x4),()))) (
 some (.inr y11.2.1))
def zap (a0:List (List vV7)):Option (List vV7) :=
(aI (kg a0) (0,0,()):Option ((Int×Unit)⊕List vV7)).bind (bc fun v2 =>
(zat () v2.1).bind fun n3 =>
 aI (gm a0) (0,n3,()))
def abA:TFn:={ ps:=(.cons (.sl (.sl tT20)) .unit),res:=(.sl tT20),fn:=fun v=>zap v.1 }
def aup:TEnv:={ pure:=[],look:=[],glob:=G0T,ty:=[(148,tT20)],raw:=[],fresh:=[(205,aud)] }
theorem auo:runY Tryz.prog alz auq aup ayd Tryz.f133 abA.ps abA.res=abA.fn:=by kernel_rfl
theorem alx:aB Tryz.prog G0 133 aly:=ah (ak ⟨au,ac,(aY aln ap),ac,an⟩ Tryz.func133 rfl (by kernel_rfl))
theorem aum:TOk aly abA:=aA (E:=alz) (ET:=aup) (EnvT.ofX (ax al) am (iV ar rfl) aM (jc auc rfl rfl rfl aq)) auo rfl
def ako:Env:=(eZ [(46,aeA),(50,aeu),(55,aeS),(130,aeG),(133,aly),(134,aku)] [274])
def asM:Hints:=(hZ [] [])
def akn:PFn:=aG (runF Tryz.prog ako asM Tryz.f61)
def axQ:TH:={ loops:=[],ro:=[3,4] }
def zbi (a0:vV1) (a1:(Int×Int×Unit)) (a2:Bool):Option (List vV6×Int×Unit) :=
(zbz a0 a1 a2).bind fun r1 =>
 cond (!decide (r1=0)) (
 some ([],r1,())) (
(zbq a0 a1).bind fun r2 =>
 cond (!decide (r2.2.1=0)) (
 some ([],r2.2.1,())) (
(zcn a0).bind fun r3 =>
(zcn r2.1).bind fun r4 =>
(zbf r3 r4).bind fun r5 =>
(zbf r4 r3).bind fun r6 =>
(zap ([r5,r6]:List (List vV7))).bind fun r7 =>
(zb7 r7).bind fun r8 =>
 some (r8,0,())))
def abj:TFn:={ ps:=(.cons tT13 (.cons tT15 (.cons .bool .unit))),res:=(.tup (.cons (.sl (.agg tT22)) (.cons (.int .i64) .unit))),fn:=fun v=>zbi v.1 v.2.1 v.2.2.1 }
def asL:TEnv:={ pure:=[(46,yd),(50,xZ),(55,yi),(130,yg),(133,abA),(134,abk)],look:=[],glob:=G0T,ty:=[(37,(.sl tT20))],raw:=[],fresh:=[] }
theorem asK:runY Tryz.prog ako asM asL axQ Tryz.f61 abj.ps abj.res=abj.fn:=by kernel_rfl
theorem akm:aB Tryz.prog G0 61 akn:=ah (ak ⟨au,(aj aa1 (aj aaE (aj abp (aj abc (aj alx (aj akt ac)))))),ap,ac,an⟩ Tryz.func61 rfl (by kernel_rfl))
theorem asJ:TOk akn abj:=aA (E:=ako) (ET:=asL) (EnvT.ofX (ax (ai agx (ai agt (ai agF (ai agD (ai aum (ai asU al))))))) am ar aM aq) asK rfl
def amm:Env:=(eZ [(33,ajL),(51,akW),(58,aiH),(59,aez),(61,akn)] [274])
def avq:Hints:=(hZ [(8,[7,9,11]),(15,[7,9,11,12,13,14])] [])
def avr:PFn:=aG (runF Tryz.prog amm avq Tryz.f12)
def ayr:TH:={ joins:=[(13,{ keep:=[(12,(.bx 2 0))],mem:=[.same,.same,.box 125 tT16] })],loops:=[(8,{ keep:=[(11,(.int .i64))],mem:=[.same,.same] }),(15,{ keep:=[(12,(.bx 2 0)),(13,.bool),(14,(.int .i64))],mem:=[.same,.same,.box 125 tT16] })],ro:=[3,4] }
def lu (y8:(Int×Unit)) (r4:(List vV6×Int×Unit)) (y15:(Bool×Int×vV2×Unit)):Option ((Bool×Int×vV2×Unit)⊕((Int×Unit)⊕Bool)) :=
 cond (decide (y15.2.1<(r4.1.length:Int))) (
 cond y15.1 (some (.inl (true,(IntKind.wrap .i64 (y15.2.1+1)),y15.2.2.1,()))) ((atI r4.1 y15.2.1).bind fun x9 =>
 cond (decide (x9.2.1=y15.2.2.1.2.1)) ((atI r4.1 y15.2.1).bind fun x10 =>
(zcs x10.1 y15.2.2.1.1).bind fun r11 =>
 some (.inl (r11,(IntKind.wrap .i64 (y15.2.1+1)),y15.2.2.1,()))) (some (.inl (false,(IntKind.wrap .i64 (y15.2.1+1)),y15.2.2.1,()))))) (
(cond (!y15.1) (
 some (.inr false)) (
 some (.inl ((IntKind.wrap .i64 (y8.1+1)),())))).map .inr)
def qT (r3:(List vV9×Int×Unit)) (r4:(List vV6×Int×Unit)) (y8:(Int×Unit)):Option ((Int×Unit)⊕Bool) :=
 cond (decide (y8.1<(r3.1.length:Int))) (
(atI r3.1 y8.1).bind fun x5 =>
((atI r3.1 y8.1).bind fun x6 =>
 cond (decide (x6.1=1)) (
(atI r3.1 y8.1).bind fun x7 =>
 some (.inl (x7.2.2.1,()))) (
 some (.inl (x5.2.1,()))):Option ((vV2×Unit)⊕((Int×Unit)⊕Bool))).bind (bc fun v8 =>
 aI (lu y8 r4) (false,0,v8.1,()))) (
((zb2).bind fun r12 =>
 some r12).map .inr)
def za8 (a0:vV1) (a1:(Int×Int×Unit)) (a2:Bool):Option Bool :=
(zc2 a0).bind fun r1 =>
 cond (!r1) (
(zb2).bind fun r2 =>
 some r2) (
(zc0 a0 a1 a2).bind fun r3 =>
(zbi a0 a1 a2).bind fun r4 =>
 cond (!decide (r3.2.1=r4.2.1)) (
 some false) (
 aI (qT r3 r4) (0,())))
def tP:TFn:={ ps:=(.cons tT13 (.cons tT15 (.cons .bool .unit))),res:=.bool,fn:=fun v=>za8 v.1 v.2.1 v.2.2.1 }
def avp:TEnv:=(vZ [(33,aaY),(51,abu),(58,aaA),(59,yc),(61,abj)])
theorem avo:runY Tryz.prog amm avq avp ayr Tryz.f12 tP.ps tP.res=tP.fn:=by kernel_rfl
theorem za8_Fok:aB Tryz.prog G0 12 avr:=ah (ak ⟨au,(aj ajK (aj akV (aj aiG (aj aa0 (aj akm ac))))),ap,ac,an⟩ Tryz.func12 rfl (by kernel_rfl))
theorem za8_ok:TOk avr tP:=aA (E:=amm) (ET:=avp) (EnvT.ofX (ax (ai arH (ai atJ (ai ap8 (ai agw (ai asJ al)))))) am ar aM aq) avo rfl
end
end Go.Proofs.YtnbgkhdcidbkaaaGreatDoor.Y
