import Derived.Test.YtnbgkhdcidbkaaaGreatDoorS
import Derived.Test.YtnbgkhdcidbkaaaGreatDoorT30
import GoSem.PinnedTables
set_option linter.unusedVariables false
set_option maxRecDepth 100000
namespace Go.Proofs.YtnbgkhdcidbkaaaGreatDoor.Y
open Go.EM Go.TY Go.Proofs
theorem zb.{u,v}{A:Type u}{B:Type v} (a:A) (f:A→Option B):(some a).bind f=f a:=rfl
theorem zg.{u}{A:Type u}{l:List A}{i:Nat} (h:i<l.length):l[i]? = some l[i]:=List.getElem?_eq_getElem h
theorem zl.{u}{A:Type u}{a:A}{l:List A}:(a::l).length=l.length+1:=rfl
theorem zf {p:Prop} [Decidable p] (h:¬p):decide p=false:=decide_eq_false h
theorem zn.{u}{c:Prop}{h:Decidable c} (hc:¬c) {A:Sort u}{t e:A}:ite c t e=e:=if_neg hc
theorem zp.{u}{c:Prop}{h:Decidable c} (hc:c) {A:Sort u}{t e:A}:ite c t e=t:=if_pos hc
theorem zm.{u}{A:Type u}{l:List A}{n:Nat} (h:n<l.length):l[n]∈l:=List.getElem_mem h
theorem zt {p:Prop} [Decidable p] (h:p):decide p=true:=decide_eq_true h
noncomputable section
def qX:List Int:=Go.Pinned.utf8FirstZ.map fun (n:Nat)=>(n:Int)
def oh:List (Int×Int×Unit):=[(128,191,()),(160,191,()),(128,159,()),(144,191,()),(128,143,()),(0,0,()),(0,0,()),(0,0,()),(0,0,()),(0,0,()),(0,0,()),(0,0,()),(0,0,()),(0,0,()),(0,0,()),(0,0,())]
def G0:List (Nat×AVal):=[(0,.rptr (qX.map (AVal.int .u8))),(1,.rptr (oh.flatMap fun p=>[AVal.int .u8 p.1,AVal.int .u8 p.2.1]))]
def G0T:List (Nat×TV):=[(0,⟨.rp (.arr 256 (.int .u8)) 0,qX⟩),(1,⟨.rp (.arr 16 (.agg (.cons (.int .u8) (.cons (.int .u8) .unit)))) 0,oh⟩)]
theorem aL:iI G0 G0T:=mh rfl rfl (xC (by kernel_rfl)) (mh rfl rfl (tl (by kernel_rfl)) xB)
theorem ay:∀ f,memN f [274]=true→Same Tryz.prog f:=by
 intro f h
 by_cases e274:f=274
 · subst e274; exact ⟨Tryz.f274,Tryz.func274,by kernel_rfl,by kernel_rfl,by kernel_rfl,by kernel_rfl⟩
 simp_all [memN]
def eZ (l:List (Nat×PFn)) (s:List Nat):Env:={ pure:=l,raw:=[],glob:=G0,same:=s,look:=[],ext:=[] }
def vZ (l:List (Nat×TFn)):TEnv:={ pure:=l,look:=[],glob:=G0T,ty:=[],raw:=[],fresh:=[] }
def hZ (l:List (Nat×List Nat)) (o:List Nat):Hints:={ seqs:=[],loops:=l,own:=o }
def yZ:TH:={ joins:=[],loops:=[],cuts:=[],ro:=[],news:=[] }
abbrev vV0:=(List ((Int×Int×Unit)×Int×Int×Bool×List (Int×List (List UInt8)×(Int×Int×List UInt8×Unit)×Int×List ((Int×Int×Unit)×Int×Unit)×Unit)×Unit)×List ((Int×Int×Unit)×Int×Unit)×(List Int×List (Int×Int×Unit)×Unit)×(List Int×List (Int×Int×Unit)×Unit)×List (List (Int×Int×Unit))×Unit)
abbrev vV1:=((Int×Int×Unit)×Int×Int×Bool×List (Int×List (List UInt8)×(Int×Int×List UInt8×Unit)×Int×List ((Int×Int×Unit)×Int×Unit)×Unit)×Unit)
abbrev vV2:=((Int×Int×Unit)×Int×Unit)
abbrev vV3:=(Int×List (List UInt8)×(Int×Int×List UInt8×Unit)×Int×List vV2×Unit)
abbrev vV4:=(List Int×List (Int×Int×Unit)×Unit)
abbrev vV5:=(Int×vV1×Int×vV2×Int×(List vV1×List vV2×List (Int×Int×Unit)×Unit)×vV0×Unit)
abbrev vV6:=(vV2×vV3×Int×Unit)
abbrev vV7:=(List Int×Unit×Unit)
abbrev vV8:=(Int×List (vV2×Bool)×Unit)
abbrev tT9:Ty:=(.agg (.cons (.agg (.cons (.int .i64) (.cons (.int .i64) .unit))) (.cons (.int .i64) (.cons (.int .i64) (.cons .bool (.cons (.sl (.agg (.cons (.int .i64) (.cons (.sl .str) (.cons (.agg (.cons (.int .i64) (.cons (.int .i64) (.cons .str .unit)))) (.cons (.int .i64) (.cons (.sl (.agg (.cons (.agg (.cons (.int .i64) (.cons (.int .i64) .unit))) (.cons (.int .i64) .unit)))) .unit))))))) .unit))))))
abbrev tT10:Ty:=(.agg (.cons (.sl tT9) (.cons (.sl (.agg (.cons (.agg (.cons (.int .i64) (.cons (.int .i64) .unit))) (.cons (.int .i64) .unit)))) (.cons (.agg (.cons (.arr 16 (.int .i64)) (.cons (.sl (.agg (.cons (.int .i64) (.cons (.int .i64) .unit)))) .unit))) (.cons (.agg (.cons (.arr 16 (.int .i64)) (.cons (.sl (.agg (.cons (.int .i64) (.cons (.int .i64) .unit)))) .unit))) (.cons (.arr 8 (.sl (.agg (.cons (.int .i64) (.cons (.int .i64) .unit))))) .unit))))))
abbrev tT11:Ty:=(.agg (.cons (.int .i64) (.cons (.int .i64) .unit)))
abbrev tT12:Ty:=(.agg (.cons tT11 (.cons (.int .i64) .unit)))
abbrev tT13:Ty:=(.agg (.cons (.int .i64) (.cons (.sl .str) (.cons (.agg (.cons (.int .i64) (.cons (.int .i64) (.cons .str .unit)))) (.cons (.int .i64) (.cons (.sl tT12) .unit))))))
abbrev tT14:Ty:=(.agg (.cons (.arr 16 (.int .i64)) (.cons (.sl tT11) .unit)))
abbrev tT15:Ty:=(.agg (.cons (.int .i64) (.cons tT9 (.cons (.int .i64) (.cons tT12 (.cons (.int .i64) (.cons (.agg (.cons (.sl tT9) (.cons (.sl tT12) (.cons (.sl tT11) .unit)))) (.cons tT10 .unit))))))))
abbrev tT16:Ty:=(.agg (.cons (.int .i64) (.cons (.int .i64) (.cons .str .unit))))
abbrev tT17:Ty:=(.agg (.cons (.arr 16 (.int .i64)) (.cons .nilsl .unit)))
abbrev tT18:Ty:=(.cons (.int .i64) .unit)
def acn:Env:=(eZ [] [274])
def ait:Hints:=(hZ [(4,[0,3])] [])
def acm:PFn:=aE (runF Tryz.prog acn ait Tryz.f15)
def anx:TH:={ loops:=[(4,{ keep:=[(3,(.int .i64))],mem:=[] })],ro:=[] }
def qH (a0:List (List UInt8)) (y4:(Int×Unit)):Option ((Int×Unit)⊕Bool) :=
 cond (decide (y4.1<(a0.length:Int))) (
(atI a0 y4.1).bind fun x1 =>
 cond (decide ((x1.length:Int)>120)) (
 some (.inr false)) (
 some (.inl ((IntKind.wrap .i64 (y4.1+1)),())))) (
 some (.inr true))
def zbw (a0:List (List UInt8)):Option Bool :=
 cond (decide ((a0.length:Int)>12)) (
 some false) (
 aM (qH a0) (0,()))
def uM:TFn:={ ps:=(.cons (.sl .str) .unit),res:=.bool,fn:=fun v=>zbw v.1 }
def ais:TEnv:=(vZ [])
theorem air:runY Tryz.prog acn ait ais anx Tryz.f15 uM.ps uM.res=uM.fn:=by kernel_rfl
theorem acl:aC Tryz.prog G0 15 acm:=ah (ak ⟨ay,ae,ar,ae,aq⟩ Tryz.func15 rfl (by kernel_rfl))
theorem aiq:TOk acm uM:=az (E:=acn) (ET:=ais) (EnvT.ofX (ax al) am ap aL an) air rfl
def acP:Env:=(eZ [(15,acm)] [274])
def ai7:Hints:=(hZ [] [])
def acO:PFn:=aE (runF Tryz.prog acP ai7 Tryz.f108)
def anI:TH:={ loops:=[],ro:=[1] }
def zbm (a0:vV3):Option Bool :=
(zbw a0.2.1).bind fun r1 =>
 cond r1 (cond (decide ((a0.2.2.1.2.2.1.length:Int)≤200)) (some (decide ((a0.2.2.2.2.1.length:Int)≤300))) (some false)) (some false)
def uV:TFn:={ ps:=(.cons tT13 .unit),res:=.bool,fn:=fun v=>zbm v.1 }
def ai6:TEnv:=(vZ [(15,uM)])
theorem ai5:runY Tryz.prog acP ai7 ai6 anI Tryz.f108 uV.ps uV.res=uV.fn:=by kernel_rfl
theorem acN:aC Tryz.prog G0 108 acO:=ah (ak ⟨ay,(ai acl ae),ar,ae,aq⟩ Tryz.func108 rfl (by kernel_rfl))
theorem ai4:TOk acO uV:=az (E:=acP) (ET:=ai6) (EnvT.ofX (ax (ac aiq al)) am ap aL an) ai5 rfl
def ac2:Env:=(eZ [(108,acO)] [274])
def ajv:Hints:=(hZ [(4,[1,3])] [])
def ac1:PFn:=aE (runF Tryz.prog ac2 ajv Tryz.f41)
def anP:TH:={ loops:=[(4,{ keep:=[(1,(.bx 0 0)),(3,(.int .i64))],mem:=[.same] })],ro:=[1] }
def qO (a0:vV1) (y4:(Int×Unit)):Option ((Int×Unit)⊕Bool) :=
 cond (decide (y4.1<(a0.2.2.2.2.1.length:Int))) (
(atI a0.2.2.2.2.1 y4.1).bind fun x1 =>
(zbm x1).bind fun r2 =>
 cond (!r2) (
 some (.inr false)) (
 some (.inl ((IntKind.wrap .i64 (y4.1+1)),())))) (
 some (.inr true))
def zbf (a0:vV1):Option Bool :=
 cond (decide ((a0.2.2.2.2.1.length:Int)>20)) (
 some false) (
 aM (qO a0) (0,()))
def vd:TFn:={ ps:=(.cons tT9 .unit),res:=.bool,fn:=fun v=>zbf v.1 }
def aju:TEnv:=(vZ [(108,uV)])
theorem ajt:runY Tryz.prog ac2 ajv aju anP Tryz.f41 vd.ps vd.res=vd.fn:=by kernel_rfl
theorem ac0:aC Tryz.prog G0 41 ac1:=ah (ak ⟨ay,(ai acN ae),ar,ae,aq⟩ Tryz.func41 rfl (by kernel_rfl))
theorem ajs:TOk ac1 vd:=az (E:=ac2) (ET:=aju) (EnvT.ofX (ax (ac ai4 al)) am ap aL an) ajt rfl
def adb:Env:=(eZ [(41,ac1)] [274])
def ajH:Hints:=(hZ [(4,[1,3]),(9,[1,4])] [])
def ada:PFn:=aE (runF Tryz.prog adb ajH Tryz.f95)
def anS:TH:={ joins:=[(8,{ keep:=[(1,(.bx 0 0))],mem:=[.box 69 tT10] })],loops:=[(4,{ keep:=[(1,(.bx 0 0)),(3,(.int .i64))],mem:=[.box 69 tT10] }),(9,{ keep:=[(1,(.bx 0 0)),(4,(.int .i64))],mem:=[.box 69 tT10] })],cuts:=[(1,[(10,{ keep:=[(1,(.bx 0 0)),(14,.bool)],mem:=[.box 69 tT10] })])],ro:=[],news:=[] }
def lk (y4:(Int×vV0×Unit)):Option ((Int×vV0×Unit)⊕((vV0×Unit)⊕Bool)) :=
 cond (decide (y4.1<(y4.2.1.1.length:Int))) (
(atI y4.2.1.1 y4.1).bind fun x2 =>
(zbf x2).bind fun r3 =>
 cond (!r3) (
 some (.inr (.inr false))) (
 some (.inl ((IntKind.wrap .i64 (y4.1+1)),y4.2.1,())))) (
 some (.inr (.inl (y4.2.1,()))))
def lj (y9:(Int×vV0×Unit)):Option ((Int×vV0×Unit)⊕Bool) :=
 cond (decide (y9.1<8)) (
(inI 8 y9.1).bind fun i5 =>
(y9.2.1.2.2.2.2.1[i5]?).bind fun x6 =>
 cond (decide ((x6.length:Int)>40)) (
 some (.inr false)) (
 some (.inl ((IntKind.wrap .i64 (y9.1+1)),y9.2.1,())))) (
 some (.inr true))
def zbc (a0:vV0):Option Bool :=
(cond (decide ((a0.1.length:Int)>20)) (some (true,a0,())) (some ((decide ((a0.2.1.length:Int)>100)),a0,())):Option (Bool×vV0×Unit)).bind fun v1 =>
 cond v1.1 (some false) (cond (decide ((v1.2.1.2.2.1.2.1.length:Int)>100)) (some false) (cond (decide ((v1.2.1.2.2.2.1.2.1.length:Int)>100)) (
 some false) (
(aM (lk) (0,v1.2.1,()):Option ((vV0×Unit)⊕Bool)).bind (bQ fun v4 =>
 aM (lj) (0,v4.1,())))))
def vg:TFn:={ ps:=(.cons tT10 .unit),res:=.bool,fn:=fun v=>zbc v.1 }
def ajG:TEnv:=(vZ [(41,vd)])
theorem ajF:runY Tryz.prog adb ajH ajG anS Tryz.f95 vg.ps vg.res=vg.fn:=by kernel_rfl
theorem ac9:aC Tryz.prog G0 95 ada:=ah (ak ⟨ay,(ai ac0 ae),ar,ae,aq⟩ Tryz.func95 rfl (by kernel_rfl))
theorem ajE:TOk ada vg:=az (E:=adb) (ET:=ajG) (EnvT.ofX (ax (ac ajs al)) am ap aL an) ajF rfl
def adK:Env:=(eZ [] [274])
def akt:Hints:=(hZ [] [])
def yH:PFn:=aE (runF Tryz.prog adK akt Tryz.f172)
def an4:TH:=yZ
def zb0 (a0:Int) (a1:Int):Option Int :=
 cond (decide (a0<a1)) (
 some (-1)) (
 cond (decide (a0>a1)) (
 some 1) (
 some 0))
def sG:TFn:={ ps:=(.cons (.int .i64) tT18),res:=(.int .i64),fn:=fun v=>zb0 v.1 v.2.1 }
def aks:TEnv:=(vZ [])
theorem akr:runY Tryz.prog adK akt aks an4 Tryz.f172 sG.ps sG.res=sG.fn:=by kernel_rfl
theorem vu:aC Tryz.prog G0 172 yH:=ah (ak ⟨ay,ae,ar,ae,aq⟩ Tryz.func172 rfl (by kernel_rfl))
theorem aar:TOk yH sG:=az (E:=adK) (ET:=aks) (EnvT.ofX (ax al) am ap aL an) akr rfl
def afg:Env:=(eZ [(172,yH)] [274])
def amr:Hints:=(hZ [] [])
def oe:PFn:=aE (runF Tryz.prog afg amr Tryz.f101)
def aox:TH:={ loops:=[],ro:=[2,3] }
def za0 (a0:(Int×Int×Unit)) (a1:(Int×Int×Unit)):Option Int :=
 cond (!decide (a0.1=a1.1)) (
(zb0 a0.1 a1.1).bind fun r1 =>
 some r1) (
(zb0 a0.2.1 a1.2.1).bind fun r2 =>
 some r2)
def kT:TFn:={ ps:=(.cons tT11 (.cons tT11 .unit)),res:=(.int .i64),fn:=fun v=>za0 v.1 v.2.1 }
def amq:TEnv:=(vZ [(172,sG)])
theorem amp:runY Tryz.prog afg amr amq aox Tryz.f101 kT.ps kT.res=kT.fn:=by kernel_rfl
theorem ib:aC Tryz.prog G0 101 oe:=ah (ak ⟨ay,(ai vu ae),ar,ae,aq⟩ Tryz.func101 rfl (by kernel_rfl))
theorem lu:TOk oe kT:=az (E:=afg) (ET:=amq) (EnvT.ofX (ax (ac aar al)) am ap aL an) amp rfl
def acA:Env:=(eZ [(101,oe)] [274])
def aiM:Hints:=(hZ [(2,[0,3])] [])
def acz:PFn:=aE (runF Tryz.prog acA aiM Tryz.f152)
def anD:TH:={ loops:=[(2,{ keep:=[(3,(.int .i64))],mem:=[] })],ro:=[] }
def qK (a0:List vV1) (y2:(Int×Unit)):Option ((Int×Unit)⊕Bool) :=
 cond (decide (y2.1<(a0.length:Int))) (
(atI a0 (IntKind.wrap .i64 (y2.1-1))).bind fun x1 =>
(atI a0 y2.1).bind fun x2 =>
(za0 x1.1 x2.1).bind fun r3 =>
 cond (!decide (r3=(-1))) (
 some (.inr false)) (
 some (.inl ((IntKind.wrap .i64 (y2.1+1)),())))) (
 some (.inr true))
def zbr (a0:List vV1):Option Bool :=
 aM (qK a0) (1,())
def uQ:TFn:={ ps:=(.cons (.sl tT9) .unit),res:=.bool,fn:=fun v=>zbr v.1 }
def aiL:TEnv:=(vZ [(101,kT)])
theorem aiK:runY Tryz.prog acA aiM aiL anD Tryz.f152 uQ.ps uQ.res=uQ.fn:=by kernel_rfl
theorem acy:aC Tryz.prog G0 152 acz:=ah (ak ⟨ay,(ai ib ae),ar,ae,aq⟩ Tryz.func152 rfl (by kernel_rfl))
theorem aiJ:TOk acz uQ:=az (E:=acA) (ET:=aiL) (EnvT.ofX (ax (ac lu al)) am ap aL an) aiK rfl
def acu:Env:=(eZ [] [274])
def aiE:Hints:=(hZ [] [])
def mO:PFn:=aE (runF Tryz.prog acu aiE Tryz.f109)
def anB:TH:={ loops:=[],ro:=[1] }
def zbt (a0:(Int×Int×Unit)):Option Bool :=
 cond (decide (a0.1≥0)) (cond (decide (a0.1≤15)) (cond (decide (a0.2.1≥1)) (some (decide (a0.2.1≤1048576))) (some false)) (some false)) (some false)
def ju:TFn:={ ps:=(.cons tT11 .unit),res:=.bool,fn:=fun v=>zbt v.1 }
def aiD:TEnv:=(vZ [])
theorem aiC:runY Tryz.prog acu aiE aiD anB Tryz.f109 ju.ps ju.res=ju.fn:=by kernel_rfl
theorem gj:aC Tryz.prog G0 109 mO:=ah (ak ⟨ay,ae,ar,ae,aq⟩ Tryz.func109 rfl (by kernel_rfl))
theorem jt:TOk mO ju:=az (E:=acu) (ET:=aiD) (EnvT.ofX (ax al) am ap aL an) aiC rfl
def abw:Env:=(eZ [(109,mO)] [274])
def ag8:Hints:=(hZ [] [])
def abv:PFn:=aE (runF Tryz.prog abw ag8 Tryz.f224)
def ana:TH:={ loops:=[],ro:=[1] }
def zcj (a0:vV2):Option Bool :=
(zbt a0.1).bind fun r1 =>
 cond r1 (cond (decide (a0.2.1≥1)) (some (decide (a0.2.1≤64))) (some false)) (some false)
def uh:TFn:={ ps:=(.cons tT12 .unit),res:=.bool,fn:=fun v=>zcj v.1 }
def ag7:TEnv:=(vZ [(109,ju)])
theorem ag6:runY Tryz.prog abw ag8 ag7 ana Tryz.f224 uh.ps uh.res=uh.fn:=by kernel_rfl
theorem abu:aC Tryz.prog G0 224 abv:=ah (ak ⟨ay,(ai gj ae),ar,ae,aq⟩ Tryz.func224 rfl (by kernel_rfl))
theorem ag5:TOk abv uh:=az (E:=abw) (ET:=ag7) (EnvT.ofX (ax (ac jt al)) am ap aL an) ag6 rfl
def acD:Env:=(eZ [(101,oe),(224,abv)] [274])
def aiQ:Hints:=(hZ [(2,[0,3])] [])
def acC:PFn:=aE (runF Tryz.prog acD aiQ Tryz.f153)
def anE:TH:={ loops:=[(2,{ keep:=[(3,(.int .i64))],mem:=[] })],ro:=[] }
def qL (a0:List vV2) (y2:(Int×Unit)):Option ((Int×Unit)⊕Bool) :=
 cond (decide (y2.1<(a0.length:Int))) (
(atI a0 y2.1).bind fun x1 =>
(zcj x1).bind fun r2 =>
 cond (!r2) (some (.inr false)) (cond (decide (y2.1>0)) ((atI a0 (IntKind.wrap .i64 (y2.1-1))).bind fun x3 =>
(atI a0 y2.1).bind fun x4 =>
(za0 x3.1 x4.1).bind fun r5 =>
 cond (!decide (r5=(-1))) (
 some (.inr false)) (
 some (.inl ((IntKind.wrap .i64 (y2.1+1)),())))) (some (.inl ((IntKind.wrap .i64 (y2.1+1)),()))))) (
 some (.inr true))
def zbq (a0:List vV2):Option Bool :=
 aM (qL a0) (0,())
def uR:TFn:={ ps:=(.cons (.sl tT12) .unit),res:=.bool,fn:=fun v=>zbq v.1 }
def aiP:TEnv:=(vZ [(101,kT),(224,uh)])
theorem aiO:runY Tryz.prog acD aiQ aiP anE Tryz.f153 uR.ps uR.res=uR.fn:=by kernel_rfl
theorem acB:aC Tryz.prog G0 153 acC:=ah (ak ⟨ay,(ai ib (ai abu ae)),ar,ae,aq⟩ Tryz.func153 rfl (by kernel_rfl))
theorem aiN:TOk acC uR:=az (E:=acD) (ET:=aiP) (EnvT.ofX (ax (ac lu (ac ag5 al))) am ap aL an) aiO rfl
def act:Env:=(eZ [] [274])
def aiB:Hints:=(hZ [(2,[1,3])] [])
def acs:PFn:=aE (runF Tryz.prog act aiB Tryz.f235)
def anA:TH:={ loops:=[(2,{ keep:=[(1,(.bx 0 0)),(3,(.int .i64))],mem:=[.box 63 (.arr 16 (.int .i64))] })],ro:=[] }
def qJ (y2:(Int×List Int×Unit)):Option ((Int×List Int×Unit)⊕Bool) :=
 cond (decide (y2.1<16)) (
(inI 16 y2.1).bind fun i1 =>
(y2.2.1[i1]?).bind fun x2 =>
 cond (decide (x2<0)) (some (.inr false)) ((inI 16 y2.1).bind fun i3 =>
(y2.2.1[i3]?).bind fun x4 =>
 cond (decide (x4>1048576)) (
 some (.inr false)) (
 some (.inl ((IntKind.wrap .i64 (y2.1+1)),y2.2.1,()))))) (
 some (.inr true))
def zbu (a0:List Int):Option Bool :=
 aM (qJ) (0,a0,())
def uO:TFn:={ ps:=(.cons (.arr 16 (.int .i64)) .unit),res:=.bool,fn:=fun v=>zbu v.1 }
def aiA:TEnv:=(vZ [])
theorem aiz:runY Tryz.prog act aiB aiA anA Tryz.f235 uO.ps uO.res=uO.fn:=by kernel_rfl
theorem acr:aC Tryz.prog G0 235 acs:=ah (ak ⟨ay,ae,ar,ae,aq⟩ Tryz.func235 rfl (by kernel_rfl))
theorem aiy:TOk acs uO:=az (E:=act) (ET:=aiA) (EnvT.ofX (ax al) am ap aL an) aiz rfl
def acM:Env:=(eZ [(101,oe),(109,mO),(235,acs)] [274])
def ai3:Hints:=(hZ [(4,[1,3])] [])
def acL:PFn:=aE (runF Tryz.prog acM ai3 Tryz.f166)
def anH:TH:={ loops:=[(4,{ keep:=[(1,(.bx 0 0)),(3,(.int .i64))],mem:=[.box 66 tT14] })],ro:=[] }
def qN (y4:(Int×vV4×Unit)):Option ((Int×vV4×Unit)⊕Bool) :=
 cond (decide (y4.1<(y4.2.1.2.1.length:Int))) (
(atI y4.2.1.2.1 y4.1).bind fun x2 =>
(zbt x2).bind fun r3 =>
 cond (!r3) (some (.inr false)) ((inI 16 x2.1).bind fun i4 =>
(y4.2.1.1[i4]?).bind fun x5 =>
 cond (decide ((IntKind.wrap .i64 (x2.2.1-1))≤x5)) (
 some (.inr false)) (
 cond (decide (y4.1>0)) ((atI y4.2.1.2.1 (IntKind.wrap .i64 (y4.1-1))).bind fun x6 =>
(za0 x6 x2).bind fun r7 =>
 cond (!decide (r7=(-1))) (
 some (.inr false)) (
 some (.inl ((IntKind.wrap .i64 (y4.1+1)),y4.2.1,())))) (some (.inl ((IntKind.wrap .i64 (y4.1+1)),y4.2.1,())))))) (
 some (.inr true))
def zbn (a0:vV4):Option Bool :=
(zbu a0.1).bind fun r1 =>
 cond (!r1) (some false) (cond (decide ((a0.2.1.length:Int)>4096)) (
 some false) (
 aM (qN) (0,a0,())))
def uU:TFn:={ ps:=(.cons tT14 .unit),res:=.bool,fn:=fun v=>zbn v.1 }
def ai2:TEnv:=(vZ [(101,kT),(109,ju),(235,uO)])
theorem ai1:runY Tryz.prog acM ai3 ai2 anH Tryz.f166 uU.ps uU.res=uU.fn:=by kernel_rfl
theorem acK:aC Tryz.prog G0 166 acL:=ah (ak ⟨ay,(ai ib (ai gj (ai acr ae))),ar,ae,aq⟩ Tryz.func166 rfl (by kernel_rfl))
theorem ai0:TOk acL uU:=az (E:=acM) (ET:=ai2) (EnvT.ofX (ax (ac lu (ac jt (ac aiy al)))) am ap aL an) ai1 rfl
def abE:Env:=(eZ [] [274])
def ahm:Hints:=(hZ [(17,[0,4,5,6,7])] [])
def abD:PFn:=aE (runF Tryz.prog abE ahm Tryz.f216)
def anf:TH:={ joins:=[(14,{ keep:=[(4,(.int .i64)),(5,(.int .i64)),(6,(.int .i64))],mem:=[] }),(9,{ keep:=[(18,.bool)],mem:=[] }),(22,{ keep:=[(4,(.int .i64))],mem:=[] }),(24,{ keep:=[],mem:=[] })],loops:=[(17,{ keep:=[(4,(.int .i64)),(7,(.int .i64))],mem:=[] })],ro:=[] }
def fh (a0:List UInt8) (v3:(Int×Int×Int×Unit)) (y17:(Int×Int×Unit)):Option ((Int×Int×Unit)⊕((Int×Unit)⊕(Int×Int×Unit))) :=
 cond (decide (y17.2.1<v3.2.1)) (
(atI a0 y17.2.1).bind fun b4 =>
 cond (decide ((b4.toNat:Int)<128)) (some (.inr (.inr (0,0,())))) ((atI a0 y17.2.1).bind fun b5 =>
 cond (decide ((b5.toNat:Int)>191)) (
 some (.inr (.inr (0,0,())))) (
(atI a0 y17.2.1).bind fun b6 =>
 some (.inl ((IntKind.wrap .i64 ((IntKind.wrap .i64 ((IntKind.wrap .i64 (64*y17.1))+(IntKind.wrap .i64 (b6.toNat:Int))))-128)),(IntKind.wrap .i64 (y17.2.1+1)),()))))) (
 some (.inr (.inl (y17.1,()))))
def zcf (a0:List UInt8):Option (Int×Int×Unit) :=
 cond (decide ((a0.length:Int)=0)) (
 some (0,0,())) (
(atI a0 0).bind fun b1 =>
(cond (decide ((IntKind.wrap .i64 (b1.toNat:Int))<128)) (
 some (.inr ((IntKind.wrap .i64 (b1.toNat:Int)),1,()))) (
(cond (decide ((IntKind.wrap .i64 (b1.toNat:Int))≥194)) (some (.inl ((decide ((IntKind.wrap .i64 (b1.toNat:Int))<224)),()))) (some (.inl (false,()))):Option ((Bool×Unit)⊕((Int×Int×Int×Unit)⊕(Int×Int×Unit)))).bind (bQ fun v2 =>
 cond v2.1 (
 some (.inl ((IntKind.wrap .i64 ((IntKind.wrap .i64 (b1.toNat:Int))-192)),2,128,()))) (
 cond (decide ((IntKind.wrap .i64 (b1.toNat:Int))≥224)) (cond (decide ((IntKind.wrap .i64 (b1.toNat:Int))<240)) (
 some (.inl ((IntKind.wrap .i64 ((IntKind.wrap .i64 (b1.toNat:Int))-224)),3,2048,()))) (
 cond (decide ((IntKind.wrap .i64 (b1.toNat:Int))≥240)) (cond (decide ((IntKind.wrap .i64 (b1.toNat:Int))<245)) (
 some (.inl ((IntKind.wrap .i64 ((IntKind.wrap .i64 (b1.toNat:Int))-240)),4,65536,()))) (
 some (.inr (0,0,())))) (some (.inr (0,0,()))))) (cond (decide ((IntKind.wrap .i64 (b1.toNat:Int))≥240)) (cond (decide ((IntKind.wrap .i64 (b1.toNat:Int))<245)) (
 some (.inl ((IntKind.wrap .i64 ((IntKind.wrap .i64 (b1.toNat:Int))-240)),4,65536,()))) (
 some (.inr (0,0,())))) (some (.inr (0,0,()))))))):Option ((Int×Int×Int×Unit)⊕(Int×Int×Unit))).bind (bQ fun v3 =>
 cond (decide ((a0.length:Int)<v3.2.1)) (
 some (0,0,())) (
(aM (fh a0 v3) (v3.1,1,()):Option ((Int×Unit)⊕(Int×Int×Unit))).bind (bQ fun v7 =>
(cond (decide (v7.1<v3.2.2.1)) (some (.inr (0,0,()))) (cond (decide (v7.1>1114111)) (some (.inr (0,0,()))) (cond (decide (v7.1≥55296)) (cond (decide (v7.1≤57343)) (
 some (.inr (0,0,()))) (
 some (.inl ()))) (some (.inl ())))):Option (Unit⊕(Int×Int×Unit))).bind (bQ fun v8 =>
 some (v7.1,v3.2.1,()))))))
def uo:TFn:={ ps:=(.cons .str .unit),res:=(.tup (.cons (.int .i64) tT18)),fn:=fun v=>zcf v.1 }
def ahl:TEnv:=(vZ [])
theorem ahk:runY Tryz.prog abE ahm ahl anf Tryz.f216 uo.ps uo.res=uo.fn:=by kernel_rfl
theorem abC:aC Tryz.prog G0 216 abD:=ah (ak ⟨ay,ae,ar,ae,aq⟩ Tryz.func216 rfl (by kernel_rfl))
theorem ahj:TOk abD uo:=az (E:=abE) (ET:=ahl) (EnvT.ofX (ax al) am ap aL an) ahk rfl
def ae0:Env:=(eZ [(216,abD)] [274])
def al4:Hints:=(hZ [(3,[0,4,5])] [])
def yR:PFn:=aE (runF Tryz.prog ae0 al4 Tryz.f144)
def aor:TH:={ loops:=[(3,{ keep:=[(4,(.own 0)),(5,(.int .i64))],mem:=[.row true 3 (.int .i64)] })],ro:=[] }
def lq (a0:List UInt8) (y3:(Int×List Int×Unit)):Option ((Int×List Int×Unit)⊕(List Int×Bool×Unit)) :=
 cond (decide (y3.1<(a0.length:Int))) (
(subI a0 y3.1 (a0.length:Int)).bind fun s1 =>
(zcf s1).bind fun r2 =>
 cond (decide (r2.2.1=0)) (
 some (.inr ([],false,()))) (
(dO (y3.2.1.length+([r2.1]:List Int).length)).bind fun u3 =>
 some (.inl ((IntKind.wrap .i64 (y3.1+r2.2.1)),(y3.2.1++([r2.1]:List Int)),())))) (
 some (.inr (y3.2.1,true,())))
def za6 (a0:List UInt8):Option (List Int×Bool×Unit) :=
 aM (lq a0) (0,[],())
def sI:TFn:={ ps:=(.cons .str .unit),res:=(.tup (.cons (.sl (.int .i64)) (.cons .bool .unit))),fn:=fun v=>za6 v.1 }
def al3:TEnv:={ pure:=[(216,uo)],look:=[],glob:=G0T,ty:=[(3,(.int .i64))],raw:=[],fresh:=[] }
theorem al2:runY Tryz.prog ae0 al4 al3 aor Tryz.f144 sI.ps sI.res=sI.fn:=by kernel_rfl
theorem vS:aC Tryz.prog G0 144 yR:=ah (ak ⟨ay,(ai abC ae),ar,ae,aq⟩ Tryz.func144 rfl (by kernel_rfl))
theorem aau:TOk yR sI:=az (E:=ae0) (ET:=al3) (EnvT.ofX (ax (ac ahj al)) am ap aL an) al2 rfl
def aa3:Env:=(eZ [] [274])
def agq:Hints:=(hZ [] [])
def aa2:PFn:=aE (runF Tryz.prog aa3 agq Tryz.f306)
def amY:TH:=yZ
def zcv (a0:Int):Option Bool :=
 cond (decide (a0≥32)) (cond (decide (a0<127)) (some (!decide (a0=65533))) (cond (decide (a0>159)) (some (!decide (a0=65533))) (some false))) (some false)
def tU:TFn:={ ps:=tT18,res:=.bool,fn:=fun v=>zcv v.1 }
def agp:TEnv:=(vZ [])
theorem ago:runY Tryz.prog aa3 agq agp amY Tryz.f306 tU.ps tU.res=tU.fn:=by kernel_rfl
theorem aa1:aC Tryz.prog G0 306 aa2:=ah (ak ⟨ay,ae,ar,ae,aq⟩ Tryz.func306 rfl (by kernel_rfl))
theorem agn:TOk aa2 tU:=az (E:=aa3) (ET:=agp) (EnvT.ofX (ax al) am ap aL an) ago rfl
def aeZ:Env:=(eZ [(144,yR),(306,aa2)] [274])
def al1:Hints:=(hZ [(3,[3,4,5])] [])
def aeY:PFn:=aE (runF Tryz.prog aeZ al1 Tryz.f253)
def aoq:TH:={ joins:=[(7,{ keep:=[],mem:=[] })],loops:=[(3,{ keep:=[(5,(.int .i64))],mem:=[] })],ro:=[] }
def od (r1:(List Int×Bool×Unit)) (y3:(Int×Unit)):Option ((Int×Unit)⊕(Unit⊕Bool)) :=
 cond (decide (y3.1<(r1.1.length:Int))) (
(atI r1.1 y3.1).bind fun x2 =>
(zcv x2).bind fun r3 =>
 cond (!r3) (
 some (.inr (.inr false))) (
 some (.inl ((IntKind.wrap .i64 (y3.1+1)),())))) (
 some (.inr (.inl ())))
def za7 (a0:List UInt8):Option Bool :=
(za6 a0).bind fun r1 =>
(aM (od r1) (0,()):Option (Unit⊕Bool)).bind (bQ fun v4 =>
 cond r1.2.1 (cond (decide ((r1.1.length:Int)≥1)) (some (decide ((r1.1.length:Int)≤24))) (some false)) (some false))
def vR:TFn:={ ps:=(.cons .str .unit),res:=.bool,fn:=fun v=>za7 v.1 }
def al0:TEnv:=(vZ [(144,sI),(306,tU)])
theorem alZ:runY Tryz.prog aeZ al1 al0 aoq Tryz.f253 vR.ps vR.res=vR.fn:=by kernel_rfl
theorem aeX:aC Tryz.prog G0 253 aeY:=ah (ak ⟨ay,(ai vS (ai aa1 ae)),ar,ae,aq⟩ Tryz.func253 rfl (by kernel_rfl))
theorem alY:TOk aeY vR:=az (E:=aeZ) (ET:=al0) (EnvT.ofX (ax (ac aau (ac agn al))) am ap aL an) alZ rfl
def acJ:Env:=(eZ [(253,aeY)] [274])
def aiZ:Hints:=(hZ [(6,[0,3])] [])
def acI:PFn:=aE (runF Tryz.prog acJ aiZ Tryz.f183)
def anG:TH:={ loops:=[(6,{ keep:=[(3,(.int .i64))],mem:=[] })],ro:=[] }
def qM (a0:List (List UInt8)) (y6:(Int×Unit)):Option ((Int×Unit)⊕Int) :=
 cond (decide (y6.1<(a0.length:Int))) (
(atI a0 y6.1).bind fun x1 =>
(za7 x1).bind fun r2 =>
 cond (!r2) (
 some (.inr 8)) (
 some (.inl ((IntKind.wrap .i64 (y6.1+1)),())))) (
 some (.inr 0))
def zbo (a0:List (List UInt8)):Option Int :=
 cond (decide ((a0.length:Int)=0)) (
 some 8) (
 cond (decide ((a0.length:Int)>8)) (
 some 9) (
 aM (qM a0) (0,())))
def uT:TFn:={ ps:=(.cons (.sl .str) .unit),res:=(.int .i64),fn:=fun v=>zbo v.1 }
def aiY:TEnv:=(vZ [(253,vR)])
theorem aiX:runY Tryz.prog acJ aiZ aiY anG Tryz.f183 uT.ps uT.res=uT.fn:=by kernel_rfl
theorem acH:aC Tryz.prog G0 183 acI:=ah (ak ⟨ay,(ai aeX ae),ar,ae,aq⟩ Tryz.func183 rfl (by kernel_rfl))
theorem aiW:TOk acI uT:=az (E:=acJ) (ET:=aiY) (EnvT.ofX (ax (ac alY al)) am ap aL an) aiX rfl
def acx:Env:=(eZ [(144,yR)] [274])
def aiI:Hints:=(hZ [] [])
def acw:PFn:=aE (runF Tryz.prog acx aiI Tryz.f184)
def anC:TH:={ loops:=[],ro:=[1] }
def zbs (a0:(Int×Int×List UInt8×Unit)):Option Bool :=
 cond (decide (a0.1=1)) (
 cond (decide (a0.2.2.1=[])) (cond (decide (a0.2.1≥(-2147483647))) (some (decide (a0.2.1≤2147483647))) (some false)) (some false)) (
 cond (decide (a0.1=2)) (
(za6 a0.2.2.1).bind fun r1 =>
 cond (decide (a0.2.1=0)) (cond r1.2.1 (some (decide ((a0.2.2.1.length:Int)≤64))) (some false)) (some false)) (
 cond (decide (a0.1=3)) (cond (decide (a0.2.2.1=[])) (cond (decide (a0.2.1≥0)) (some (decide (a0.2.1≤1))) (some false)) (some false)) (some false)))
def uP:TFn:={ ps:=(.cons tT16 .unit),res:=.bool,fn:=fun v=>zbs v.1 }
def aiH:TEnv:=(vZ [(144,sI)])
theorem aiG:runY Tryz.prog acx aiI aiH anC Tryz.f184 uP.ps uP.res=uP.fn:=by kernel_rfl
theorem acv:aC Tryz.prog G0 184 acw:=ah (ak ⟨ay,(ai vS ae),ar,ae,aq⟩ Tryz.func184 rfl (by kernel_rfl))
theorem aiF:TOk acw uP:=az (E:=acx) (ET:=aiH) (EnvT.ofX (ax (ac aau al)) am ap aL an) aiG rfl
def adu:Env:=(eZ [(101,oe),(172,yH)] [274])
def aj5:Hints:=(hZ [] [])
def adt:PFn:=aE (runF Tryz.prog adu aj5 Tryz.f254)
def anY:TH:={ loops:=[],ro:=[2,3] }
def zb6 (a0:vV2) (a1:vV2):Option Int :=
(za0 a0.1 a1.1).bind fun r1 =>
 cond (!decide (r1=0)) (
(za0 a0.1 a1.1).bind fun r2 =>
 some r2) (
(zb0 a0.2.1 a1.2.1).bind fun r3 =>
 some r3)
def vm:TFn:={ ps:=(.cons tT12 (.cons tT12 .unit)),res:=(.int .i64),fn:=fun v=>zb6 v.1 v.2.1 }
def aj4:TEnv:=(vZ [(101,kT),(172,sG)])
theorem aj3:runY Tryz.prog adu aj5 aj4 anY Tryz.f254 vm.ps vm.res=vm.fn:=by kernel_rfl
theorem ads:aC Tryz.prog G0 254 adt:=ah (ak ⟨ay,(ai ib (ai vu ae)),ar,ae,aq⟩ Tryz.func254 rfl (by kernel_rfl))
theorem aj2:TOk adt vm:=az (E:=adu) (ET:=aj4) (EnvT.ofX (ax (ac lu (ac aar al))) am ap aL an) aj3 rfl
def abL:Env:=(eZ [(109,mO),(254,adt)] [274])
def ahx:Hints:=(hZ [(2,[0,3])] [])
def abK:PFn:=aE (runF Tryz.prog abL ahx Tryz.f185)
def ani:TH:={ loops:=[(2,{ keep:=[(3,(.int .i64))],mem:=[] })],ro:=[] }
def qG (a0:List vV2) (y2:(Int×Unit)):Option ((Int×Unit)⊕Bool) :=
 cond (decide (y2.1<(a0.length:Int))) (
(atI a0 y2.1).bind fun x1 =>
(zbt x1.1).bind fun r2 =>
 cond (!r2) (some (.inr false)) ((atI a0 y2.1).bind fun x3 =>
 cond (decide (x3.2.1<0)) (some (.inr false)) ((atI a0 y2.1).bind fun x4 =>
 cond (decide (x4.2.1>15)) (
 some (.inr false)) (
 cond (decide (y2.1>0)) ((atI a0 (IntKind.wrap .i64 (y2.1-1))).bind fun x5 =>
(atI a0 y2.1).bind fun x6 =>
(zb6 x5 x6).bind fun r7 =>
 cond (!decide (r7=(-1))) (
 some (.inr false)) (
 some (.inl ((IntKind.wrap .i64 (y2.1+1)),())))) (some (.inl ((IntKind.wrap .i64 (y2.1+1)),()))))))) (
 some (.inr true))
def zcc (a0:List vV2):Option Bool :=
 aM (qG a0) (0,())
def ut:TFn:={ ps:=(.cons (.sl tT12) .unit),res:=.bool,fn:=fun v=>zcc v.1 }
def ahw:TEnv:=(vZ [(109,ju),(254,vm)])
theorem ahv:runY Tryz.prog abL ahx ahw ani Tryz.f185 ut.ps ut.res=ut.fn:=by kernel_rfl
theorem abJ:aC Tryz.prog G0 185 abK:=ah (ak ⟨ay,(ai gj (ai ads ae)),ar,ae,aq⟩ Tryz.func185 rfl (by kernel_rfl))
theorem ahu:TOk abK ut:=az (E:=abL) (ET:=ahw) (EnvT.ofX (ax (ac jt (ac aj2 al))) am ap aL an) ahv rfl
def acS:Env:=(eZ [(183,acI),(184,acw),(185,abK)] [274])
def ajb:Hints:=(hZ [] [])
def acR:PFn:=aE (runF Tryz.prog acS ajb Tryz.f110)
def anJ:TH:={ joins:=[(9,{ keep:=[(1,(.bx 0 0))],mem:=[.same,.gone] }),(11,{ keep:=[(1,(.bx 0 0))],mem:=[.same,.gone] }),(13,{ keep:=[(1,(.bx 0 0))],mem:=[.same,.gone] }),(15,{ keep:=[(1,(.bx 0 0))],mem:=[.same,.gone] })],loops:=[],cuts:=[(11,[(8,{ keep:=[(1,(.bx 0 0)),(55,.bool)],mem:=[.same,.gone] })])],ro:=[1],news:=[] }
def zbl (a0:vV3):Option Int :=
 cond (decide (a0.1<1)) (some 18) (cond (decide (a0.1>5)) (
 some 18) (
(zbo a0.2.1).bind fun r1 =>
 cond (!decide (r1=0)) (
 some r1) (
(cond (decide (a0.1=3)) (cond (!(eqV tT16 a0.2.2.1 (0,0,[],()))) (
 some (.inr 2)) (
 some (.inl ()))) (cond (decide (a0.1=5)) (cond (!(eqV tT16 a0.2.2.1 (0,0,[],()))) (
 some (.inr 2)) (
 some (.inl ()))) (some (.inl ()))):Option (Unit⊕Int)).bind (bQ fun v2 =>
(cond (!decide (a0.1=3)) (cond (!decide (a0.1=5)) ((zbs a0.2.2.1).bind fun r3 =>
 cond (!r3) (
 some (.inr 2)) (
 some (.inl ()))) (some (.inl ()))) (some (.inl ())):Option (Unit⊕Int)).bind (bQ fun v4 =>
((cond (!decide (a0.1=3)) (some ((!decide (a0.2.2.2.1=0)),())) (some (false,())):Option (Bool×Unit)).bind fun v5 =>
 cond v5.1 (some (.inr 2)) (cond (decide (a0.1=3)) (cond (decide (a0.2.2.2.1=0)) (some (.inr 2)) (cond (decide (a0.2.2.2.1>2147483647)) (some (.inr 2)) (cond (decide (a0.2.2.2.1<(-2147483647))) (
 some (.inr 2)) (
 some (.inl ()))))) (some (.inl ()))):Option (Unit⊕Int)).bind (bQ fun v6 =>
(cond (decide (a0.1=2)) (cond (decide ((a0.2.2.2.2.1.length:Int)>0)) (
 some (.inr 2)) (
 some (.inl ()))) (cond (decide (a0.1=3)) (cond (decide ((a0.2.2.2.2.1.length:Int)>0)) (
 some (.inr 2)) (
 some (.inl ()))) (some (.inl ()))):Option (Unit⊕Int)).bind (bQ fun v7 =>
 cond (decide ((a0.2.2.2.2.1.length:Int)>256)) (
 some 7) (
(zcc a0.2.2.2.2.1).bind fun r8 =>
 cond (!r8) (
 some 2) (
 some 0)))))))))
def uW:TFn:={ ps:=(.cons tT13 .unit),res:=(.int .i64),fn:=fun v=>zbl v.1 }
def aja:TEnv:=(vZ [(183,uT),(184,uP),(185,ut)])
theorem ai9:runY Tryz.prog acS ajb aja anJ Tryz.f110 uW.ps uW.res=uW.fn:=by kernel_rfl
theorem acQ:aC Tryz.prog G0 110 acR:=ah (ak ⟨ay,(ai acH (ai acv (ai abJ ae))),ar,ae,aq⟩ Tryz.func110 rfl (by kernel_rfl))
theorem ai8:TOk acR uW:=az (E:=acS) (ET:=aja) (EnvT.ofX (ax (ac aiW (ac aiF (ac ahu al)))) am ap aL an) ai9 rfl
def abI:Env:=(eZ [] [274])
def aht:Hints:=(hZ [] [])
def abH:PFn:=aE (runF Tryz.prog abI aht Tryz.f111)
def anh:TH:={ loops:=[],cuts:=[(2,[(9,{ keep:=[(1,(.bx 0 0)),(3,(.bx 1 0)),(13,.bool)],mem:=[.same,.box 132 tT16] })])],ro:=[1],news:=[] }
def zcd (a0:vV3):Option Bool :=
(cond (decide (a0.1=0)) (some ((decide ((a0.2.1.length:Int)=0)),(0,0,[],()),())) (some (false,(0,0,[],()),())):Option (Bool×(Int×Int×List UInt8×Unit)×Unit)).bind fun v1 =>
 cond v1.1 (cond (eqV tT16 a0.2.2.1 v1.2.1) (cond (decide (a0.2.2.2.1=0)) (some (decide ((a0.2.2.2.2.1.length:Int)=0))) (some false)) (some false)) (some false)
def ur:TFn:={ ps:=(.cons tT13 .unit),res:=.bool,fn:=fun v=>zcd v.1 }
def ahs:TEnv:=(vZ [])
theorem ahr:runY Tryz.prog abI aht ahs anh Tryz.f111 ur.ps ur.res=ur.fn:=by kernel_rfl
theorem abG:aC Tryz.prog G0 111 abH:=ah (ak ⟨ay,ae,ar,ae,aq⟩ Tryz.func111 rfl (by kernel_rfl))
theorem ahq:TOk abH ur:=az (E:=abI) (ET:=ahs) (EnvT.ofX (ax al) am ap aL an) ahr rfl
def aeT:Env:=(eZ [(109,mO),(110,acR),(111,abH)] [274])
def alT:Hints:=(hZ [(8,[1,3])] [])
def aeS:PFn:=aE (runF Tryz.prog aeT alT Tryz.f42)
def aon:TH:={ loops:=[(8,{ keep:=[(1,(.bx 0 0)),(3,(.int .i64))],mem:=[.same] })],cuts:=[(1,[(9,{ keep:=[(1,(.bx 0 0)),(13,.bool)],mem:=[.same] })])],ro:=[1],news:=[] }
def oc (a0:vV1) (y8:(Int×Unit)):Option ((Int×Unit)⊕Int) :=
 cond (decide (y8.1<(a0.2.2.2.2.1.length:Int))) (
(atI a0.2.2.2.2.1 y8.1).bind fun x3 =>
(zbl x3).bind fun r4 =>
 cond (!decide (r4=0)) (cond a0.2.2.2.1 ((atI a0.2.2.2.2.1 y8.1).bind fun x5 =>
(zcd x5).bind fun r6 =>
 cond (!r6) (
 some (.inr r4)) (
 some (.inl ((IntKind.wrap .i64 (y8.1+1)),())))) (some (.inr r4))) (some (.inl ((IntKind.wrap .i64 (y8.1+1)),())))) (
 some (.inr 0))
def za9 (a0:vV1):Option Int :=
((zbt a0.1).bind fun r1 =>
 cond (!r1) (some (true,())) (some ((decide (a0.2.1<0)),())):Option (Bool×Unit)).bind fun v2 =>
 cond v2.1 (some 2) (cond (decide (a0.2.1>7)) (some 2) (cond (decide (a0.2.2.1<1)) (some 2) (cond (decide (a0.2.2.1>1099511627776)) (
 some 2) (
 cond (decide ((a0.2.2.2.2.1.length:Int)=0)) (
 some 11) (
 cond (decide ((a0.2.2.2.2.1.length:Int)>16)) (
 some 7) (
 aM (oc a0) (0,())))))))
def vP:TFn:={ ps:=(.cons tT9 .unit),res:=(.int .i64),fn:=fun v=>za9 v.1 }
def alS:TEnv:=(vZ [(109,ju),(110,uW),(111,ur)])
theorem alR:runY Tryz.prog aeT alT alS aon Tryz.f42 vP.ps vP.res=vP.fn:=by kernel_rfl
theorem aeR:aC Tryz.prog G0 42 aeS:=ah (ak ⟨ay,(ai gj (ai acQ (ai abG ae))),ar,ae,aq⟩ Tryz.func42 rfl (by kernel_rfl))
theorem alQ:TOk aeS vP:=az (E:=aeT) (ET:=alS) (EnvT.ofX (ax (ac jt (ac ai8 (ac ahq al)))) am ap aL an) alR rfl
def abh:Env:=(eZ [(109,mO)] [274])
def agM:Hints:=(hZ [] [])
def abg:PFn:=aE (runF Tryz.prog abh agM Tryz.f320)
def am4:TH:={ loops:=[],ro:=[3] }
def zcp (a0:List Int) (a1:(Int×Int×Unit)):Option Bool :=
(zbt a1).bind fun r1 =>
 cond r1 ((inI 16 a1.1).bind fun i2 =>
(a0[i2]?).bind fun x3 =>
 some (decide (x3≥a1.2.1))) (some false)
def t7:TFn:={ ps:=(.cons (.arr 16 (.int .i64)) (.cons tT11 .unit)),res:=.bool,fn:=fun v=>zcp v.1 v.2.1 }
def agL:TEnv:=(vZ [(109,ju)])
theorem agK:runY Tryz.prog abh agM agL am4 Tryz.f320 t7.ps t7.res=t7.fn:=by kernel_rfl
theorem abf:aC Tryz.prog G0 320 abg:=ah (ak ⟨ay,(ai gj ae),ar,ae,aq⟩ Tryz.func320 rfl (by kernel_rfl))
theorem agJ:TOk abg t7:=az (E:=abh) (ET:=agL) (EnvT.ofX (ax (ac jt al)) am ap aL an) agK rfl
def aa7:Env:=(eZ [(320,abg)] [274])
def agx:Hints:=(hZ [(4,[2,3,5])] [])
def aa6:PFn:=aE (runF Tryz.prog aa7 agx Tryz.f270)
def am0:TH:={ loops:=[(4,{ keep:=[(2,(.bx 0 0)),(3,(.bx 1 0)),(5,(.int .i64))],mem:=[.same,.same] })],ro:=[2,3] }
def qC (a0:vV4) (a1:(Int×Int×Unit)) (y4:(Int×Unit)):Option ((Int×Unit)⊕Bool) :=
 cond (decide (y4.1<(a0.2.1.length:Int))) (
(atI a0.2.1 y4.1).bind fun x2 =>
 cond (eqV tT11 x2 a1) (
 some (.inr true)) (
 some (.inl ((IntKind.wrap .i64 (y4.1+1)),())))) (
 some (.inr false))
def zct (a0:vV4) (a1:(Int×Int×Unit)):Option Bool :=
(zcp a0.1 a1).bind fun r1 =>
 cond r1 (
 some true) (
 aM (qC a0 a1) (0,()))
def tW:TFn:={ ps:=(.cons tT14 (.cons tT11 .unit)),res:=.bool,fn:=fun v=>zct v.1 v.2.1 }
def agw:TEnv:=(vZ [(320,t7)])
theorem agv:runY Tryz.prog aa7 agx agw am0 Tryz.f270 tW.ps tW.res=tW.fn:=by kernel_rfl
theorem aa5:aC Tryz.prog G0 270 aa6:=ah (ak ⟨ay,(ai abf ae),ar,ae,aq⟩ Tryz.func270 rfl (by kernel_rfl))
theorem agu:TOk aa6 tW:=az (E:=aa7) (ET:=agw) (EnvT.ofX (ax (ac agJ al)) am ap aL an) agv rfl
def ae9:Env:=(eZ [] [274])
def amg:Hints:=(hZ [(3,[1,2,3,4])] [])
def ae8:PFn:=aE (runF Tryz.prog ae9 amg Tryz.f294)
def aou:TH:={ loops:=[(3,{ keep:=[(1,(.bx 0 0)),(2,(.bx 1 0)),(3,(.bx 2 0)),(4,(.int .i64))],mem:=[.same,.box 66 tT17,.box 66 (.agg (.cons (.arr 16 (.int .i64)) (.cons (.own 4) .unit))),.gone,.row true 72 tT11] })],ro:=[1] }
def qV (a0:vV4) (y3:(Int×vV7×vV7×List (Int×Int×Unit)×Unit)):Option ((Int×vV7×vV7×List (Int×Int×Unit)×Unit)⊕vV4) :=
 cond (decide (y3.1<(a0.2.1.length:Int))) (
(atI a0.2.1 y3.1).bind fun x1 =>
(inI 16 x1.1).bind fun i2 =>
(y3.2.2.1.1[i2]?).bind fun x3 =>
 cond (decide (x1.2.1=(IntKind.wrap .i64 (x3+1)))) (
(inI 16 x1.1).bind fun i4 =>
(y3.2.2.1.1[i4]?).bind fun x5 =>
 some (.inl ((IntKind.wrap .i64 (y3.1+1)),y3.2.1,((y3.2.2.1.1.set i4 x1.2.1),y3.2.2.1.2.1,()),y3.2.2.2.1,()))) (
(inI 16 x1.1).bind fun i6 =>
(y3.2.2.1.1[i6]?).bind fun x7 =>
 cond (decide (x1.2.1>x7)) (
(dO (y3.2.2.2.1.length+([x1]:List (Int×Int×Unit)).length)).bind fun u8 =>
 some (.inl ((IntKind.wrap .i64 (y3.1+1)),y3.2.1,(y3.2.2.1.1,(),()),(y3.2.2.2.1++([x1]:List (Int×Int×Unit))),()))) (
 some (.inl ((IntKind.wrap .i64 (y3.1+1)),y3.2.1,y3.2.2.1,y3.2.2.2.1,()))))) (
 some (.inr (y3.2.2.1.1,y3.2.2.2.1,())))
def za3 (a0:vV4):Option vV4 :=
 aM (qV a0) (0,([0,0,0,0,0,0,0,0,0,0,0,0,0,0,0,0],(),()),(a0.1,(),()),[],())
def vV:TFn:={ ps:=(.cons tT14 .unit),res:=tT14,fn:=fun v=>za3 v.1 }
def amf:TEnv:={ pure:=[],look:=[],glob:=G0T,ty:=[(72,tT11)],raw:=[],fresh:=[] }
theorem ame:runY Tryz.prog ae9 amg amf aou Tryz.f294 vV.ps vV.res=vV.fn:=by kernel_rfl
theorem ae7:aC Tryz.prog G0 294 ae8:=ah (ak ⟨ay,ae,ar,ae,aq⟩ Tryz.func294 rfl (by kernel_rfl))
theorem amd:TOk ae8 vV:=az (E:=ae9) (ET:=amf) (EnvT.ofX (ax al) am ap aL an) ame rfl
def abA:Env:=(eZ [(101,oe),(109,mO),(270,aa6),(294,ae8)] [274])
def ahf:Hints:=(hZ [(6,[2,3,4,5,6,7])] [56])
def abz:PFn:=aE (runF Tryz.prog abA ahf Tryz.f236)
def anc:TH:={ joins:=[(12,{ keep:=[(2,(.bx 0 0)),(3,(.bx 1 0)),(4,(.bx 2 0)),(5,(.own 3)),(6,.bool)],mem:=[.same,.same,.box 66 tT17,.row true 72 tT11] }),(11,{ keep:=[(2,(.bx 0 0)),(3,(.bx 1 0)),(4,(.bx 2 0)),(5,(.own 3)),(6,.bool)],mem:=[.same,.same,.box 66 tT17,.row true 72 tT11] }),(14,{ keep:=[(2,(.bx 0 0)),(4,(.bx 2 0)),(5,(.own 3))],mem:=[.same,.same,.box 66 tT17,.row true 72 tT11] })],loops:=[(6,{ keep:=[(2,(.bx 0 0)),(3,(.bx 1 0)),(4,(.bx 2 0)),(5,(.own 3)),(6,.bool),(7,(.int .i64))],mem:=[.same,.same,.box 66 tT17,.row true 72 tT11] })],ro:=[2,3] }
def qE (a0:vV4) (a1:(Int×Int×Unit)) (y6:(Bool×Int×vV7×List (Int×Int×Unit)×Unit)):Option ((Bool×Int×vV7×List (Int×Int×Unit)×Unit)⊕((Bool×vV7×List (Int×Int×Unit)×Unit)⊕vV4)) :=
 cond (decide (y6.2.1<(a0.2.1.length:Int))) (
(cond (!y6.1) ((atI a0.2.1 y6.2.1).bind fun x3 =>
(za0 a1 x3).bind fun r4 =>
 cond (decide (r4<0)) (
(dO (y6.2.2.2.1.length+([a1]:List (Int×Int×Unit)).length)).bind fun u5 =>
 some (.inl (true,y6.2.2.1,(y6.2.2.2.1++([a1]:List (Int×Int×Unit))),()))) (
 some (.inl (y6.1,y6.2.2.1,y6.2.2.2.1,())))) (some (.inl (y6.1,y6.2.2.1,y6.2.2.2.1,()))):Option ((Bool×vV7×List (Int×Int×Unit)×Unit)⊕((Bool×Int×vV7×List (Int×Int×Unit)×Unit)⊕((Bool×vV7×List (Int×Int×Unit)×Unit)⊕vV4)))).bind (bQ fun v6 =>
(atI a0.2.1 y6.2.1).bind fun x7 =>
(dO (v6.2.2.1.length+([x7]:List (Int×Int×Unit)).length)).bind fun u8 =>
 some (.inl (v6.1,(IntKind.wrap .i64 (y6.2.1+1)),v6.2.1,(v6.2.2.1++([x7]:List (Int×Int×Unit))),())))) (
 some (.inr (.inl (y6.1,y6.2.2.1,y6.2.2.2.1,()))))
def zch (a0:vV4) (a1:(Int×Int×Unit)):Option vV4 :=
(zbt a1).bind fun r1 =>
 cond (!r1) (some a0) ((zct a0 a1).bind fun r2 =>
 cond r2 (
 some a0) (
(aM (qE a0 a1) (false,0,([0,0,0,0,0,0,0,0,0,0,0,0,0,0,0,0],(),()),[],()):Option ((Bool×vV7×List (Int×Int×Unit)×Unit)⊕vV4)).bind (bQ fun v9 =>
(cond (!v9.1) (
(dO (v9.2.2.1.length+([a1]:List (Int×Int×Unit)).length)).bind fun u10 =>
 some (.inl (v9.2.1,(v9.2.2.1++([a1]:List (Int×Int×Unit))),()))) (
 some (.inl (v9.2.1,v9.2.2.1,()))):Option ((vV7×List (Int×Int×Unit)×Unit)⊕vV4)).bind (bQ fun v11 =>
(za3 (a0.1,v11.2.1,())).bind fun r12 =>
 some r12))))
def uj:TFn:={ ps:=(.cons tT14 (.cons tT11 .unit)),res:=tT14,fn:=fun v=>zch v.1 v.2.1 }
def ahe:TEnv:={ pure:=[(101,kT),(109,ju),(270,tW),(294,vV)],look:=[],glob:=G0T,ty:=[(72,tT11)],raw:=[],fresh:=[] }
theorem ahd:runY Tryz.prog abA ahf ahe anc Tryz.f236 uj.ps uj.res=uj.fn:=by kernel_rfl
theorem aby:aC Tryz.prog G0 236 abz:=ah (ak ⟨ay,(ai ib (ai gj (ai aa5 (ai ae7 ae)))),ar,ae,aq⟩ Tryz.func236 rfl (by kernel_rfl))
theorem ahc:TOk abz uj:=az (E:=abA) (ET:=ahe) (EnvT.ofX (ax (ac lu (ac jt (ac agu (ac amd al))))) am ap aL an) ahd rfl
def acq:Env:=(eZ [(236,abz)] [274])
def aix:Hints:=(hZ [(3,[0,2,3,4])] [])
def acp:PFn:=aE (runF Tryz.prog acq aix Tryz.f168)
def anz:TH:={ loops:=[(3,{ keep:=[(2,(.bx 0 0)),(3,(.bx 1 0)),(4,(.int .i64))],mem:=[.box 66 tT17,.box 66 tT14] })],ro:=[] }
def qI (a0:List vV1) (y3:(Int×vV7×vV4×Unit)):Option ((Int×vV7×vV4×Unit)⊕vV4) :=
 cond (decide (y3.1<(a0.length:Int))) (
(atI a0 y3.1).bind fun x1 =>
(zch y3.2.2.1 x1.1).bind fun r2 =>
 some (.inl ((IntKind.wrap .i64 (y3.1+1)),y3.2.1,r2,()))) (
 some (.inr y3.2.2.1))
def zbv (a0:List vV1):Option vV4 :=
 aM (qI a0) (0,([0,0,0,0,0,0,0,0,0,0,0,0,0,0,0,0],(),()),([0,0,0,0,0,0,0,0,0,0,0,0,0,0,0,0],[],()),())
def uN:TFn:={ ps:=(.cons (.sl tT9) .unit),res:=tT14,fn:=fun v=>zbv v.1 }
def aiw:TEnv:=(vZ [(236,uj)])
theorem aiv:runY Tryz.prog acq aix aiw anz Tryz.f168 uN.ps uN.res=uN.fn:=by kernel_rfl
theorem aco:aC Tryz.prog G0 168 acp:=ah (ak ⟨ay,(ai aby ae),ar,ae,aq⟩ Tryz.func168 rfl (by kernel_rfl))
theorem aiu:TOk acp uN:=az (E:=acq) (ET:=aiw) (EnvT.ofX (ax (ac ahc al)) am ap aL an) aiv rfl
def adJ:Env:=(eZ [] [274])
def akq:Hints:=(hZ [(4,[0,1,5])] [])
def adI:PFn:=aE (runF Tryz.prog adJ akq Tryz.f65)
def an3:TH:={ loops:=[(4,{ keep:=[(5,(.int .i64))],mem:=[] })],ro:=[] }
def qQ (a0:List (Int×Int×Unit)) (a1:List (Int×Int×Unit)) (y4:(Int×Unit)):Option ((Int×Unit)⊕Bool) :=
 cond (decide (y4.1<(a0.length:Int))) (
(atI a0 y4.1).bind fun x1 =>
(atI a1 y4.1).bind fun x2 =>
 cond (!(eqV tT11 x1 x2)) (
 some (.inr false)) (
 some (.inl ((IntKind.wrap .i64 (y4.1+1)),())))) (
 some (.inr true))
def zb1 (a0:List (Int×Int×Unit)) (a1:List (Int×Int×Unit)):Option Bool :=
 cond (!decide ((a0.length:Int)=(a1.length:Int))) (
 some false) (
 aM (qQ a0 a1) (0,()))
def vt:TFn:={ ps:=(.cons (.sl tT11) (.cons (.sl tT11) .unit)),res:=.bool,fn:=fun v=>zb1 v.1 v.2.1 }
def akp:TEnv:=(vZ [])
theorem ako:runY Tryz.prog adJ akq akp an3 Tryz.f65 vt.ps vt.res=vt.fn:=by kernel_rfl
theorem adH:aC Tryz.prog G0 65 adI:=ah (ak ⟨ay,ae,ar,ae,aq⟩ Tryz.func65 rfl (by kernel_rfl))
theorem akn:TOk adI vt:=az (E:=adJ) (ET:=akp) (EnvT.ofX (ax al) am ap aL an) ako rfl
def adl:Env:=(eZ [(65,adI)] [274])
def ajT:Hints:=(hZ [] [])
def adk:PFn:=aE (runF Tryz.prog adl ajT Tryz.f167)
def anV:TH:={ loops:=[],ro:=[2,3] }
def zb9 (a0:vV4) (a1:vV4):Option Bool :=
 cond (eqV (.arr 16 (.int .i64)) a0.1 a1.1) ((zb1 a0.2.1 a1.2.1).bind fun r1 =>
 some r1) (some false)
def vj:TFn:={ ps:=(.cons tT14 (.cons tT14 .unit)),res:=.bool,fn:=fun v=>zb9 v.1 v.2.1 }
def ajS:TEnv:=(vZ [(65,vt)])
theorem ajR:runY Tryz.prog adl ajT ajS anV Tryz.f167 vj.ps vj.res=vj.fn:=by kernel_rfl
theorem adj:aC Tryz.prog G0 167 adk:=ah (ak ⟨ay,(ai adH ae),ar,ae,aq⟩ Tryz.func167 rfl (by kernel_rfl))
theorem ajQ:TOk adk vj:=az (E:=adl) (ET:=ajS) (EnvT.ofX (ax (ac akn al)) am ap aL an) ajR rfl
def ae3:Env:=(eZ [(42,aeS),(109,mO),(152,acz),(153,acC),(166,acL),(167,adk),(168,acp)] [274])
def al8:Hints:=(hZ [(4,[1,3]),(9,[1,4]),(14,[1,4,5])] [])
def ae2:PFn:=aE (runF Tryz.prog ae3 al8 Tryz.f96)
def aos:TH:={ joins:=[(8,{ keep:=[(1,(.bx 0 0))],mem:=[.box 69 tT10] }),(18,{ keep:=[(1,(.bx 0 0))],mem:=[.box 69 tT10] })],loops:=[(4,{ keep:=[(1,(.bx 0 0)),(3,(.int .i64))],mem:=[.box 69 tT10] }),(9,{ keep:=[(1,(.bx 0 0)),(4,(.int .i64))],mem:=[.box 69 tT10] }),(14,{ keep:=[(1,(.bx 0 0)),(5,(.int .i64))],mem:=[.box 69 tT10] })],ro:=[] }
def qU (y4:(Int×vV0×Unit)):Option ((Int×vV0×Unit)⊕((vV0×Unit)⊕Bool)) :=
 cond (decide (y4.1<(y4.2.1.1.length:Int))) (
(atI y4.2.1.1 y4.1).bind fun x4 =>
(za9 x4).bind fun r5 =>
 cond (!decide (r5=0)) (
 some (.inr (.inr false))) (
 some (.inl ((IntKind.wrap .i64 (y4.1+1)),y4.2.1,())))) (
 some (.inr (.inl (y4.2.1,()))))
def mQ (y9:(Int×vV0×Unit)) (y14:(Int×vV0×Unit)):Option ((Int×vV0×Unit)⊕((Int×vV0×Unit)⊕((vV0×Unit)⊕Bool))) :=
(inI 8 y9.1).bind fun i9 =>
(y14.2.1.2.2.2.2.1[i9]?).bind fun x10 =>
 cond (decide (y14.1<(x10.length:Int))) (
(inI 8 y9.1).bind fun i11 =>
(y14.2.1.2.2.2.2.1[i11]?).bind fun x12 =>
(atI x12 y14.1).bind fun x13 =>
(zbt x13).bind fun r14 =>
 cond (!r14) (
 some (.inr (.inr (.inr false)))) (
 some (.inl ((IntKind.wrap .i64 (y14.1+1)),y14.2.1,())))) (
 some (.inr (.inl ((IntKind.wrap .i64 (y9.1+1)),y14.2.1,()))))
def lr (y9:(Int×vV0×Unit)):Option ((Int×vV0×Unit)⊕((vV0×Unit)⊕Bool)) :=
 cond (decide (y9.1<8)) (
(inI 8 y9.1).bind fun i7 =>
(y9.2.1.2.2.2.2.1[i7]?).bind fun x8 =>
 cond (decide ((x8.length:Int)>1000)) (
 some (.inr (.inr false))) (
 aM (mQ y9) (0,y9.2.1,()))) (
 some (.inr (.inl (y9.2.1,()))))
def za5 (a0:vV0):Option Bool :=
 cond (decide ((a0.1.length:Int)>1000)) (some false) ((zbr a0.1).bind fun r1 =>
 cond (!r1) (some false) ((zbq a0.2.1).bind fun r2 =>
 cond (!r2) (some false) ((zbn a0.2.2.2.1).bind fun r3 =>
 cond (!r3) (
 some false) (
(aM (qU) (0,a0,()):Option ((vV0×Unit)⊕Bool)).bind (bQ fun v6 =>
(aM (lr) (0,v6.1,()):Option ((vV0×Unit)⊕Bool)).bind (bQ fun v15 =>
(zbn v15.1.2.2.1).bind fun r16 =>
 cond r16 ((zbv v15.1.1).bind fun r17 =>
(zb9 v15.1.2.2.1 r17).bind fun r18 =>
 some r18) (some false)))))))
def vT:TFn:={ ps:=(.cons tT10 .unit),res:=.bool,fn:=fun v=>za5 v.1 }
def al7:TEnv:=(vZ [(42,vP),(109,ju),(152,uQ),(153,uR),(166,uU),(167,vj),(168,uN)])
theorem al6:runY Tryz.prog ae3 al8 al7 aos Tryz.f96 vT.ps vT.res=vT.fn:=by kernel_rfl
theorem ae1:aC Tryz.prog G0 96 ae2:=ah (ak ⟨ay,(ai aeR (ai gj (ai acy (ai acB (ai acK (ai adj (ai aco ae))))))),ar,ae,aq⟩ Tryz.func96 rfl (by kernel_rfl))
theorem al5:TOk ae2 vT:=az (E:=ae3) (ET:=al7) (EnvT.ofX (ax (ac alQ (ac jt (ac aiJ (ac aiN (ac ai0 (ac ajQ (ac aiu al)))))))) am ap aL an) al6 rfl
def adr:Env:=(eZ [(95,ada),(96,ae2)] [274])
def aj1:Hints:=(hZ [] [])
def adq:PFn:=aE (runF Tryz.prog adr aj1 Tryz.f33)
def anX:TH:={ loops:=[],ro:=[1] }
def zb7 (a0:vV0):Option Bool :=
(zbc a0).bind fun r1 =>
 cond r1 ((za5 a0).bind fun r2 =>
 some r2) (some false)
def vl:TFn:={ ps:=(.cons tT10 .unit),res:=.bool,fn:=fun v=>zb7 v.1 }
def aj0:TEnv:=(vZ [(95,vg),(96,vT)])
theorem ajZ:runY Tryz.prog adr aj1 aj0 anX Tryz.f33 vl.ps vl.res=vl.fn:=by kernel_rfl
theorem adp:aC Tryz.prog G0 33 adq:=ah (ak ⟨ay,(ai ac9 (ai ae1 ae)),ar,ae,aq⟩ Tryz.func33 rfl (by kernel_rfl))
theorem ajY:TOk adq vl:=az (E:=adr) (ET:=aj0) (EnvT.ofX (ax (ac ajE (ac al5 al))) am ap aL an) ajZ rfl
def aba:Env:=(eZ [] [274])
def agB:Hints:=(hZ [] [])
def aa9:PFn:=aE (runF Tryz.prog aba agB Tryz.f98)
def am1:TH:=yZ
def zcs (a0:Int):Option vV1 :=
 some ((0,a0,()),1,a0,false,([(3,([[97]]:List (List UInt8)),(0,0,[],()),1,[],())]:List vV3),())
def tX:TFn:={ ps:=tT18,res:=tT9,fn:=fun v=>zcs v.1 }
def agA:TEnv:={ pure:=[],look:=[],glob:=G0T,ty:=[(9,.str),(135,tT13)],raw:=[],fresh:=[] }
theorem agz:runY Tryz.prog aba agB agA am1 Tryz.f98 tX.ps tX.res=tX.fn:=by kernel_rfl
theorem aa8:aC Tryz.prog G0 98 aa9:=ah (ak ⟨ay,ae,ar,ae,aq⟩ Tryz.func98 rfl (by kernel_rfl))
theorem agy:TOk aa9 tX:=az (E:=aba) (ET:=agA) (EnvT.ofX (ax al) am ap aL an) agz rfl
def adN:Env:=(eZ [] [274])
def akx:Hints:=(hZ [] [])
def adM:PFn:=aE (runF Tryz.prog adN akx Tryz.f226)
def an5:TH:=yZ
def zaz (a0:Int):Option Bool :=
 some (!decide (a0=a0))
def vv:TFn:={ ps:=tT18,res:=.bool,fn:=fun v=>zaz v.1 }
def akw:TEnv:=(vZ [])
theorem akv:runY Tryz.prog adN akx akw an5 Tryz.f226 vv.ps vv.res=vv.fn:=by kernel_rfl
theorem adL:aC Tryz.prog G0 226 adM:=ah (ak ⟨ay,ae,ar,ae,aq⟩ Tryz.func226 rfl (by kernel_rfl))
theorem aku:TOk adM vv:=az (E:=adN) (ET:=akw) (EnvT.ofX (ax al) am ap aL an) akv rfl
def adZ:Env:=(eZ [(226,adM)] [274])
def akT:Hints:=(hZ [] [])
def vD:PFn:=aE (runF Tryz.prog adZ akT Tryz.f156)
def aob:TH:=yZ
def zat (a0:Int) (a1:Int):Option Int :=
(zaz a0).bind fun r1 =>
(zaz a1).bind fun r2 =>
 cond r1 (
 cond r2 (
 some 0) (
 some (-1))) (
 cond r2 (
 some 1) (
 cond (decide (a0<a1)) (
 some (-1)) (
 cond (decide (a0>a1)) (
 some 1) (
 some 0))))
def pJ:TFn:={ ps:=(.cons (.int .i64) tT18),res:=(.int .i64),fn:=fun v=>zat v.1 v.2.1 }
def akS:TEnv:=(vZ [(226,vv)])
theorem akR:runY Tryz.prog adZ akT akS aob Tryz.f156 pJ.ps pJ.res=pJ.fn:=by kernel_rfl
theorem pK:aC Tryz.prog G0 156 vD:=ah (ak ⟨ay,(ai adL ae),ar,ae,aq⟩ Tryz.func156 rfl (by kernel_rfl))
theorem vC:TOk vD pJ:=az (E:=adZ) (ET:=akS) (EnvT.ofX (ax (ac aku al)) am ap aL an) akR rfl
def acj:Env:=(eZ [] [274])
def aim:Hints:=(hZ [(3,[3,6,7,8])] [])
def uK:PFn:=aE (runF Tryz.prog acj aim Tryz.f154)
def anv:TH:={ loops:=[(3,{ keep:=[(8,(.int .i64))],mem:=[] })],ro:=[] }
def iJ (a0:List Int) (y3:(Int×Unit)):Option ((Int×Unit)⊕Int) :=
 cond (decide (y3.1<(a0.length:Int))) (
(atI a0 y3.1).bind fun x1 =>
 cond (!decide (x1=0)) (
 some (.inr x1)) (
 some (.inl ((IntKind.wrap .i64 (y3.1+1)),())))) (
 some (.inr 0))
def zby (a0:List Int):Option Int :=
 aM (iJ a0) (0,())
def pE:TFn:={ ps:=(.cons (.sl (.int .i64)) .unit),res:=(.int .i64),fn:=fun v=>zby v.1 }
def ail:TEnv:=(vZ [])
theorem aik:runY Tryz.prog acj aim ail anv Tryz.f154 pE.ps pE.res=pE.fn:=by kernel_rfl
theorem pF:aC Tryz.prog G0 154 uK:=ah (ak ⟨ay,ae,ar,ae,aq⟩ Tryz.func154 rfl (by kernel_rfl))
theorem uJ:TOk uK pE:=az (E:=acj) (ET:=ail) (EnvT.ofX (ax al) am ap aL an) aik rfl
def acY:Env:=(eZ [(154,uK),(156,vD)] [274])
def ajo:Hints:=(hZ [] [])
def mP:PFn:=aE (runF Tryz.prog acY ajo Tryz.f171)
def anN:TH:={ loops:=[],ro:=[2,3] }
def zbh (a0:(Int×Int×Unit)) (a1:(Int×Int×Unit)):Option Int :=
(zat a0.1 a1.1).bind fun r1 =>
(zat a0.2.1 a1.2.1).bind fun r2 =>
(zby ([r1,r2]:List Int)).bind fun r3 =>
 some r3
def jw:TFn:={ ps:=(.cons tT11 (.cons tT11 .unit)),res:=(.int .i64),fn:=fun v=>zbh v.1 v.2.1 }
def ajn:TEnv:={ pure:=[(154,pE),(156,pJ)],look:=[],glob:=G0T,ty:=[(3,(.int .i64))],raw:=[],fresh:=[] }
theorem ajm:runY Tryz.prog acY ajo ajn anN Tryz.f171 jw.ps jw.res=jw.fn:=by kernel_rfl
theorem gk:aC Tryz.prog G0 171 mP:=ah (ak ⟨ay,(ai pF (ai pK ae)),ar,ae,aq⟩ Tryz.func171 rfl (by kernel_rfl))
theorem jv:TOk mP jw:=az (E:=acY) (ET:=ajn) (EnvT.ofX (ax (ac uJ (ac vC al))) am ap aL an) ajm rfl
def abP:Env:=(eZ [(171,mP)] [274])
def ahF:Hints:=(hZ [] [])
def abO:PFn:=aE (runF Tryz.prog abP ahF Tryz.f193)
def ank:TH:={ loops:=[],ro:=[2,3] }
def zca (a0:vV1) (a1:(Int×Int×Unit)):Option Int :=
(zbh a0.1 a1).bind fun r1 =>
 some r1
def uw:TFn:={ ps:=(.cons tT9 (.cons tT11 .unit)),res:=(.int .i64),fn:=fun v=>zca v.1 v.2.1 }
def ahE:TEnv:=(vZ [(171,jw)])
theorem ahD:runY Tryz.prog abP ahF ahE ank Tryz.f193 uw.ps uw.res=uw.fn:=by kernel_rfl
theorem abN:aC Tryz.prog G0 193 abO:=ah (ak ⟨ay,(ai gk ae),ar,ae,aq⟩ Tryz.func193 rfl (by kernel_rfl))
theorem ahC:TOk abO uw:=az (E:=abP) (ET:=ahE) (EnvT.ofX (ax (ac jv al)) am ap aL an) ahD rfl
def aeM:Env:=(eZ [(193,abO)] [274])
def alI:Hints:=(hZ [(3,[0,2,4,8,9,10])] [])
def aeL:PFn:=aE (runF Tryz.prog aeM alI Tryz.f192)
def aok:TH:={ joins:=[(8,{ keep:=[(4,(.bx 0 0)),(9,(.int .i64))],mem:=[.same] })],loops:=[(3,{ keep:=[(4,(.bx 0 0)),(9,(.int .i64)),(10,(.int .i64))],mem:=[.same] })],ro:=[4] }
def qS (a0:List vV1) (a1:(Int×Int×Unit)) (y3:(Int×Int×Unit)):Option ((Int×Int×Unit)⊕((Int×Unit)⊕(Int×Bool×Unit))) :=
 cond (decide (y3.1<y3.2.1)) (
(shrT .u64 (IntKind.wrap .u64 (IntKind.wrap .i64 (y3.1+y3.2.1))) 1).bind fun t1 =>
(atI a0 (IntKind.wrap .i64 t1)).bind fun x2 =>
(zca x2 a1).bind fun r3 =>
 cond (decide (r3<0)) (
 some (.inl ((IntKind.wrap .i64 ((IntKind.wrap .i64 t1)+1)),y3.2.1,()))) (
 some (.inl (y3.1,(IntKind.wrap .i64 t1),())))) (
 some (.inr (.inl (y3.1,()))))
def zac (a0:List vV1) (a1:(Int×Int×Unit)) (a2:Unit):Option (Int×Bool×Unit) :=
(aM (qS a0 a1) (0,(a0.length:Int),()):Option ((Int×Unit)⊕(Int×Bool×Unit))).bind (bQ fun v4 =>
 cond (decide (v4.1<(a0.length:Int))) ((atI a0 v4.1).bind fun x5 =>
(zca x5 a1).bind fun r6 =>
 some (v4.1,(decide (r6=0)),())) (some (v4.1,false,())))
def vM:TFn:={ ps:=(.cons (.sl tT9) (.cons tT11 (.cons (.fn 193) .unit))),res:=(.tup (.cons (.int .i64) (.cons .bool .unit))),fn:=fun v=>zac v.1 v.2.1 v.2.2.1 }
def alH:TEnv:=(vZ [(193,uw)])
theorem alG:runY Tryz.prog aeM alI alH aok Tryz.f192 vM.ps vM.res=vM.fn:=by kernel_rfl
theorem aeK:aC Tryz.prog G0 192 aeL:=ah (ak ⟨ay,(ai abN ae),ar,ae,aq⟩ Tryz.func192 rfl (by kernel_rfl))
theorem alF:TOk aeL vM:=az (E:=aeM) (ET:=alH) (EnvT.ofX (ax (ac ahC al)) am ap aL an) alG rfl
def ab7:Env:=(eZ [(192,aeL)] [274])
def ah4:Hints:=(hZ [] [])
def ab6:PFn:=aE (runF Tryz.prog ab7 ah4 Tryz.f114)
def anq:TH:={ loops:=[],ro:=[3] }
def zc3 (a0:List vV1) (a1:(Int×Int×Unit)):Option Int :=
(zac a0 a1 ()).bind fun r1 =>
 cond (!r1.2.1) (
 some (-1)) (
 some r1.1)
def uE:TFn:={ ps:=(.cons (.sl tT9) (.cons tT11 .unit)),res:=(.int .i64),fn:=fun v=>zc3 v.1 v.2.1 }
def ah3:TEnv:=(vZ [(192,vM)])
theorem ah2:runY Tryz.prog ab7 ah4 ah3 anq Tryz.f114 uE.ps uE.res=uE.fn:=by kernel_rfl
theorem ab5:aC Tryz.prog G0 114 ab6:=ah (ak ⟨ay,(ai aeK ae),ar,ae,aq⟩ Tryz.func114 rfl (by kernel_rfl))
theorem ah1:TOk ab6 uE:=az (E:=ab7) (ET:=ah3) (EnvT.ofX (ax (ac alF al)) am ap aL an) ah2 rfl
def abq:Env:=(eZ [(171,mP)] [274])
def agY:Hints:=(hZ [] [])
def abp:PFn:=aE (runF Tryz.prog abq agY Tryz.f237)
def am7:TH:={ loops:=[],ro:=[2,3] }
def zcm (a0:vV1) (a1:(Int×Int×Unit)):Option Int :=
(zbh a0.1 a1).bind fun r1 =>
 some r1
def uf:TFn:={ ps:=(.cons tT9 (.cons tT11 .unit)),res:=(.int .i64),fn:=fun v=>zcm v.1 v.2.1 }
def agX:TEnv:=(vZ [(171,jw)])
theorem agW:runY Tryz.prog abq agY agX am7 Tryz.f237 uf.ps uf.res=uf.fn:=by kernel_rfl
theorem abo:aC Tryz.prog G0 237 abp:=ah (ak ⟨ay,(ai gk ae),ar,ae,aq⟩ Tryz.func237 rfl (by kernel_rfl))
theorem agV:TOk abp uf:=az (E:=abq) (ET:=agX) (EnvT.ofX (ax (ac jv al)) am ap aL an) agW rfl
def ad4:Go.Shelf.Ren:=⟨fun | 41=>181 | n=>n,fun | 22=>22 | 23=>78 | 4=>4 | n=>n,fun | n=>n⟩
theorem yK:Go.Proofs.SlLaysE0.n41 Tryz.prog ad4:={
 mixed:=by kernel_rfl
 f41:=⟨Tryz.f181.name,by decide,Tryz.func181.trans (congrArg some (by kernel_rfl))⟩
 t4:=Tryz.underlying4
 a4:=Tryz.isAgg4
 z4:=Tryz.sizeOf4
 v4:=Tryz.zeroValue4
 t22:=Tryz.underlying22
 a22:=Tryz.isAgg22
 z22:=Tryz.sizeOf22
 v22:=Tryz.zeroValue22 }
def ad6:SFn:=kE 6 78
theorem ad5:cZ Tryz.prog G0 181 ad6:=po yK rfl rfl (gQ (P:=Tryz.prog) (te:=78) (M:=6) (by kernel_rfl) (by kernel_rfl) (by kernel_rfl) (by kernel_rfl) (by kernel_rfl) (by kernel_rfl) (by kernel_rfl) (by kernel_rfl)) ⟨Tryz.f181,Tryz.func181,rfl,by kernel_rfl⟩
def zaq (a0:List vV1):Option (List vV1):=eF a0
def akX:TNew:=mw 78 tT9
theorem akW:TNewOk ad6 akX:=pw rfl rfl rfl
def aea:Go.Shelf.Ren:=⟨fun | 22=>238 | 29=>295 | 30=>296 | n=>n,fun | 24=>22 | 9=>78 | 0=>0 | 3=>3 | 4=>4 | n=>n,fun | n=>n⟩
theorem yM:InsL Tryz.prog aea:={
 mixed:=by kernel_rfl
 f22:=⟨Tryz.f238.name,by decide,Tryz.func238.trans (congrArg some (by kernel_rfl))⟩
 f29:=⟨Tryz.f295.name,by decide,by kernel_rfl,by kernel_rfl,Tryz.func295.trans (congrArg some (by kernel_rfl))⟩
 t0:=Tryz.underlying0
 a0:=Tryz.isAgg0
 z0:=Tryz.sizeOf0
 v0:=Tryz.zeroValue0
 t3:=Tryz.underlying3
 a3:=Tryz.isAgg3
 z3:=Tryz.sizeOf3
 v3:=Tryz.zeroValue3
 t4:=Tryz.underlying4
 a4:=Tryz.isAgg4
 z4:=Tryz.sizeOf4
 v4:=Tryz.zeroValue4
 t24:=Tryz.underlying22
 a24:=Tryz.isAgg22
 z24:=Tryz.sizeOf22
 v24:=Tryz.zeroValue22 }
def aec:SFn:=dV 6 78
theorem aeb:cZ Tryz.prog G0 238 aec:=me yM rfl rfl rfl (gQ (P:=Tryz.prog) (te:=78) (M:=6) (by kernel_rfl) (by kernel_rfl) (by kernel_rfl) (by kernel_rfl) (by kernel_rfl) (by kernel_rfl) (by kernel_rfl) (by kernel_rfl)) true Tryz.isAgg78 ⟨Tryz.f238,Tryz.func238,rfl,by kernel_rfl⟩
def zao (a1:Int) (a2:List vV1) (w0:List vV1):Option (Unit×List vV1×Unit):=(insT w0 a1 a2).map fun l=>((),(l,()))
def ak0:TRaw:=insR false 78 tT9
theorem akZ:TRawOk aec ak0:=xw rfl rfl rfl rfl (by decide)
def aeJ:Env:=(eZ [(237,abp)] [274])
def alE:Hints:=(hZ [(3,[0,2,4,8,9,10])] [])
def aeI:PFn:=aE (runF Tryz.prog aeJ alE Tryz.f192)
def aoj:TH:={ joins:=[(8,{ keep:=[(4,(.bx 0 0)),(9,(.int .i64))],mem:=[.same] })],loops:=[(3,{ keep:=[(4,(.bx 0 0)),(9,(.int .i64)),(10,(.int .i64))],mem:=[.same] })],ro:=[4] }
def qR (a0:List vV1) (a1:(Int×Int×Unit)) (y3:(Int×Int×Unit)):Option ((Int×Int×Unit)⊕((Int×Unit)⊕(Int×Bool×Unit))) :=
 cond (decide (y3.1<y3.2.1)) (
(shrT .u64 (IntKind.wrap .u64 (IntKind.wrap .i64 (y3.1+y3.2.1))) 1).bind fun t1 =>
(atI a0 (IntKind.wrap .i64 t1)).bind fun x2 =>
(zcm x2 a1).bind fun r3 =>
 cond (decide (r3<0)) (
 some (.inl ((IntKind.wrap .i64 ((IntKind.wrap .i64 t1)+1)),y3.2.1,()))) (
 some (.inl (y3.1,(IntKind.wrap .i64 t1),())))) (
 some (.inr (.inl (y3.1,()))))
def zad (a0:List vV1) (a1:(Int×Int×Unit)) (a2:Unit):Option (Int×Bool×Unit) :=
(aM (qR a0 a1) (0,(a0.length:Int),()):Option ((Int×Unit)⊕(Int×Bool×Unit))).bind (bQ fun v4 =>
 cond (decide (v4.1<(a0.length:Int))) ((atI a0 v4.1).bind fun x5 =>
(zcm x5 a1).bind fun r6 =>
 some (v4.1,(decide (r6=0)),())) (some (v4.1,false,())))
def vL:TFn:={ ps:=(.cons (.sl tT9) (.cons tT11 (.cons (.fn 237) .unit))),res:=(.tup (.cons (.int .i64) (.cons .bool .unit))),fn:=fun v=>zad v.1 v.2.1 v.2.2.1 }
def alD:TEnv:=(vZ [(237,uf)])
theorem alC:runY Tryz.prog aeJ alE alD aoj Tryz.f192 vL.ps vL.res=vL.fn:=by kernel_rfl
theorem aeH:aC Tryz.prog G0 192 aeI:=ah (ak ⟨ay,(ai abo ae),ar,ae,aq⟩ Tryz.func192 rfl (by kernel_rfl))
theorem alB:TOk aeI vL:=az (E:=aeJ) (ET:=alD) (EnvT.ofX (ax (ac agV al)) am ap aL an) alC rfl
def abY:Env:={ pure:=[(192,aeI)],raw:=[(181,ad6),(238,aec)],glob:=G0,same:=[274],look:=[],ext:=[] }
def ahR:Hints:={ seqs:=[],loops:=[],own:=[19],frz:=[(4,[3])] }
def abX:PFn:=aE (runF Tryz.prog abY ahR Tryz.f169)
def ann:TH:=yZ
def zc6 (a0:List vV1) (a1:vV1):Option (List vV1) :=
(zad a0 a1.1 ()).bind fun r1 =>
 cond r1.2.1 (
 some a0) (
(zaq a0).bind fun n2 =>
(zao r1.1 ([a1]:List vV1) n2).bind fun q3 =>
 some q3.2.1)
def uB:TFn:={ ps:=(.cons (.sl tT9) (.cons tT9 .unit)),res:=(.sl tT9),fn:=fun v=>zc6 v.1 v.2.1 }
def ahQ:TEnv:={ pure:=[(192,vL)],look:=[],glob:=G0T,ty:=[(78,tT9)],raw:=[(238,ak0)],fresh:=[(181,akX)] }
theorem ahP:runY Tryz.prog abY ahR ahQ ann Tryz.f169 uB.ps uB.res=uB.fn:=by kernel_rfl
theorem abW:aC Tryz.prog G0 169 abX:=ah (ak ⟨ay,(ai aeH ae),(fx ad5 (fx aeb ar)),ae,aq⟩ Tryz.func169 rfl (by kernel_rfl))
theorem ahO:TOk abX uB:=az (E:=abY) (ET:=ahQ) (EnvT.ofX (ax (ac alB al)) am (jS (oD akZ rfl rfl ap) rfl) aL (j4 akW rfl rfl rfl an)) ahP rfl
def abr:Env:=(eZ [] [274])
def ag1:Hints:=(hZ [] [])
def mN:PFn:=aE (runF Tryz.prog abr ag1 Tryz.f173)
def am8:TH:={ loops:=[],ro:=[1] }
def zcl (a0:(Int×Int×Unit)):Option Bool :=
 cond (decide (a0.1≥0)) (cond (decide (a0.1<16)) (cond (decide (a0.2.1≥1)) (some (decide (a0.2.1≤1048576))) (some false)) (some false)) (some false)
def js:TFn:={ ps:=(.cons tT11 .unit),res:=.bool,fn:=fun v=>zcl v.1 }
def ag0:TEnv:=(vZ [])
theorem agZ:runY Tryz.prog abr ag1 ag0 am8 Tryz.f173 js.ps js.res=js.fn:=by kernel_rfl
theorem gh:aC Tryz.prog G0 173 mN:=ah (ak ⟨ay,ae,ar,ae,aq⟩ Tryz.func173 rfl (by kernel_rfl))
theorem jr:TOk mN js:=az (E:=abr) (ET:=ag0) (EnvT.ofX (ax al) am ap aL an) agZ rfl
def abV:Env:=(eZ [(173,mN)] [274])
def ahN:Hints:=(hZ [] [])
def abU:PFn:=aE (runF Tryz.prog abV ahN Tryz.f194)
def anm:TH:={ loops:=[],ro:=[3] }
def zc7 (a0:List Int) (a1:(Int×Int×Unit)):Option Bool :=
(zcl a1).bind fun r1 =>
 cond r1 ((inI 16 a1.1).bind fun i2 =>
(a0[i2]?).bind fun x3 =>
 some (decide (a1.2.1≤x3))) (some false)
def uA:TFn:={ ps:=(.cons (.arr 16 (.int .i64)) (.cons tT11 .unit)),res:=.bool,fn:=fun v=>zc7 v.1 v.2.1 }
def ahM:TEnv:=(vZ [(173,js)])
theorem ahL:runY Tryz.prog abV ahN ahM anm Tryz.f194 uA.ps uA.res=uA.fn:=by kernel_rfl
theorem abT:aC Tryz.prog G0 194 abU:=ah (ak ⟨ay,(ai gh ae),ar,ae,aq⟩ Tryz.func194 rfl (by kernel_rfl))
theorem ahK:TOk abU uA:=az (E:=abV) (ET:=ahM) (EnvT.ofX (ax (ac jr al)) am ap aL an) ahL rfl
def aeN:Env:=(eZ [(171,mP)] [274])
def alL:Hints:=(hZ [(3,[0,2,4,8,9,10])] [])
def yQ:PFn:=aE (runF Tryz.prog aeN alL Tryz.f195)
def aol:TH:={ joins:=[(8,{ keep:=[(4,(.bx 0 0)),(9,(.int .i64))],mem:=[.same] })],loops:=[(3,{ keep:=[(4,(.bx 0 0)),(9,(.int .i64)),(10,(.int .i64))],mem:=[.same] })],ro:=[4] }
def qT (a0:List (Int×Int×Unit)) (a1:(Int×Int×Unit)) (y3:(Int×Int×Unit)):Option ((Int×Int×Unit)⊕((Int×Unit)⊕(Int×Bool×Unit))) :=
 cond (decide (y3.1<y3.2.1)) (
(shrT .u64 (IntKind.wrap .u64 (IntKind.wrap .i64 (y3.1+y3.2.1))) 1).bind fun t1 =>
(atI a0 (IntKind.wrap .i64 t1)).bind fun x2 =>
(zbh x2 a1).bind fun r3 =>
 cond (decide (r3<0)) (
 some (.inl ((IntKind.wrap .i64 ((IntKind.wrap .i64 t1)+1)),y3.2.1,()))) (
 some (.inl (y3.1,(IntKind.wrap .i64 t1),())))) (
 some (.inr (.inl (y3.1,()))))
def zab (a0:List (Int×Int×Unit)) (a1:(Int×Int×Unit)) (a2:Unit):Option (Int×Bool×Unit) :=
(aM (qT a0 a1) (0,(a0.length:Int),()):Option ((Int×Unit)⊕(Int×Bool×Unit))).bind (bQ fun v4 =>
 cond (decide (v4.1<(a0.length:Int))) ((atI a0 v4.1).bind fun x5 =>
(zbh x5 a1).bind fun r6 =>
 some (v4.1,(decide (r6=0)),())) (some (v4.1,false,())))
def sH:TFn:={ ps:=(.cons (.sl tT11) (.cons tT11 (.cons (.fn 171) .unit))),res:=(.tup (.cons (.int .i64) (.cons .bool .unit))),fn:=fun v=>zab v.1 v.2.1 v.2.2.1 }
def alK:TEnv:=(vZ [(171,jw)])
theorem alJ:runY Tryz.prog aeN alL alK aol Tryz.f195 sH.ps sH.res=sH.fn:=by kernel_rfl
theorem vN:aC Tryz.prog G0 195 yQ:=ah (ak ⟨ay,(ai gk ae),ar,ae,aq⟩ Tryz.func195 rfl (by kernel_rfl))
theorem aat:TOk yQ sH:=az (E:=aeN) (ET:=alK) (EnvT.ofX (ax (ac jv al)) am ap aL an) alJ rfl
def acf:Env:=(eZ [(194,abU),(195,yQ)] [274])
def aif:Hints:=(hZ [] [])
def yC:PFn:=aE (runF Tryz.prog acf aif Tryz.f115)
def ant:TH:={ loops:=[],ro:=[2,3] }
def zc0 (a0:vV4) (a1:(Int×Int×Unit)):Option Bool :=
(zc7 a0.1 a1).bind fun r1 =>
 cond r1 (
 some true) (
(zab a0.2.1 a1 ()).bind fun r2 =>
 some r2.2.1)
def sB:TFn:={ ps:=(.cons tT14 (.cons tT11 .unit)),res:=.bool,fn:=fun v=>zc0 v.1 v.2.1 }
def aie:TEnv:=(vZ [(194,uA),(195,sH)])
theorem aid:runY Tryz.prog acf aif aie ant Tryz.f115 sB.ps sB.res=sB.fn:=by kernel_rfl
theorem uH:aC Tryz.prog G0 115 yC:=ah (ak ⟨ay,(ai abT (ai vN ae)),ar,ae,aq⟩ Tryz.func115 rfl (by kernel_rfl))
theorem aal:TOk yC sB:=az (E:=acf) (ET:=aie) (EnvT.ofX (ax (ac ahK (ac aat al))) am ap aL an) aid rfl
def ad2:Go.Shelf.Ren:=⟨fun | 41=>180 | n=>n,fun | 22=>64 | 23=>72 | 4=>4 | n=>n,fun | n=>n⟩
theorem yI:Go.Proofs.SlLaysE0.n41 Tryz.prog ad2:={
 mixed:=by kernel_rfl
 f41:=⟨Tryz.f180.name,by decide,Tryz.func180.trans (congrArg some (by kernel_rfl))⟩
 t4:=Tryz.underlying4
 a4:=Tryz.isAgg4
 z4:=Tryz.sizeOf4
 v4:=Tryz.zeroValue4
 t22:=Tryz.underlying64
 a22:=Tryz.isAgg64
 z22:=Tryz.sizeOf64
 v22:=Tryz.zeroValue64 }
def yJ:SFn:=kE 2 72
theorem vE:cZ Tryz.prog G0 180 yJ:=po yI rfl rfl (gQ (P:=Tryz.prog) (te:=72) (M:=2) (by kernel_rfl) (by kernel_rfl) (by kernel_rfl) (by kernel_rfl) (by kernel_rfl) (by kernel_rfl) (by kernel_rfl) (by kernel_rfl)) ⟨Tryz.f180,Tryz.func180,rfl,by kernel_rfl⟩
def zar (a0:List (Int×Int×Unit)):Option (List (Int×Int×Unit)):=eF a0
def ad3:TNew:=mw 72 tT11
theorem aas:TNewOk yJ ad3:=pw rfl rfl rfl
def ad7:Go.Shelf.Ren:=⟨fun | 22=>239 | 29=>297 | 30=>298 | n=>n,fun | 24=>64 | 9=>72 | 0=>0 | 3=>3 | 4=>4 | n=>n,fun | n=>n⟩
theorem yL:InsL Tryz.prog ad7:={
 mixed:=by kernel_rfl
 f22:=⟨Tryz.f239.name,by decide,Tryz.func239.trans (congrArg some (by kernel_rfl))⟩
 f29:=⟨Tryz.f297.name,by decide,by kernel_rfl,by kernel_rfl,Tryz.func297.trans (congrArg some (by kernel_rfl))⟩
 t0:=Tryz.underlying0
 a0:=Tryz.isAgg0
 z0:=Tryz.sizeOf0
 v0:=Tryz.zeroValue0
 t3:=Tryz.underlying3
 a3:=Tryz.isAgg3
 z3:=Tryz.sizeOf3
 v3:=Tryz.zeroValue3
 t4:=Tryz.underlying4
 a4:=Tryz.isAgg4
 z4:=Tryz.sizeOf4
 v4:=Tryz.zeroValue4
 t24:=Tryz.underlying64
 a24:=Tryz.isAgg64
 z24:=Tryz.sizeOf64
 v24:=Tryz.zeroValue64 }
def ad9:SFn:=dV 2 72
theorem ad8:cZ Tryz.prog G0 239 ad9:=me yL rfl rfl rfl (gQ (P:=Tryz.prog) (te:=72) (M:=2) (by kernel_rfl) (by kernel_rfl) (by kernel_rfl) (by kernel_rfl) (by kernel_rfl) (by kernel_rfl) (by kernel_rfl) (by kernel_rfl)) true Tryz.isAgg72 ⟨Tryz.f239,Tryz.func239,rfl,by kernel_rfl⟩
def zap (a1:Int) (a2:List (Int×Int×Unit)) (w0:List (Int×Int×Unit)):Option (Unit×List (Int×Int×Unit)×Unit):=(insT w0 a1 a2).map fun l=>((),(l,()))
def aoc:TRaw:=insR false 72 tT11
theorem akY:TRawOk ad9 aoc:=xw rfl rfl rfl rfl (by decide)
def abd:Env:=(eZ [] [274])
def agF:Hints:=(hZ [(3,[4,5,10,11,12])] [])
def abc:PFn:=aE (runF Tryz.prog abd agF Tryz.f188)
def am2:TH:={ loops:=[(3,{ keep:=[(4,(.bx 1 0)),(5,(.bx 2 0)),(12,(.int .i64))],mem:=[.same,.box 66 tT17,.box 66 (.agg (.cons (.arr 16 (.int .i64)) (.cons (.own 4) .unit))),.gone,.row true 72 tT11] })],ro:=[2] }
def qD (a1:List (Int×Int×Unit)) (y3:(Int×vV7×vV7×List (Int×Int×Unit)×Unit)):Option ((Int×vV7×vV7×List (Int×Int×Unit)×Unit)⊕vV4) :=
 cond (decide (y3.1<(a1.length:Int))) (
(atI a1 y3.1).bind fun x1 =>
(inI 16 x1.1).bind fun i2 =>
(y3.2.2.1.1[i2]?).bind fun x3 =>
 cond (decide (x1.2.1≤x3)) (
 some (.inl ((IntKind.wrap .i64 (y3.1+1)),y3.2.1,y3.2.2.1,y3.2.2.2.1,()))) (
(inI 16 x1.1).bind fun i4 =>
(y3.2.2.1.1[i4]?).bind fun x5 =>
 cond (decide (x1.2.1=(IntKind.wrap .i64 (x5+1)))) (
(inI 16 x1.1).bind fun i6 =>
(y3.2.2.1.1[i6]?).bind fun x7 =>
 some (.inl ((IntKind.wrap .i64 (y3.1+1)),y3.2.1,((y3.2.2.1.1.set i6 x1.2.1),y3.2.2.1.2.1,()),y3.2.2.2.1,()))) (
 cond (decide ((y3.2.2.2.1.length:Int)=0)) ((dO (y3.2.2.2.1.length+([x1]:List (Int×Int×Unit)).length)).bind fun u8 =>
 some (.inl ((IntKind.wrap .i64 (y3.1+1)),y3.2.1,(y3.2.2.1.1,(),()),(y3.2.2.2.1++([x1]:List (Int×Int×Unit))),()))) ((inI y3.2.2.2.1.length (IntKind.wrap .i64 ((y3.2.2.2.1.length:Int)-1))).bind fun i9 =>
(y3.2.2.2.1[i9]?).bind fun x10 =>
 cond (!(eqV tT11 x10 x1)) (
(dO (y3.2.2.2.1.length+([x1]:List (Int×Int×Unit)).length)).bind fun u11 =>
 some (.inl ((IntKind.wrap .i64 (y3.1+1)),y3.2.1,(y3.2.2.1.1,(),()),(y3.2.2.2.1++([x1]:List (Int×Int×Unit))),()))) (
 some (.inl ((IntKind.wrap .i64 (y3.1+1)),y3.2.1,y3.2.2.1,y3.2.2.2.1,()))))))) (
 some (.inr (y3.2.2.1.1,y3.2.2.2.1,())))
def zcr (a0:List Int) (a1:List (Int×Int×Unit)):Option vV4 :=
 aM (qD a1) (0,([0,0,0,0,0,0,0,0,0,0,0,0,0,0,0,0],(),()),(a0,(),()),[],())
def tY:TFn:={ ps:=(.cons (.arr 16 (.int .i64)) (.cons (.sl tT11) .unit)),res:=tT14,fn:=fun v=>zcr v.1 v.2.1 }
def agE:TEnv:={ pure:=[],look:=[],glob:=G0T,ty:=[(72,tT11)],raw:=[],fresh:=[] }
theorem agD:runY Tryz.prog abd agF agE am2 Tryz.f188 tY.ps tY.res=tY.fn:=by kernel_rfl
theorem abb:aC Tryz.prog G0 188 abc:=ah (ak ⟨ay,ae,ar,ae,aq⟩ Tryz.func188 rfl (by kernel_rfl))
theorem agC:TOk abc tY:=az (E:=abd) (ET:=agE) (EnvT.ofX (ax al) am ap aL an) agD rfl
def aen:SFn:=p9 ad9
theorem aem:cZ Tryz.prog G0 239 aen:=p8 ad8
def zak (a1:Int) (a2:List (Int×Int×Unit)) (w0:List (Int×Int×Unit)):Option (List (Int×Int×Unit)×Unit):=(zap a1 a2 w0).map fun q=>(q.2.1,())
def ak8:TRaw:={ ps:=(.cons (.own 0) (.cons (.int .i64) (.cons (.sl tT11) .unit))),ins:=[.row false 72 tT11],res:=(.sl tT11),outs:=[.gone],fn:=fun v w=>zak v.2.1 v.2.2.1 w.1 }
theorem ak7:TRawOk aen ak8:=zU akY
def aca:Env:={ pure:=[(115,yC),(173,mN),(188,abc),(195,yQ)],raw:=[(180,yJ),(239,aen)],glob:=G0,same:=[274],look:=[],ext:=[] }
def ah8:Hints:={ seqs:=[],loops:=[],own:=[24,26,29],frz:=[(4,[2,3])] }
def ab9:PFn:=aE (runF Tryz.prog aca ah8 Tryz.f170)
def anr:TH:=yZ
def zc2 (a0:vV4) (a1:(Int×Int×Unit)):Option vV4 :=
(zcl a1).bind fun r1 =>
 cond (!r1) (some a0) ((zc0 a0 a1).bind fun r2 =>
 cond r2 (
 some a0) (
(zab a0.2.1 a1 ()).bind fun r3 =>
(zar a0.2.1).bind fun n4 =>
(zak r3.1 ([a1]:List (Int×Int×Unit)) n4).bind fun q5 =>
(zcr a0.1 q5.1).bind fun r6 =>
 some r6))
def uF:TFn:={ ps:=(.cons tT14 (.cons tT11 .unit)),res:=tT14,fn:=fun v=>zc2 v.1 v.2.1 }
def ah7:TEnv:={ pure:=[(115,sB),(173,js),(188,tY),(195,sH)],look:=[],glob:=G0T,ty:=[(72,tT11)],raw:=[(239,ak8)],fresh:=[(180,ad3)] }
theorem ah6:runY Tryz.prog aca ah8 ah7 anr Tryz.f170 uF.ps uF.res=uF.fn:=by kernel_rfl
theorem ab8:aC Tryz.prog G0 170 ab9:=ah (ak ⟨ay,(ai uH (ai gh (ai abb (ai vN ae)))),(fx vE (fx aem ar)),ae,aq⟩ Tryz.func170 rfl (by kernel_rfl))
theorem ah5:TOk ab9 uF:=az (E:=aca) (ET:=ah7) (EnvT.ofX (ax (ac aal (ac jr (ac agC (ac aat al))))) am (jS (oD ak7 rfl rfl ap) rfl) aL (j4 aas rfl rfl rfl an)) ah6 rfl
def abx:Env:=(eZ [(114,ab6),(169,abX),(170,ab9)] [274])
def ahb:Hints:=(hZ [] [])
def yy:PFn:=aE (runF Tryz.prog abx ahb Tryz.f97)
def anb:TH:={ loops:=[],ro:=[3] }
def zci (a0:vV0) (a1:vV1):Option vV0 :=
(zc3 a0.1 a1.1).bind fun r1 =>
 cond (decide (r1≥0)) (
 some a0) (
(zc6 a0.1 a1).bind fun r2 =>
(zc2 a0.2.2.1 a1.1).bind fun r3 =>
 some (r2,a0.2.1,r3,a0.2.2.2.1,a0.2.2.2.2.1,()))
def sw:TFn:={ ps:=(.cons tT10 (.cons tT9 .unit)),res:=tT10,fn:=fun v=>zci v.1 v.2.1 }
def aha:TEnv:=(vZ [(114,uE),(169,uB),(170,uF)])
theorem ag9:runY Tryz.prog abx ahb aha anb Tryz.f97 sw.ps sw.res=sw.fn:=by kernel_rfl
theorem ui:aC Tryz.prog G0 97 yy:=ah (ak ⟨ay,(ai ab5 (ai abW (ai ab8 ae))),ar,ae,aq⟩ Tryz.func97 rfl (by kernel_rfl))
theorem aah:TOk yy sw:=az (E:=abx) (ET:=aha) (EnvT.ofX (ax (ac ah1 (ac ahO (ac ah5 al)))) am ap aL an) ag9 rfl
def adR:Env:=(eZ [(171,mP)] [274])
def akE:Hints:=(hZ [] [])
def vz:PFn:=aE (runF Tryz.prog adR akE Tryz.f242)
def an7:TH:={ loops:=[],ro:=[2,3] }
def zax (a0:vV2) (a1:vV2):Option Int :=
(zbh a0.1 a1.1).bind fun r1 =>
 some r1
def pG:TFn:={ ps:=(.cons tT12 (.cons tT12 .unit)),res:=(.int .i64),fn:=fun v=>zax v.1 v.2.1 }
def akD:TEnv:=(vZ [(171,jw)])
theorem akC:runY Tryz.prog adR akE akD an7 Tryz.f242 pG.ps pG.res=pG.fn:=by kernel_rfl
theorem pH:aC Tryz.prog G0 242 vz:=ah (ak ⟨ay,(ai gk ae),ar,ae,aq⟩ Tryz.func242 rfl (by kernel_rfl))
theorem vy:TOk vz pG:=az (E:=adR) (ET:=akD) (EnvT.ofX (ax (ac jv al)) am ap aL an) akC rfl
def aeQ:Env:=(eZ [(242,vz)] [274])
def alP:Hints:=(hZ [(3,[0,2,4,8,9,10])] [])
def aeP:PFn:=aE (runF Tryz.prog aeQ alP Tryz.f284)
def aom:TH:={ joins:=[(8,{ keep:=[(4,(.bx 0 0)),(9,(.int .i64))],mem:=[.same] })],loops:=[(3,{ keep:=[(4,(.bx 0 0)),(9,(.int .i64)),(10,(.int .i64))],mem:=[.same] })],ro:=[4] }
def lm (a0:List vV2) (a1:vV2) (y3:(Int×Int×Unit)):Option ((Int×Int×Unit)⊕((Int×Unit)⊕(Int×Bool×Unit))) :=
 cond (decide (y3.1<y3.2.1)) (
(shrT .u64 (IntKind.wrap .u64 (IntKind.wrap .i64 (y3.1+y3.2.1))) 1).bind fun t1 =>
(atI a0 (IntKind.wrap .i64 t1)).bind fun x2 =>
(zax x2 a1).bind fun r3 =>
 cond (decide (r3<0)) (
 some (.inl ((IntKind.wrap .i64 ((IntKind.wrap .i64 t1)+1)),y3.2.1,()))) (
 some (.inl (y3.1,(IntKind.wrap .i64 t1),())))) (
 some (.inr (.inl (y3.1,()))))
def zaa (a0:List vV2) (a1:vV2) (a2:Unit):Option (Int×Bool×Unit) :=
(aM (lm a0 a1) (0,(a0.length:Int),()):Option ((Int×Unit)⊕(Int×Bool×Unit))).bind (bQ fun v4 =>
 cond (decide (v4.1<(a0.length:Int))) ((atI a0 v4.1).bind fun x5 =>
(zax x5 a1).bind fun r6 =>
 some (v4.1,(decide (r6=0)),())) (some (v4.1,false,())))
def vO:TFn:={ ps:=(.cons (.sl tT12) (.cons tT12 (.cons (.fn 242) .unit))),res:=(.tup (.cons (.int .i64) (.cons .bool .unit))),fn:=fun v=>zaa v.1 v.2.1 v.2.2.1 }
def alO:TEnv:=(vZ [(242,pG)])
theorem alN:runY Tryz.prog aeQ alP alO aom Tryz.f284 vO.ps vO.res=vO.fn:=by kernel_rfl
theorem aeO:aC Tryz.prog G0 284 aeP:=ah (ak ⟨ay,(ai pH ae),ar,ae,aq⟩ Tryz.func284 rfl (by kernel_rfl))
theorem alM:TOk aeP vO:=az (E:=aeQ) (ET:=alO) (EnvT.ofX (ax (ac vy al)) am ap aL an) alN rfl
def aaU:Env:=(eZ [(284,aeP)] [274])
def agc:Hints:=(hZ [] [])
def aaT:PFn:=aE (runF Tryz.prog aaU agc Tryz.f217)
def amV:TH:={ loops:=[],ro:=[3] }
def zcy (a0:List vV2) (a1:(Int×Int×Unit)):Option (Int×Bool×Unit) :=
(zaa a0 (a1,0,()) ()).bind fun r1 =>
 some (r1.1,r1.2.1,())
def tP:TFn:={ ps:=(.cons (.sl tT12) (.cons tT11 .unit)),res:=(.tup (.cons (.int .i64) (.cons .bool .unit))),fn:=fun v=>zcy v.1 v.2.1 }
def agb:TEnv:=(vZ [(284,vO)])
theorem aga:runY Tryz.prog aaU agc agb amV Tryz.f217 tP.ps tP.res=tP.fn:=by kernel_rfl
theorem aaS:aC Tryz.prog G0 217 aaT:=ah (ak ⟨ay,(ai aeO ae),ar,ae,aq⟩ Tryz.func217 rfl (by kernel_rfl))
theorem af9:TOk aaT tP:=az (E:=aaU) (ET:=agb) (EnvT.ofX (ax (ac alM al)) am ap aL an) aga rfl
def aa4:Env:=(eZ [(217,aaT)] [274])
def agt:Hints:=(hZ [] [])
def yu:PFn:=aE (runF Tryz.prog aa4 agt Tryz.f145)
def amZ:TH:={ loops:=[],ro:=[3] }
def zcu (a0:List vV2) (a1:(Int×Int×Unit)):Option Int :=
(zcy a0 a1).bind fun r1 =>
 cond r1.2.1 (
(atI a0 r1.1).bind fun x2 =>
 some x2.2.1) (
 some 0)
def sr:TFn:={ ps:=(.cons (.sl tT12) (.cons tT11 .unit)),res:=(.int .i64),fn:=fun v=>zcu v.1 v.2.1 }
def ags:TEnv:=(vZ [(217,tP)])
theorem agr:runY Tryz.prog aa4 agt ags amZ Tryz.f145 sr.ps sr.res=sr.fn:=by kernel_rfl
theorem tV:aC Tryz.prog G0 145 yu:=ah (ak ⟨ay,(ai aaS ae),ar,ae,aq⟩ Tryz.func145 rfl (by kernel_rfl))
theorem aae:TOk yu sr:=az (E:=aa4) (ET:=ags) (EnvT.ofX (ax (ac af9 al)) am ap aL an) agr rfl
def abF:Env:=(eZ [(145,yu)] [274])
def ahp:Hints:=(hZ [] [])
def yA:PFn:=aE (runF Tryz.prog abF ahp Tryz.f75)
def ang:TH:={ loops:=[],ro:=[3] }
def zce (a0:List vV2) (a1:(Int×Int×Unit)):Option Bool :=
(zcu a0 a1).bind fun r1 =>
(remT r1 2).bind fun t2 =>
 some (decide (t2=0))
def sy:TFn:={ ps:=(.cons (.sl tT12) (.cons tT11 .unit)),res:=.bool,fn:=fun v=>zce v.1 v.2.1 }
def aho:TEnv:=(vZ [(145,sr)])
theorem ahn:runY Tryz.prog abF ahp aho ang Tryz.f75 sy.ps sy.res=sy.fn:=by kernel_rfl
theorem uq:aC Tryz.prog G0 75 yA:=ah (ak ⟨ay,(ai tV ae),ar,ae,aq⟩ Tryz.func75 rfl (by kernel_rfl))
theorem aaj:TOk yA sy:=az (E:=abF) (ET:=aho) (EnvT.ofX (ax (ac aae al)) am ap aL an) ahn rfl
def ac8:Env:=(eZ [(154,uK),(156,vD),(171,mP)] [274])
def ajD:Hints:=(hZ [] [])
def ac7:PFn:=aE (runF Tryz.prog ac8 ajD Tryz.f99)
def anR:TH:={ loops:=[],ro:=[2,3] }
def zbd (a0:vV1) (a1:vV1):Option Int :=
(zat a0.2.2.1 a1.2.2.1).bind fun r1 =>
(zbh a0.1 a1.1).bind fun r2 =>
(zby ([r1,r2]:List Int)).bind fun r3 =>
 some r3
def vf:TFn:={ ps:=(.cons tT9 (.cons tT9 .unit)),res:=(.int .i64),fn:=fun v=>zbd v.1 v.2.1 }
def ajC:TEnv:={ pure:=[(154,pE),(156,pJ),(171,jw)],look:=[],glob:=G0T,ty:=[(3,(.int .i64))],raw:=[],fresh:=[] }
theorem ajB:runY Tryz.prog ac8 ajD ajC anR Tryz.f99 vf.ps vf.res=vf.fn:=by kernel_rfl
theorem ac6:aC Tryz.prog G0 99 ac7:=ah (ak ⟨ay,(ai pF (ai pK (ai gk ae))),ar,ae,aq⟩ Tryz.func99 rfl (by kernel_rfl))
theorem ajA:TOk ac7 vf:=az (E:=ac8) (ET:=ajC) (EnvT.ofX (ax (ac uJ (ac vC (ac jv al)))) am ap aL an) ajB rfl
def acU:Env:=(eZ [(145,yu),(173,mN)] [274])
def ajh:Hints:=(hZ [] [])
def yF:PFn:=aE (runF Tryz.prog acU ajh Tryz.f102)
def anL:TH:={ loops:=[],ro:=[3] }
def zbj (a0:List vV2) (a1:(Int×Int×Unit)):Option (vV2×Int×Unit) :=
(zcu a0 a1).bind fun r1 =>
(zcl a1).bind fun r2 =>
 cond (!r2) (
 some (((0,0,()),0,()),2,())) (
 cond (decide (r1≥64)) (
 some (((0,0,()),0,()),14,())) (
 some ((a1,(IntKind.wrap .i64 (r1+1)),()),0,())))
def sE:TFn:={ ps:=(.cons (.sl tT12) (.cons tT11 .unit)),res:=(.tup (.cons tT12 tT18)),fn:=fun v=>zbj v.1 v.2.1 }
def ajg:TEnv:=(vZ [(145,sr),(173,js)])
theorem ajf:runY Tryz.prog acU ajh ajg anL Tryz.f102 sE.ps sE.res=sE.fn:=by kernel_rfl
theorem uY:aC Tryz.prog G0 102 yF:=ah (ak ⟨ay,(ai tV (ai gh ae)),ar,ae,aq⟩ Tryz.func102 rfl (by kernel_rfl))
theorem aao:TOk yF sE:=az (E:=acU) (ET:=ajg) (EnvT.ofX (ax (ac aae (ac jr al))) am ap aL an) ajf rfl
def abe:Env:=(eZ [(102,yF),(115,yC)] [274])
def agI:Hints:=(hZ [] [])
def yw:PFn:=aE (runF Tryz.prog abe agI Tryz.f100)
def am3:TH:={ loops:=[],ro:=[2,3] }
def zcq (a0:vV0) (a1:(Int×Int×Unit)):Option Int :=
(zc0 a0.2.2.2.1 a1).bind fun r1 =>
 cond r1 (
 some 13) (
(zbj a0.2.1 a1).bind fun r2 =>
 some r2.2.1)
def ss:TFn:={ ps:=(.cons tT10 (.cons tT11 .unit)),res:=(.int .i64),fn:=fun v=>zcq v.1 v.2.1 }
def agH:TEnv:=(vZ [(102,sE),(115,sB)])
theorem agG:runY Tryz.prog abe agI agH am3 Tryz.f100 ss.ps ss.res=ss.fn:=by kernel_rfl
theorem tZ:aC Tryz.prog G0 100 yw:=ah (ak ⟨ay,(ai uY (ai uH ae)),ar,ae,aq⟩ Tryz.func100 rfl (by kernel_rfl))
theorem aaf:TOk yw ss:=az (E:=abe) (ET:=agH) (EnvT.ofX (ax (ac aao (ac aal al))) am ap aL an) agG rfl
def abB:Env:=(eZ [(75,yA),(99,ac7),(100,yw)] [274])
def ahi:Hints:=(hZ [(3,[1,2,4,6,12,13])] [])
def yz:PFn:=aE (runF Tryz.prog abB ahi Tryz.f35)
def ane:TH:={ joins:=[(9,{ keep:=[(2,(.bx 0 0)),(4,(.bx 1 0)),(6,(.orp tT9 0))],mem:=[.same,.box 72 tT11] })],loops:=[(3,{ keep:=[(2,(.bx 0 0)),(4,(.bx 1 0)),(6,(.orp tT9 0)),(13,(.int .i64))],mem:=[.same,.box 72 tT11] })],cuts:=[(6,[(15,{ keep:=[(2,(.bx 0 0)),(4,(.bx 1 0)),(34,.bool)],mem:=[.same,.box 72 tT11] })])],ro:=[2],news:=[] }
def qF (a0:vV0) (a1:Int) (y3:(Option vV1×Int×(Int×Int×Unit)×Unit)):Option ((Option vV1×Int×(Int×Int×Unit)×Unit)⊕((Option vV1×(Int×Int×Unit)×Unit)⊕vV2)) :=
 cond (decide (y3.2.1<(a0.1.length:Int))) (
(atI a0.1 y3.2.1).bind fun x1 =>
(cond (decide (x1.2.1=a1)) ((zce a0.2.1 x1.1).bind fun r2 =>
 some (r2,y3.2.2.1,())) (some (false,y3.2.2.1,())):Option (Bool×(Int×Int×Unit)×Unit)).bind fun v3 =>
 cond v3.1 (cond (y3.1.isNone) (some (.inl ((some x1),(IntKind.wrap .i64 (y3.2.1+1)),v3.2.1,()))) ((y3.1).bind fun x4 =>
(zbd x4 x1).bind fun r5 =>
 cond (decide (r5<0)) (
 some (.inl ((some x1),(IntKind.wrap .i64 (y3.2.1+1)),v3.2.1,()))) (
 some (.inl (y3.1,(IntKind.wrap .i64 (y3.2.1+1)),v3.2.1,()))))) (some (.inl (y3.1,(IntKind.wrap .i64 (y3.2.1+1)),v3.2.1,())))) (
 some (.inr (.inl (y3.1,y3.2.2.1,()))))
def zcg (a0:vV0) (a1:Int):Option vV2 :=
(aM (qF a0 a1) (none,0,(0,0,()),()):Option ((Option vV1×(Int×Int×Unit)×Unit)⊕vV2)).bind (bQ fun v6 =>
 cond (v6.1.isNone) (
 some ((0,0,()),11,())) (
(v6.1).bind fun x7 =>
(zcq a0 x7.1).bind fun r8 =>
 cond (!decide (r8=0)) (
 some ((0,0,()),r8,())) (
(v6.1).bind fun x9 =>
 some (x9.1,0,()))))
def sx:TFn:={ ps:=(.cons tT10 tT18),res:=(.tup (.cons tT11 tT18)),fn:=fun v=>zcg v.1 v.2.1 }
def ahh:TEnv:=(vZ [(75,sy),(99,vf),(100,ss)])
theorem ahg:runY Tryz.prog abB ahi ahh ane Tryz.f35 sx.ps sx.res=sx.fn:=by kernel_rfl
theorem un:aC Tryz.prog G0 35 yz:=ah (ak ⟨ay,(ai uq (ai ac6 (ai tZ ae))),ar,ae,aq⟩ Tryz.func35 rfl (by kernel_rfl))
theorem aai:TOk yz sx:=az (E:=abB) (ET:=ahh) (EnvT.ofX (ax (ac aaj (ac ajA (ac aaf al)))) am ap aL an) ahg rfl
def abS:Env:=(eZ [] [274])
def ahJ:Hints:=(hZ [] [])
def abR:PFn:=aE (runF Tryz.prog abS ahJ Tryz.f240)
def anl:TH:={ loops:=[],cuts:=[(1,[(9,{ keep:=[(1,(.bx 0 0)),(11,.bool)],mem:=[.same] })])],ro:=[1],news:=[] }
def zc8 (a0:vV3):Option Bool :=
(cond (decide (a0.1=0)) (some ((decide ((a0.2.1.length:Int)=0)),())) (some (false,())):Option (Bool×Unit)).bind fun v1 =>
 cond v1.1 (cond (eqV tT16 a0.2.2.1 (0,0,[],())) (cond (decide (a0.2.2.2.1=0)) (some (decide ((a0.2.2.2.2.1.length:Int)=0))) (some false)) (some false)) (some false)
def uz:TFn:={ ps:=(.cons tT13 .unit),res:=.bool,fn:=fun v=>zc8 v.1 }
def ahI:TEnv:=(vZ [])
theorem ahH:runY Tryz.prog abS ahJ ahI anl Tryz.f240 uz.ps uz.res=uz.fn:=by kernel_rfl
theorem abQ:aC Tryz.prog G0 240 abR:=ah (ak ⟨ay,ae,ar,ae,aq⟩ Tryz.func240 rfl (by kernel_rfl))
theorem ahG:TOk abR uz:=az (E:=abS) (ET:=ahI) (EnvT.ofX (ax al) am ap aL an) ahH rfl
def ad1:PFn:=nN
theorem ad0:aC Tryz.prog G0 375 ad1:=pf (g3:=0) (g4:=1) ⟨Tryz.f375,Tryz.func375,rfl,by kernel_rfl⟩ (by kernel_rfl) (by kernel_rfl) (fun s w hT=>Tryz.utf8_DecodeRuneInString s w hT)
def zas (a0:List UInt8):Option (Int×Int×Unit):=xS a0
def akV:TFn:=kx
theorem akU:TOk ad1 akV:=tD
def abM:Env:=(eZ [(375,ad1)] [274])
def ahB:Hints:=(hZ [(3,[0,4,10])] [])
def yB:PFn:=aE (runF Tryz.prog abM ahB Tryz.f366)
def anj:TH:={ joins:=[(9,{ keep:=[(4,(.own 1)),(10,(.it 0))],mem:=[.iter,.row true 21 (.int .i32)] })],loops:=[(3,{ keep:=[(4,(.own 1)),(10,(.it 0))],mem:=[.iter,.row true 21 (.int .i32)] })],ro:=[] }
def ahy (a0:List UInt8) (y3:(Nat×List Int×Unit)):Option ((Nat×List Int×Unit)⊕(List Int×Bool×Unit)) :=
 cond (decide (y3.1<a0.length)) ((cond (decide (((Utf8.decode ⟨a0.toArray⟩ y3.1).1:Int)=65533)) (
(subI a0 (y3.1:Int) (a0.length:Int)).bind fun s1 =>
(zas s1).bind fun r2 =>
 cond (decide (r2.2.1≤1)) (
 some (.inr (.inr ([],false,())))) (
 some (.inl ((y3.1+(Utf8.decode ⟨a0.toArray⟩ y3.1).2),y3.2.1,())))) (
 some (.inl ((y3.1+(Utf8.decode ⟨a0.toArray⟩ y3.1).2),y3.2.1,()))):Option ((Nat×List Int×Unit)⊕((Nat×List Int×Unit)⊕(List Int×Bool×Unit)))).bind (bQ fun v3 =>
(dO (v3.2.1.length+([((Utf8.decode ⟨a0.toArray⟩ y3.1).1:Int)]:List Int).length)).bind fun u4 =>
 some (.inl (v3.1,(v3.2.1++([((Utf8.decode ⟨a0.toArray⟩ y3.1).1:Int)]:List Int)),())))) (some (.inr (y3.2.1,true,())))
def zcb (a0:List UInt8):Option (List Int×Bool×Unit) :=
 aM (ahy a0) (0,[],())
def sA:TFn:={ ps:=(.cons .str .unit),res:=(.tup (.cons (.sl (.int .i32)) (.cons .bool .unit))),fn:=fun v=>zcb v.1 }
def ahA:TEnv:={ pure:=[(375,akV)],look:=[],glob:=G0T,ty:=[(21,(.int .i32))],raw:=[],fresh:=[] }
theorem ahz:runY Tryz.prog abM ahB ahA anj Tryz.f366 sA.ps sA.res=sA.fn:=by kernel_rfl
theorem uu:aC Tryz.prog G0 366 yB:=ah (ak ⟨ay,(ai ad0 ae),ar,ae,aq⟩ Tryz.func366 rfl (by kernel_rfl))
theorem aak:TOk yB sA:=az (E:=abM) (ET:=ahA) (EnvT.ofX (ax (ac akU al)) am ap aL an) ahz rfl
def ace:Env:=(eZ [] [274])
def aic:Hints:=(hZ [] [])
def acd:PFn:=aE (runF Tryz.prog ace aic Tryz.f367)
def ans:TH:=yZ
def zc1 (a0:Int):Option Bool :=
 cond (decide (a0<32)) (
 cond (decide (a0<32)) (
 some false) (
 some (!decide (a0=65533)))) (
 cond (decide (a0≥127)) (cond (decide (a0<160)) (
 some false) (
 some (!decide (a0=65533)))) (some (!decide (a0=65533))))
def uG:TFn:={ ps:=(.cons (.int .i32) .unit),res:=.bool,fn:=fun v=>zc1 v.1 }
def aib:TEnv:=(vZ [])
theorem aia:runY Tryz.prog ace aic aib ans Tryz.f367 uG.ps uG.res=uG.fn:=by kernel_rfl
theorem acb:aC Tryz.prog G0 367 acd:=ah (ak ⟨ay,ae,ar,ae,aq⟩ Tryz.func367 rfl (by kernel_rfl))
theorem ah9:TOk acd uG:=az (E:=ace) (ET:=aib) (EnvT.ofX (ax al) am ap aL an) aia rfl
def adG:Env:=(eZ [(366,yB),(367,acd)] [274])
def akm:Hints:=(hZ [(5,[24,25,26])] [])
def adF:PFn:=aE (runF Tryz.prog adG akm Tryz.f345)
def an2:TH:={ loops:=[(5,{ keep:=[(26,(.int .i64))],mem:=[] })],ro:=[] }
def akj (r1:(List Int×Bool×Unit)) (y5:(Int×Unit)):Option ((Int×Unit)⊕Bool) :=
 cond (decide (y5.1<(r1.1.length:Int))) (
(atI r1.1 y5.1).bind fun x2 =>
(zc1 x2).bind fun r3 =>
 cond (!r3) (
 some (.inr false)) (
 some (.inl ((IntKind.wrap .i64 (y5.1+1)),())))) (
 some (.inr true))
def zb2 (a0:List UInt8):Option Bool :=
(zcb a0).bind fun r1 =>
 cond (!r1.2.1) (some false) (cond (decide ((r1.1.length:Int)=0)) (some false) (cond (decide ((r1.1.length:Int)>24)) (
 some false) (
 aM (akj r1) (0,()))))
def vr:TFn:={ ps:=(.cons .str .unit),res:=.bool,fn:=fun v=>zb2 v.1 }
def akl:TEnv:=(vZ [(366,sA),(367,uG)])
theorem akk:runY Tryz.prog adG akm akl an2 Tryz.f345 vr.ps vr.res=vr.fn:=by kernel_rfl
theorem adE:aC Tryz.prog G0 345 adF:=ah (ak ⟨ay,(ai uu (ai acb ae)),ar,ae,aq⟩ Tryz.func345 rfl (by kernel_rfl))
theorem aki:TOk adF vr:=az (E:=adG) (ET:=akl) (EnvT.ofX (ax (ac aak (ac ah9 al))) am ap aL an) akk rfl
def ae6:Env:=(eZ [(345,adF)] [274])
def amc:Hints:=(hZ [] [])
def ae5:PFn:=aE (runF Tryz.prog ae6 amc Tryz.f344)
def aot:TH:=yZ
def za4 (a0:List UInt8):Option Bool :=
(zb2 a0).bind fun r1 =>
 some (!r1)
def vU:TFn:={ ps:=(.cons .str .unit),res:=.bool,fn:=fun v=>za4 v.1 }
def amb:TEnv:=(vZ [(345,vr)])
theorem ama:runY Tryz.prog ae6 amc amb aot Tryz.f344 vU.ps vU.res=vU.fn:=by kernel_rfl
theorem ae4:aC Tryz.prog G0 344 ae5:=ah (ak ⟨ay,(ai adE ae),ar,ae,aq⟩ Tryz.func344 rfl (by kernel_rfl))
theorem al9:TOk ae5 vU:=az (E:=ae6) (ET:=amb) (EnvT.ofX (ax (ac aki al)) am ap aL an) ama rfl
def aer:Env:=(eZ [(344,ae5)] [274])
def ald:Hints:=(hZ [(2,[0,1,7,8])] [])
def aep:PFn:=aE (runF Tryz.prog aer ald Tryz.f214)
def aod:TH:={ loops:=[(2,{ keep:=[(8,(.int .i64))],mem:=[] })],ro:=[] }
def ala (a0:List (List UInt8)) (y2:(Int×Unit)):Option ((Int×Unit)⊕Int) :=
 cond (decide (y2.1<(a0.length:Int))) (
(atI a0 y2.1).bind fun x1 =>
(za4 x1).bind fun r2 =>
 cond r2 (
 some (.inr y2.1)) (
 some (.inl ((IntKind.wrap .i64 (y2.1+1)),())))) (
 some (.inr (-1)))
def zaj (a0:List (List UInt8)) (a1:Unit):Option Int :=
 aM (ala a0) (0,())
def vF:TFn:={ ps:=(.cons (.sl .str) (.cons (.fn 344) .unit)),res:=(.int .i64),fn:=fun v=>zaj v.1 v.2.1 }
def alc:TEnv:=(vZ [(344,vU)])
theorem alb:runY Tryz.prog aer ald alc aod Tryz.f214 vF.ps vF.res=vF.fn:=by kernel_rfl
theorem aeo:aC Tryz.prog G0 214 aep:=ah (ak ⟨ay,(ai ae4 ae),ar,ae,aq⟩ Tryz.func214 rfl (by kernel_rfl))
theorem ak9:TOk aep vF:=az (E:=aer) (ET:=alc) (EnvT.ofX (ax (ac al9 al)) am ap aL an) alb rfl
def aeu:Env:=(eZ [(214,aep)] [274])
def alh:Hints:=(hZ [] [])
def aet:PFn:=aE (runF Tryz.prog aeu alh Tryz.f141)
def aoe:TH:=yZ
def zai (a0:List (List UInt8)) (a1:Unit):Option Bool :=
(zaj a0 a1).bind fun r1 =>
 some (decide (r1≥0))
def vG:TFn:={ ps:=(.cons (.sl .str) (.cons (.fn 344) .unit)),res:=.bool,fn:=fun v=>zai v.1 v.2.1 }
def alg:TEnv:=(vZ [(214,vF)])
theorem alf:runY Tryz.prog aeu alh alg aoe Tryz.f141 vG.ps vG.res=vG.fn:=by kernel_rfl
theorem aes:aC Tryz.prog G0 141 aet:=ah (ak ⟨ay,(ai aeo ae),ar,ae,aq⟩ Tryz.func141 rfl (by kernel_rfl))
theorem ale:TOk aet vG:=az (E:=aeu) (ET:=alg) (EnvT.ofX (ax (ac ak9 al)) am ap aL an) alf rfl
def adx:Env:=(eZ [(141,aet)] [274])
def aj9:Hints:=(hZ [] [])
def adw:PFn:=aE (runF Tryz.prog adx aj9 Tryz.f299)
def anZ:TH:=yZ
def zb5 (a0:List (List UInt8)):Option Int :=
 cond (decide ((a0.length:Int)=0)) (
 some 8) (
 cond (decide ((a0.length:Int)>8)) (
 some 9) (
(zai a0 ()).bind fun r1 =>
 cond r1 (
 some 8) (
 some 0)))
def vn:TFn:={ ps:=(.cons (.sl .str) .unit),res:=(.int .i64),fn:=fun v=>zb5 v.1 }
def aj8:TEnv:=(vZ [(141,vG)])
theorem aj7:runY Tryz.prog adx aj9 aj8 anZ Tryz.f299 vn.ps vn.res=vn.fn:=by kernel_rfl
theorem adv:aC Tryz.prog G0 299 adw:=ah (ak ⟨ay,(ai aes ae),ar,ae,aq⟩ Tryz.func299 rfl (by kernel_rfl))
theorem aj6:TOk adw vn:=az (E:=adx) (ET:=aj8) (EnvT.ofX (ax (ac ale al)) am ap aL an) aj7 rfl
def adi:Env:=(eZ [(366,yB)] [274])
def ajP:Hints:=(hZ [] [])
def adh:PFn:=aE (runF Tryz.prog adi ajP Tryz.f346)
def anU:TH:={ loops:=[],ro:=[1] }
def zba (a0:(Int×Int×List UInt8×Unit)):Option Bool :=
 cond (decide (a0.1=1)) (
 cond (decide (a0.2.2.1=[])) (cond (decide (a0.2.1≥(-2147483647))) (some (decide (a0.2.1≤2147483647))) (some false)) (some false)) (
 cond (decide (a0.1=2)) (
(zcb a0.2.2.1).bind fun r1 =>
 cond r1.2.1 (cond (decide (a0.2.1=0)) (some (decide ((a0.2.2.1.length:Int)≤64))) (some false)) (some false)) (
 cond (decide (a0.1=3)) (
 cond (decide (a0.2.2.1=[])) (cond (decide (a0.2.1=0)) (some true) (some (decide (a0.2.1=1)))) (some false)) (
 some false)))
def vi:TFn:={ ps:=(.cons tT16 .unit),res:=.bool,fn:=fun v=>zba v.1 }
def ajO:TEnv:=(vZ [(366,sA)])
theorem ajN:runY Tryz.prog adi ajP ajO anU Tryz.f346 vi.ps vi.res=vi.fn:=by kernel_rfl
theorem adg:aC Tryz.prog G0 346 adh:=ah (ak ⟨ay,(ai uu ae),ar,ae,aq⟩ Tryz.func346 rfl (by kernel_rfl))
theorem ajM:TOk adh vi:=az (E:=adi) (ET:=ajO) (EnvT.ofX (ax (ac aak al)) am ap aL an) ajN rfl
def abk:Env:=(eZ [(346,adh)] [274])
def agQ:Hints:=(hZ [] [])
def abj:PFn:=aE (runF Tryz.prog abk agQ Tryz.f300)
def am5:TH:={ loops:=[],ro:=[1] }
def zco (a0:vV3):Option Bool :=
 cond (decide (a0.1=3)) (some (eqV tT16 a0.2.2.1 (0,0,[],()))) (cond (decide (a0.1=5)) (
 some (eqV tT16 a0.2.2.1 (0,0,[],()))) (
(zba a0.2.2.1).bind fun r1 =>
 some r1))
def t8:TFn:={ ps:=(.cons tT13 .unit),res:=.bool,fn:=fun v=>zco v.1 }
def agP:TEnv:=(vZ [(346,vi)])
theorem agO:runY Tryz.prog abk agQ agP am5 Tryz.f300 t8.ps t8.res=t8.fn:=by kernel_rfl
theorem abi:aC Tryz.prog G0 300 abj:=ah (ak ⟨ay,(ai adg ae),ar,ae,aq⟩ Tryz.func300 rfl (by kernel_rfl))
theorem agN:TOk abj t8:=az (E:=abk) (ET:=agP) (EnvT.ofX (ax (ac ajM al)) am ap aL an) agO rfl
def aaX:Env:=(eZ [] [274])
def agh:Hints:=(hZ [] [])
def aaW:PFn:=aE (runF Tryz.prog aaX agh Tryz.f301)
def amW:TH:={ loops:=[],ro:=[1] }
def zcx (a0:vV3):Option Bool :=
 cond (decide (a0.1=3)) (
 cond (!decide (a0.2.2.2.1=0)) (cond (decide (a0.2.2.2.1≥(-2147483647))) (some (decide (a0.2.2.2.1≤2147483647))) (some false)) (some false)) (
 some (decide (a0.2.2.2.1=0)))
def tQ:TFn:={ ps:=(.cons tT13 .unit),res:=.bool,fn:=fun v=>zcx v.1 }
def agf:TEnv:=(vZ [])
theorem age:runY Tryz.prog aaX agh agf amW Tryz.f301 tQ.ps tQ.res=tQ.fn:=by kernel_rfl
theorem aaV:aC Tryz.prog G0 301 aaW:=ah (ak ⟨ay,ae,ar,ae,aq⟩ Tryz.func301 rfl (by kernel_rfl))
theorem agd:TOk aaW tQ:=az (E:=aaX) (ET:=agf) (EnvT.ofX (ax al) am ap aL an) age rfl
def ab4:Env:=(eZ [(154,uK),(156,vD),(171,mP)] [274])
def ah0:Hints:=(hZ [] [])
def ab3:PFn:=aE (runF Tryz.prog ab4 ah0 Tryz.f347)
def anp:TH:={ loops:=[],ro:=[2,3] }
def zc4 (a0:vV2) (a1:vV2):Option Int :=
(zbh a0.1 a1.1).bind fun r1 =>
(zat a0.2.1 a1.2.1).bind fun r2 =>
(zby ([r1,r2]:List Int)).bind fun r3 =>
 some r3
def uD:TFn:={ ps:=(.cons tT12 (.cons tT12 .unit)),res:=(.int .i64),fn:=fun v=>zc4 v.1 v.2.1 }
def ahZ:TEnv:={ pure:=[(154,pE),(156,pJ),(171,jw)],look:=[],glob:=G0T,ty:=[(3,(.int .i64))],raw:=[],fresh:=[] }
theorem ahY:runY Tryz.prog ab4 ah0 ahZ anp Tryz.f347 uD.ps uD.res=uD.fn:=by kernel_rfl
theorem ab2:aC Tryz.prog G0 347 ab3:=ah (ak ⟨ay,(ai pF (ai pK (ai gk ae))),ar,ae,aq⟩ Tryz.func347 rfl (by kernel_rfl))
theorem ahX:TOk ab3 uD:=az (E:=ab4) (ET:=ahZ) (EnvT.ofX (ax (ac uJ (ac vC (ac jv al)))) am ap aL an) ahY rfl
def ab1:Env:=(eZ [(173,mN),(347,ab3)] [274])
def ahW:Hints:=(hZ [(2,[0,5,6,7])] [])
def ab0:PFn:=aE (runF Tryz.prog ab1 ahW Tryz.f302)
def ano:TH:={ loops:=[(2,{ keep:=[(7,(.int .i64))],mem:=[] })],cuts:=[(4,[(9,{ keep:=[(4,(.bx 0 0)),(20,.bool)],mem:=[.box 146 tT12] }),(5,{ keep:=[(4,(.bx 0 0)),(25,.bool)],mem:=[.box 146 tT12] })])],ro:=[],news:=[] }
def ahT (a0:List vV2) (y2:(Int×Unit)):Option ((Int×Unit)⊕Bool) :=
 cond (decide (y2.1<(a0.length:Int))) (
(atI a0 y2.1).bind fun x1 =>
((zcl x1.1).bind fun r2 =>
 cond (!r2) (some (true,x1,())) (some ((decide (x1.2.1<0)),x1,())):Option (Bool×vV2×Unit)).bind fun v3 =>
(cond v3.1 (some (true,v3.2.1,())) (some ((decide (v3.2.1.2.1≥16)),v3.2.1,())):Option (Bool×vV2×Unit)).bind fun v4 =>
 cond v4.1 (some (.inr false)) (cond (decide (y2.1>0)) ((atI a0 (IntKind.wrap .i64 (y2.1-1))).bind fun x5 =>
(zc4 x5 v4.2.1).bind fun r6 =>
 cond (decide (r6≥0)) (
 some (.inr false)) (
 some (.inl ((IntKind.wrap .i64 (y2.1+1)),())))) (some (.inl ((IntKind.wrap .i64 (y2.1+1)),()))))) (
 some (.inr true))
def zc5 (a0:List vV2):Option Bool :=
 aM (ahT a0) (0,())
def uC:TFn:={ ps:=(.cons (.sl tT12) .unit),res:=.bool,fn:=fun v=>zc5 v.1 }
def ahV:TEnv:=(vZ [(173,js),(347,uD)])
theorem ahU:runY Tryz.prog ab1 ahW ahV ano Tryz.f302 uC.ps uC.res=uC.fn:=by kernel_rfl
theorem abZ:aC Tryz.prog G0 302 ab0:=ah (ak ⟨ay,(ai gh (ai ab2 ae)),ar,ae,aq⟩ Tryz.func302 rfl (by kernel_rfl))
theorem ahS:TOk ab0 uC:=az (E:=ab1) (ET:=ahV) (EnvT.ofX (ax (ac jr (ac ahX al))) am ap aL an) ahU rfl
def aaR:Env:=(eZ [(299,adw),(300,abj),(301,aaW),(302,ab0)] [274])
def af8:Hints:=(hZ [] [])
def aaQ:PFn:=aE (runF Tryz.prog aaR af8 Tryz.f241)
def amU:TH:={ joins:=[(10,{ keep:=[(1,(.bx 0 0)),(32,.bool)],mem:=[.same] })],loops:=[],cuts:=[(6,[(8,{ keep:=[(1,(.bx 0 0)),(26,.bool)],mem:=[.same] }),(5,{ keep:=[(1,(.bx 0 0)),(31,.bool)],mem:=[.same] })]),(9,[(8,{ keep:=[(1,(.bx 0 0)),(46,.bool)],mem:=[.same] })])],ro:=[1],news:=[] }
def zcz (a0:vV3):Option Int :=
 cond (decide (a0.1<1)) (some 18) (cond (decide (a0.1>5)) (
 some 18) (
(zb5 a0.2.1).bind fun r1 =>
 cond (!decide (r1=0)) (
 some r1) (
(cond (decide (a0.1=1)) (some (true,())) (some ((decide (a0.1=4)),())):Option (Bool×Unit)).bind fun v2 =>
(cond v2.1 (some (true,())) (some ((decide (a0.1=5)),())):Option (Bool×Unit)).bind fun v3 =>
((zco a0).bind fun r4 =>
 cond (!r4) (
 some (.inl ((!r4),()))) (
(zcx a0).bind fun r5 =>
 cond (!r5) (
 some (.inl ((!r5),()))) (
(cond (!v3.1) (some ((decide ((a0.2.2.2.2.1.length:Int)>0)),())) (some (false,())):Option (Bool×Unit)).bind fun v6 =>
 some (.inl (v6.1,())))):Option ((Bool×Unit)⊕Int)).bind (bQ fun v7 =>
 cond v7.1 (
 some 2) (
 cond (decide ((a0.2.2.2.2.1.length:Int)>256)) (
 some 7) (
(zc5 a0.2.2.2.2.1).bind fun r8 =>
 cond (!r8) (
 some 2) (
 some 0)))))))
def tO:TFn:={ ps:=(.cons tT13 .unit),res:=(.int .i64),fn:=fun v=>zcz v.1 }
def af7:TEnv:=(vZ [(299,vn),(300,t8),(301,tQ),(302,uC)])
theorem af6:runY Tryz.prog aaR af8 af7 amU Tryz.f241 tO.ps tO.res=tO.fn:=by kernel_rfl
theorem aaP:aC Tryz.prog G0 241 aaQ:=ah (ak ⟨ay,(ai adv (ai abi (ai aaV (ai abZ ae)))),ar,ae,aq⟩ Tryz.func241 rfl (by kernel_rfl))
theorem af5:TOk aaQ tO:=az (E:=aaR) (ET:=af7) (EnvT.ofX (ax (ac aj6 (ac agN (ac agd (ac ahS al))))) am ap aL an) af6 rfl
def abt:Env:=(eZ [(173,mN),(240,abR),(241,aaQ)] [274])
def ag4:Hints:=(hZ [(10,[1,38,39,40])] [])
def yx:PFn:=aE (runF Tryz.prog abt ag4 Tryz.f174)
def am9:TH:={ joins:=[(4,{ keep:=[(1,(.bx 0 0)),(6,.bool)],mem:=[.same] }),(13,{ keep:=[(1,(.bx 0 0)),(4,(.bx 1 0))],mem:=[.same,.box 135 tT13] })],loops:=[(10,{ keep:=[(1,(.bx 0 0)),(40,(.int .i64))],mem:=[.same] })],cuts:=[(3,[(8,{ keep:=[(1,(.bx 0 0)),(26,.bool)],mem:=[.same] })])],ro:=[1],news:=[] }
def abs (a0:vV1) (y10:(Int×Unit)):Option ((Int×Unit)⊕Int) :=
 cond (decide (y10.1<(a0.2.2.2.2.1.length:Int))) (
(atI a0.2.2.2.2.1 y10.1).bind fun x4 =>
(cond a0.2.2.2.1 ((zc8 x4).bind fun r5 =>
 cond r5 (
 some (.inr (.inl ((IntKind.wrap .i64 (y10.1+1)),())))) (
 some (.inl (x4,())))) (some (.inl (x4,()))):Option ((vV3×Unit)⊕((Int×Unit)⊕Int))).bind (bQ fun v6 =>
(zcz v6.1).bind fun r7 =>
 cond (!decide (r7=0)) (
 some (.inr r7)) (
 some (.inl ((IntKind.wrap .i64 (y10.1+1)),()))))) (
 some (.inr 0))
def zck (a0:vV1):Option Int :=
((zcl a0.1).bind fun r1 =>
 cond (!r1) (
 some (.inl ((!r1),()))) (
 cond (decide (a0.2.1<0)) (some (.inl (true,()))) (cond (decide (a0.2.1≥8)) (
 some (.inl ((decide (a0.2.1≥8)),()))) (
(cond (decide (a0.2.2.1<1)) (some (true,())) (some ((decide (a0.2.2.1>1099511627776)),())):Option (Bool×Unit)).bind fun v2 =>
 some (.inl (v2.1,()))))):Option ((Bool×Unit)⊕Int)).bind (bQ fun v3 =>
 cond v3.1 (
 some 2) (
 cond (decide ((a0.2.2.2.2.1.length:Int)=0)) (
 some 11) (
 cond (decide ((a0.2.2.2.2.1.length:Int)>16)) (
 some 7) (
 aM (abs a0) (0,())))))
def sv:TFn:={ ps:=(.cons tT9 .unit),res:=(.int .i64),fn:=fun v=>zck v.1 }
def ag3:TEnv:=(vZ [(173,js),(240,uz),(241,tO)])
theorem ag2:runY Tryz.prog abt ag4 ag3 am9 Tryz.f174 sv.ps sv.res=sv.fn:=by kernel_rfl
theorem ug:aC Tryz.prog G0 174 yx:=ah (ak ⟨ay,(ai gh (ai abQ (ai aaP ae))),ar,ae,aq⟩ Tryz.func174 rfl (by kernel_rfl))
theorem aag:TOk yx sv:=az (E:=abt) (ET:=ag3) (EnvT.ofX (ax (ac jr (ac ahG (ac af5 al)))) am ap aL an) ag2 rfl
def ac5:Env:=(eZ [] [274])
def ajz:Hints:=(hZ [] [])
def ac4:PFn:=aE (runF Tryz.prog ac5 ajz Tryz.f175)
def anQ:TH:=yZ
def zbe (a0:Int):Option Bool :=
 cond (decide (a0≥0)) (some (decide (a0<8))) (some false)
def ve:TFn:={ ps:=tT18,res:=.bool,fn:=fun v=>zbe v.1 }
def ajy:TEnv:=(vZ [])
theorem ajx:runY Tryz.prog ac5 ajz ajy anQ Tryz.f175 ve.ps ve.res=ve.fn:=by kernel_rfl
theorem ac3:aC Tryz.prog G0 175 ac4:=ah (ak ⟨ay,ae,ar,ae,aq⟩ Tryz.func175 rfl (by kernel_rfl))
theorem ajw:TOk ac4 ve:=az (E:=ac5) (ET:=ajy) (EnvT.ofX (ax al) am ap aL an) ajx rfl
def acZ:Env:=(eZ [(173,mN),(242,vz)] [274])
def ajr:Hints:=(hZ [(2,[0,5,6,7])] [])
def yG:PFn:=aE (runF Tryz.prog acZ ajr Tryz.f176)
def anO:TH:={ loops:=[(2,{ keep:=[(7,(.int .i64))],mem:=[] })],cuts:=[(4,[(9,{ keep:=[(4,(.bx 0 0)),(20,.bool)],mem:=[.box 82 tT12] }),(5,{ keep:=[(4,(.bx 0 0)),(25,.bool)],mem:=[.box 82 tT12] })])],ro:=[],news:=[] }
def ob (a0:List vV2) (y2:(Int×Unit)):Option ((Int×Unit)⊕Bool) :=
 cond (decide (y2.1<(a0.length:Int))) (
(atI a0 y2.1).bind fun x1 =>
((zcl x1.1).bind fun r2 =>
 cond (!r2) (some (true,x1,())) (some ((decide (x1.2.1<1)),x1,())):Option (Bool×vV2×Unit)).bind fun v3 =>
(cond v3.1 (some (true,v3.2.1,())) (some ((decide (v3.2.1.2.1>64)),v3.2.1,())):Option (Bool×vV2×Unit)).bind fun v4 =>
 cond v4.1 (some (.inr false)) (cond (decide (y2.1>0)) ((atI a0 (IntKind.wrap .i64 (y2.1-1))).bind fun x5 =>
(zax x5 v4.2.1).bind fun r6 =>
 cond (decide (r6≥0)) (
 some (.inr false)) (
 some (.inl ((IntKind.wrap .i64 (y2.1+1)),())))) (some (.inl ((IntKind.wrap .i64 (y2.1+1)),()))))) (
 some (.inr true))
def zbg (a0:List vV2):Option Bool :=
 aM (ob a0) (0,())
def sF:TFn:={ ps:=(.cons (.sl tT12) .unit),res:=.bool,fn:=fun v=>zbg v.1 }
def ajq:TEnv:=(vZ [(173,js),(242,pG)])
theorem ajp:runY Tryz.prog acZ ajr ajq anO Tryz.f176 sF.ps sF.res=sF.fn:=by kernel_rfl
theorem u9:aC Tryz.prog G0 176 yG:=ah (ak ⟨ay,(ai gh (ai pH ae)),ar,ae,aq⟩ Tryz.func176 rfl (by kernel_rfl))
theorem aap:TOk yG sF:=az (E:=acZ) (ET:=ajq) (EnvT.ofX (ax (ac jr (ac vy al))) am ap aL an) ajp rfl
def adU:Env:=(eZ [(174,yx)] [274])
def akI:Hints:=(hZ [] [])
def adT:PFn:=aE (runF Tryz.prog adU akI Tryz.f243)
def an8:TH:={ loops:=[],ro:=[1] }
def zaw (a0:vV1):Option Bool :=
(zck a0).bind fun r1 =>
 some (!decide (r1=0))
def vA:TFn:={ ps:=(.cons tT9 .unit),res:=.bool,fn:=fun v=>zaw v.1 }
def akH:TEnv:=(vZ [(174,sv)])
theorem akG:runY Tryz.prog adU akI akH an8 Tryz.f243 vA.ps vA.res=vA.fn:=by kernel_rfl
theorem adS:aC Tryz.prog G0 243 adT:=ah (ak ⟨ay,(ai ug ae),ar,ae,aq⟩ Tryz.func243 rfl (by kernel_rfl))
theorem akF:TOk adT vA:=az (E:=adU) (ET:=akH) (EnvT.ofX (ax (ac aag al)) am ap aL an) akG rfl
def adX:Env:=(eZ [(173,mN)] [274])
def akM:Hints:=(hZ [] [])
def adW:PFn:=aE (runF Tryz.prog adX akM Tryz.f244)
def an9:TH:={ loops:=[],ro:=[1] }
def zav (a0:(Int×Int×Unit)):Option Bool :=
(zcl a0).bind fun r1 =>
 some (!r1)
def vB:TFn:={ ps:=(.cons tT11 .unit),res:=.bool,fn:=fun v=>zav v.1 }
def akL:TEnv:=(vZ [(173,js)])
theorem akK:runY Tryz.prog adX akM akL an9 Tryz.f244 vB.ps vB.res=vB.fn:=by kernel_rfl
theorem adV:aC Tryz.prog G0 244 adW:=ah (ak ⟨ay,(ai gh ae),ar,ae,aq⟩ Tryz.func244 rfl (by kernel_rfl))
theorem akJ:TOk adW vB:=az (E:=adX) (ET:=akL) (EnvT.ofX (ax (ac jr al)) am ap aL an) akK rfl
def aa0:Env:=(eZ [(171,mP)] [274])
def agm:Hints:=(hZ [(2,[0,5,6,7])] [])
def aaZ:PFn:=aE (runF Tryz.prog aa0 agm Tryz.f245)
def amX:TH:={ loops:=[(2,{ keep:=[(7,(.int .i64))],mem:=[] })],ro:=[] }
def agj (a0:List vV1) (y2:(Int×Unit)):Option ((Int×Unit)⊕Bool) :=
 cond (decide (y2.1<(a0.length:Int))) (
(atI a0 y2.1).bind fun x1 =>
 cond (decide (y2.1>0)) ((atI a0 (IntKind.wrap .i64 (y2.1-1))).bind fun x2 =>
(zbh x2.1 x1.1).bind fun r3 =>
 cond (decide (r3≥0)) (
 some (.inr false)) (
 some (.inl ((IntKind.wrap .i64 (y2.1+1)),())))) (some (.inl ((IntKind.wrap .i64 (y2.1+1)),())))) (
 some (.inr true))
def zcw (a0:List vV1):Option Bool :=
 aM (agj a0) (0,())
def tT:TFn:={ ps:=(.cons (.sl tT9) .unit),res:=.bool,fn:=fun v=>zcw v.1 }
def agl:TEnv:=(vZ [(171,jw)])
theorem agk:runY Tryz.prog aa0 agm agl amX Tryz.f245 tT.ps tT.res=tT.fn:=by kernel_rfl
theorem aaY:aC Tryz.prog G0 245 aaZ:=ah (ak ⟨ay,(ai gk ae),ar,ae,aq⟩ Tryz.func245 rfl (by kernel_rfl))
theorem agi:TOk aaZ tT:=az (E:=aa0) (ET:=agl) (EnvT.ofX (ax (ac jv al)) am ap aL an) agk rfl
def aeA:Env:=(eZ [(243,adT)] [274])
def als:Hints:=(hZ [(2,[0,1,7,8])] [])
def aez:PFn:=aE (runF Tryz.prog aeA als Tryz.f303)
def aog:TH:={ loops:=[(2,{ keep:=[(8,(.int .i64))],mem:=[] })],ro:=[] }
def alp (a0:List vV1) (y2:(Int×Unit)):Option ((Int×Unit)⊕Int) :=
 cond (decide (y2.1<(a0.length:Int))) (
(atI a0 y2.1).bind fun x1 =>
(zaw x1).bind fun r2 =>
 cond r2 (
 some (.inr y2.1)) (
 some (.inl ((IntKind.wrap .i64 (y2.1+1)),())))) (
 some (.inr (-1)))
def zag (a0:List vV1) (a1:Unit):Option Int :=
 aM (alp a0) (0,())
def vI:TFn:={ ps:=(.cons (.sl tT9) (.cons (.fn 243) .unit)),res:=(.int .i64),fn:=fun v=>zag v.1 v.2.1 }
def alr:TEnv:=(vZ [(243,vA)])
theorem alq:runY Tryz.prog aeA als alr aog Tryz.f303 vI.ps vI.res=vI.fn:=by kernel_rfl
theorem aey:aC Tryz.prog G0 303 aez:=ah (ak ⟨ay,(ai adS ae),ar,ae,aq⟩ Tryz.func303 rfl (by kernel_rfl))
theorem alo:TOk aez vI:=az (E:=aeA) (ET:=alr) (EnvT.ofX (ax (ac akF al)) am ap aL an) alq rfl
def aeG:Env:=(eZ [(303,aez)] [274])
def alA:Hints:=(hZ [] [])
def aeF:PFn:=aE (runF Tryz.prog aeG alA Tryz.f246)
def aoi:TH:=yZ
def zae (a0:List vV1) (a1:Unit):Option Bool :=
(zag a0 a1).bind fun r1 =>
 some (decide (r1≥0))
def vK:TFn:={ ps:=(.cons (.sl tT9) (.cons (.fn 243) .unit)),res:=.bool,fn:=fun v=>zae v.1 v.2.1 }
def alz:TEnv:=(vZ [(303,vI)])
theorem aly:runY Tryz.prog aeG alA alz aoi Tryz.f246 vK.ps vK.res=vK.fn:=by kernel_rfl
theorem aeE:aC Tryz.prog G0 246 aeF:=ah (ak ⟨ay,(ai aey ae),ar,ae,aq⟩ Tryz.func246 rfl (by kernel_rfl))
theorem alx:TOk aeF vK:=az (E:=aeG) (ET:=alz) (EnvT.ofX (ax (ac alo al)) am ap aL an) aly rfl
def aex:Env:=(eZ [(244,adW)] [274])
def aln:Hints:=(hZ [(2,[0,1,7,8])] [])
def aew:PFn:=aE (runF Tryz.prog aex aln Tryz.f259)
def aof:TH:={ loops:=[(2,{ keep:=[(8,(.int .i64))],mem:=[] })],ro:=[] }
def alj (a0:List (Int×Int×Unit)) (y2:(Int×Unit)):Option ((Int×Unit)⊕Int) :=
 cond (decide (y2.1<(a0.length:Int))) (
(atI a0 y2.1).bind fun x1 =>
(zav x1).bind fun r2 =>
 cond r2 (
 some (.inr y2.1)) (
 some (.inl ((IntKind.wrap .i64 (y2.1+1)),())))) (
 some (.inr (-1)))
def zah (a0:List (Int×Int×Unit)) (a1:Unit):Option Int :=
 aM (alj a0) (0,())
def vH:TFn:={ ps:=(.cons (.sl tT11) (.cons (.fn 244) .unit)),res:=(.int .i64),fn:=fun v=>zah v.1 v.2.1 }
def alm:TEnv:=(vZ [(244,vB)])
theorem alk:runY Tryz.prog aex aln alm aof Tryz.f259 vH.ps vH.res=vH.fn:=by kernel_rfl
theorem aev:aC Tryz.prog G0 259 aew:=ah (ak ⟨ay,(ai adV ae),ar,ae,aq⟩ Tryz.func259 rfl (by kernel_rfl))
theorem ali:TOk aew vH:=az (E:=aex) (ET:=alm) (EnvT.ofX (ax (ac akJ al)) am ap aL an) alk rfl
def aeD:Env:=(eZ [(259,aew)] [274])
def alw:Hints:=(hZ [] [])
def aeC:PFn:=aE (runF Tryz.prog aeD alw Tryz.f247)
def aoh:TH:=yZ
def zaf (a0:List (Int×Int×Unit)) (a1:Unit):Option Bool :=
(zah a0 a1).bind fun r1 =>
 some (decide (r1≥0))
def vJ:TFn:={ ps:=(.cons (.sl tT11) (.cons (.fn 244) .unit)),res:=.bool,fn:=fun v=>zaf v.1 v.2.1 }
def alv:TEnv:=(vZ [(259,vH)])
theorem alu:runY Tryz.prog aeD alw alv aoh Tryz.f247 vJ.ps vJ.res=vJ.fn:=by kernel_rfl
theorem aeB:aC Tryz.prog G0 247 aeC:=ah (ak ⟨ay,(ai aev ae),ar,ae,aq⟩ Tryz.func247 rfl (by kernel_rfl))
theorem alt:TOk aeC vJ:=az (E:=aeD) (ET:=alv) (EnvT.ofX (ax (ac ali al)) am ap aL an) alu rfl
def aff:Env:=(eZ [(176,yG),(245,aaZ),(246,aeF),(247,aeC)] [274])
def amo:Hints:=(hZ [] [])
def afe:PFn:=aE (runF Tryz.prog aff amo Tryz.f177)
def aow:TH:={ loops:=[],cuts:=[(3,[(9,{ keep:=[(1,(.bx 0 0)),(13,.bool)],mem:=[.same] }),(7,{ keep:=[(1,(.bx 0 0)),(20,.bool)],mem:=[.same] })])],ro:=[1],news:=[] }
def za1 (a0:(List vV1×List vV2×List (Int×Int×Unit)×Unit)):Option Bool :=
(cond (decide ((a0.1.length:Int)≤1000)) ((zcw a0.1).bind fun r1 =>
 some (r1,())) (some (false,())):Option (Bool×Unit)).bind fun v2 =>
(cond v2.1 ((zae a0.1 ()).bind fun r3 =>
 some ((!r3),())) (some (false,())):Option (Bool×Unit)).bind fun v4 =>
 cond v4.1 ((zbg a0.2.1).bind fun r5 =>
 cond r5 ((zaf a0.2.2.1 ()).bind fun r6 =>
 some (!r6)) (some false)) (some false)
def vX:TFn:={ ps:=(.cons (.agg (.cons (.sl tT9) (.cons (.sl tT12) (.cons (.sl tT11) .unit)))) .unit),res:=.bool,fn:=fun v=>za1 v.1 }
def amn:TEnv:=(vZ [(176,sF),(245,tT),(246,vK),(247,vJ)])
theorem amm:runY Tryz.prog aff amo amn aow Tryz.f177 vX.ps vX.res=vX.fn:=by kernel_rfl
theorem afd:aC Tryz.prog G0 177 afe:=ah (ak ⟨ay,(ai u9 (ai aaY (ai aeE (ai aeB ae)))),ar,ae,aq⟩ Tryz.func177 rfl (by kernel_rfl))
theorem aml:TOk afe vX:=az (E:=aff) (ET:=amn) (EnvT.ofX (ax (ac aap (ac agi (ac alx (ac alt al))))) am ap aL an) amm rfl
def afc:Env:=(eZ [(174,yx),(175,ac4),(176,yG),(177,afe)] [274])
def amk:Hints:=(hZ [] [])
def afb:PFn:=aE (runF Tryz.prog afc amk Tryz.f103)
def aov:TH:={ loops:=[],ro:=[1] }
def za2 (a0:vV5):Option Bool :=
 cond (decide (a0.1=1)) (
(zck a0.2.1).bind fun r1 =>
 some (decide (r1=0))) (
 cond (decide (a0.1=2)) (
(zbe a0.2.2.1).bind fun r2 =>
 cond r2 ((zbg ([a0.2.2.2.1]:List vV2)).bind fun r3 =>
 cond r3 (cond (decide (a0.2.2.2.2.1≥0)) (some (decide (a0.2.2.2.2.1≤2))) (some false)) (some false)) (some false)) (
 cond (decide (a0.1=3)) (
(za1 a0.2.2.2.2.2.1).bind fun r4 =>
 some r4) (
 cond (decide (a0.1=4)) (
 none) (
 some false))))
def vW:TFn:={ ps:=(.cons tT15 .unit),res:=.bool,fn:=fun v=>za2 v.1 }
def amj:TEnv:={ pure:=[(174,sv),(175,ve),(176,sF),(177,vX)],look:=[],glob:=G0T,ty:=[(82,tT12)],raw:=[],fresh:=[] }
theorem ami:runY Tryz.prog afc amk amj aov Tryz.f103 vW.ps vW.res=vW.fn:=by kernel_rfl
theorem afa:aC Tryz.prog G0 103 afb:=ah (ak ⟨ay,(ai ug (ai ac3 (ai u9 (ai afd ae)))),ar,ae,aq⟩ Tryz.func103 rfl (by kernel_rfl))
theorem amh:TOk afb vW:=az (E:=afc) (ET:=amj) (EnvT.ofX (ax (ac aag (ac ajw (ac aap (ac aml al))))) am ap aL an) ami rfl
def ack:Env:=(eZ [(102,yF),(103,afb)] [274])
def aip:Hints:=(hZ [] [])
def yD:PFn:=aE (runF Tryz.prog ack aip Tryz.f39)
def anw:TH:={ loops:=[],ro:=[4,6] }
def zbx (a0:vV0) (a1:Int) (a2:(Int×Int×Unit)) (a3:Int):Option (vV5×Int×Unit) :=
(zbj a0.2.1 a2).bind fun r1 =>
 cond (!decide (r1.2.1=0)) (
 some ((0,((0,0,()),0,0,false,[],()),0,((0,0,()),0,()),0,([],[],[],()),([],[],([0,0,0,0,0,0,0,0,0,0,0,0,0,0,0,0],[],()),([0,0,0,0,0,0,0,0,0,0,0,0,0,0,0,0],[],()),[[],[],[],[],[],[],[],[]],()),()),r1.2.1,())) (
(za2 (2,((0,0,()),0,0,false,[],()),a1,r1.1,a3,([],[],[],()),([],[],([0,0,0,0,0,0,0,0,0,0,0,0,0,0,0,0],[],()),([0,0,0,0,0,0,0,0,0,0,0,0,0,0,0,0],[],()),[[],[],[],[],[],[],[],[]],()),())).bind fun r2 =>
 cond (!r2) (
 some ((0,((0,0,()),0,0,false,[],()),0,((0,0,()),0,()),0,([],[],[],()),([],[],([0,0,0,0,0,0,0,0,0,0,0,0,0,0,0,0],[],()),([0,0,0,0,0,0,0,0,0,0,0,0,0,0,0,0],[],()),[[],[],[],[],[],[],[],[]],()),()),2,())) (
 some ((2,((0,0,()),0,0,false,[],()),a1,r1.1,a3,([],[],[],()),([],[],([0,0,0,0,0,0,0,0,0,0,0,0,0,0,0,0],[],()),([0,0,0,0,0,0,0,0,0,0,0,0,0,0,0,0],[],()),[[],[],[],[],[],[],[],[]],()),()),0,())))
def sC:TFn:={ ps:=(.cons tT10 (.cons (.int .i64) (.cons tT11 tT18))),res:=(.tup (.cons tT15 tT18)),fn:=fun v=>zbx v.1 v.2.1 v.2.2.1 v.2.2.2.1 }
def aio:TEnv:=(vZ [(102,sE),(103,vW)])
theorem ain:runY Tryz.prog ack aip aio anw Tryz.f39 sC.ps sC.res=sC.fn:=by kernel_rfl
theorem uL:aC Tryz.prog G0 39 yD:=ah (ak ⟨ay,(ai uY (ai afa ae)),ar,ae,aq⟩ Tryz.func39 rfl (by kernel_rfl))
theorem aam:TOk yD sC:=az (E:=ack) (ET:=aio) (EnvT.ofX (ax (ac aao (ac amh al))) am ap aL an) ain rfl
def adD:Env:=(eZ [(242,vz)] [274])
def akh:Hints:=(hZ [(2,[0,1,5])] [34,38,42,57,68])
def adC:PFn:=aE (runF Tryz.prog adD akh Tryz.f179)
def an1:TH:={ joins:=[(3,{ keep:=[(5,(.own 0))],mem:=[.row true 82 tT12] }),(10,{ keep:=[(5,(.own 0)),(6,(.int .i64))],mem:=[.row true 82 tT12] })],loops:=[(2,{ keep:=[(0,(.sl tT12)),(1,(.sl tT12)),(5,(.own 0))],mem:=[.row true 82 tT12] })],ro:=[] }
def fa (y2:(List vV2×List vV2×List vV2×Unit)):Option ((List vV2×List vV2×List vV2×Unit)⊕List vV2) :=
(cond (decide ((y2.1.length:Int)>0)) (some (.inl (y2.2.2.1,()))) (cond (decide ((y2.2.1.length:Int)>0)) (
 some (.inl (y2.2.2.1,()))) (
 some (.inr (.inr y2.2.2.1)))):Option ((List vV2×Unit)⊕((List vV2×List vV2×List vV2×Unit)⊕List vV2))).bind (bQ fun v1 =>
(cond (decide ((y2.1.length:Int)=0)) (
 some (.inl (1,v1.1,()))) (
 cond (decide ((y2.2.1.length:Int)>0)) (
(atI y2.1 0).bind fun x2 =>
(atI y2.2.1 0).bind fun x3 =>
(zax x2 x3).bind fun r4 =>
 some (.inl (r4,v1.1,()))) (
 some (.inl ((-1),v1.1,())))):Option ((Int×List vV2×Unit)⊕((List vV2×List vV2×List vV2×Unit)⊕List vV2))).bind (bQ fun v5 =>
 cond (decide (v5.1<0)) (
(atI y2.1 0).bind fun x6 =>
(dO (v5.2.1.length+([x6]:List vV2).length)).bind fun u7 =>
(subI y2.1 1 (y2.1.length:Int)).bind fun s8 =>
 some (.inl (s8,y2.2.1,(v5.2.1++([x6]:List vV2)),()))) (
 cond (decide (v5.1>0)) (
(atI y2.2.1 0).bind fun x9 =>
(dO (v5.2.1.length+([x9]:List vV2).length)).bind fun u10 =>
(subI y2.2.1 1 (y2.2.1.length:Int)).bind fun s11 =>
 some (.inl (y2.1,s11,(v5.2.1++([x9]:List vV2)),()))) (
(atI y2.1 0).bind fun x12 =>
(atI y2.1 0).bind fun x13 =>
(atI y2.2.1 0).bind fun x14 =>
(dO (v5.2.1.length+([(x12.1,(max x13.2.1 x14.2.1),())]:List vV2).length)).bind fun u15 =>
(subI y2.1 1 (y2.1.length:Int)).bind fun s16 =>
(subI y2.2.1 1 (y2.2.1.length:Int)).bind fun s17 =>
 some (.inl (s16,s17,(v5.2.1++([(x12.1,(max x13.2.1 x14.2.1),())]:List vV2)),()))))))
def zb3 (a0:List vV2) (a1:List vV2):Option (List vV2) :=
 aM (fa) (a0,a1,[],())
def vq:TFn:={ ps:=(.cons (.sl tT12) (.cons (.sl tT12) .unit)),res:=(.sl tT12),fn:=fun v=>zb3 v.1 v.2.1 }
def akg:TEnv:={ pure:=[(242,pG)],look:=[],glob:=G0T,ty:=[(82,tT12)],raw:=[],fresh:=[] }
theorem akf:runY Tryz.prog adD akh akg an1 Tryz.f179 vq.ps vq.res=vq.fn:=by kernel_rfl
theorem adB:aC Tryz.prog G0 179 adC:=ah (ak ⟨ay,(ai pH ae),ar,ae,aq⟩ Tryz.func179 rfl (by kernel_rfl))
theorem ake:TOk adC vq:=az (E:=adD) (ET:=akg) (EnvT.ofX (ax (ac vy al)) am ap aL an) akf rfl
def aeW:Env:=(eZ [(179,adC)] [274])
def alX:Hints:=(hZ [] [])
def aeV:PFn:=aE (runF Tryz.prog aeW alX Tryz.f104)
def aoo:TH:=yZ
def za8 (a0:vV0) (a1:List vV2):Option vV0 :=
(zb3 a0.2.1 a1).bind fun r1 =>
 some (a0.1,r1,a0.2.2.1,a0.2.2.2.1,a0.2.2.2.2.1,())
def vQ:TFn:={ ps:=(.cons tT10 (.cons (.sl tT12) .unit)),res:=tT10,fn:=fun v=>za8 v.1 v.2.1 }
def alW:TEnv:=(vZ [(179,vq)])
theorem alV:runY Tryz.prog aeW alX alW aoo Tryz.f104 vQ.ps vQ.res=vQ.fn:=by kernel_rfl
theorem aeU:aC Tryz.prog G0 104 aeV:=ah (ak ⟨ay,(ai adB ae),ar,ae,aq⟩ Tryz.func104 rfl (by kernel_rfl))
theorem alU:TOk aeV vQ:=az (E:=aeW) (ET:=alW) (EnvT.ofX (ax (ac ake al)) am ap aL an) alV rfl
def adf:Env:={ pure:=[],raw:=[(180,yJ)],glob:=G0,same:=[274],look:=[],ext:=[] }
def ajL:Hints:={ seqs:=[],loops:=[(6,[0,3,5])],own:=[14],frz:=[(3,[3])] }
def ade:PFn:=aE (runF Tryz.prog adf ajL Tryz.f105)
def anT:TH:={ loops:=[(6,{ keep:=[(3,(.bx 0 0)),(5,(.int .i64))],mem:=[.box 86 tT15] })],ro:=[] }
def aaq (a0:List (Int×Int×Unit)) (y6:(Int×vV5×Unit)):Option ((Int×vV5×Unit)⊕List (Int×Int×Unit)) :=
 cond (decide (y6.1≥0)) (
(atI a0 y6.1).bind fun x3 =>
 cond (eqV tT11 x3 y6.2.1.2.2.2.1.1) (
(subI a0 0 y6.1).bind fun s4 =>
(zar s4).bind fun n5 =>
 some (.inr n5)) (
 some (.inl ((IntKind.wrap .i64 (y6.1-1)),y6.2.1,())))) (
 some (.inr a0))
def zbb (a0:List (Int×Int×Unit)) (a1:vV5):Option (List (Int×Int×Unit)) :=
 cond (decide (a1.2.2.2.2.1=1)) (
(zar a0).bind fun n1 =>
(dO (n1.length+([a1.2.2.2.1.1]:List (Int×Int×Unit)).length)).bind fun u2 =>
 some (n1++([a1.2.2.2.1.1]:List (Int×Int×Unit)))) (
 cond (decide (a1.2.2.2.2.1=2)) (
 aM (aaq a0) ((IntKind.wrap .i64 ((a0.length:Int)-1)),a1,())) (
 some a0))
def vh:TFn:={ ps:=(.cons (.sl tT11) (.cons tT15 .unit)),res:=(.sl tT11),fn:=fun v=>zbb v.1 v.2.1 }
def ajK:TEnv:={ pure:=[],look:=[],glob:=G0T,ty:=[(72,tT11)],raw:=[],fresh:=[(180,ad3)] }
theorem ajJ:runY Tryz.prog adf ajL ajK anT Tryz.f105 vh.ps vh.res=vh.fn:=by kernel_rfl
theorem adc:aC Tryz.prog G0 105 ade:=ah (ak ⟨ay,ae,(fx vE ar),ae,aq⟩ Tryz.func105 rfl (by kernel_rfl))
theorem ajI:TOk ade vh:=az (E:=adf) (ET:=ajK) (EnvT.ofX (ax al) am (jS ap rfl) aL (j4 aas rfl rfl rfl an)) ajJ rfl
def aed:Go.Shelf.Ren:=⟨fun | 41=>182 | n=>n,fun | 22=>39 | 23=>82 | 4=>4 | n=>n,fun | n=>n⟩
theorem yN:Go.Proofs.SlLaysE0.n41 Tryz.prog aed:={
 mixed:=by kernel_rfl
 f41:=⟨Tryz.f182.name,by decide,Tryz.func182.trans (congrArg some (by kernel_rfl))⟩
 t4:=Tryz.underlying4
 a4:=Tryz.isAgg4
 z4:=Tryz.sizeOf4
 v4:=Tryz.zeroValue4
 t22:=Tryz.underlying39
 a22:=Tryz.isAgg39
 z22:=Tryz.sizeOf39
 v22:=Tryz.zeroValue39 }
def aef:PFn:=(iU 3)
theorem aee:aC Tryz.prog G0 182 aef:=clone_lays yN 3 ⟨Tryz.f182,Tryz.func182,rfl,by kernel_rfl⟩ (by kernel_rfl) (by kernel_rfl) (by kernel_rfl) (by kernel_rfl) (by kernel_rfl) (by decide) (fun w=>Tryz.sizeOf82 w)
def zan (a0:List vV2):Option (List vV2):=eF a0
def ak2:TFn:=eY tT12
theorem ak1:TOk aef ak2:=kD rfl rfl rfl
def aej:Go.Shelf.Ren:=⟨fun | 41=>181 | n=>n,fun | 22=>22 | 23=>78 | 4=>4 | n=>n,fun | n=>n⟩
theorem yP:Go.Proofs.SlLaysE0.n41 Tryz.prog aej:={
 mixed:=by kernel_rfl
 f41:=⟨Tryz.f181.name,by decide,Tryz.func181.trans (congrArg some (by kernel_rfl))⟩
 t4:=Tryz.underlying4
 a4:=Tryz.isAgg4
 z4:=Tryz.sizeOf4
 v4:=Tryz.zeroValue4
 t22:=Tryz.underlying22
 a22:=Tryz.isAgg22
 z22:=Tryz.sizeOf22
 v22:=Tryz.zeroValue22 }
def ael:PFn:=(iU 6)
theorem aek:aC Tryz.prog G0 181 ael:=clone_lays yP 6 ⟨Tryz.f181,Tryz.func181,rfl,by kernel_rfl⟩ (by kernel_rfl) (by kernel_rfl) (by kernel_rfl) (by kernel_rfl) (by kernel_rfl) (by decide) (fun w=>Tryz.sizeOf78 w)
def zal (a0:List vV1):Option (List vV1):=eF a0
def ak6:TFn:=eY tT9
theorem ak5:TOk ael ak6:=kD rfl rfl rfl
def aeg:Go.Shelf.Ren:=⟨fun | 41=>180 | n=>n,fun | 22=>64 | 23=>72 | 4=>4 | n=>n,fun | n=>n⟩
theorem yO:Go.Proofs.SlLaysE0.n41 Tryz.prog aeg:={
 mixed:=by kernel_rfl
 f41:=⟨Tryz.f180.name,by decide,Tryz.func180.trans (congrArg some (by kernel_rfl))⟩
 t4:=Tryz.underlying4
 a4:=Tryz.isAgg4
 z4:=Tryz.sizeOf4
 v4:=Tryz.zeroValue4
 t22:=Tryz.underlying64
 a22:=Tryz.isAgg64
 z22:=Tryz.sizeOf64
 v22:=Tryz.zeroValue64 }
def aei:PFn:=(iU 2)
theorem aeh:aC Tryz.prog G0 180 aei:=clone_lays yO 2 ⟨Tryz.f180,Tryz.func180,rfl,by kernel_rfl⟩ (by kernel_rfl) (by kernel_rfl) (by kernel_rfl) (by kernel_rfl) (by kernel_rfl) (by decide) (fun w=>Tryz.sizeOf72 w)
def zam (a0:List (Int×Int×Unit)):Option (List (Int×Int×Unit)):=eF a0
def ak4:TFn:=eY tT11
theorem ak3:TOk aei ak4:=kD rfl rfl rfl
def acG:Env:=(eZ [(180,aei),(181,ael),(182,aef)] [274])
def aiV:Hints:=(hZ [(6,[1,2,26,27])] [])
def acF:PFn:=aE (runF Tryz.prog acG aiV Tryz.f107)
def anF:TH:={ loops:=[(6,{ keep:=[(1,(.bx 0 0)),(2,(.bx 1 0)),(27,(.int .i64))],mem:=[.box 69 tT10,.box 69 (.agg (.cons .nilsl (.cons .nilsl (.cons tT17 (.cons tT17 (.cons (.arr 8 .nilsl) .unit))))))] })],ro:=[] }
def aiS (a0:vV0) (y6:(Int×vV0×(Unit×Unit×vV7×vV7×List Unit×Unit)×Unit)):Option ((Int×vV0×(Unit×Unit×vV7×vV7×List Unit×Unit)×Unit)⊕vV0) :=
 cond (decide (y6.1<8)) (
(atI a0.2.2.2.2.1 y6.1).bind fun x5 =>
(zam x5).bind fun r6 =>
(inI 8 y6.1).bind fun i7 =>
(y6.2.1.2.2.2.2.1[i7]?).bind fun x8 =>
 some (.inl ((IntKind.wrap .i64 (y6.1+1)),(y6.2.1.1,y6.2.1.2.1,y6.2.1.2.2.1,y6.2.1.2.2.2.1,(y6.2.1.2.2.2.2.1.set i7 r6),()),y6.2.2.1,()))) (
 some (.inr y6.2.1))
def zbp (a0:vV0):Option vV0 :=
(zal a0.1).bind fun r1 =>
(zan a0.2.1).bind fun r2 =>
(zam a0.2.2.1.2.1).bind fun r3 =>
(zam a0.2.2.2.1.2.1).bind fun r4 =>
 aM (aiS a0) (0,(r1,r2,(a0.2.2.1.1,r3,()),(a0.2.2.2.1.1,r4,()),a0.2.2.2.2.1,()),((),(),([0,0,0,0,0,0,0,0,0,0,0,0,0,0,0,0],(),()),([0,0,0,0,0,0,0,0,0,0,0,0,0,0,0,0],(),()),[(),(),(),(),(),(),(),()],()),())
def uS:TFn:={ ps:=(.cons tT10 .unit),res:=tT10,fn:=fun v=>zbp v.1 }
def aiU:TEnv:=(vZ [(180,ak4),(181,ak6),(182,ak2)])
theorem aiT:runY Tryz.prog acG aiV aiU anF Tryz.f107 uS.ps uS.res=uS.fn:=by kernel_rfl
theorem acE:aC Tryz.prog G0 107 acF:=ah (ak ⟨ay,(ai aeh (ai aek (ai aee ae))),ar,ae,aq⟩ Tryz.func107 rfl (by kernel_rfl))
theorem aiR:TOk acF uS:=az (E:=acG) (ET:=aiU) (EnvT.ofX (ax (ac ak3 (ac ak5 (ac ak1 al)))) am ap aL an) aiT rfl
def acT:Env:=(eZ [(97,yy),(104,aeV),(105,ade),(107,acF)] [274])
def aje:Hints:=(hZ [] [])
def yE:PFn:=aE (runF Tryz.prog acT aje Tryz.f40)
def anK:TH:={ loops:=[],ro:=[3] }
def zbk (a0:vV0) (a1:vV5):Option vV0 :=
 cond (decide (a1.1=1)) (
(zci a0 a1.2.1).bind fun r1 =>
(inI 8 a1.2.1.2.1).bind fun i2 =>
(r1.2.2.2.2.1[i2]?).bind fun x3 =>
 some (r1.1,r1.2.1,r1.2.2.1,r1.2.2.2.1,(r1.2.2.2.2.1.set i2 []),())) (
 cond (decide (a1.1=2)) (
(za8 a0 ([a1.2.2.2.1]:List vV2)).bind fun r4 =>
(inI 8 a1.2.2.1).bind fun i5 =>
(r4.2.2.2.2.1[i5]?).bind fun x6 =>
(zbb x6 a1).bind fun r7 =>
(inI 8 a1.2.2.1).bind fun i8 =>
(r4.2.2.2.2.1[i8]?).bind fun x9 =>
 some (r4.1,r4.2.1,r4.2.2.1,r4.2.2.2.1,(r4.2.2.2.2.1.set i8 r7),())) (
 cond (decide (a1.1=3)) (
 none) (
 cond (decide (a1.1=4)) (
(zbp a1.2.2.2.2.2.2.1).bind fun r10 =>
 some r10) (
 some a0))))
def sD:TFn:={ ps:=(.cons tT10 (.cons tT15 .unit)),res:=tT10,fn:=fun v=>zbk v.1 v.2.1 }
def ajd:TEnv:={ pure:=[(97,sw),(104,vQ),(105,vh),(107,uS)],look:=[],glob:=G0T,ty:=[(82,tT12)],raw:=[],fresh:=[] }
theorem ajc:runY Tryz.prog acT aje ajd anK Tryz.f40 sD.ps sD.res=sD.fn:=by kernel_rfl
theorem uX:aC Tryz.prog G0 40 yE:=ah (ak ⟨ay,(ai ui (ai aeU (ai adc (ai acE ae)))),ar,ae,aq⟩ Tryz.func40 rfl (by kernel_rfl))
theorem aan:TOk yE sD:=az (E:=acT) (ET:=ajd) (EnvT.ofX (ax (ac aah (ac alU (ac ajI (ac aiR al))))) am ap aL an) ajc rfl
def adA:Env:=(eZ [(75,yA),(100,yw)] [274])
def akd:Hints:=(hZ [(5,[2,4,6,7])] [])
def adz:PFn:=aE (runF Tryz.prog adA akd Tryz.f44)
def an0:TH:={ loops:=[(5,{ keep:=[(2,(.bx 0 0)),(4,(.bx 1 0)),(7,(.int .i64))],mem:=[.box 69 tT10,.box 72 tT11] })],ro:=[] }
def vo (x2:List (Int×Int×Unit)) (y5:(Int×vV0×(Int×Int×Unit)×Unit)):Option ((Int×vV0×(Int×Int×Unit)×Unit)⊕vV2) :=
 cond (decide (y5.1≥0)) (
(atI x2 y5.1).bind fun x3 =>
(zce y5.2.1.2.1 x3).bind fun r4 =>
 cond r4 (
 some (.inl ((IntKind.wrap .i64 (y5.1-1)),y5.2.1,y5.2.2.1,()))) (
(atI x2 y5.1).bind fun x5 =>
(zcq y5.2.1 x5).bind fun r6 =>
 cond (!decide (r6=0)) (
 some (.inr ((0,0,()),r6,()))) (
(atI x2 y5.1).bind fun x7 =>
 some (.inr (x7,0,()))))) (
 some (.inr ((0,0,()),11,())))
def zb4 (a0:vV0) (a1:Int):Option vV2 :=
 cond (decide (a1<0)) (some ((0,0,()),2,())) (cond (decide (a1≥8)) (
 some ((0,0,()),2,())) (
(inI 8 a1).bind fun i1 =>
(a0.2.2.2.2.1[i1]?).bind fun x2 =>
 aM (vo x2) ((IntKind.wrap .i64 ((x2.length:Int)-1)),a0,(0,0,()),())))
def vp:TFn:={ ps:=(.cons tT10 tT18),res:=(.tup (.cons tT11 tT18)),fn:=fun v=>zb4 v.1 v.2.1 }
def akc:TEnv:=(vZ [(75,sy),(100,ss)])
theorem akb:runY Tryz.prog adA akd akc an0 Tryz.f44 vp.ps vp.res=vp.fn:=by kernel_rfl
theorem ady:aC Tryz.prog G0 44 adz:=ah (ak ⟨ay,(ai uq (ai tZ ae)),ar,ae,aq⟩ Tryz.func44 rfl (by kernel_rfl))
theorem aka:TOk adz vp:=az (E:=adA) (ET:=akc) (EnvT.ofX (ax (ac aaj (ac aaf al))) am ap aL an) akb rfl
def acX:Env:=(eZ [(35,yz),(39,yD),(40,yE),(44,adz),(97,yy),(98,aa9)] [274])
def ajl:Hints:=(hZ [] [])
def acW:PFn:=aE (runF Tryz.prog acX ajl Tryz.f34)
def anM:TH:={ loops:=[],cuts:=[(7,[(7,{ keep:=[(2,(.bx 1 0)),(7,(.bx 4 0)),(46,.bool)],mem:=[.gone,.box 72 tT11,.gone,.gone,.box 72 tT11,.gone] }),(4,{ keep:=[(2,(.bx 1 0)),(7,(.bx 4 0)),(50,.bool)],mem:=[.gone,.box 72 tT11,.gone,.gone,.box 72 tT11,.gone] })])],ro:=[],news:=[] }
def zbi:Option Bool :=
(zcs 1).bind fun r1 =>
(zci ([],[],([0,0,0,0,0,0,0,0,0,0,0,0,0,0,0,0],[],()),([0,0,0,0,0,0,0,0,0,0,0,0,0,0,0,0],[],()),[[],[],[],[],[],[],[],[]],()) r1).bind fun r2 =>
(zcs 2).bind fun r3 =>
(zci r2 r3).bind fun r4 =>
(zcg r4 1).bind fun r5 =>
(zbx r4 1 r5.1 1).bind fun r6 =>
(zbk r4 r6.1).bind fun r7 =>
(zb4 r7 1).bind fun r8 =>
(zcg r4 0).bind fun r9 =>
(cond (decide (r5.2.1=0)) (some ((decide (r5.1.2.1=2)),r5.1,r8.1,())) (some (false,r5.1,r8.1,())):Option (Bool×(Int×Int×Unit)×(Int×Int×Unit)×Unit)).bind fun v10 =>
(cond v10.1 (some ((decide (r6.2.1=0)),v10.2.1,v10.2.2.1,())) (some (false,v10.2.1,v10.2.2.1,())):Option (Bool×(Int×Int×Unit)×(Int×Int×Unit)×Unit)).bind fun v11 =>
 cond v11.1 (cond (decide (r8.2.1=0)) (cond (eqV tT11 v11.2.2.1 v11.2.1) (some (decide (r9.2.1=11))) (some false)) (some false)) (some false)
def uZ:TFn:={ ps:=.unit,res:=.bool,fn:=fun v=>zbi  }
def ajk:TEnv:=(vZ [(35,sx),(39,sC),(40,sD),(44,vp),(97,sw),(98,tX)])
theorem ajj:runY Tryz.prog acX ajl ajk anM Tryz.f34 uZ.ps uZ.res=uZ.fn:=by kernel_rfl
theorem acV:aC Tryz.prog G0 34 acW:=ah (ak ⟨ay,(ai un (ai uL (ai uX (ai ady (ai ui (ai aa8 ae)))))),ar,ae,aq⟩ Tryz.func34 rfl (by kernel_rfl))
theorem aji:TOk acW uZ:=az (E:=acX) (ET:=ajk) (EnvT.ofX (ax (ac aai (ac aam (ac aan (ac aka (ac aah (ac agy al))))))) am ap aL an) ajj rfl
def ado:Env:=(eZ [] [274])
def ajX:Hints:=(hZ [(2,[0,3,5])] [])
def adn:PFn:=aE (runF Tryz.prog ado ajX Tryz.f36)
def anW:TH:={ loops:=[(2,{ keep:=[(3,(.bx 0 0)),(5,(.int .i64))],mem:=[.same] })],ro:=[3] }
def qP (a0:List vV1) (a1:(Int×Int×Unit)) (y2:(Int×Unit)):Option ((Int×Unit)⊕Int) :=
 cond (decide (y2.1<(a0.length:Int))) (
(atI a0 y2.1).bind fun x1 =>
 cond (eqV tT11 x1.1 a1) (
 some (.inr y2.1)) (
 some (.inl ((IntKind.wrap .i64 (y2.1+1)),())))) (
 some (.inr (-1)))
def zb8 (a0:List vV1) (a1:(Int×Int×Unit)):Option Int :=
 aM (qP a0 a1) (0,())
def vk:TFn:={ ps:=(.cons (.sl tT9) (.cons tT11 .unit)),res:=(.int .i64),fn:=fun v=>zb8 v.1 v.2.1 }
def ajW:TEnv:=(vZ [])
theorem ajV:runY Tryz.prog ado ajX ajW anW Tryz.f36 vk.ps vk.res=vk.fn:=by kernel_rfl
theorem adm:aC Tryz.prog G0 36 adn:=ah (ak ⟨ay,ae,ar,ae,aq⟩ Tryz.func36 rfl (by kernel_rfl))
theorem ajU:TOk adn vk:=az (E:=ado) (ET:=ajW) (EnvT.ofX (ax al) am ap aL an) ajV rfl
def abn:Env:=(eZ [] [274])
def agU:Hints:=(hZ [(2,[0,3,5])] [])
def abm:PFn:=aE (runF Tryz.prog abn agU Tryz.f48)
def am6:TH:={ loops:=[(2,{ keep:=[(3,(.bx 0 0)),(5,(.int .i64))],mem:=[.same] })],ro:=[3] }
def oa (a0:List vV2) (a1:(Int×Int×Unit)) (y2:(Int×Unit)):Option ((Int×Unit)⊕Int) :=
 cond (decide (y2.1<(a0.length:Int))) (
(atI a0 y2.1).bind fun x1 =>
 cond (eqV tT11 x1.1 a1) (
(atI a0 y2.1).bind fun x2 =>
 some (.inr x2.2.1)) (
 some (.inl ((IntKind.wrap .i64 (y2.1+1)),())))) (
 some (.inr 0))
def zcn (a0:List vV2) (a1:(Int×Int×Unit)):Option Int :=
 aM (oa a0 a1) (0,())
def ud:TFn:={ ps:=(.cons (.sl tT12) (.cons tT11 .unit)),res:=(.int .i64),fn:=fun v=>zcn v.1 v.2.1 }
def agT:TEnv:=(vZ [])
theorem agS:runY Tryz.prog abn agU agT am6 Tryz.f48 ud.ps ud.res=ud.fn:=by kernel_rfl
theorem abl:aC Tryz.prog G0 48 abm:=ah (ak ⟨ay,ae,ar,ae,aq⟩ Tryz.func48 rfl (by kernel_rfl))
theorem agR:TOk abm ud:=az (E:=abn) (ET:=agT) (EnvT.ofX (ax al) am ap aL an) agS rfl
def aci:Env:=(eZ [(48,abm)] [274])
def aij:Hints:=(hZ [] [])
def ach:PFn:=aE (runF Tryz.prog aci aij Tryz.f37)
def anu:TH:={ loops:=[],ro:=[3] }
def zbz (a0:List vV2) (a1:(Int×Int×Unit)):Option Bool :=
(zcn a0 a1).bind fun r1 =>
(remT r1 2).bind fun t2 =>
 some (decide (t2=0))
def uI:TFn:={ ps:=(.cons (.sl tT12) (.cons tT11 .unit)),res:=.bool,fn:=fun v=>zbz v.1 v.2.1 }
def aii:TEnv:=(vZ [(48,ud)])
theorem aih:runY Tryz.prog aci aij aii anu Tryz.f37 uI.ps uI.res=uI.fn:=by kernel_rfl
theorem acg:aC Tryz.prog G0 37 ach:=ah (ak ⟨ay,(ai abl ae),ar,ae,aq⟩ Tryz.func37 rfl (by kernel_rfl))
theorem aig:TOk ach uI:=az (E:=aci) (ET:=aii) (EnvT.ofX (ax (ac agR al)) am ap aL an) aih rfl
def adQ:Env:=(eZ [(101,oe)] [274])
def akB:Hints:=(hZ [] [])
def adP:PFn:=aE (runF Tryz.prog adQ akB Tryz.f38)
def an6:TH:={ loops:=[],ro:=[2,3] }
def zay (a0:vV1) (a1:vV1):Option Int :=
 cond (decide (a0.2.2.1<a1.2.2.1)) (
 some (-1)) (
 cond (decide (a0.2.2.1>a1.2.2.1)) (
 some 1) (
(za0 a0.1 a1.1).bind fun r1 =>
 some r1))
def vx:TFn:={ ps:=(.cons tT9 (.cons tT9 .unit)),res:=(.int .i64),fn:=fun v=>zay v.1 v.2.1 }
def akA:TEnv:=(vZ [(101,kT)])
theorem akz:runY Tryz.prog adQ akB akA an6 Tryz.f38 vx.ps vx.res=vx.fn:=by kernel_rfl
theorem adO:aC Tryz.prog G0 38 adP:=ah (ak ⟨ay,(ai ib ae),ar,ae,aq⟩ Tryz.func38 rfl (by kernel_rfl))
theorem aky:TOk adP vx:=az (E:=adQ) (ET:=akA) (EnvT.ofX (ax (ac lu al)) am ap aL an) akz rfl
def adY:Env:=(eZ [(33,adq),(34,acW),(35,yz),(36,adn),(37,ach),(38,adP),(39,yD),(40,yE)] [274])
def akP:Hints:=(hZ [(10,[1,2,5,7,8])] [])
def akQ:PFn:=aE (runF Tryz.prog adY akP Tryz.f6)
def aoa:TH:={ joins:=[(14,{ keep:=[(2,(.bx 0 0)),(5,(.bx 1 0))],mem:=[.same,.box 72 tT11] })],loops:=[(10,{ keep:=[(2,(.bx 0 0)),(5,(.bx 1 0)),(8,(.int .i64))],mem:=[.same,.box 72 tT11] })],cuts:=[(12,[(19,{ keep:=[(2,(.bx 0 0)),(5,(.bx 1 0)),(83,.bool)],mem:=[.same,.box 72 tT11] })])],ro:=[2],news:=[] }
def jx (a0:vV0) (a1:Int) (r7:Int) (y10:(Int×(Int×Int×Unit)×Unit)):Option ((Int×(Int×Int×Unit)×Unit)⊕(((Int×Int×Unit)×Unit)⊕Bool)) :=
 cond (decide (y10.1<(a0.1.length:Int))) (
((atI a0.1 y10.1).bind fun x10 =>
 cond (decide (x10.2.1=a1)) ((atI a0.1 y10.1).bind fun x11 =>
(zbz a0.2.1 x11.1).bind fun r12 =>
 some (r12,y10.2.1,())) (some (false,y10.2.1,())):Option (Bool×(Int×Int×Unit)×Unit)).bind fun v13 =>
 cond v13.1 ((atI a0.1 y10.1).bind fun x14 =>
(atI a0.1 r7).bind fun x15 =>
(zay x14 x15).bind fun r16 =>
 cond (decide (r16>0)) (
 some (.inr (.inr false))) (
 some (.inl ((IntKind.wrap .i64 (y10.1+1)),v13.2.1,())))) (some (.inl ((IntKind.wrap .i64 (y10.1+1)),v13.2.1,())))) (
 some (.inr (.inl (y10.2.1,()))))
def zau (a0:vV0) (a1:Int):Option Bool :=
(zb7 a0).bind fun r1 =>
 cond (!r1) ((zbi).bind fun r2 =>
 some r2) (cond (decide (a1<0)) ((zbi).bind fun r3 =>
 some r3) (cond (decide (a1≥8)) (
(zbi).bind fun r4 =>
 some r4) (
(zcg a0 a1).bind fun r5 =>
 cond (!decide (r5.2.1=0)) (
(zbi).bind fun r6 =>
 some r6) (
(zb8 a0.1 r5.1).bind fun r7 =>
 cond (decide (r7<0)) (some false) ((atI a0.1 r7).bind fun x8 =>
 cond (!decide (x8.2.1=a1)) (some false) ((zbz a0.2.1 r5.1).bind fun r9 =>
 cond (!r9) (
 some false) (
(aM (jx a0 a1 r7) (0,r5.1,()):Option (((Int×Int×Unit)×Unit)⊕Bool)).bind (bQ fun v17 =>
(zbx a0 a1 v17.1 1).bind fun r18 =>
(zbk a0 r18.1).bind fun r19 =>
(zcg r19 a1).bind fun r20 =>
 cond (!decide (r20.2.1=0)) (
(zbi).bind fun r21 =>
 some r21) (
(zb8 a0.1 r20.1).bind fun r22 =>
 cond (decide (r22≥0)) ((atI a0.1 r22).bind fun x23 =>
(atI a0.1 r7).bind fun x24 =>
(zay x23 x24).bind fun r25 =>
 cond (decide (r25<0)) ((zbi).bind fun r26 =>
 some r26) (some false)) (some false))))))))))
def pI:TFn:={ ps:=(.cons tT10 tT18),res:=.bool,fn:=fun v=>zau v.1 v.2.1 }
def akO:TEnv:=(vZ [(33,vl),(34,uZ),(35,sx),(36,vk),(37,uI),(38,vx),(39,sC),(40,sD)])
theorem akN:runY Tryz.prog adY akP akO aoa Tryz.f6 pI.ps pI.res=pI.fn:=by kernel_rfl
theorem zau_Fok:aC Tryz.prog G0 6 akQ:=ah (ak ⟨ay,(ai adp (ai acV (ai un (ai adm (ai acg (ai adO (ai uL (ai uX ae)))))))),ar,ae,aq⟩ Tryz.func6 rfl (by kernel_rfl))
theorem zau_ok:TOk akQ pI:=az (E:=adY) (ET:=akO) (EnvT.ofX (ax (ac ajY (ac aji (ac aai (ac ajU (ac aig (ac aky (ac aam (ac aan al))))))))) am ap aL an) akN rfl
def dG (a0:vV0) (y3:(Int×Int×Unit)):Option ((Int×Int×Unit)⊕Int) :=
 cond (decide (y3.2.1<(a0.1.length:Int))) (
(atI a0.1 y3.2.1).bind fun x1 =>
 some (.inl ((max y3.1 x1.2.2.1),(IntKind.wrap .i64 (y3.2.1+1)),()))) (
 some (.inr y3.1))
def ig (a0:vV0):Option Int :=
 aM (dG a0) (0,0,())
def bP (a0:vV0) (y4:(Int×vV1×Unit)):Option ((Int×vV1×Unit)⊕((vV1×Unit)⊕Bool)) :=
 cond (decide (y4.1<(a0.2.1.length:Int))) (
(atI a0.2.1 y4.1).bind fun x9 =>
 cond (eqV tT11 x9.1 y4.2.1.1) (
(zbi).bind fun r10 =>
 some (.inr (.inr r10))) (
 some (.inl ((IntKind.wrap .i64 (y4.1+1)),y4.2.1,())))) (
 some (.inr (.inl (y4.2.1,()))))
def cO (a0:vV0) (a1:vV1):Option Bool :=
((zb7 a0).bind fun r1 =>
 cond (!r1) (some (true,a1,())) ((zbf a1).bind fun r2 =>
 some ((!r2),a1,())):Option (Bool×vV1×Unit)).bind fun v3 =>
 cond v3.1 ((zbi).bind fun r4 =>
 some r4) ((za9 v3.2.1).bind fun r5 =>
 cond (!decide (r5=0)) ((zbi).bind fun r6 =>
 some r6) ((zb8 a0.1 v3.2.1.1).bind fun r7 =>
 cond (decide (r7≥0)) (
(zbi).bind fun r8 =>
 some r8) (
(aM (bP a0) (0,v3.2.1,()):Option ((vV1×Unit)⊕Bool)).bind (bQ fun v11 =>
(ig a0).bind fun r12 =>
 cond (decide (r12≥1099511627776)) (
(zbi).bind fun r13 =>
 some r13) (
(zbk a0 (1,(v11.1.1,v11.1.2.1,(IntKind.wrap .i64 (r12+1)),v11.1.2.2.2.1,v11.1.2.2.2.2.1,()),0,((0,0,()),0,()),0,([],[],[],()),([],[],([0,0,0,0,0,0,0,0,0,0,0,0,0,0,0,0],[],()),([0,0,0,0,0,0,0,0,0,0,0,0,0,0,0,0],[],()),[[],[],[],[],[],[],[],[]],()),())).bind fun r14 =>
(zcg (r14.1,r14.2.1,r14.2.2.1,([0,0,0,0,0,0,0,0,0,0,0,0,0,0,0,0],[],()),r14.2.2.2.2.1,()) v11.1.2.1).bind fun r15 =>
(zb4 (r14.1,r14.2.1,r14.2.2.1,([0,0,0,0,0,0,0,0,0,0,0,0,0,0,0,0],[],()),r14.2.2.2.2.1,()) v11.1.2.1).bind fun r16 =>
 cond (decide (r15.2.1=0)) (cond (eqV tT11 r15.1 v11.1.1) (cond (decide (r16.2.1=11)) ((zbi).bind fun r17 =>
 some r17) (some false)) (some false)) (some false))))))
def ct:TFn:={ ps:=(.cons tT10 (.cons tT9 .unit)),res:=.bool,fn:=fun v=>cO v.1 v.2.1 }
def cB (y7:vV8) (x3:vV3) (y10:vV8):Option (vV8⊕(vV8⊕(vV8⊕(List (vV2×Bool))))) :=
 cond (decide (y10.1<(x3.2.2.2.2.1.length:Int))) (
(atI x3.2.2.2.2.1 y10.1).bind fun x4 =>
 some (.inl ((IntKind.wrap .i64 (y10.1+1)),(putK tT12 x4 true y10.2.1),()))) (
 some (.inr (.inl ((IntKind.wrap .i64 (y7.1+1)),y10.2.1,()))))
def cM (y3:vV8) (x1:vV1) (y7:vV8):Option (vV8⊕(vV8⊕(List (vV2×Bool)))) :=
 cond (decide (y7.1<(x1.2.2.2.2.1.length:Int))) (
(atI x1.2.2.2.2.1 y7.1).bind fun x3 =>
 aM (cB y7 x3) (0,y7.2.1,())) (
 some (.inr (.inl ((IntKind.wrap .i64 (y3.1+1)),y7.2.1,()))))
def cN (a0:List vV1) (a1:List vV2) (y3:vV8):Option (vV8⊕(List (vV2×Bool))) :=
 cond (decide (y3.1<(a0.length:Int))) (
(atI a0 y3.1).bind fun x1 =>
(zce a1 x1.1).bind fun r2 =>
 cond (!r2) (
 some (.inl ((IntKind.wrap .i64 (y3.1+1)),y3.2.1,()))) (
 aM (cM y3 x1) (0,y3.2.1,()))) (
 some (.inr y3.2.1))
def fw (a0:List vV1) (a1:List vV2):Option (List (vV2×Bool)) :=
 aM (cN a0 a1) (0,[],())
def eO (y4:(Int×List (vV2×Bool)×List vV6×Unit)) (x2:vV1) (y8:(Int×List (vV2×Bool)×List vV6×vV1×Unit)):Option ((Int×List (vV2×Bool)×List vV6×vV1×Unit)⊕((Int×List (vV2×Bool)×List vV6×Unit)⊕List vV6)) :=
 cond (decide (y8.1<(x2.2.2.2.2.1.length:Int))) (
(atI x2.2.2.2.2.1 y8.1).bind fun x4 =>
 cond (decide (x4.1=1)) (cond (!((getK tT12 false (y8.2.2.2.1.1,y8.1,()) y8.2.1).1)) (
(dO (y8.2.2.1.length+([((y8.2.2.2.1.1,y8.1,()),x4,y8.2.2.2.1.2.2.1,())]:List vV6).length)).bind fun u5 =>
 some (.inl ((IntKind.wrap .i64 (y8.1+1)),y8.2.1,(y8.2.2.1++([((y8.2.2.2.1.1,y8.1,()),x4,y8.2.2.2.1.2.2.1,())]:List vV6)),y8.2.2.2.1,()))) (
 some (.inl ((IntKind.wrap .i64 (y8.1+1)),y8.2.1,y8.2.2.1,y8.2.2.2.1,())))) (cond (decide (x4.1=2)) (cond (!((getK tT12 false (y8.2.2.2.1.1,y8.1,()) y8.2.1).1)) (
(dO (y8.2.2.1.length+([((y8.2.2.2.1.1,y8.1,()),x4,y8.2.2.2.1.2.2.1,())]:List vV6).length)).bind fun u6 =>
 some (.inl ((IntKind.wrap .i64 (y8.1+1)),y8.2.1,(y8.2.2.1++([((y8.2.2.2.1.1,y8.1,()),x4,y8.2.2.2.1.2.2.1,())]:List vV6)),y8.2.2.2.1,()))) (
 some (.inl ((IntKind.wrap .i64 (y8.1+1)),y8.2.1,y8.2.2.1,y8.2.2.2.1,())))) (cond (decide (x4.1=3)) (cond (!((getK tT12 false (y8.2.2.2.1.1,y8.1,()) y8.2.1).1)) (
(dO (y8.2.2.1.length+([((y8.2.2.2.1.1,y8.1,()),x4,y8.2.2.2.1.2.2.1,())]:List vV6).length)).bind fun u7 =>
 some (.inl ((IntKind.wrap .i64 (y8.1+1)),y8.2.1,(y8.2.2.1++([((y8.2.2.2.1.1,y8.1,()),x4,y8.2.2.2.1.2.2.1,())]:List vV6)),y8.2.2.2.1,()))) (
 some (.inl ((IntKind.wrap .i64 (y8.1+1)),y8.2.1,y8.2.2.1,y8.2.2.2.1,())))) (some (.inl ((IntKind.wrap .i64 (y8.1+1)),y8.2.1,y8.2.2.1,y8.2.2.2.1,())))))) (
 some (.inr (.inl ((IntKind.wrap .i64 (y4.1+1)),y8.2.1,y8.2.2.1,()))))
def eP (a0:List vV1) (a1:List vV2) (y4:(Int×List (vV2×Bool)×List vV6×Unit)):Option ((Int×List (vV2×Bool)×List vV6×Unit)⊕List vV6) :=
 cond (decide (y4.1<(a0.length:Int))) (
(atI a0 y4.1).bind fun x2 =>
(zce a1 x2.1).bind fun r3 =>
 cond (!r3) (
 some (.inl ((IntKind.wrap .i64 (y4.1+1)),y4.2.1,y4.2.2.1,()))) (
 aM (eO y4 x2) (0,y4.2.1,y4.2.2.1,x2,()))) (
 some (.inr y4.2.2.1))
def nz (a0:List vV1) (a1:List vV2):Option (List vV6) :=
(fw a0 a1).bind fun n1 =>
 aM (eP a0 a1) (0,n1,[],())
def gl (a0:vV0):Option (List vV6) :=
(nz a0.1 a0.2.1).bind fun r1 =>
 some r1
def aV (a0:List (List UInt8)) (a1:List (List UInt8)) (y4:(Int×Unit)):Option ((Int×Unit)⊕Bool) :=
 cond (decide (y4.1<(a0.length:Int))) (
(atI a0 y4.1).bind fun x1 =>
(atI a1 y4.1).bind fun x2 =>
 cond (!decide (x1=x2)) (
 some (.inr false)) (
 some (.inl ((IntKind.wrap .i64 (y4.1+1)),())))) (
 some (.inr true))
def bp (a0:List (List UInt8)) (a1:List (List UInt8)):Option Bool :=
 cond (!decide ((a0.length:Int)=(a1.length:Int))) (
 some false) (
 aM (aV a0 a1) (0,()))
def aS (a0:List vV2) (a1:List vV2) (y4:(Int×Unit)):Option ((Int×Unit)⊕Bool) :=
 cond (decide (y4.1<(a0.length:Int))) (
(atI a0 y4.1).bind fun x1 =>
(atI a1 y4.1).bind fun x2 =>
 cond (!(eqV tT12 x1 x2)) (
 some (.inr false)) (
 some (.inl ((IntKind.wrap .i64 (y4.1+1)),())))) (
 some (.inr true))
def bj (a0:List vV2) (a1:List vV2):Option Bool :=
 cond (!decide ((a0.length:Int)=(a1.length:Int))) (
 some false) (
 aM (aS a0 a1) (0,()))
def wU (a0:vV3) (a1:vV3):Option Bool :=
(cond (decide (a0.1=a1.1)) (some ((eqV tT16 a0.2.2.1 a1.2.2.1),())) (some (false,())):Option (Bool×Unit)).bind fun v1 =>
(cond v1.1 (some ((decide (a0.2.2.2.1=a1.2.2.2.1)),())) (some (false,())):Option (Bool×Unit)).bind fun v2 =>
 cond v2.1 ((bp a0.2.1 a1.2.1).bind fun r3 =>
 cond r3 ((bj a0.2.2.2.2.1 a1.2.2.2.2.1).bind fun r4 =>
 some r4) (some false)) (some false)
def gv (a0:vV6) (a1:vV6):Option Bool :=
 cond (eqV tT12 a0.1 a1.1) (cond (decide (a0.2.2.1=a1.2.2.1)) ((wU a0.2.1 a1.2.1).bind fun r1 =>
 some r1) (some false)) (some false)
def aB (a0:List vV6) (a1:List vV6) (y4:(Int×Unit)):Option ((Int×Unit)⊕Bool) :=
 cond (decide (y4.1<(a0.length:Int))) (
(atI a0 y4.1).bind fun x1 =>
(atI a1 y4.1).bind fun x2 =>
(gv x1 x2).bind fun r3 =>
 cond (!r3) (
 some (.inr false)) (
 some (.inl ((IntKind.wrap .i64 (y4.1+1)),())))) (
 some (.inr true))
def aJ (a0:List vV6) (a1:List vV6) (a2:Unit):Option Bool :=
 cond (!decide ((a0.length:Int)=(a1.length:Int))) (
 some false) (
 aM (aB a0 a1) (0,()))
def ka (a0:List vV6) (a1:List vV6):Option Bool :=
(aJ a0 a1 ()).bind fun r1 =>
 some r1
def bk (y11:(Int×vV0×(Int×Int×Unit)×vV0×Unit)):Option ((Int×vV0×(Int×Int×Unit)×vV0×Unit)⊕((vV0×(Int×Int×Unit)×vV0×Unit)⊕Bool)) :=
 cond (decide (y11.1<(y11.2.1.1.length:Int))) (
(atI y11.2.1.1 y11.1).bind fun x14 =>
 cond (!(eqV tT11 x14.1 y11.2.2.1)) ((zbz y11.2.2.2.1.2.1 x14.1).bind fun r15 =>
(zbz y11.2.1.2.1 x14.1).bind fun r16 =>
 cond (!(r15==r16)) (
 some (.inr (.inr false))) (
 some (.inl ((IntKind.wrap .i64 (y11.1+1)),y11.2.1,y11.2.2.1,y11.2.2.2.1,())))) (some (.inl ((IntKind.wrap .i64 (y11.1+1)),y11.2.1,y11.2.2.1,y11.2.2.2.1,())))) (
 some (.inr (.inl (y11.2.1,y11.2.2.1,y11.2.2.2.1,()))))
def de (a0:vV0) (a1:Int):Option Bool :=
(zb7 a0).bind fun r1 =>
 cond (!r1) ((zbi).bind fun r2 =>
 some r2) (cond (decide (a1<0)) ((zbi).bind fun r3 =>
 some r3) (cond (decide (a1≥8)) ((zbi).bind fun r4 =>
 some r4) ((inI 8 a1).bind fun i5 =>
(a0.2.2.2.2.1[i5]?).bind fun x6 =>
 cond (decide ((x6.length:Int)≥40)) (
(zbi).bind fun r7 =>
 some r7) (
(zcg a0 a1).bind fun r8 =>
 cond (!decide (r8.2.1=0)) (
 cond (eqV tT11 r8.1 (0,0,())) ((zbi).bind fun r9 =>
 some r9) (some false)) (
(zbx a0 a1 r8.1 1).bind fun r10 =>
(zbk a0 r10.1).bind fun r11 =>
 cond (!decide (r10.2.1=0)) (some false) ((zbz r11.2.1 r8.1).bind fun r12 =>
 cond r12 (some false) ((zb8 a0.1 r8.1).bind fun r13 =>
 cond (decide (r13<0)) (
 some false) (
(aM (bk) (0,a0,r8.1,r11,()):Option ((vV0×(Int×Int×Unit)×vV0×Unit)⊕Bool)).bind (bQ fun v17 =>
(zb4 v17.2.2.1 a1).bind fun r18 =>
 cond (!decide (r18.2.1=0)) (
 cond (decide (r18.2.1=14)) ((zcn v17.2.2.1.2.1 v17.2.1).bind fun r19 =>
 cond (decide (r19=64)) ((zbi).bind fun r20 =>
 some r20) (some false)) (some false)) (
(zbx v17.2.2.1 a1 r18.1 2).bind fun r21 =>
(zbk v17.2.2.1 r21.1).bind fun r22 =>
(cond (eqV tT11 r18.1 v17.2.1) (some ((decide (r21.2.1=0)),v17.1,r22,())) (some (false,v17.1,r22,())):Option (Bool×vV0×vV0×Unit)).bind fun v23 =>
(cond v23.1 ((gl v23.2.2.1).bind fun r24 =>
(gl v23.2.1).bind fun r25 =>
(ka r24 r25).bind fun r26 =>
 some (r26,v23.2.1,v23.2.2.1,())) (some (false,v23.2.1,v23.2.2.1,())):Option (Bool×vV0×vV0×Unit)).bind fun v27 =>
 cond v27.1 ((inI 8 a1).bind fun i28 =>
(v27.2.2.1.2.2.2.2.1[i28]?).bind fun x29 =>
(inI 8 a1).bind fun i30 =>
(v27.2.1.2.2.2.2.1[i30]?).bind fun x31 =>
 cond (decide ((x29.length:Int)=(x31.length:Int))) ((zbi).bind fun r32 =>
 some r32) (some false)) (some false)))))))))))
def cG:TFn:={ ps:=(.cons tT10 tT18),res:=.bool,fn:=fun v=>de v.1 v.2.1 }
end
end Go.Proofs.YtnbgkhdcidbkaaaGreatDoor.Y
