import Derived.Test.YtnbgkhdcidbkaaaGreatDoorS
import Derived.Test.YtnbgkhdcidbkaaaGreatDoorT30
import GoSem.PinnedTables
set_option linter.unusedVariables false
set_option maxRecDepth 100000
namespace Go.Proofs.YtnbgkhdcidbkaaaGreatDoor.Y
open Go.EM Go.TY Go.Proofs
theorem zb.{u,v}{A:Type u}{B:Type v} (a:A) (f:A→Option B):(some a).bind f=f a:=rfl
theorem zg.{u}{A:Type u}{l:List A}{i:Nat} (h:i<l.length):l[i]? = some l[i]:=List.getElem?_eq_getElem h
theorem zl.{u}{A:Type u}{a:A}{l:List A}:(a::l).length=l.length+1:=rfl
theorem zf {p:Prop} [Decidable p] (h:¬p):decide p=false:=decide_eq_false h
theorem zn.{u}{c:Prop}{h:Decidable c} (hc:¬c) {A:Sort u}{t e:A}:ite c t e=e:=if_neg hc
theorem zp.{u}{c:Prop}{h:Decidable c} (hc:c) {A:Sort u}{t e:A}:ite c t e=t:=if_pos hc
theorem zm.{u}{A:Type u}{l:List A}{n:Nat} (h:n<l.length):l[n]∈l:=List.getElem_mem h
theorem zt {p:Prop} [Decidable p] (h:p):decide p=true:=decide_eq_true h
noncomputable section
def qW:List Int:=Go.Pinned.utf8FirstZ.map fun (n:Nat)=>(n:Int)
def og:List (Int×Int×Unit):=[(128,191,()),(160,191,()),(128,159,()),(144,191,()),(128,143,()),(0,0,()),(0,0,()),(0,0,()),(0,0,()),(0,0,()),(0,0,()),(0,0,()),(0,0,()),(0,0,()),(0,0,()),(0,0,())]
def G0:List (Nat×AVal):=[(0,.rptr (qW.map (AVal.int .u8))),(1,.rptr (og.flatMap fun p=>[AVal.int .u8 p.1,AVal.int .u8 p.2.1]))]
def G0T:List (Nat×TV):=[(0,⟨.rp (.arr 256 (.int .u8)) 0,qW⟩),(1,⟨.rp (.arr 16 (.agg (.cons (.int .u8) (.cons (.int .u8) .unit)))) 0,og⟩)]
theorem aL:iI G0 G0T:=mh rfl rfl (xB (by kernel_rfl)) (mh rfl rfl (tk (by kernel_rfl)) xA)
theorem ay:∀ f,memN f [274]=true→Same Tryz.prog f:=by
 intro f h
 by_cases e274:f=274
 · subst e274; exact ⟨Tryz.f274,Tryz.func274,by kernel_rfl,by kernel_rfl,by kernel_rfl,by kernel_rfl⟩
 simp_all [memN]
def eZ (l:List (Nat×PFn)) (s:List Nat):Env:={ pure:=l,raw:=[],glob:=G0,same:=s,look:=[],ext:=[] }
def vZ (l:List (Nat×TFn)):TEnv:={ pure:=l,look:=[],glob:=G0T,ty:=[],raw:=[],fresh:=[] }
def hZ (l:List (Nat×List Nat)) (o:List Nat):Hints:={ seqs:=[],loops:=l,own:=o }
def yZ:TH:={ joins:=[],loops:=[],cuts:=[],ro:=[],news:=[] }
abbrev vV0:=(List ((Int×Int×Unit)×Int×Int×Bool×List (Int×List (List UInt8)×(Int×Int×List UInt8×Unit)×Int×List ((Int×Int×Unit)×Int×Unit)×Unit)×Unit)×List ((Int×Int×Unit)×Int×Unit)×(List Int×List (Int×Int×Unit)×Unit)×(List Int×List (Int×Int×Unit)×Unit)×List (List (Int×Int×Unit))×Unit)
abbrev vV1:=((Int×Int×Unit)×Int×Int×Bool×List (Int×List (List UInt8)×(Int×Int×List UInt8×Unit)×Int×List ((Int×Int×Unit)×Int×Unit)×Unit)×Unit)
abbrev vV2:=((Int×Int×Unit)×Int×Unit)
abbrev vV3:=(Int×List (List UInt8)×(Int×Int×List UInt8×Unit)×Int×List vV2×Unit)
abbrev vV4:=(List Int×List (Int×Int×Unit)×Unit)
abbrev vV5:=(Int×vV1×Int×vV2×Int×(List vV1×List vV2×List (Int×Int×Unit)×Unit)×vV0×Unit)
abbrev vV6:=(vV2×vV3×Int×Unit)
abbrev vV7:=(List Int×Unit×Unit)
abbrev vV8:=(Int×List (vV2×Bool)×Unit)
abbrev tT9:Ty:=(.agg (.cons (.agg (.cons (.int .i64) (.cons (.int .i64) .unit))) (.cons (.int .i64) (.cons (.int .i64) (.cons .bool (.cons (.sl (.agg (.cons (.int .i64) (.cons (.sl .str) (.cons (.agg (.cons (.int .i64) (.cons (.int .i64) (.cons .str .unit)))) (.cons (.int .i64) (.cons (.sl (.agg (.cons (.agg (.cons (.int .i64) (.cons (.int .i64) .unit))) (.cons (.int .i64) .unit)))) .unit))))))) .unit))))))
abbrev tT10:Ty:=(.agg (.cons (.sl tT9) (.cons (.sl (.agg (.cons (.agg (.cons (.int .i64) (.cons (.int .i64) .unit))) (.cons (.int .i64) .unit)))) (.cons (.agg (.cons (.arr 16 (.int .i64)) (.cons (.sl (.agg (.cons (.int .i64) (.cons (.int .i64) .unit)))) .unit))) (.cons (.agg (.cons (.arr 16 (.int .i64)) (.cons (.sl (.agg (.cons (.int .i64) (.cons (.int .i64) .unit)))) .unit))) (.cons (.arr 8 (.sl (.agg (.cons (.int .i64) (.cons (.int .i64) .unit))))) .unit))))))
abbrev tT11:Ty:=(.agg (.cons (.int .i64) (.cons (.int .i64) .unit)))
abbrev tT12:Ty:=(.agg (.cons tT11 (.cons (.int .i64) .unit)))
abbrev tT13:Ty:=(.agg (.cons (.int .i64) (.cons (.sl .str) (.cons (.agg (.cons (.int .i64) (.cons (.int .i64) (.cons .str .unit)))) (.cons (.int .i64) (.cons (.sl tT12) .unit))))))
abbrev tT14:Ty:=(.agg (.cons (.arr 16 (.int .i64)) (.cons (.sl tT11) .unit)))
abbrev tT15:Ty:=(.agg (.cons (.int .i64) (.cons tT9 (.cons (.int .i64) (.cons tT12 (.cons (.int .i64) (.cons (.agg (.cons (.sl tT9) (.cons (.sl tT12) (.cons (.sl tT11) .unit)))) (.cons tT10 .unit))))))))
abbrev tT16:Ty:=(.agg (.cons (.int .i64) (.cons (.int .i64) (.cons .str .unit))))
abbrev tT17:Ty:=(.agg (.cons (.arr 16 (.int .i64)) (.cons .nilsl .unit)))
abbrev tT18:Ty:=(.cons (.int .i64) .unit)
def ada:Env:=(eZ [] [274])
def ajH:Hints:=(hZ [(4,[0,3])] [])
def ac9:PFn:=aE (runF Tryz.prog ada ajH Tryz.f15)
def anR:TH:={ loops:=[(4,{ keep:=[(3,(.int .i64))],mem:=[] })],ro:=[] }
def qK (a0:List (List UInt8)) (y4:(Int×Unit)):Option ((Int×Unit)⊕Bool) :=
 cond (decide (y4.1<(a0.length:Int))) (
(atI a0 y4.1).bind fun x1 =>
 cond (decide ((x1.length:Int)>120)) (
 some (.inr false)) (
 some (.inl ((IntKind.wrap .i64 (y4.1+1)),())))) (
 some (.inr true))
def zbc (a0:List (List UInt8)):Option Bool :=
 cond (decide ((a0.length:Int)>12)) (
 some false) (
 aM (qK a0) (0,()))
def vf:TFn:={ ps:=(.cons (.sl .str) .unit),res:=.bool,fn:=fun v=>zbc v.1 }
def ajG:TEnv:=(vZ [])
theorem ajF:runY Tryz.prog ada ajH ajG anR Tryz.f15 vf.ps vf.res=vf.fn:=by kernel_rfl
theorem ac8:aC Tryz.prog G0 15 ac9:=ah (ak ⟨ay,ae,ar,ae,aq⟩ Tryz.func15 rfl (by kernel_rfl))
theorem ajE:TOk ac9 vf:=az (E:=ada) (ET:=ajG) (EnvT.ofX (ax al) am ap aL an) ajF rfl
def act:Env:=(eZ [(15,ac9)] [274])
def aiE:Hints:=(hZ [] [])
def acs:PFn:=aE (runF Tryz.prog act aiE Tryz.f108)
def anA:TH:={ loops:=[],ro:=[1] }
def zbt (a0:vV3):Option Bool :=
(zbc a0.2.1).bind fun r1 =>
 cond r1 (cond (decide ((a0.2.2.1.2.2.1.length:Int)≤200)) (some (decide ((a0.2.2.2.2.1.length:Int)≤300))) (some false)) (some false)
def uN:TFn:={ ps:=(.cons tT13 .unit),res:=.bool,fn:=fun v=>zbt v.1 }
def aiD:TEnv:=(vZ [(15,vf)])
theorem aiC:runY Tryz.prog act aiE aiD anA Tryz.f108 uN.ps uN.res=uN.fn:=by kernel_rfl
theorem acr:aC Tryz.prog G0 108 acs:=ah (ak ⟨ay,(ai ac8 ae),ar,ae,aq⟩ Tryz.func108 rfl (by kernel_rfl))
theorem aiB:TOk acs uN:=az (E:=act) (ET:=aiD) (EnvT.ofX (ax (ac ajE al)) am ap aL an) aiC rfl
def ac2:Env:=(eZ [(108,acs)] [274])
def ajt:Hints:=(hZ [(4,[1,3])] [])
def ac1:PFn:=aE (runF Tryz.prog ac2 ajt Tryz.f41)
def anN:TH:={ loops:=[(4,{ keep:=[(1,(.bx 0 0)),(3,(.int .i64))],mem:=[.same] })],ro:=[1] }
def qJ (a0:vV1) (y4:(Int×Unit)):Option ((Int×Unit)⊕Bool) :=
 cond (decide (y4.1<(a0.2.2.2.2.1.length:Int))) (
(atI a0.2.2.2.2.1 y4.1).bind fun x1 =>
(zbt x1).bind fun r2 =>
 cond (!r2) (
 some (.inr false)) (
 some (.inl ((IntKind.wrap .i64 (y4.1+1)),())))) (
 some (.inr true))
def zbg (a0:vV1):Option Bool :=
 cond (decide ((a0.2.2.2.2.1.length:Int)>20)) (
 some false) (
 aM (qJ a0) (0,()))
def u9:TFn:={ ps:=(.cons tT9 .unit),res:=.bool,fn:=fun v=>zbg v.1 }
def ajs:TEnv:=(vZ [(108,uN)])
theorem ajr:runY Tryz.prog ac2 ajt ajs anN Tryz.f41 u9.ps u9.res=u9.fn:=by kernel_rfl
theorem ac0:aC Tryz.prog G0 41 ac1:=ah (ak ⟨ay,(ai acr ae),ar,ae,aq⟩ Tryz.func41 rfl (by kernel_rfl))
theorem ajq:TOk ac1 u9:=az (E:=ac2) (ET:=ajs) (EnvT.ofX (ax (ac aiB al)) am ap aL an) ajr rfl
def acz:Env:=(eZ [(41,ac1)] [274])
def aiM:Hints:=(hZ [(4,[1,3]),(9,[1,4])] [])
def acy:PFn:=aE (runF Tryz.prog acz aiM Tryz.f95)
def anC:TH:={ joins:=[(8,{ keep:=[(1,(.bx 0 0))],mem:=[.box 69 tT10] })],loops:=[(4,{ keep:=[(1,(.bx 0 0)),(3,(.int .i64))],mem:=[.box 69 tT10] }),(9,{ keep:=[(1,(.bx 0 0)),(4,(.int .i64))],mem:=[.box 69 tT10] })],cuts:=[(1,[(10,{ keep:=[(1,(.bx 0 0)),(14,.bool)],mem:=[.box 69 tT10] })])],ro:=[],news:=[] }
def lk (y4:(Int×vV0×Unit)):Option ((Int×vV0×Unit)⊕((vV0×Unit)⊕Bool)) :=
 cond (decide (y4.1<(y4.2.1.1.length:Int))) (
(atI y4.2.1.1 y4.1).bind fun x2 =>
(zbg x2).bind fun r3 =>
 cond (!r3) (
 some (.inr (.inr false))) (
 some (.inl ((IntKind.wrap .i64 (y4.1+1)),y4.2.1,())))) (
 some (.inr (.inl (y4.2.1,()))))
def lj (y9:(Int×vV0×Unit)):Option ((Int×vV0×Unit)⊕Bool) :=
 cond (decide (y9.1<8)) (
(inI 8 y9.1).bind fun i5 =>
(y9.2.1.2.2.2.2.1[i5]?).bind fun x6 =>
 cond (decide ((x6.length:Int)>40)) (
 some (.inr false)) (
 some (.inl ((IntKind.wrap .i64 (y9.1+1)),y9.2.1,())))) (
 some (.inr true))
def zbr (a0:vV0):Option Bool :=
(cond (decide ((a0.1.length:Int)>20)) (some (true,a0,())) (some ((decide ((a0.2.1.length:Int)>100)),a0,())):Option (Bool×vV0×Unit)).bind fun v1 =>
 cond v1.1 (some false) (cond (decide ((v1.2.1.2.2.1.2.1.length:Int)>100)) (some false) (cond (decide ((v1.2.1.2.2.2.1.2.1.length:Int)>100)) (
 some false) (
(aM (lk) (0,v1.2.1,()):Option ((vV0×Unit)⊕Bool)).bind (bQ fun v4 =>
 aM (lj) (0,v4.1,())))))
def uP:TFn:={ ps:=(.cons tT10 .unit),res:=.bool,fn:=fun v=>zbr v.1 }
def aiL:TEnv:=(vZ [(41,u9)])
theorem aiK:runY Tryz.prog acz aiM aiL anC Tryz.f95 uP.ps uP.res=uP.fn:=by kernel_rfl
theorem acx:aC Tryz.prog G0 95 acy:=ah (ak ⟨ay,(ai ac0 ae),ar,ae,aq⟩ Tryz.func95 rfl (by kernel_rfl))
theorem aiJ:TOk acy uP:=az (E:=acz) (ET:=aiL) (EnvT.ofX (ax (ac ajq al)) am ap aL an) aiK rfl
def adH:Env:=(eZ [] [274])
def akr:Hints:=(hZ [] [])
def yH:PFn:=aE (runF Tryz.prog adH akr Tryz.f172)
def an3:TH:=yZ
def zb0 (a0:Int) (a1:Int):Option Int :=
 cond (decide (a0<a1)) (
 some (-1)) (
 cond (decide (a0>a1)) (
 some 1) (
 some 0))
def sG:TFn:={ ps:=(.cons (.int .i64) tT18),res:=(.int .i64),fn:=fun v=>zb0 v.1 v.2.1 }
def akq:TEnv:=(vZ [])
theorem akp:runY Tryz.prog adH akr akq an3 Tryz.f172 sG.ps sG.res=sG.fn:=by kernel_rfl
theorem vt:aC Tryz.prog G0 172 yH:=ah (ak ⟨ay,ae,ar,ae,aq⟩ Tryz.func172 rfl (by kernel_rfl))
theorem aar:TOk yH sG:=az (E:=adH) (ET:=akq) (EnvT.ofX (ax al) am ap aL an) akp rfl
def adI:Env:=(eZ [(172,yH)] [274])
def aku:Hints:=(hZ [] [])
def od:PFn:=aE (runF Tryz.prog adI aku Tryz.f101)
def an4:TH:={ loops:=[],ro:=[2,3] }
def zaz (a0:(Int×Int×Unit)) (a1:(Int×Int×Unit)):Option Int :=
 cond (!decide (a0.1=a1.1)) (
(zb0 a0.1 a1.1).bind fun r1 =>
 some r1) (
(zb0 a0.2.1 a1.2.1).bind fun r2 =>
 some r2)
def kT:TFn:={ ps:=(.cons tT11 (.cons tT11 .unit)),res:=(.int .i64),fn:=fun v=>zaz v.1 v.2.1 }
def akt:TEnv:=(vZ [(172,sG)])
theorem aks:runY Tryz.prog adI aku akt an4 Tryz.f101 kT.ps kT.res=kT.fn:=by kernel_rfl
theorem ib:aC Tryz.prog G0 101 od:=ah (ak ⟨ay,(ai vt ae),ar,ae,aq⟩ Tryz.func101 rfl (by kernel_rfl))
theorem lq:TOk od kT:=az (E:=adI) (ET:=akt) (EnvT.ofX (ax (ac aar al)) am ap aL an) aks rfl
def acJ:Env:=(eZ [(101,od)] [274])
def ai1:Hints:=(hZ [(2,[0,3])] [])
def acI:PFn:=aE (runF Tryz.prog acJ ai1 Tryz.f152)
def anG:TH:={ loops:=[(2,{ keep:=[(3,(.int .i64))],mem:=[] })],ro:=[] }
def qG (a0:List vV1) (y2:(Int×Unit)):Option ((Int×Unit)⊕Bool) :=
 cond (decide (y2.1<(a0.length:Int))) (
(atI a0 (IntKind.wrap .i64 (y2.1-1))).bind fun x1 =>
(atI a0 y2.1).bind fun x2 =>
(zaz x1.1 x2.1).bind fun r3 =>
 cond (!decide (r3=(-1))) (
 some (.inr false)) (
 some (.inl ((IntKind.wrap .i64 (y2.1+1)),())))) (
 some (.inr true))
def zbn (a0:List vV1):Option Bool :=
 aM (qG a0) (1,())
def uT:TFn:={ ps:=(.cons (.sl tT9) .unit),res:=.bool,fn:=fun v=>zbn v.1 }
def ai0:TEnv:=(vZ [(101,kT)])
theorem aiZ:runY Tryz.prog acJ ai1 ai0 anG Tryz.f152 uT.ps uT.res=uT.fn:=by kernel_rfl
theorem acH:aC Tryz.prog G0 152 acI:=ah (ak ⟨ay,(ai ib ae),ar,ae,aq⟩ Tryz.func152 rfl (by kernel_rfl))
theorem aiY:TOk acI uT:=az (E:=acJ) (ET:=ai0) (EnvT.ofX (ax (ac lq al)) am ap aL an) aiZ rfl
def ac7:Env:=(eZ [] [274])
def ajD:Hints:=(hZ [] [])
def mO:PFn:=aE (runF Tryz.prog ac7 ajD Tryz.f109)
def anQ:TH:={ loops:=[],ro:=[1] }
def zbd (a0:(Int×Int×Unit)):Option Bool :=
 cond (decide (a0.1≥0)) (cond (decide (a0.1≤15)) (cond (decide (a0.2.1≥1)) (some (decide (a0.2.1≤1048576))) (some false)) (some false)) (some false)
def jw:TFn:={ ps:=(.cons tT11 .unit),res:=.bool,fn:=fun v=>zbd v.1 }
def ajC:TEnv:=(vZ [])
theorem ajB:runY Tryz.prog ac7 ajD ajC anQ Tryz.f109 jw.ps jw.res=jw.fn:=by kernel_rfl
theorem gk:aC Tryz.prog G0 109 mO:=ah (ak ⟨ay,ae,ar,ae,aq⟩ Tryz.func109 rfl (by kernel_rfl))
theorem jv:TOk mO jw:=az (E:=ac7) (ET:=ajC) (EnvT.ofX (ax al) am ap aL an) ajB rfl
def abc:Env:=(eZ [(109,mO)] [274])
def agF:Hints:=(hZ [] [])
def abb:PFn:=aE (runF Tryz.prog abc agF Tryz.f224)
def am2:TH:={ loops:=[],ro:=[1] }
def zcq (a0:vV2):Option Bool :=
(zbd a0.1).bind fun r1 =>
 cond r1 (cond (decide (a0.2.1≥1)) (some (decide (a0.2.1≤64))) (some false)) (some false)
def tY:TFn:={ ps:=(.cons tT12 .unit),res:=.bool,fn:=fun v=>zcq v.1 }
def agE:TEnv:=(vZ [(109,jw)])
theorem agD:runY Tryz.prog abc agF agE am2 Tryz.f224 tY.ps tY.res=tY.fn:=by kernel_rfl
theorem aba:aC Tryz.prog G0 224 abb:=ah (ak ⟨ay,(ai gk ae),ar,ae,aq⟩ Tryz.func224 rfl (by kernel_rfl))
theorem agC:TOk abb tY:=az (E:=abc) (ET:=agE) (EnvT.ofX (ax (ac jv al)) am ap aL an) agD rfl
def acP:Env:=(eZ [(101,od),(224,abb)] [274])
def ai9:Hints:=(hZ [(2,[0,3])] [])
def acO:PFn:=aE (runF Tryz.prog acP ai9 Tryz.f153)
def anI:TH:={ loops:=[(2,{ keep:=[(3,(.int .i64))],mem:=[] })],ro:=[] }
def qH (a0:List vV2) (y2:(Int×Unit)):Option ((Int×Unit)⊕Bool) :=
 cond (decide (y2.1<(a0.length:Int))) (
(atI a0 y2.1).bind fun x1 =>
(zcq x1).bind fun r2 =>
 cond (!r2) (some (.inr false)) (cond (decide (y2.1>0)) ((atI a0 (IntKind.wrap .i64 (y2.1-1))).bind fun x3 =>
(atI a0 y2.1).bind fun x4 =>
(zaz x3.1 x4.1).bind fun r5 =>
 cond (!decide (r5=(-1))) (
 some (.inr false)) (
 some (.inl ((IntKind.wrap .i64 (y2.1+1)),())))) (some (.inl ((IntKind.wrap .i64 (y2.1+1)),()))))) (
 some (.inr true))
def zbl (a0:List vV2):Option Bool :=
 aM (qH a0) (0,())
def uV:TFn:={ ps:=(.cons (.sl tT12) .unit),res:=.bool,fn:=fun v=>zbl v.1 }
def ai8:TEnv:=(vZ [(101,kT),(224,tY)])
theorem ai7:runY Tryz.prog acP ai9 ai8 anI Tryz.f153 uV.ps uV.res=uV.fn:=by kernel_rfl
theorem acN:aC Tryz.prog G0 153 acO:=ah (ak ⟨ay,(ai ib (ai aba ae)),ar,ae,aq⟩ Tryz.func153 rfl (by kernel_rfl))
theorem ai6:TOk acO uV:=az (E:=acP) (ET:=ai8) (EnvT.ofX (ax (ac lq (ac agC al))) am ap aL an) ai7 rfl
def acq:Env:=(eZ [] [274])
def aiA:Hints:=(hZ [(2,[1,3])] [])
def acp:PFn:=aE (runF Tryz.prog acq aiA Tryz.f235)
def anz:TH:={ loops:=[(2,{ keep:=[(1,(.bx 0 0)),(3,(.int .i64))],mem:=[.box 63 (.arr 16 (.int .i64))] })],ro:=[] }
def qF (y2:(Int×List Int×Unit)):Option ((Int×List Int×Unit)⊕Bool) :=
 cond (decide (y2.1<16)) (
(inI 16 y2.1).bind fun i1 =>
(y2.2.1[i1]?).bind fun x2 =>
 cond (decide (x2<0)) (some (.inr false)) ((inI 16 y2.1).bind fun i3 =>
(y2.2.1[i3]?).bind fun x4 =>
 cond (decide (x4>1048576)) (
 some (.inr false)) (
 some (.inl ((IntKind.wrap .i64 (y2.1+1)),y2.2.1,()))))) (
 some (.inr true))
def zbu (a0:List Int):Option Bool :=
 aM (qF) (0,a0,())
def uM:TFn:={ ps:=(.cons (.arr 16 (.int .i64)) .unit),res:=.bool,fn:=fun v=>zbu v.1 }
def aiz:TEnv:=(vZ [])
theorem aiy:runY Tryz.prog acq aiA aiz anz Tryz.f235 uM.ps uM.res=uM.fn:=by kernel_rfl
theorem aco:aC Tryz.prog G0 235 acp:=ah (ak ⟨ay,ae,ar,ae,aq⟩ Tryz.func235 rfl (by kernel_rfl))
theorem aix:TOk acp uM:=az (E:=acq) (ET:=aiz) (EnvT.ofX (ax al) am ap aL an) aiy rfl
def aeX:Env:=(eZ [(101,od),(109,mO),(235,acp)] [274])
def al2:Hints:=(hZ [(4,[1,3])] [])
def aeW:PFn:=aE (runF Tryz.prog aeX al2 Tryz.f166)
def aoq:TH:={ loops:=[(4,{ keep:=[(1,(.bx 0 0)),(3,(.int .i64))],mem:=[.box 66 tT14] })],ro:=[] }
def qS (y4:(Int×vV4×Unit)):Option ((Int×vV4×Unit)⊕Bool) :=
 cond (decide (y4.1<(y4.2.1.2.1.length:Int))) (
(atI y4.2.1.2.1 y4.1).bind fun x2 =>
(zbd x2).bind fun r3 =>
 cond (!r3) (some (.inr false)) ((inI 16 x2.1).bind fun i4 =>
(y4.2.1.1[i4]?).bind fun x5 =>
 cond (decide ((IntKind.wrap .i64 (x2.2.1-1))≤x5)) (
 some (.inr false)) (
 cond (decide (y4.1>0)) ((atI y4.2.1.2.1 (IntKind.wrap .i64 (y4.1-1))).bind fun x6 =>
(zaz x6 x2).bind fun r7 =>
 cond (!decide (r7=(-1))) (
 some (.inr false)) (
 some (.inl ((IntKind.wrap .i64 (y4.1+1)),y4.2.1,())))) (some (.inl ((IntKind.wrap .i64 (y4.1+1)),y4.2.1,())))))) (
 some (.inr true))
def za6 (a0:vV4):Option Bool :=
(zbu a0.1).bind fun r1 =>
 cond (!r1) (some false) (cond (decide ((a0.2.1.length:Int)>4096)) (
 some false) (
 aM (qS) (0,a0,())))
def vQ:TFn:={ ps:=(.cons tT14 .unit),res:=.bool,fn:=fun v=>za6 v.1 }
def al1:TEnv:=(vZ [(101,kT),(109,jw),(235,uM)])
theorem al0:runY Tryz.prog aeX al2 al1 aoq Tryz.f166 vQ.ps vQ.res=vQ.fn:=by kernel_rfl
theorem aeV:aC Tryz.prog G0 166 aeW:=ah (ak ⟨ay,(ai ib (ai gk (ai aco ae))),ar,ae,aq⟩ Tryz.func166 rfl (by kernel_rfl))
theorem alZ:TOk aeW vQ:=az (E:=aeX) (ET:=al1) (EnvT.ofX (ax (ac lq (ac jv (ac aix al)))) am ap aL an) al0 rfl
def adk:Env:=(eZ [] [274])
def ajT:Hints:=(hZ [(17,[0,4,5,6,7])] [])
def adj:PFn:=aE (runF Tryz.prog adk ajT Tryz.f216)
def anU:TH:={ joins:=[(14,{ keep:=[(4,(.int .i64)),(5,(.int .i64)),(6,(.int .i64))],mem:=[] }),(9,{ keep:=[(18,.bool)],mem:=[] }),(22,{ keep:=[(4,(.int .i64))],mem:=[] }),(24,{ keep:=[],mem:=[] })],loops:=[(17,{ keep:=[(4,(.int .i64)),(7,(.int .i64))],mem:=[] })],ro:=[] }
def fh (a0:List UInt8) (v3:(Int×Int×Int×Unit)) (y17:(Int×Int×Unit)):Option ((Int×Int×Unit)⊕((Int×Unit)⊕(Int×Int×Unit))) :=
 cond (decide (y17.2.1<v3.2.1)) (
(atI a0 y17.2.1).bind fun b4 =>
 cond (decide ((b4.toNat:Int)<128)) (some (.inr (.inr (0,0,())))) ((atI a0 y17.2.1).bind fun b5 =>
 cond (decide ((b5.toNat:Int)>191)) (
 some (.inr (.inr (0,0,())))) (
(atI a0 y17.2.1).bind fun b6 =>
 some (.inl ((IntKind.wrap .i64 ((IntKind.wrap .i64 ((IntKind.wrap .i64 (64*y17.1))+(IntKind.wrap .i64 (b6.toNat:Int))))-128)),(IntKind.wrap .i64 (y17.2.1+1)),()))))) (
 some (.inr (.inl (y17.1,()))))
def zb9 (a0:List UInt8):Option (Int×Int×Unit) :=
 cond (decide ((a0.length:Int)=0)) (
 some (0,0,())) (
(atI a0 0).bind fun b1 =>
(cond (decide ((IntKind.wrap .i64 (b1.toNat:Int))<128)) (
 some (.inr ((IntKind.wrap .i64 (b1.toNat:Int)),1,()))) (
(cond (decide ((IntKind.wrap .i64 (b1.toNat:Int))≥194)) (some (.inl ((decide ((IntKind.wrap .i64 (b1.toNat:Int))<224)),()))) (some (.inl (false,()))):Option ((Bool×Unit)⊕((Int×Int×Int×Unit)⊕(Int×Int×Unit)))).bind (bQ fun v2 =>
 cond v2.1 (
 some (.inl ((IntKind.wrap .i64 ((IntKind.wrap .i64 (b1.toNat:Int))-192)),2,128,()))) (
 cond (decide ((IntKind.wrap .i64 (b1.toNat:Int))≥224)) (cond (decide ((IntKind.wrap .i64 (b1.toNat:Int))<240)) (
 some (.inl ((IntKind.wrap .i64 ((IntKind.wrap .i64 (b1.toNat:Int))-224)),3,2048,()))) (
 cond (decide ((IntKind.wrap .i64 (b1.toNat:Int))≥240)) (cond (decide ((IntKind.wrap .i64 (b1.toNat:Int))<245)) (
 some (.inl ((IntKind.wrap .i64 ((IntKind.wrap .i64 (b1.toNat:Int))-240)),4,65536,()))) (
 some (.inr (0,0,())))) (some (.inr (0,0,()))))) (cond (decide ((IntKind.wrap .i64 (b1.toNat:Int))≥240)) (cond (decide ((IntKind.wrap .i64 (b1.toNat:Int))<245)) (
 some (.inl ((IntKind.wrap .i64 ((IntKind.wrap .i64 (b1.toNat:Int))-240)),4,65536,()))) (
 some (.inr (0,0,())))) (some (.inr (0,0,()))))))):Option ((Int×Int×Int×Unit)⊕(Int×Int×Unit))).bind (bQ fun v3 =>
 cond (decide ((a0.length:Int)<v3.2.1)) (
 some (0,0,())) (
(aM (fh a0 v3) (v3.1,1,()):Option ((Int×Unit)⊕(Int×Int×Unit))).bind (bQ fun v7 =>
(cond (decide (v7.1<v3.2.2.1)) (some (.inr (0,0,()))) (cond (decide (v7.1>1114111)) (some (.inr (0,0,()))) (cond (decide (v7.1≥55296)) (cond (decide (v7.1≤57343)) (
 some (.inr (0,0,()))) (
 some (.inl ()))) (some (.inl ())))):Option (Unit⊕(Int×Int×Unit))).bind (bQ fun v8 =>
 some (v7.1,v3.2.1,()))))))
def vi:TFn:={ ps:=(.cons .str .unit),res:=(.tup (.cons (.int .i64) tT18)),fn:=fun v=>zb9 v.1 }
def ajS:TEnv:=(vZ [])
theorem ajR:runY Tryz.prog adk ajT ajS anU Tryz.f216 vi.ps vi.res=vi.fn:=by kernel_rfl
theorem adi:aC Tryz.prog G0 216 adj:=ah (ak ⟨ay,ae,ar,ae,aq⟩ Tryz.func216 rfl (by kernel_rfl))
theorem ajQ:TOk adj vi:=az (E:=adk) (ET:=ajS) (EnvT.ofX (ax al) am ap aL an) ajR rfl
def acG:Env:=(eZ [(216,adj)] [274])
def aiX:Hints:=(hZ [(3,[0,4,5])] [])
def yE:PFn:=aE (runF Tryz.prog acG aiX Tryz.f144)
def anF:TH:={ loops:=[(3,{ keep:=[(4,(.own 0)),(5,(.int .i64))],mem:=[.row true 3 (.int .i64)] })],ro:=[] }
def lm (a0:List UInt8) (y3:(Int×List Int×Unit)):Option ((Int×List Int×Unit)⊕(List Int×Bool×Unit)) :=
 cond (decide (y3.1<(a0.length:Int))) (
(subI a0 y3.1 (a0.length:Int)).bind fun s1 =>
(zb9 s1).bind fun r2 =>
 cond (decide (r2.2.1=0)) (
 some (.inr ([],false,()))) (
(dO (y3.2.1.length+([r2.1]:List Int).length)).bind fun u3 =>
 some (.inl ((IntKind.wrap .i64 (y3.1+r2.2.1)),(y3.2.1++([r2.1]:List Int)),())))) (
 some (.inr (y3.2.1,true,())))
def zbo (a0:List UInt8):Option (List Int×Bool×Unit) :=
 aM (lm a0) (0,[],())
def sD:TFn:={ ps:=(.cons .str .unit),res:=(.tup (.cons (.sl (.int .i64)) (.cons .bool .unit))),fn:=fun v=>zbo v.1 }
def aiW:TEnv:={ pure:=[(216,vi)],look:=[],glob:=G0T,ty:=[(3,(.int .i64))],raw:=[],fresh:=[] }
theorem aiV:runY Tryz.prog acG aiX aiW anF Tryz.f144 sD.ps sD.res=sD.fn:=by kernel_rfl
theorem uS:aC Tryz.prog G0 144 yE:=ah (ak ⟨ay,(ai adi ae),ar,ae,aq⟩ Tryz.func144 rfl (by kernel_rfl))
theorem aan:TOk yE sD:=az (E:=acG) (ET:=aiW) (EnvT.ofX (ax (ac ajQ al)) am ap aL an) aiV rfl
def abp:Env:=(eZ [] [274])
def agZ:Hints:=(hZ [] [])
def abo:PFn:=aE (runF Tryz.prog abp agZ Tryz.f306)
def am7:TH:=yZ
def zcl (a0:Int):Option Bool :=
 cond (decide (a0≥32)) (cond (decide (a0<127)) (some (!decide (a0=65533))) (cond (decide (a0>159)) (some (!decide (a0=65533))) (some false))) (some false)
def uf:TFn:={ ps:=tT18,res:=.bool,fn:=fun v=>zcl v.1 }
def agY:TEnv:=(vZ [])
theorem agX:runY Tryz.prog abp agZ agY am7 Tryz.f306 uf.ps uf.res=uf.fn:=by kernel_rfl
theorem abn:aC Tryz.prog G0 306 abo:=ah (ak ⟨ay,ae,ar,ae,aq⟩ Tryz.func306 rfl (by kernel_rfl))
theorem agW:TOk abo uf:=az (E:=abp) (ET:=agY) (EnvT.ofX (ax al) am ap aL an) agX rfl
def acZ:Env:=(eZ [(144,yE),(306,abo)] [274])
def ajp:Hints:=(hZ [(3,[3,4,5])] [])
def acY:PFn:=aE (runF Tryz.prog acZ ajp Tryz.f253)
def anM:TH:={ joins:=[(7,{ keep:=[],mem:=[] })],loops:=[(3,{ keep:=[(5,(.int .i64))],mem:=[] })],ro:=[] }
def ob (r1:(List Int×Bool×Unit)) (y3:(Int×Unit)):Option ((Int×Unit)⊕(Unit⊕Bool)) :=
 cond (decide (y3.1<(r1.1.length:Int))) (
(atI r1.1 y3.1).bind fun x2 =>
(zcl x2).bind fun r3 =>
 cond (!r3) (
 some (.inr (.inr false))) (
 some (.inl ((IntKind.wrap .i64 (y3.1+1)),())))) (
 some (.inr (.inl ())))
def zbh (a0:List UInt8):Option Bool :=
(zbo a0).bind fun r1 =>
(aM (ob r1) (0,()):Option (Unit⊕Bool)).bind (bQ fun v4 =>
 cond r1.2.1 (cond (decide ((r1.1.length:Int)≥1)) (some (decide ((r1.1.length:Int)≤24))) (some false)) (some false))
def uZ:TFn:={ ps:=(.cons .str .unit),res:=.bool,fn:=fun v=>zbh v.1 }
def ajo:TEnv:=(vZ [(144,sD),(306,uf)])
theorem ajn:runY Tryz.prog acZ ajp ajo anM Tryz.f253 uZ.ps uZ.res=uZ.fn:=by kernel_rfl
theorem acX:aC Tryz.prog G0 253 acY:=ah (ak ⟨ay,(ai uS (ai abn ae)),ar,ae,aq⟩ Tryz.func253 rfl (by kernel_rfl))
theorem ajm:TOk acY uZ:=az (E:=acZ) (ET:=ajo) (EnvT.ofX (ax (ac aan (ac agW al))) am ap aL an) ajn rfl
def adh:Env:=(eZ [(253,acY)] [274])
def ajP:Hints:=(hZ [(6,[0,3])] [])
def adg:PFn:=aE (runF Tryz.prog adh ajP Tryz.f183)
def anT:TH:={ loops:=[(6,{ keep:=[(3,(.int .i64))],mem:=[] })],ro:=[] }
def qL (a0:List (List UInt8)) (y6:(Int×Unit)):Option ((Int×Unit)⊕Int) :=
 cond (decide (y6.1<(a0.length:Int))) (
(atI a0 y6.1).bind fun x1 =>
(zbh x1).bind fun r2 =>
 cond (!r2) (
 some (.inr 8)) (
 some (.inl ((IntKind.wrap .i64 (y6.1+1)),())))) (
 some (.inr 0))
def zba (a0:List (List UInt8)):Option Int :=
 cond (decide ((a0.length:Int)=0)) (
 some 8) (
 cond (decide ((a0.length:Int)>8)) (
 some 9) (
 aM (qL a0) (0,())))
def vh:TFn:={ ps:=(.cons (.sl .str) .unit),res:=(.int .i64),fn:=fun v=>zba v.1 }
def ajO:TEnv:=(vZ [(253,uZ)])
theorem ajN:runY Tryz.prog adh ajP ajO anT Tryz.f183 vh.ps vh.res=vh.fn:=by kernel_rfl
theorem adf:aC Tryz.prog G0 183 adg:=ah (ak ⟨ay,(ai acX ae),ar,ae,aq⟩ Tryz.func183 rfl (by kernel_rfl))
theorem ajM:TOk adg vh:=az (E:=adh) (ET:=ajO) (EnvT.ofX (ax (ac ajm al)) am ap aL an) ajN rfl
def aeR:Env:=(eZ [(144,yE)] [274])
def alU:Hints:=(hZ [] [])
def aeQ:PFn:=aE (runF Tryz.prog aeR alU Tryz.f184)
def aon:TH:={ loops:=[],ro:=[1] }
def za8 (a0:(Int×Int×List UInt8×Unit)):Option Bool :=
 cond (decide (a0.1=1)) (
 cond (decide (a0.2.2.1=[])) (cond (decide (a0.2.1≥(-2147483647))) (some (decide (a0.2.1≤2147483647))) (some false)) (some false)) (
 cond (decide (a0.1=2)) (
(zbo a0.2.2.1).bind fun r1 =>
 cond (decide (a0.2.1=0)) (cond r1.2.1 (some (decide ((a0.2.2.1.length:Int)≤64))) (some false)) (some false)) (
 cond (decide (a0.1=3)) (cond (decide (a0.2.2.1=[])) (cond (decide (a0.2.1≥0)) (some (decide (a0.2.1≤1))) (some false)) (some false)) (some false)))
def vO:TFn:={ ps:=(.cons tT16 .unit),res:=.bool,fn:=fun v=>za8 v.1 }
def alT:TEnv:=(vZ [(144,sD)])
theorem alS:runY Tryz.prog aeR alU alT aon Tryz.f184 vO.ps vO.res=vO.fn:=by kernel_rfl
theorem aeP:aC Tryz.prog G0 184 aeQ:=ah (ak ⟨ay,(ai uS ae),ar,ae,aq⟩ Tryz.func184 rfl (by kernel_rfl))
theorem alR:TOk aeQ vO:=az (E:=aeR) (ET:=alT) (EnvT.ofX (ax (ac aan al)) am ap aL an) alS rfl
def adD:Env:=(eZ [(101,od),(172,yH)] [274])
def akk:Hints:=(hZ [] [])
def adC:PFn:=aE (runF Tryz.prog adD akk Tryz.f254)
def an1:TH:={ loops:=[],ro:=[2,3] }
def zb2 (a0:vV2) (a1:vV2):Option Int :=
(zaz a0.1 a1.1).bind fun r1 =>
 cond (!decide (r1=0)) (
(zaz a0.1 a1.1).bind fun r2 =>
 some r2) (
(zb0 a0.2.1 a1.2.1).bind fun r3 =>
 some r3)
def vq:TFn:={ ps:=(.cons tT12 (.cons tT12 .unit)),res:=(.int .i64),fn:=fun v=>zb2 v.1 v.2.1 }
def akj:TEnv:=(vZ [(101,kT),(172,sG)])
theorem aki:runY Tryz.prog adD akk akj an1 Tryz.f254 vq.ps vq.res=vq.fn:=by kernel_rfl
theorem adB:aC Tryz.prog G0 254 adC:=ah (ak ⟨ay,(ai ib (ai vt ae)),ar,ae,aq⟩ Tryz.func254 rfl (by kernel_rfl))
theorem akh:TOk adC vq:=az (E:=adD) (ET:=akj) (EnvT.ofX (ax (ac lq (ac aar al))) am ap aL an) aki rfl
def adG:Env:=(eZ [(109,mO),(254,adC)] [274])
def ako:Hints:=(hZ [(2,[0,3])] [])
def adF:PFn:=aE (runF Tryz.prog adG ako Tryz.f185)
def an2:TH:={ loops:=[(2,{ keep:=[(3,(.int .i64))],mem:=[] })],ro:=[] }
def qO (a0:List vV2) (y2:(Int×Unit)):Option ((Int×Unit)⊕Bool) :=
 cond (decide (y2.1<(a0.length:Int))) (
(atI a0 y2.1).bind fun x1 =>
(zbd x1.1).bind fun r2 =>
 cond (!r2) (some (.inr false)) ((atI a0 y2.1).bind fun x3 =>
 cond (decide (x3.2.1<0)) (some (.inr false)) ((atI a0 y2.1).bind fun x4 =>
 cond (decide (x4.2.1>15)) (
 some (.inr false)) (
 cond (decide (y2.1>0)) ((atI a0 (IntKind.wrap .i64 (y2.1-1))).bind fun x5 =>
(atI a0 y2.1).bind fun x6 =>
(zb2 x5 x6).bind fun r7 =>
 cond (!decide (r7=(-1))) (
 some (.inr false)) (
 some (.inl ((IntKind.wrap .i64 (y2.1+1)),())))) (some (.inl ((IntKind.wrap .i64 (y2.1+1)),()))))))) (
 some (.inr true))
def zb1 (a0:List vV2):Option Bool :=
 aM (qO a0) (0,())
def vr:TFn:={ ps:=(.cons (.sl tT12) .unit),res:=.bool,fn:=fun v=>zb1 v.1 }
def akn:TEnv:=(vZ [(109,jw),(254,vq)])
theorem akm:runY Tryz.prog adG ako akn an2 Tryz.f185 vr.ps vr.res=vr.fn:=by kernel_rfl
theorem adE:aC Tryz.prog G0 185 adF:=ah (ak ⟨ay,(ai gk (ai adB ae)),ar,ae,aq⟩ Tryz.func185 rfl (by kernel_rfl))
theorem akl:TOk adF vr:=az (E:=adG) (ET:=akn) (EnvT.ofX (ax (ac jv (ac akh al))) am ap aL an) akm rfl
def acM:Env:=(eZ [(183,adg),(184,aeQ),(185,adF)] [274])
def ai5:Hints:=(hZ [] [])
def acL:PFn:=aE (runF Tryz.prog acM ai5 Tryz.f110)
def anH:TH:={ joins:=[(9,{ keep:=[(1,(.bx 0 0))],mem:=[.same,.gone] }),(11,{ keep:=[(1,(.bx 0 0))],mem:=[.same,.gone] }),(13,{ keep:=[(1,(.bx 0 0))],mem:=[.same,.gone] }),(15,{ keep:=[(1,(.bx 0 0))],mem:=[.same,.gone] })],loops:=[],cuts:=[(11,[(8,{ keep:=[(1,(.bx 0 0)),(55,.bool)],mem:=[.same,.gone] })])],ro:=[1],news:=[] }
def zbm (a0:vV3):Option Int :=
 cond (decide (a0.1<1)) (some 18) (cond (decide (a0.1>5)) (
 some 18) (
(zba a0.2.1).bind fun r1 =>
 cond (!decide (r1=0)) (
 some r1) (
(cond (decide (a0.1=3)) (cond (!(eqV tT16 a0.2.2.1 (0,0,[],()))) (
 some (.inr 2)) (
 some (.inl ()))) (cond (decide (a0.1=5)) (cond (!(eqV tT16 a0.2.2.1 (0,0,[],()))) (
 some (.inr 2)) (
 some (.inl ()))) (some (.inl ()))):Option (Unit⊕Int)).bind (bQ fun v2 =>
(cond (!decide (a0.1=3)) (cond (!decide (a0.1=5)) ((za8 a0.2.2.1).bind fun r3 =>
 cond (!r3) (
 some (.inr 2)) (
 some (.inl ()))) (some (.inl ()))) (some (.inl ())):Option (Unit⊕Int)).bind (bQ fun v4 =>
((cond (!decide (a0.1=3)) (some ((!decide (a0.2.2.2.1=0)),())) (some (false,())):Option (Bool×Unit)).bind fun v5 =>
 cond v5.1 (some (.inr 2)) (cond (decide (a0.1=3)) (cond (decide (a0.2.2.2.1=0)) (some (.inr 2)) (cond (decide (a0.2.2.2.1>2147483647)) (some (.inr 2)) (cond (decide (a0.2.2.2.1<(-2147483647))) (
 some (.inr 2)) (
 some (.inl ()))))) (some (.inl ()))):Option (Unit⊕Int)).bind (bQ fun v6 =>
(cond (decide (a0.1=2)) (cond (decide ((a0.2.2.2.2.1.length:Int)>0)) (
 some (.inr 2)) (
 some (.inl ()))) (cond (decide (a0.1=3)) (cond (decide ((a0.2.2.2.2.1.length:Int)>0)) (
 some (.inr 2)) (
 some (.inl ()))) (some (.inl ()))):Option (Unit⊕Int)).bind (bQ fun v7 =>
 cond (decide ((a0.2.2.2.2.1.length:Int)>256)) (
 some 7) (
(zb1 a0.2.2.2.2.1).bind fun r8 =>
 cond (!r8) (
 some 2) (
 some 0)))))))))
def uU:TFn:={ ps:=(.cons tT13 .unit),res:=(.int .i64),fn:=fun v=>zbm v.1 }
def ai4:TEnv:=(vZ [(183,vh),(184,vO),(185,vr)])
theorem ai3:runY Tryz.prog acM ai5 ai4 anH Tryz.f110 uU.ps uU.res=uU.fn:=by kernel_rfl
theorem acK:aC Tryz.prog G0 110 acL:=ah (ak ⟨ay,(ai adf (ai aeP (ai adE ae))),ar,ae,aq⟩ Tryz.func110 rfl (by kernel_rfl))
theorem ai2:TOk acL uU:=az (E:=acM) (ET:=ai4) (EnvT.ofX (ax (ac ajM (ac alR (ac akl al)))) am ap aL an) ai3 rfl
def abI:Env:=(eZ [] [274])
def ahw:Hints:=(hZ [] [])
def abH:PFn:=aE (runF Tryz.prog abI ahw Tryz.f111)
def anh:TH:={ loops:=[],cuts:=[(2,[(9,{ keep:=[(1,(.bx 0 0)),(3,(.bx 1 0)),(13,.bool)],mem:=[.same,.box 132 tT16] })])],ro:=[1],news:=[] }
def zcc (a0:vV3):Option Bool :=
(cond (decide (a0.1=0)) (some ((decide ((a0.2.1.length:Int)=0)),(0,0,[],()),())) (some (false,(0,0,[],()),())):Option (Bool×(Int×Int×List UInt8×Unit)×Unit)).bind fun v1 =>
 cond v1.1 (cond (eqV tT16 a0.2.2.1 v1.2.1) (cond (decide (a0.2.2.2.1=0)) (some (decide ((a0.2.2.2.2.1.length:Int)=0))) (some false)) (some false)) (some false)
def ur:TFn:={ ps:=(.cons tT13 .unit),res:=.bool,fn:=fun v=>zcc v.1 }
def ahv:TEnv:=(vZ [])
theorem ahu:runY Tryz.prog abI ahw ahv anh Tryz.f111 ur.ps ur.res=ur.fn:=by kernel_rfl
theorem abG:aC Tryz.prog G0 111 abH:=ah (ak ⟨ay,ae,ar,ae,aq⟩ Tryz.func111 rfl (by kernel_rfl))
theorem aht:TOk abH ur:=az (E:=abI) (ET:=ahv) (EnvT.ofX (ax al) am ap aL an) ahu rfl
def acF:Env:=(eZ [(109,mO),(110,acL),(111,abH)] [274])
def aiU:Hints:=(hZ [(8,[1,3])] [])
def acE:PFn:=aE (runF Tryz.prog acF aiU Tryz.f42)
def anE:TH:={ loops:=[(8,{ keep:=[(1,(.bx 0 0)),(3,(.int .i64))],mem:=[.same] })],cuts:=[(1,[(9,{ keep:=[(1,(.bx 0 0)),(13,.bool)],mem:=[.same] })])],ro:=[1],news:=[] }
def oa (a0:vV1) (y8:(Int×Unit)):Option ((Int×Unit)⊕Int) :=
 cond (decide (y8.1<(a0.2.2.2.2.1.length:Int))) (
(atI a0.2.2.2.2.1 y8.1).bind fun x3 =>
(zbm x3).bind fun r4 =>
 cond (!decide (r4=0)) (cond a0.2.2.2.1 ((atI a0.2.2.2.2.1 y8.1).bind fun x5 =>
(zcc x5).bind fun r6 =>
 cond (!r6) (
 some (.inr r4)) (
 some (.inl ((IntKind.wrap .i64 (y8.1+1)),())))) (some (.inr r4))) (some (.inl ((IntKind.wrap .i64 (y8.1+1)),())))) (
 some (.inr 0))
def zbp (a0:vV1):Option Int :=
((zbd a0.1).bind fun r1 =>
 cond (!r1) (some (true,())) (some ((decide (a0.2.1<0)),())):Option (Bool×Unit)).bind fun v2 =>
 cond v2.1 (some 2) (cond (decide (a0.2.1>7)) (some 2) (cond (decide (a0.2.2.1<1)) (some 2) (cond (decide (a0.2.2.1>1099511627776)) (
 some 2) (
 cond (decide ((a0.2.2.2.2.1.length:Int)=0)) (
 some 11) (
 cond (decide ((a0.2.2.2.2.1.length:Int)>16)) (
 some 7) (
 aM (oa a0) (0,())))))))
def uR:TFn:={ ps:=(.cons tT9 .unit),res:=(.int .i64),fn:=fun v=>zbp v.1 }
def aiT:TEnv:=(vZ [(109,jw),(110,uU),(111,ur)])
theorem aiS:runY Tryz.prog acF aiU aiT anE Tryz.f42 uR.ps uR.res=uR.fn:=by kernel_rfl
theorem acD:aC Tryz.prog G0 42 acE:=ah (ak ⟨ay,(ai gk (ai acK (ai abG ae))),ar,ae,aq⟩ Tryz.func42 rfl (by kernel_rfl))
theorem aiR:TOk acE uR:=az (E:=acF) (ET:=aiT) (EnvT.ofX (ax (ac jv (ac ai2 (ac aht al)))) am ap aL an) aiS rfl
def aa0:Env:=(eZ [(109,mO)] [274])
def agp:Hints:=(hZ [] [])
def aaZ:PFn:=aE (runF Tryz.prog aa0 agp Tryz.f320)
def amY:TH:={ loops:=[],ro:=[3] }
def zcu (a0:List Int) (a1:(Int×Int×Unit)):Option Bool :=
(zbd a1).bind fun r1 =>
 cond r1 ((inI 16 a1.1).bind fun i2 =>
(a0[i2]?).bind fun x3 =>
 some (decide (x3≥a1.2.1))) (some false)
def tU:TFn:={ ps:=(.cons (.arr 16 (.int .i64)) (.cons tT11 .unit)),res:=.bool,fn:=fun v=>zcu v.1 v.2.1 }
def ago:TEnv:=(vZ [(109,jw)])
theorem agn:runY Tryz.prog aa0 agp ago amY Tryz.f320 tU.ps tU.res=tU.fn:=by kernel_rfl
theorem aaY:aC Tryz.prog G0 320 aaZ:=ah (ak ⟨ay,(ai gk ae),ar,ae,aq⟩ Tryz.func320 rfl (by kernel_rfl))
theorem agm:TOk aaZ tU:=az (E:=aa0) (ET:=ago) (EnvT.ofX (ax (ac jv al)) am ap aL an) agn rfl
def aa9:Env:=(eZ [(320,aaZ)] [274])
def agB:Hints:=(hZ [(4,[2,3,5])] [])
def aa8:PFn:=aE (runF Tryz.prog aa9 agB Tryz.f270)
def am1:TH:={ loops:=[(4,{ keep:=[(2,(.bx 0 0)),(3,(.bx 1 0)),(5,(.int .i64))],mem:=[.same,.same] })],ro:=[2,3] }
def qB (a0:vV4) (a1:(Int×Int×Unit)) (y4:(Int×Unit)):Option ((Int×Unit)⊕Bool) :=
 cond (decide (y4.1<(a0.2.1.length:Int))) (
(atI a0.2.1 y4.1).bind fun x2 =>
 cond (eqV tT11 x2 a1) (
 some (.inr true)) (
 some (.inl ((IntKind.wrap .i64 (y4.1+1)),())))) (
 some (.inr false))
def zcr (a0:vV4) (a1:(Int×Int×Unit)):Option Bool :=
(zcu a0.1 a1).bind fun r1 =>
 cond r1 (
 some true) (
 aM (qB a0 a1) (0,()))
def tX:TFn:={ ps:=(.cons tT14 (.cons tT11 .unit)),res:=.bool,fn:=fun v=>zcr v.1 v.2.1 }
def agA:TEnv:=(vZ [(320,tU)])
theorem agz:runY Tryz.prog aa9 agB agA am1 Tryz.f270 tX.ps tX.res=tX.fn:=by kernel_rfl
theorem aa7:aC Tryz.prog G0 270 aa8:=ah (ak ⟨ay,(ai aaY ae),ar,ae,aq⟩ Tryz.func270 rfl (by kernel_rfl))
theorem agy:TOk aa8 tX:=az (E:=aa9) (ET:=agA) (EnvT.ofX (ax (ac agm al)) am ap aL an) agz rfl
def ae3:Env:=(eZ [] [274])
def ama:Hints:=(hZ [(3,[1,2,3,4])] [])
def ae2:PFn:=aE (runF Tryz.prog ae3 ama Tryz.f294)
def aos:TH:={ loops:=[(3,{ keep:=[(1,(.bx 0 0)),(2,(.bx 1 0)),(3,(.bx 2 0)),(4,(.int .i64))],mem:=[.same,.box 66 tT17,.box 66 (.agg (.cons (.arr 16 (.int .i64)) (.cons (.own 4) .unit))),.gone,.row true 72 tT11] })],ro:=[1] }
def qU (a0:vV4) (y3:(Int×vV7×vV7×List (Int×Int×Unit)×Unit)):Option ((Int×vV7×vV7×List (Int×Int×Unit)×Unit)⊕vV4) :=
 cond (decide (y3.1<(a0.2.1.length:Int))) (
(atI a0.2.1 y3.1).bind fun x1 =>
(inI 16 x1.1).bind fun i2 =>
(y3.2.2.1.1[i2]?).bind fun x3 =>
 cond (decide (x1.2.1=(IntKind.wrap .i64 (x3+1)))) (
(inI 16 x1.1).bind fun i4 =>
(y3.2.2.1.1[i4]?).bind fun x5 =>
 some (.inl ((IntKind.wrap .i64 (y3.1+1)),y3.2.1,((y3.2.2.1.1.set i4 x1.2.1),y3.2.2.1.2.1,()),y3.2.2.2.1,()))) (
(inI 16 x1.1).bind fun i6 =>
(y3.2.2.1.1[i6]?).bind fun x7 =>
 cond (decide (x1.2.1>x7)) (
(dO (y3.2.2.2.1.length+([x1]:List (Int×Int×Unit)).length)).bind fun u8 =>
 some (.inl ((IntKind.wrap .i64 (y3.1+1)),y3.2.1,(y3.2.2.1.1,(),()),(y3.2.2.2.1++([x1]:List (Int×Int×Unit))),()))) (
 some (.inl ((IntKind.wrap .i64 (y3.1+1)),y3.2.1,y3.2.2.1,y3.2.2.2.1,()))))) (
 some (.inr (y3.2.2.1.1,y3.2.2.2.1,())))
def za4 (a0:vV4):Option vV4 :=
 aM (qU a0) (0,([0,0,0,0,0,0,0,0,0,0,0,0,0,0,0,0],(),()),(a0.1,(),()),[],())
def vS:TFn:={ ps:=(.cons tT14 .unit),res:=tT14,fn:=fun v=>za4 v.1 }
def al9:TEnv:={ pure:=[],look:=[],glob:=G0T,ty:=[(72,tT11)],raw:=[],fresh:=[] }
theorem al8:runY Tryz.prog ae3 ama al9 aos Tryz.f294 vS.ps vS.res=vS.fn:=by kernel_rfl
theorem ae1:aC Tryz.prog G0 294 ae2:=ah (ak ⟨ay,ae,ar,ae,aq⟩ Tryz.func294 rfl (by kernel_rfl))
theorem al7:TOk ae2 vS:=az (E:=ae3) (ET:=al9) (EnvT.ofX (ax al) am ap aL an) al8 rfl
def abx:Env:=(eZ [(101,od),(109,mO),(270,aa8),(294,ae2)] [274])
def ahd:Hints:=(hZ [(6,[2,3,4,5,6,7])] [56])
def abw:PFn:=aE (runF Tryz.prog abx ahd Tryz.f236)
def anb:TH:={ joins:=[(12,{ keep:=[(2,(.bx 0 0)),(3,(.bx 1 0)),(4,(.bx 2 0)),(5,(.own 3)),(6,.bool)],mem:=[.same,.same,.box 66 tT17,.row true 72 tT11] }),(11,{ keep:=[(2,(.bx 0 0)),(3,(.bx 1 0)),(4,(.bx 2 0)),(5,(.own 3)),(6,.bool)],mem:=[.same,.same,.box 66 tT17,.row true 72 tT11] }),(14,{ keep:=[(2,(.bx 0 0)),(4,(.bx 2 0)),(5,(.own 3))],mem:=[.same,.same,.box 66 tT17,.row true 72 tT11] })],loops:=[(6,{ keep:=[(2,(.bx 0 0)),(3,(.bx 1 0)),(4,(.bx 2 0)),(5,(.own 3)),(6,.bool),(7,(.int .i64))],mem:=[.same,.same,.box 66 tT17,.row true 72 tT11] })],ro:=[2,3] }
def qD (a0:vV4) (a1:(Int×Int×Unit)) (y6:(Bool×Int×vV7×List (Int×Int×Unit)×Unit)):Option ((Bool×Int×vV7×List (Int×Int×Unit)×Unit)⊕((Bool×vV7×List (Int×Int×Unit)×Unit)⊕vV4)) :=
 cond (decide (y6.2.1<(a0.2.1.length:Int))) (
(cond (!y6.1) ((atI a0.2.1 y6.2.1).bind fun x3 =>
(zaz a1 x3).bind fun r4 =>
 cond (decide (r4<0)) (
(dO (y6.2.2.2.1.length+([a1]:List (Int×Int×Unit)).length)).bind fun u5 =>
 some (.inl (true,y6.2.2.1,(y6.2.2.2.1++([a1]:List (Int×Int×Unit))),()))) (
 some (.inl (y6.1,y6.2.2.1,y6.2.2.2.1,())))) (some (.inl (y6.1,y6.2.2.1,y6.2.2.2.1,()))):Option ((Bool×vV7×List (Int×Int×Unit)×Unit)⊕((Bool×Int×vV7×List (Int×Int×Unit)×Unit)⊕((Bool×vV7×List (Int×Int×Unit)×Unit)⊕vV4)))).bind (bQ fun v6 =>
(atI a0.2.1 y6.2.1).bind fun x7 =>
(dO (v6.2.2.1.length+([x7]:List (Int×Int×Unit)).length)).bind fun u8 =>
 some (.inl (v6.1,(IntKind.wrap .i64 (y6.2.1+1)),v6.2.1,(v6.2.2.1++([x7]:List (Int×Int×Unit))),())))) (
 some (.inr (.inl (y6.1,y6.2.2.1,y6.2.2.2.1,()))))
def zch (a0:vV4) (a1:(Int×Int×Unit)):Option vV4 :=
(zbd a1).bind fun r1 =>
 cond (!r1) (some a0) ((zcr a0 a1).bind fun r2 =>
 cond r2 (
 some a0) (
(aM (qD a0 a1) (false,0,([0,0,0,0,0,0,0,0,0,0,0,0,0,0,0,0],(),()),[],()):Option ((Bool×vV7×List (Int×Int×Unit)×Unit)⊕vV4)).bind (bQ fun v9 =>
(cond (!v9.1) (
(dO (v9.2.2.1.length+([a1]:List (Int×Int×Unit)).length)).bind fun u10 =>
 some (.inl (v9.2.1,(v9.2.2.1++([a1]:List (Int×Int×Unit))),()))) (
 some (.inl (v9.2.1,v9.2.2.1,()))):Option ((vV7×List (Int×Int×Unit)×Unit)⊕vV4)).bind (bQ fun v11 =>
(za4 (a0.1,v11.2.1,())).bind fun r12 =>
 some r12))))
def ui:TFn:={ ps:=(.cons tT14 (.cons tT11 .unit)),res:=tT14,fn:=fun v=>zch v.1 v.2.1 }
def ahc:TEnv:={ pure:=[(101,kT),(109,jw),(270,tX),(294,vS)],look:=[],glob:=G0T,ty:=[(72,tT11)],raw:=[],fresh:=[] }
theorem ahb:runY Tryz.prog abx ahd ahc anb Tryz.f236 ui.ps ui.res=ui.fn:=by kernel_rfl
theorem abv:aC Tryz.prog G0 236 abw:=ah (ak ⟨ay,(ai ib (ai gk (ai aa7 (ai ae1 ae)))),ar,ae,aq⟩ Tryz.func236 rfl (by kernel_rfl))
theorem aha:TOk abw ui:=az (E:=abx) (ET:=ahc) (EnvT.ofX (ax (ac lq (ac jv (ac agy (ac al7 al))))) am ap aL an) ahb rfl
def acW:Env:=(eZ [(236,abw)] [274])
def ajl:Hints:=(hZ [(3,[0,2,3,4])] [])
def acV:PFn:=aE (runF Tryz.prog acW ajl Tryz.f168)
def anL:TH:={ loops:=[(3,{ keep:=[(2,(.bx 0 0)),(3,(.bx 1 0)),(4,(.int .i64))],mem:=[.box 66 tT17,.box 66 tT14] })],ro:=[] }
def qI (a0:List vV1) (y3:(Int×vV7×vV4×Unit)):Option ((Int×vV7×vV4×Unit)⊕vV4) :=
 cond (decide (y3.1<(a0.length:Int))) (
(atI a0 y3.1).bind fun x1 =>
(zch y3.2.2.1 x1.1).bind fun r2 =>
 some (.inl ((IntKind.wrap .i64 (y3.1+1)),y3.2.1,r2,()))) (
 some (.inr y3.2.2.1))
def zbi (a0:List vV1):Option vV4 :=
 aM (qI a0) (0,([0,0,0,0,0,0,0,0,0,0,0,0,0,0,0,0],(),()),([0,0,0,0,0,0,0,0,0,0,0,0,0,0,0,0],[],()),())
def uY:TFn:={ ps:=(.cons (.sl tT9) .unit),res:=tT14,fn:=fun v=>zbi v.1 }
def ajk:TEnv:=(vZ [(236,ui)])
theorem ajj:runY Tryz.prog acW ajl ajk anL Tryz.f168 uY.ps uY.res=uY.fn:=by kernel_rfl
theorem acU:aC Tryz.prog G0 168 acV:=ah (ak ⟨ay,(ai abv ae),ar,ae,aq⟩ Tryz.func168 rfl (by kernel_rfl))
theorem aji:TOk acV uY:=az (E:=acW) (ET:=ajk) (EnvT.ofX (ax (ac aha al)) am ap aL an) ajj rfl
def adx:Env:=(eZ [] [274])
def akc:Hints:=(hZ [(4,[0,1,5])] [])
def adw:PFn:=aE (runF Tryz.prog adx akc Tryz.f65)
def anZ:TH:={ loops:=[(4,{ keep:=[(5,(.int .i64))],mem:=[] })],ro:=[] }
def qN (a0:List (Int×Int×Unit)) (a1:List (Int×Int×Unit)) (y4:(Int×Unit)):Option ((Int×Unit)⊕Bool) :=
 cond (decide (y4.1<(a0.length:Int))) (
(atI a0 y4.1).bind fun x1 =>
(atI a1 y4.1).bind fun x2 =>
 cond (!(eqV tT11 x1 x2)) (
 some (.inr false)) (
 some (.inl ((IntKind.wrap .i64 (y4.1+1)),())))) (
 some (.inr true))
def zb4 (a0:List (Int×Int×Unit)) (a1:List (Int×Int×Unit)):Option Bool :=
 cond (!decide ((a0.length:Int)=(a1.length:Int))) (
 some false) (
 aM (qN a0 a1) (0,()))
def vo:TFn:={ ps:=(.cons (.sl tT11) (.cons (.sl tT11) .unit)),res:=.bool,fn:=fun v=>zb4 v.1 v.2.1 }
def akb:TEnv:=(vZ [])
theorem aka:runY Tryz.prog adx akc akb anZ Tryz.f65 vo.ps vo.res=vo.fn:=by kernel_rfl
theorem adv:aC Tryz.prog G0 65 adw:=ah (ak ⟨ay,ae,ar,ae,aq⟩ Tryz.func65 rfl (by kernel_rfl))
theorem aj9:TOk adw vo:=az (E:=adx) (ET:=akb) (EnvT.ofX (ax al) am ap aL an) aka rfl
def acf:Env:=(eZ [(65,adw)] [274])
def aii:Hints:=(hZ [] [])
def ace:PFn:=aE (runF Tryz.prog acf aii Tryz.f167)
def ant:TH:={ loops:=[],ro:=[2,3] }
def zbz (a0:vV4) (a1:vV4):Option Bool :=
 cond (eqV (.arr 16 (.int .i64)) a0.1 a1.1) ((zb4 a0.2.1 a1.2.1).bind fun r1 =>
 some r1) (some false)
def uH:TFn:={ ps:=(.cons tT14 (.cons tT14 .unit)),res:=.bool,fn:=fun v=>zbz v.1 v.2.1 }
def aih:TEnv:=(vZ [(65,vo)])
theorem aig:runY Tryz.prog acf aii aih ant Tryz.f167 uH.ps uH.res=uH.fn:=by kernel_rfl
theorem acd:aC Tryz.prog G0 167 ace:=ah (ak ⟨ay,(ai adv ae),ar,ae,aq⟩ Tryz.func167 rfl (by kernel_rfl))
theorem aif:TOk ace uH:=az (E:=acf) (ET:=aih) (EnvT.ofX (ax (ac aj9 al)) am ap aL an) aig rfl
def ae0:Env:=(eZ [(42,acE),(109,mO),(152,acI),(153,acO),(166,aeW),(167,ace),(168,acV)] [274])
def al6:Hints:=(hZ [(4,[1,3]),(9,[1,4]),(14,[1,4,5])] [])
def aeZ:PFn:=aE (runF Tryz.prog ae0 al6 Tryz.f96)
def aor:TH:={ joins:=[(8,{ keep:=[(1,(.bx 0 0))],mem:=[.box 69 tT10] }),(18,{ keep:=[(1,(.bx 0 0))],mem:=[.box 69 tT10] })],loops:=[(4,{ keep:=[(1,(.bx 0 0)),(3,(.int .i64))],mem:=[.box 69 tT10] }),(9,{ keep:=[(1,(.bx 0 0)),(4,(.int .i64))],mem:=[.box 69 tT10] }),(14,{ keep:=[(1,(.bx 0 0)),(5,(.int .i64))],mem:=[.box 69 tT10] })],ro:=[] }
def qT (y4:(Int×vV0×Unit)):Option ((Int×vV0×Unit)⊕((vV0×Unit)⊕Bool)) :=
 cond (decide (y4.1<(y4.2.1.1.length:Int))) (
(atI y4.2.1.1 y4.1).bind fun x4 =>
(zbp x4).bind fun r5 =>
 cond (!decide (r5=0)) (
 some (.inr (.inr false))) (
 some (.inl ((IntKind.wrap .i64 (y4.1+1)),y4.2.1,())))) (
 some (.inr (.inl (y4.2.1,()))))
def mP (y9:(Int×vV0×Unit)) (y14:(Int×vV0×Unit)):Option ((Int×vV0×Unit)⊕((Int×vV0×Unit)⊕((vV0×Unit)⊕Bool))) :=
(inI 8 y9.1).bind fun i9 =>
(y14.2.1.2.2.2.2.1[i9]?).bind fun x10 =>
 cond (decide (y14.1<(x10.length:Int))) (
(inI 8 y9.1).bind fun i11 =>
(y14.2.1.2.2.2.2.1[i11]?).bind fun x12 =>
(atI x12 y14.1).bind fun x13 =>
(zbd x13).bind fun r14 =>
 cond (!r14) (
 some (.inr (.inr (.inr false)))) (
 some (.inl ((IntKind.wrap .i64 (y14.1+1)),y14.2.1,())))) (
 some (.inr (.inl ((IntKind.wrap .i64 (y9.1+1)),y14.2.1,()))))
def lu (y9:(Int×vV0×Unit)):Option ((Int×vV0×Unit)⊕((vV0×Unit)⊕Bool)) :=
 cond (decide (y9.1<8)) (
(inI 8 y9.1).bind fun i7 =>
(y9.2.1.2.2.2.2.1[i7]?).bind fun x8 =>
 cond (decide ((x8.length:Int)>1000)) (
 some (.inr (.inr false))) (
 aM (mP y9) (0,y9.2.1,()))) (
 some (.inr (.inl (y9.2.1,()))))
def za5 (a0:vV0):Option Bool :=
 cond (decide ((a0.1.length:Int)>1000)) (some false) ((zbn a0.1).bind fun r1 =>
 cond (!r1) (some false) ((zbl a0.2.1).bind fun r2 =>
 cond (!r2) (some false) ((za6 a0.2.2.2.1).bind fun r3 =>
 cond (!r3) (
 some false) (
(aM (qT) (0,a0,()):Option ((vV0×Unit)⊕Bool)).bind (bQ fun v6 =>
(aM (lu) (0,v6.1,()):Option ((vV0×Unit)⊕Bool)).bind (bQ fun v15 =>
(za6 v15.1.2.2.1).bind fun r16 =>
 cond r16 ((zbi v15.1.1).bind fun r17 =>
(zbz v15.1.2.2.1 r17).bind fun r18 =>
 some r18) (some false)))))))
def vR:TFn:={ ps:=(.cons tT10 .unit),res:=.bool,fn:=fun v=>za5 v.1 }
def al5:TEnv:=(vZ [(42,uR),(109,jw),(152,uT),(153,uV),(166,vQ),(167,uH),(168,uY)])
theorem al4:runY Tryz.prog ae0 al6 al5 aor Tryz.f96 vR.ps vR.res=vR.fn:=by kernel_rfl
theorem aeY:aC Tryz.prog G0 96 aeZ:=ah (ak ⟨ay,(ai acD (ai gk (ai acH (ai acN (ai aeV (ai acd (ai acU ae))))))),ar,ae,aq⟩ Tryz.func96 rfl (by kernel_rfl))
theorem al3:TOk aeZ vR:=az (E:=ae0) (ET:=al5) (EnvT.ofX (ax (ac aiR (ac jv (ac aiY (ac ai6 (ac alZ (ac aif (ac aji al)))))))) am ap aL an) al4 rfl
def adu:Env:=(eZ [(95,acy),(96,aeZ)] [274])
def aj8:Hints:=(hZ [] [])
def adt:PFn:=aE (runF Tryz.prog adu aj8 Tryz.f33)
def anY:TH:={ loops:=[],ro:=[1] }
def zb5 (a0:vV0):Option Bool :=
(zbr a0).bind fun r1 =>
 cond r1 ((za5 a0).bind fun r2 =>
 some r2) (some false)
def vn:TFn:={ ps:=(.cons tT10 .unit),res:=.bool,fn:=fun v=>zb5 v.1 }
def aj7:TEnv:=(vZ [(95,uP),(96,vR)])
theorem aj6:runY Tryz.prog adu aj8 aj7 anY Tryz.f33 vn.ps vn.res=vn.fn:=by kernel_rfl
theorem ads:aC Tryz.prog G0 33 adt:=ah (ak ⟨ay,(ai acx (ai aeY ae)),ar,ae,aq⟩ Tryz.func33 rfl (by kernel_rfl))
theorem aj5:TOk adt vn:=az (E:=adu) (ET:=aj7) (EnvT.ofX (ax (ac aiJ (ac al3 al))) am ap aL an) aj6 rfl
def aa6:Env:=(eZ [] [274])
def agx:Hints:=(hZ [] [])
def aa5:PFn:=aE (runF Tryz.prog aa6 agx Tryz.f98)
def am0:TH:=yZ
def zcs (a0:Int):Option vV1 :=
 some ((0,a0,()),1,a0,false,([(3,([[97]]:List (List UInt8)),(0,0,[],()),1,[],())]:List vV3),())
def tW:TFn:={ ps:=tT18,res:=tT9,fn:=fun v=>zcs v.1 }
def agw:TEnv:={ pure:=[],look:=[],glob:=G0T,ty:=[(9,.str),(135,tT13)],raw:=[],fresh:=[] }
theorem agv:runY Tryz.prog aa6 agx agw am0 Tryz.f98 tW.ps tW.res=tW.fn:=by kernel_rfl
theorem aa4:aC Tryz.prog G0 98 aa5:=ah (ak ⟨ay,ae,ar,ae,aq⟩ Tryz.func98 rfl (by kernel_rfl))
theorem agu:TOk aa5 tW:=az (E:=aa6) (ET:=agw) (EnvT.ofX (ax al) am ap aL an) agv rfl
def aff:Env:=(eZ [] [274])
def amq:Hints:=(hZ [] [])
def afe:PFn:=aE (runF Tryz.prog aff amq Tryz.f226)
def aow:TH:=yZ
def za0 (a0:Int):Option Bool :=
 some (!decide (a0=a0))
def vW:TFn:={ ps:=tT18,res:=.bool,fn:=fun v=>za0 v.1 }
def amp:TEnv:=(vZ [])
theorem amo:runY Tryz.prog aff amq amp aow Tryz.f226 vW.ps vW.res=vW.fn:=by kernel_rfl
theorem afd:aC Tryz.prog G0 226 afe:=ah (ak ⟨ay,ae,ar,ae,aq⟩ Tryz.func226 rfl (by kernel_rfl))
theorem amn:TOk afe vW:=az (E:=aff) (ET:=amp) (EnvT.ofX (ax al) am ap aL an) amo rfl
def adT:Env:=(eZ [(226,afe)] [274])
def akM:Hints:=(hZ [] [])
def vB:PFn:=aE (runF Tryz.prog adT akM Tryz.f156)
def an9:TH:=yZ
def zau (a0:Int) (a1:Int):Option Int :=
(za0 a0).bind fun r1 =>
(za0 a1).bind fun r2 =>
 cond r1 (
 cond r2 (
 some 0) (
 some (-1))) (
 cond r2 (
 some 1) (
 cond (decide (a0<a1)) (
 some (-1)) (
 cond (decide (a0>a1)) (
 some 1) (
 some 0))))
def pH:TFn:={ ps:=(.cons (.int .i64) tT18),res:=(.int .i64),fn:=fun v=>zau v.1 v.2.1 }
def akL:TEnv:=(vZ [(226,vW)])
theorem akK:runY Tryz.prog adT akM akL an9 Tryz.f156 pH.ps pH.res=pH.fn:=by kernel_rfl
theorem pI:aC Tryz.prog G0 156 vB:=ah (ak ⟨ay,(ai afd ae),ar,ae,aq⟩ Tryz.func156 rfl (by kernel_rfl))
theorem vA:TOk vB pH:=az (E:=adT) (ET:=akL) (EnvT.ofX (ax (ac amn al)) am ap aL an) akK rfl
def ado:Env:=(eZ [] [274])
def aj0:Hints:=(hZ [(3,[3,6,7,8])] [])
def vl:PFn:=aE (runF Tryz.prog ado aj0 Tryz.f154)
def anW:TH:={ loops:=[(3,{ keep:=[(8,(.int .i64))],mem:=[] })],ro:=[] }
def iJ (a0:List Int) (y3:(Int×Unit)):Option ((Int×Unit)⊕Int) :=
 cond (decide (y3.1<(a0.length:Int))) (
(atI a0 y3.1).bind fun x1 =>
 cond (!decide (x1=0)) (
 some (.inr x1)) (
 some (.inl ((IntKind.wrap .i64 (y3.1+1)),())))) (
 some (.inr 0))
def zb7 (a0:List Int):Option Int :=
 aM (iJ a0) (0,())
def pD:TFn:={ ps:=(.cons (.sl (.int .i64)) .unit),res:=(.int .i64),fn:=fun v=>zb7 v.1 }
def ajZ:TEnv:=(vZ [])
theorem ajY:runY Tryz.prog ado aj0 ajZ anW Tryz.f154 pD.ps pD.res=pD.fn:=by kernel_rfl
theorem pE:aC Tryz.prog G0 154 vl:=ah (ak ⟨ay,ae,ar,ae,aq⟩ Tryz.func154 rfl (by kernel_rfl))
theorem vk:TOk vl pD:=az (E:=ado) (ET:=ajZ) (EnvT.ofX (ax al) am ap aL an) ajY rfl
def acm:Env:=(eZ [(154,vl),(156,vB)] [274])
def ait:Hints:=(hZ [] [])
def mN:PFn:=aE (runF Tryz.prog acm ait Tryz.f171)
def anw:TH:={ loops:=[],ro:=[2,3] }
def zbw (a0:(Int×Int×Unit)) (a1:(Int×Int×Unit)):Option Int :=
(zau a0.1 a1.1).bind fun r1 =>
(zau a0.2.1 a1.2.1).bind fun r2 =>
(zb7 ([r1,r2]:List Int)).bind fun r3 =>
 some r3
def ju:TFn:={ ps:=(.cons tT11 (.cons tT11 .unit)),res:=(.int .i64),fn:=fun v=>zbw v.1 v.2.1 }
def ais:TEnv:={ pure:=[(154,pD),(156,pH)],look:=[],glob:=G0T,ty:=[(3,(.int .i64))],raw:=[],fresh:=[] }
theorem air:runY Tryz.prog acm ait ais anw Tryz.f171 ju.ps ju.res=ju.fn:=by kernel_rfl
theorem gj:aC Tryz.prog G0 171 mN:=ah (ak ⟨ay,(ai pE (ai pI ae)),ar,ae,aq⟩ Tryz.func171 rfl (by kernel_rfl))
theorem jt:TOk mN ju:=az (E:=acm) (ET:=ais) (EnvT.ofX (ax (ac vk (ac vA al))) am ap aL an) air rfl
def adn:Env:=(eZ [(171,mN)] [274])
def ajX:Hints:=(hZ [] [])
def adm:PFn:=aE (runF Tryz.prog adn ajX Tryz.f193)
def anV:TH:={ loops:=[],ro:=[2,3] }
def zb8 (a0:vV1) (a1:(Int×Int×Unit)):Option Int :=
(zbw a0.1 a1).bind fun r1 =>
 some r1
def vj:TFn:={ ps:=(.cons tT9 (.cons tT11 .unit)),res:=(.int .i64),fn:=fun v=>zb8 v.1 v.2.1 }
def ajW:TEnv:=(vZ [(171,ju)])
theorem ajV:runY Tryz.prog adn ajX ajW anV Tryz.f193 vj.ps vj.res=vj.fn:=by kernel_rfl
theorem adl:aC Tryz.prog G0 193 adm:=ah (ak ⟨ay,(ai gj ae),ar,ae,aq⟩ Tryz.func193 rfl (by kernel_rfl))
theorem ajU:TOk adm vj:=az (E:=adn) (ET:=ajW) (EnvT.ofX (ax (ac jt al)) am ap aL an) ajV rfl
def aeH:Env:=(eZ [(193,adm)] [274])
def alF:Hints:=(hZ [(3,[0,2,4,8,9,10])] [])
def aeG:PFn:=aE (runF Tryz.prog aeH alF Tryz.f192)
def aoj:TH:={ joins:=[(8,{ keep:=[(4,(.bx 0 0)),(9,(.int .i64))],mem:=[.same] })],loops:=[(3,{ keep:=[(4,(.bx 0 0)),(9,(.int .i64)),(10,(.int .i64))],mem:=[.same] })],ro:=[4] }
def qQ (a0:List vV1) (a1:(Int×Int×Unit)) (y3:(Int×Int×Unit)):Option ((Int×Int×Unit)⊕((Int×Unit)⊕(Int×Bool×Unit))) :=
 cond (decide (y3.1<y3.2.1)) (
(shrT .u64 (IntKind.wrap .u64 (IntKind.wrap .i64 (y3.1+y3.2.1))) 1).bind fun t1 =>
(atI a0 (IntKind.wrap .i64 t1)).bind fun x2 =>
(zb8 x2 a1).bind fun r3 =>
 cond (decide (r3<0)) (
 some (.inl ((IntKind.wrap .i64 ((IntKind.wrap .i64 t1)+1)),y3.2.1,()))) (
 some (.inl (y3.1,(IntKind.wrap .i64 t1),())))) (
 some (.inr (.inl (y3.1,()))))
def zac (a0:List vV1) (a1:(Int×Int×Unit)) (a2:Unit):Option (Int×Bool×Unit) :=
(aM (qQ a0 a1) (0,(a0.length:Int),()):Option ((Int×Unit)⊕(Int×Bool×Unit))).bind (bQ fun v4 =>
 cond (decide (v4.1<(a0.length:Int))) ((atI a0 v4.1).bind fun x5 =>
(zb8 x5 a1).bind fun r6 =>
 some (v4.1,(decide (r6=0)),())) (some (v4.1,false,())))
def vK:TFn:={ ps:=(.cons (.sl tT9) (.cons tT11 (.cons (.fn 193) .unit))),res:=(.tup (.cons (.int .i64) (.cons .bool .unit))),fn:=fun v=>zac v.1 v.2.1 v.2.2.1 }
def alE:TEnv:=(vZ [(193,vj)])
theorem alD:runY Tryz.prog aeH alF alE aoj Tryz.f192 vK.ps vK.res=vK.fn:=by kernel_rfl
theorem aeF:aC Tryz.prog G0 192 aeG:=ah (ak ⟨ay,(ai adl ae),ar,ae,aq⟩ Tryz.func192 rfl (by kernel_rfl))
theorem alC:TOk aeG vK:=az (E:=aeH) (ET:=alE) (EnvT.ofX (ax (ac ajU al)) am ap aL an) alD rfl
def ab2:Env:=(eZ [(192,aeG)] [274])
def ah2:Hints:=(hZ [] [])
def ab1:PFn:=aE (runF Tryz.prog ab2 ah2 Tryz.f114)
def anp:TH:={ loops:=[],ro:=[3] }
def zc3 (a0:List vV1) (a1:(Int×Int×Unit)):Option Int :=
(zac a0 a1 ()).bind fun r1 =>
 cond (!r1.2.1) (
 some (-1)) (
 some r1.1)
def uD:TFn:={ ps:=(.cons (.sl tT9) (.cons tT11 .unit)),res:=(.int .i64),fn:=fun v=>zc3 v.1 v.2.1 }
def ah1:TEnv:=(vZ [(192,vK)])
theorem ah0:runY Tryz.prog ab2 ah2 ah1 anp Tryz.f114 uD.ps uD.res=uD.fn:=by kernel_rfl
theorem ab0:aC Tryz.prog G0 114 ab1:=ah (ak ⟨ay,(ai aeF ae),ar,ae,aq⟩ Tryz.func114 rfl (by kernel_rfl))
theorem ahZ:TOk ab1 uD:=az (E:=ab2) (ET:=ah1) (EnvT.ofX (ax (ac alC al)) am ap aL an) ah0 rfl
def abg:Env:=(eZ [(171,mN)] [274])
def agM:Hints:=(hZ [] [])
def abf:PFn:=aE (runF Tryz.prog abg agM Tryz.f237)
def am4:TH:={ loops:=[],ro:=[2,3] }
def zco (a0:vV1) (a1:(Int×Int×Unit)):Option Int :=
(zbw a0.1 a1).bind fun r1 =>
 some r1
def t7:TFn:={ ps:=(.cons tT9 (.cons tT11 .unit)),res:=(.int .i64),fn:=fun v=>zco v.1 v.2.1 }
def agL:TEnv:=(vZ [(171,ju)])
theorem agK:runY Tryz.prog abg agM agL am4 Tryz.f237 t7.ps t7.res=t7.fn:=by kernel_rfl
theorem abe:aC Tryz.prog G0 237 abf:=ah (ak ⟨ay,(ai gj ae),ar,ae,aq⟩ Tryz.func237 rfl (by kernel_rfl))
theorem agJ:TOk abf t7:=az (E:=abg) (ET:=agL) (EnvT.ofX (ax (ac jt al)) am ap aL an) agK rfl
def adZ:Go.Shelf.Ren:=⟨fun | 41=>181 | n=>n,fun | 22=>22 | 23=>78 | 4=>4 | n=>n,fun | n=>n⟩
theorem yK:Go.Proofs.SlLaysE0.n41 Tryz.prog adZ:={
 mixed:=by kernel_rfl
 f41:=⟨Tryz.f181.name,by decide,Tryz.func181.trans (congrArg some (by kernel_rfl))⟩
 t4:=Tryz.underlying4
 a4:=Tryz.isAgg4
 z4:=Tryz.sizeOf4
 v4:=Tryz.zeroValue4
 t22:=Tryz.underlying22
 a22:=Tryz.isAgg22
 z22:=Tryz.sizeOf22
 v22:=Tryz.zeroValue22 }
def ad1:SFn:=kE 6 78
theorem ad0:cZ Tryz.prog G0 181 ad1:=pn yK rfl rfl (gQ (P:=Tryz.prog) (te:=78) (M:=6) (by kernel_rfl) (by kernel_rfl) (by kernel_rfl) (by kernel_rfl) (by kernel_rfl) (by kernel_rfl) (by kernel_rfl) (by kernel_rfl)) ⟨Tryz.f181,Tryz.func181,rfl,by kernel_rfl⟩
def zaq (a0:List vV1):Option (List vV1):=eF a0
def akU:TNew:=mt 78 tT9
theorem akT:TNewOk ad1 akU:=pr rfl rfl rfl
def ad5:Go.Shelf.Ren:=⟨fun | 22=>238 | 29=>295 | 30=>296 | n=>n,fun | 24=>22 | 9=>78 | 0=>0 | 3=>3 | 4=>4 | n=>n,fun | n=>n⟩
theorem yM:InsL Tryz.prog ad5:={
 mixed:=by kernel_rfl
 f22:=⟨Tryz.f238.name,by decide,Tryz.func238.trans (congrArg some (by kernel_rfl))⟩
 f29:=⟨Tryz.f295.name,by decide,by kernel_rfl,by kernel_rfl,Tryz.func295.trans (congrArg some (by kernel_rfl))⟩
 t0:=Tryz.underlying0
 a0:=Tryz.isAgg0
 z0:=Tryz.sizeOf0
 v0:=Tryz.zeroValue0
 t3:=Tryz.underlying3
 a3:=Tryz.isAgg3
 z3:=Tryz.sizeOf3
 v3:=Tryz.zeroValue3
 t4:=Tryz.underlying4
 a4:=Tryz.isAgg4
 z4:=Tryz.sizeOf4
 v4:=Tryz.zeroValue4
 t24:=Tryz.underlying22
 a24:=Tryz.isAgg22
 z24:=Tryz.sizeOf22
 v24:=Tryz.zeroValue22 }
def ad7:SFn:=dV 6 78
theorem ad6:cZ Tryz.prog G0 238 ad7:=me yM rfl rfl rfl (gQ (P:=Tryz.prog) (te:=78) (M:=6) (by kernel_rfl) (by kernel_rfl) (by kernel_rfl) (by kernel_rfl) (by kernel_rfl) (by kernel_rfl) (by kernel_rfl) (by kernel_rfl)) true Tryz.isAgg78 ⟨Tryz.f238,Tryz.func238,rfl,by kernel_rfl⟩
def zao (a1:Int) (a2:List vV1) (w0:List vV1):Option (Unit×List vV1×Unit):=(insT w0 a1 a2).map fun l=>((),(l,()))
def akX:TRaw:=insR false 78 tT9
theorem akW:TRawOk ad7 akX:=xu rfl rfl rfl rfl (by decide)
def aeE:Env:=(eZ [(237,abf)] [274])
def alB:Hints:=(hZ [(3,[0,2,4,8,9,10])] [])
def aeD:PFn:=aE (runF Tryz.prog aeE alB Tryz.f192)
def aoi:TH:={ joins:=[(8,{ keep:=[(4,(.bx 0 0)),(9,(.int .i64))],mem:=[.same] })],loops:=[(3,{ keep:=[(4,(.bx 0 0)),(9,(.int .i64)),(10,(.int .i64))],mem:=[.same] })],ro:=[4] }
def qP (a0:List vV1) (a1:(Int×Int×Unit)) (y3:(Int×Int×Unit)):Option ((Int×Int×Unit)⊕((Int×Unit)⊕(Int×Bool×Unit))) :=
 cond (decide (y3.1<y3.2.1)) (
(shrT .u64 (IntKind.wrap .u64 (IntKind.wrap .i64 (y3.1+y3.2.1))) 1).bind fun t1 =>
(atI a0 (IntKind.wrap .i64 t1)).bind fun x2 =>
(zco x2 a1).bind fun r3 =>
 cond (decide (r3<0)) (
 some (.inl ((IntKind.wrap .i64 ((IntKind.wrap .i64 t1)+1)),y3.2.1,()))) (
 some (.inl (y3.1,(IntKind.wrap .i64 t1),())))) (
 some (.inr (.inl (y3.1,()))))
def zad (a0:List vV1) (a1:(Int×Int×Unit)) (a2:Unit):Option (Int×Bool×Unit) :=
(aM (qP a0 a1) (0,(a0.length:Int),()):Option ((Int×Unit)⊕(Int×Bool×Unit))).bind (bQ fun v4 =>
 cond (decide (v4.1<(a0.length:Int))) ((atI a0 v4.1).bind fun x5 =>
(zco x5 a1).bind fun r6 =>
 some (v4.1,(decide (r6=0)),())) (some (v4.1,false,())))
def vJ:TFn:={ ps:=(.cons (.sl tT9) (.cons tT11 (.cons (.fn 237) .unit))),res:=(.tup (.cons (.int .i64) (.cons .bool .unit))),fn:=fun v=>zad v.1 v.2.1 v.2.2.1 }
def alA:TEnv:=(vZ [(237,t7)])
theorem alz:runY Tryz.prog aeE alB alA aoi Tryz.f192 vJ.ps vJ.res=vJ.fn:=by kernel_rfl
theorem aeC:aC Tryz.prog G0 192 aeD:=ah (ak ⟨ay,(ai abe ae),ar,ae,aq⟩ Tryz.func192 rfl (by kernel_rfl))
theorem aly:TOk aeD vJ:=az (E:=aeE) (ET:=alA) (EnvT.ofX (ax (ac agJ al)) am ap aL an) alz rfl
def abW:Env:={ pure:=[(192,aeD)],raw:=[(181,ad1),(238,ad7)],glob:=G0,same:=[274],look:=[],ext:=[] }
def ahU:Hints:={ seqs:=[],loops:=[],own:=[19],frz:=[(4,[3])] }
def abV:PFn:=aE (runF Tryz.prog abW ahU Tryz.f169)
def ann:TH:=yZ
def zc5 (a0:List vV1) (a1:vV1):Option (List vV1) :=
(zad a0 a1.1 ()).bind fun r1 =>
 cond r1.2.1 (
 some a0) (
(zaq a0).bind fun n2 =>
(zao r1.1 ([a1]:List vV1) n2).bind fun q3 =>
 some q3.2.1)
def uB:TFn:={ ps:=(.cons (.sl tT9) (.cons tT9 .unit)),res:=(.sl tT9),fn:=fun v=>zc5 v.1 v.2.1 }
def ahT:TEnv:={ pure:=[(192,vJ)],look:=[],glob:=G0T,ty:=[(78,tT9)],raw:=[(238,akX)],fresh:=[(181,akU)] }
theorem ahS:runY Tryz.prog abW ahU ahT ann Tryz.f169 uB.ps uB.res=uB.fn:=by kernel_rfl
theorem abU:aC Tryz.prog G0 169 abV:=ah (ak ⟨ay,(ai aeC ae),(fx ad0 (fx ad6 ar)),ae,aq⟩ Tryz.func169 rfl (by kernel_rfl))
theorem ahR:TOk abV uB:=az (E:=abW) (ET:=ahT) (EnvT.ofX (ax (ac aly al)) am (jS (oC akW rfl rfl ap) rfl) aL (j4 akT rfl rfl rfl an)) ahS rfl
def abu:Env:=(eZ [] [274])
def ag9:Hints:=(hZ [] [])
def mM:PFn:=aE (runF Tryz.prog abu ag9 Tryz.f173)
def ana:TH:={ loops:=[],ro:=[1] }
def zci (a0:(Int×Int×Unit)):Option Bool :=
 cond (decide (a0.1≥0)) (cond (decide (a0.1<16)) (cond (decide (a0.2.1≥1)) (some (decide (a0.2.1≤1048576))) (some false)) (some false)) (some false)
def js:TFn:={ ps:=(.cons tT11 .unit),res:=.bool,fn:=fun v=>zci v.1 }
def ag8:TEnv:=(vZ [])
theorem ag7:runY Tryz.prog abu ag9 ag8 ana Tryz.f173 js.ps js.res=js.fn:=by kernel_rfl
theorem gh:aC Tryz.prog G0 173 mM:=ah (ak ⟨ay,ae,ar,ae,aq⟩ Tryz.func173 rfl (by kernel_rfl))
theorem jr:TOk mM js:=az (E:=abu) (ET:=ag8) (EnvT.ofX (ax al) am ap aL an) ag7 rfl
def abQ:Env:=(eZ [(173,mM)] [274])
def ahL:Hints:=(hZ [] [])
def abP:PFn:=aE (runF Tryz.prog abQ ahL Tryz.f194)
def anl:TH:={ loops:=[],ro:=[3] }
def zc7 (a0:List Int) (a1:(Int×Int×Unit)):Option Bool :=
(zci a1).bind fun r1 =>
 cond r1 ((inI 16 a1.1).bind fun i2 =>
(a0[i2]?).bind fun x3 =>
 some (decide (a1.2.1≤x3))) (some false)
def uz:TFn:={ ps:=(.cons (.arr 16 (.int .i64)) (.cons tT11 .unit)),res:=.bool,fn:=fun v=>zc7 v.1 v.2.1 }
def ahK:TEnv:=(vZ [(173,js)])
theorem ahJ:runY Tryz.prog abQ ahL ahK anl Tryz.f194 uz.ps uz.res=uz.fn:=by kernel_rfl
theorem abO:aC Tryz.prog G0 194 abP:=ah (ak ⟨ay,(ai gh ae),ar,ae,aq⟩ Tryz.func194 rfl (by kernel_rfl))
theorem ahI:TOk abP uz:=az (E:=abQ) (ET:=ahK) (EnvT.ofX (ax (ac jr al)) am ap aL an) ahJ rfl
def aeI:Env:=(eZ [(171,mN)] [274])
def alI:Hints:=(hZ [(3,[0,2,4,8,9,10])] [])
def yQ:PFn:=aE (runF Tryz.prog aeI alI Tryz.f195)
def aok:TH:={ joins:=[(8,{ keep:=[(4,(.bx 0 0)),(9,(.int .i64))],mem:=[.same] })],loops:=[(3,{ keep:=[(4,(.bx 0 0)),(9,(.int .i64)),(10,(.int .i64))],mem:=[.same] })],ro:=[4] }
def qR (a0:List (Int×Int×Unit)) (a1:(Int×Int×Unit)) (y3:(Int×Int×Unit)):Option ((Int×Int×Unit)⊕((Int×Unit)⊕(Int×Bool×Unit))) :=
 cond (decide (y3.1<y3.2.1)) (
(shrT .u64 (IntKind.wrap .u64 (IntKind.wrap .i64 (y3.1+y3.2.1))) 1).bind fun t1 =>
(atI a0 (IntKind.wrap .i64 t1)).bind fun x2 =>
(zbw x2 a1).bind fun r3 =>
 cond (decide (r3<0)) (
 some (.inl ((IntKind.wrap .i64 ((IntKind.wrap .i64 t1)+1)),y3.2.1,()))) (
 some (.inl (y3.1,(IntKind.wrap .i64 t1),())))) (
 some (.inr (.inl (y3.1,()))))
def zab (a0:List (Int×Int×Unit)) (a1:(Int×Int×Unit)) (a2:Unit):Option (Int×Bool×Unit) :=
(aM (qR a0 a1) (0,(a0.length:Int),()):Option ((Int×Unit)⊕(Int×Bool×Unit))).bind (bQ fun v4 =>
 cond (decide (v4.1<(a0.length:Int))) ((atI a0 v4.1).bind fun x5 =>
(zbw x5 a1).bind fun r6 =>
 some (v4.1,(decide (r6=0)),())) (some (v4.1,false,())))
def sH:TFn:={ ps:=(.cons (.sl tT11) (.cons tT11 (.cons (.fn 171) .unit))),res:=(.tup (.cons (.int .i64) (.cons .bool .unit))),fn:=fun v=>zab v.1 v.2.1 v.2.2.1 }
def alH:TEnv:=(vZ [(171,ju)])
theorem alG:runY Tryz.prog aeI alI alH aok Tryz.f195 sH.ps sH.res=sH.fn:=by kernel_rfl
theorem vL:aC Tryz.prog G0 195 yQ:=ah (ak ⟨ay,(ai gj ae),ar,ae,aq⟩ Tryz.func195 rfl (by kernel_rfl))
theorem aat:TOk yQ sH:=az (E:=aeI) (ET:=alH) (EnvT.ofX (ax (ac jt al)) am ap aL an) alG rfl
def aaR:Env:=(eZ [(194,abP),(195,yQ)] [274])
def aga:Hints:=(hZ [] [])
def yr:PFn:=aE (runF Tryz.prog aaR aga Tryz.f115)
def amU:TH:={ loops:=[],ro:=[2,3] }
def zcy (a0:vV4) (a1:(Int×Int×Unit)):Option Bool :=
(zc7 a0.1 a1).bind fun r1 =>
 cond r1 (
 some true) (
(zab a0.2.1 a1 ()).bind fun r2 =>
 some r2.2.1)
def sq:TFn:={ ps:=(.cons tT14 (.cons tT11 .unit)),res:=.bool,fn:=fun v=>zcy v.1 v.2.1 }
def af9:TEnv:=(vZ [(194,uz),(195,sH)])
theorem af8:runY Tryz.prog aaR aga af9 amU Tryz.f115 sq.ps sq.res=sq.fn:=by kernel_rfl
theorem tO:aC Tryz.prog G0 115 yr:=ah (ak ⟨ay,(ai abO (ai vL ae)),ar,ae,aq⟩ Tryz.func115 rfl (by kernel_rfl))
theorem aad:TOk yr sq:=az (E:=aaR) (ET:=af9) (EnvT.ofX (ax (ac ahI (ac aat al))) am ap aL an) af8 rfl
def adX:Go.Shelf.Ren:=⟨fun | 41=>180 | n=>n,fun | 22=>64 | 23=>72 | 4=>4 | n=>n,fun | n=>n⟩
theorem yI:Go.Proofs.SlLaysE0.n41 Tryz.prog adX:={
 mixed:=by kernel_rfl
 f41:=⟨Tryz.f180.name,by decide,Tryz.func180.trans (congrArg some (by kernel_rfl))⟩
 t4:=Tryz.underlying4
 a4:=Tryz.isAgg4
 z4:=Tryz.sizeOf4
 v4:=Tryz.zeroValue4
 t22:=Tryz.underlying64
 a22:=Tryz.isAgg64
 z22:=Tryz.sizeOf64
 v22:=Tryz.zeroValue64 }
def yJ:SFn:=kE 2 72
theorem vC:cZ Tryz.prog G0 180 yJ:=pn yI rfl rfl (gQ (P:=Tryz.prog) (te:=72) (M:=2) (by kernel_rfl) (by kernel_rfl) (by kernel_rfl) (by kernel_rfl) (by kernel_rfl) (by kernel_rfl) (by kernel_rfl) (by kernel_rfl)) ⟨Tryz.f180,Tryz.func180,rfl,by kernel_rfl⟩
def zar (a0:List (Int×Int×Unit)):Option (List (Int×Int×Unit)):=eF a0
def adY:TNew:=mt 72 tT11
theorem aas:TNewOk yJ adY:=pr rfl rfl rfl
def ad2:Go.Shelf.Ren:=⟨fun | 22=>239 | 29=>297 | 30=>298 | n=>n,fun | 24=>64 | 9=>72 | 0=>0 | 3=>3 | 4=>4 | n=>n,fun | n=>n⟩
theorem yL:InsL Tryz.prog ad2:={
 mixed:=by kernel_rfl
 f22:=⟨Tryz.f239.name,by decide,Tryz.func239.trans (congrArg some (by kernel_rfl))⟩
 f29:=⟨Tryz.f297.name,by decide,by kernel_rfl,by kernel_rfl,Tryz.func297.trans (congrArg some (by kernel_rfl))⟩
 t0:=Tryz.underlying0
 a0:=Tryz.isAgg0
 z0:=Tryz.sizeOf0
 v0:=Tryz.zeroValue0
 t3:=Tryz.underlying3
 a3:=Tryz.isAgg3
 z3:=Tryz.sizeOf3
 v3:=Tryz.zeroValue3
 t4:=Tryz.underlying4
 a4:=Tryz.isAgg4
 z4:=Tryz.sizeOf4
 v4:=Tryz.zeroValue4
 t24:=Tryz.underlying64
 a24:=Tryz.isAgg64
 z24:=Tryz.sizeOf64
 v24:=Tryz.zeroValue64 }
def ad4:SFn:=dV 2 72
theorem ad3:cZ Tryz.prog G0 239 ad4:=me yL rfl rfl rfl (gQ (P:=Tryz.prog) (te:=72) (M:=2) (by kernel_rfl) (by kernel_rfl) (by kernel_rfl) (by kernel_rfl) (by kernel_rfl) (by kernel_rfl) (by kernel_rfl) (by kernel_rfl)) true Tryz.isAgg72 ⟨Tryz.f239,Tryz.func239,rfl,by kernel_rfl⟩
def zap (a1:Int) (a2:List (Int×Int×Unit)) (w0:List (Int×Int×Unit)):Option (Unit×List (Int×Int×Unit)×Unit):=(insT w0 a1 a2).map fun l=>((),(l,()))
def aob:TRaw:=insR false 72 tT11
theorem akV:TRawOk ad4 aob:=xu rfl rfl rfl rfl (by decide)
def abm:Env:=(eZ [] [274])
def agV:Hints:=(hZ [(3,[4,5,10,11,12])] [])
def abl:PFn:=aE (runF Tryz.prog abm agV Tryz.f188)
def am6:TH:={ loops:=[(3,{ keep:=[(4,(.bx 1 0)),(5,(.bx 2 0)),(12,(.int .i64))],mem:=[.same,.box 66 tT17,.box 66 (.agg (.cons (.arr 16 (.int .i64)) (.cons (.own 4) .unit))),.gone,.row true 72 tT11] })],ro:=[2] }
def qC (a1:List (Int×Int×Unit)) (y3:(Int×vV7×vV7×List (Int×Int×Unit)×Unit)):Option ((Int×vV7×vV7×List (Int×Int×Unit)×Unit)⊕vV4) :=
 cond (decide (y3.1<(a1.length:Int))) (
(atI a1 y3.1).bind fun x1 =>
(inI 16 x1.1).bind fun i2 =>
(y3.2.2.1.1[i2]?).bind fun x3 =>
 cond (decide (x1.2.1≤x3)) (
 some (.inl ((IntKind.wrap .i64 (y3.1+1)),y3.2.1,y3.2.2.1,y3.2.2.2.1,()))) (
(inI 16 x1.1).bind fun i4 =>
(y3.2.2.1.1[i4]?).bind fun x5 =>
 cond (decide (x1.2.1=(IntKind.wrap .i64 (x5+1)))) (
(inI 16 x1.1).bind fun i6 =>
(y3.2.2.1.1[i6]?).bind fun x7 =>
 some (.inl ((IntKind.wrap .i64 (y3.1+1)),y3.2.1,((y3.2.2.1.1.set i6 x1.2.1),y3.2.2.1.2.1,()),y3.2.2.2.1,()))) (
 cond (decide ((y3.2.2.2.1.length:Int)=0)) ((dO (y3.2.2.2.1.length+([x1]:List (Int×Int×Unit)).length)).bind fun u8 =>
 some (.inl ((IntKind.wrap .i64 (y3.1+1)),y3.2.1,(y3.2.2.1.1,(),()),(y3.2.2.2.1++([x1]:List (Int×Int×Unit))),()))) ((inI y3.2.2.2.1.length (IntKind.wrap .i64 ((y3.2.2.2.1.length:Int)-1))).bind fun i9 =>
(y3.2.2.2.1[i9]?).bind fun x10 =>
 cond (!(eqV tT11 x10 x1)) (
(dO (y3.2.2.2.1.length+([x1]:List (Int×Int×Unit)).length)).bind fun u11 =>
 some (.inl ((IntKind.wrap .i64 (y3.1+1)),y3.2.1,(y3.2.2.1.1,(),()),(y3.2.2.2.1++([x1]:List (Int×Int×Unit))),()))) (
 some (.inl ((IntKind.wrap .i64 (y3.1+1)),y3.2.1,y3.2.2.1,y3.2.2.2.1,()))))))) (
 some (.inr (y3.2.2.1.1,y3.2.2.2.1,())))
def zcm (a0:List Int) (a1:List (Int×Int×Unit)):Option vV4 :=
 aM (qC a1) (0,([0,0,0,0,0,0,0,0,0,0,0,0,0,0,0,0],(),()),(a0,(),()),[],())
def ud:TFn:={ ps:=(.cons (.arr 16 (.int .i64)) (.cons (.sl tT11) .unit)),res:=tT14,fn:=fun v=>zcm v.1 v.2.1 }
def agU:TEnv:={ pure:=[],look:=[],glob:=G0T,ty:=[(72,tT11)],raw:=[],fresh:=[] }
theorem agT:runY Tryz.prog abm agV agU am6 Tryz.f188 ud.ps ud.res=ud.fn:=by kernel_rfl
theorem abk:aC Tryz.prog G0 188 abl:=ah (ak ⟨ay,ae,ar,ae,aq⟩ Tryz.func188 rfl (by kernel_rfl))
theorem agS:TOk abl ud:=az (E:=abm) (ET:=agU) (EnvT.ofX (ax al) am ap aL an) agT rfl
def aei:SFn:=p8 ad4
theorem aeh:cZ Tryz.prog G0 239 aei:=p7 ad3
def zak (a1:Int) (a2:List (Int×Int×Unit)) (w0:List (Int×Int×Unit)):Option (List (Int×Int×Unit)×Unit):=(zap a1 a2 w0).map fun q=>(q.2.1,())
def ak5:TRaw:={ ps:=(.cons (.own 0) (.cons (.int .i64) (.cons (.sl tT11) .unit))),ins:=[.row false 72 tT11],res:=(.sl tT11),outs:=[.gone],fn:=fun v w=>zak v.2.1 v.2.2.1 w.1 }
theorem ak4:TRawOk aei ak5:=zT akV
def ab5:Env:={ pure:=[(115,yr),(173,mM),(188,abl),(195,yQ)],raw:=[(180,yJ),(239,aei)],glob:=G0,same:=[274],look:=[],ext:=[] }
def ah6:Hints:={ seqs:=[],loops:=[],own:=[24,26,29],frz:=[(4,[2,3])] }
def ab4:PFn:=aE (runF Tryz.prog ab5 ah6 Tryz.f170)
def anq:TH:=yZ
def zc2 (a0:vV4) (a1:(Int×Int×Unit)):Option vV4 :=
(zci a1).bind fun r1 =>
 cond (!r1) (some a0) ((zcy a0 a1).bind fun r2 =>
 cond r2 (
 some a0) (
(zab a0.2.1 a1 ()).bind fun r3 =>
(zar a0.2.1).bind fun n4 =>
(zak r3.1 ([a1]:List (Int×Int×Unit)) n4).bind fun q5 =>
(zcm a0.1 q5.1).bind fun r6 =>
 some r6))
def uE:TFn:={ ps:=(.cons tT14 (.cons tT11 .unit)),res:=tT14,fn:=fun v=>zc2 v.1 v.2.1 }
def ah5:TEnv:={ pure:=[(115,sq),(173,js),(188,ud),(195,sH)],look:=[],glob:=G0T,ty:=[(72,tT11)],raw:=[(239,ak5)],fresh:=[(180,adY)] }
theorem ah4:runY Tryz.prog ab5 ah6 ah5 anq Tryz.f170 uE.ps uE.res=uE.fn:=by kernel_rfl
theorem ab3:aC Tryz.prog G0 170 ab4:=ah (ak ⟨ay,(ai tO (ai gh (ai abk (ai vL ae)))),(fx vC (fx aeh ar)),ae,aq⟩ Tryz.func170 rfl (by kernel_rfl))
theorem ah3:TOk ab4 uE:=az (E:=ab5) (ET:=ah5) (EnvT.ofX (ax (ac aad (ac jr (ac agS (ac aat al))))) am (jS (oC ak4 rfl rfl ap) rfl) aL (j4 aas rfl rfl rfl an)) ah4 rfl
def aaU:Env:=(eZ [(114,ab1),(169,abV),(170,ab4)] [274])
def agh:Hints:=(hZ [] [])
def yw:PFn:=aE (runF Tryz.prog aaU agh Tryz.f97)
def amW:TH:={ loops:=[],ro:=[3] }
def zcw (a0:vV0) (a1:vV1):Option vV0 :=
(zc3 a0.1 a1.1).bind fun r1 =>
 cond (decide (r1≥0)) (
 some a0) (
(zc5 a0.1 a1).bind fun r2 =>
(zc2 a0.2.2.1 a1.1).bind fun r3 =>
 some (r2,a0.2.1,r3,a0.2.2.2.1,a0.2.2.2.2.1,()))
def ss:TFn:={ ps:=(.cons tT10 (.cons tT9 .unit)),res:=tT10,fn:=fun v=>zcw v.1 v.2.1 }
def agf:TEnv:=(vZ [(114,uD),(169,uB),(170,uE)])
theorem age:runY Tryz.prog aaU agh agf amW Tryz.f97 ss.ps ss.res=ss.fn:=by kernel_rfl
theorem tQ:aC Tryz.prog G0 97 yw:=ah (ak ⟨ay,(ai ab0 (ai abU (ai ab3 ae))),ar,ae,aq⟩ Tryz.func97 rfl (by kernel_rfl))
theorem aaf:TOk yw ss:=az (E:=aaU) (ET:=agf) (EnvT.ofX (ax (ac ahZ (ac ahR (ac ah3 al)))) am ap aL an) age rfl
def adJ:Env:=(eZ [(171,mN)] [274])
def akx:Hints:=(hZ [] [])
def vv:PFn:=aE (runF Tryz.prog adJ akx Tryz.f242)
def an5:TH:={ loops:=[],ro:=[2,3] }
def zay (a0:vV2) (a1:vV2):Option Int :=
(zbw a0.1 a1.1).bind fun r1 =>
 some r1
def pF:TFn:={ ps:=(.cons tT12 (.cons tT12 .unit)),res:=(.int .i64),fn:=fun v=>zay v.1 v.2.1 }
def akw:TEnv:=(vZ [(171,ju)])
theorem akv:runY Tryz.prog adJ akx akw an5 Tryz.f242 pF.ps pF.res=pF.fn:=by kernel_rfl
theorem pG:aC Tryz.prog G0 242 vv:=ah (ak ⟨ay,(ai gj ae),ar,ae,aq⟩ Tryz.func242 rfl (by kernel_rfl))
theorem vu:TOk vv pF:=az (E:=adJ) (ET:=akw) (EnvT.ofX (ax (ac jt al)) am ap aL an) akv rfl
def aeL:Env:=(eZ [(242,vv)] [274])
def alM:Hints:=(hZ [(3,[0,2,4,8,9,10])] [])
def aeK:PFn:=aE (runF Tryz.prog aeL alM Tryz.f284)
def aol:TH:={ joins:=[(8,{ keep:=[(4,(.bx 0 0)),(9,(.int .i64))],mem:=[.same] })],loops:=[(3,{ keep:=[(4,(.bx 0 0)),(9,(.int .i64)),(10,(.int .i64))],mem:=[.same] })],ro:=[4] }
def lr (a0:List vV2) (a1:vV2) (y3:(Int×Int×Unit)):Option ((Int×Int×Unit)⊕((Int×Unit)⊕(Int×Bool×Unit))) :=
 cond (decide (y3.1<y3.2.1)) (
(shrT .u64 (IntKind.wrap .u64 (IntKind.wrap .i64 (y3.1+y3.2.1))) 1).bind fun t1 =>
(atI a0 (IntKind.wrap .i64 t1)).bind fun x2 =>
(zay x2 a1).bind fun r3 =>
 cond (decide (r3<0)) (
 some (.inl ((IntKind.wrap .i64 ((IntKind.wrap .i64 t1)+1)),y3.2.1,()))) (
 some (.inl (y3.1,(IntKind.wrap .i64 t1),())))) (
 some (.inr (.inl (y3.1,()))))
def zaa (a0:List vV2) (a1:vV2) (a2:Unit):Option (Int×Bool×Unit) :=
(aM (lr a0 a1) (0,(a0.length:Int),()):Option ((Int×Unit)⊕(Int×Bool×Unit))).bind (bQ fun v4 =>
 cond (decide (v4.1<(a0.length:Int))) ((atI a0 v4.1).bind fun x5 =>
(zay x5 a1).bind fun r6 =>
 some (v4.1,(decide (r6=0)),())) (some (v4.1,false,())))
def vM:TFn:={ ps:=(.cons (.sl tT12) (.cons tT12 (.cons (.fn 242) .unit))),res:=(.tup (.cons (.int .i64) (.cons .bool .unit))),fn:=fun v=>zaa v.1 v.2.1 v.2.2.1 }
def alL:TEnv:=(vZ [(242,pF)])
theorem alK:runY Tryz.prog aeL alM alL aol Tryz.f284 vM.ps vM.res=vM.fn:=by kernel_rfl
theorem aeJ:aC Tryz.prog G0 284 aeK:=ah (ak ⟨ay,(ai pG ae),ar,ae,aq⟩ Tryz.func284 rfl (by kernel_rfl))
theorem alJ:TOk aeK vM:=az (E:=aeL) (ET:=alL) (EnvT.ofX (ax (ac vu al)) am ap aL an) alK rfl
def acb:Env:=(eZ [(284,aeK)] [274])
def aie:Hints:=(hZ [] [])
def aca:PFn:=aE (runF Tryz.prog acb aie Tryz.f217)
def ans:TH:={ loops:=[],ro:=[3] }
def zc0 (a0:List vV2) (a1:(Int×Int×Unit)):Option (Int×Bool×Unit) :=
(zaa a0 (a1,0,()) ()).bind fun r1 =>
 some (r1.1,r1.2.1,())
def uG:TFn:={ ps:=(.cons (.sl tT12) (.cons tT11 .unit)),res:=(.tup (.cons (.int .i64) (.cons .bool .unit))),fn:=fun v=>zc0 v.1 v.2.1 }
def aid:TEnv:=(vZ [(284,vM)])
theorem aic:runY Tryz.prog acb aie aid ans Tryz.f217 uG.ps uG.res=uG.fn:=by kernel_rfl
theorem ab9:aC Tryz.prog G0 217 aca:=ah (ak ⟨ay,(ai aeJ ae),ar,ae,aq⟩ Tryz.func217 rfl (by kernel_rfl))
theorem aib:TOk aca uG:=az (E:=acb) (ET:=aid) (EnvT.ofX (ax (ac alJ al)) am ap aL an) aic rfl
def abq:Env:=(eZ [(217,aca)] [274])
def ag2:Hints:=(hZ [] [])
def yy:PFn:=aE (runF Tryz.prog abq ag2 Tryz.f145)
def am8:TH:={ loops:=[],ro:=[3] }
def zck (a0:List vV2) (a1:(Int×Int×Unit)):Option Int :=
(zc0 a0 a1).bind fun r1 =>
 cond r1.2.1 (
(atI a0 r1.1).bind fun x2 =>
 some x2.2.1) (
 some 0)
def sw:TFn:={ ps:=(.cons (.sl tT12) (.cons tT11 .unit)),res:=(.int .i64),fn:=fun v=>zck v.1 v.2.1 }
def ag1:TEnv:=(vZ [(217,uG)])
theorem ag0:runY Tryz.prog abq ag2 ag1 am8 Tryz.f145 sw.ps sw.res=sw.fn:=by kernel_rfl
theorem ug:aC Tryz.prog G0 145 yy:=ah (ak ⟨ay,(ai ab9 ae),ar,ae,aq⟩ Tryz.func145 rfl (by kernel_rfl))
theorem aah:TOk yy sw:=az (E:=abq) (ET:=ag1) (EnvT.ofX (ax (ac aib al)) am ap aL an) ag0 rfl
def abz:Env:=(eZ [(145,yy)] [274])
def ahj:Hints:=(hZ [] [])
def yA:PFn:=aE (runF Tryz.prog abz ahj Tryz.f75)
def ane:TH:={ loops:=[],ro:=[3] }
def zcf (a0:List vV2) (a1:(Int×Int×Unit)):Option Bool :=
(zck a0 a1).bind fun r1 =>
(remT r1 2).bind fun t2 =>
 some (decide (t2=0))
def sy:TFn:={ ps:=(.cons (.sl tT12) (.cons tT11 .unit)),res:=.bool,fn:=fun v=>zcf v.1 v.2.1 }
def ahi:TEnv:=(vZ [(145,sw)])
theorem ahh:runY Tryz.prog abz ahj ahi ane Tryz.f75 sy.ps sy.res=sy.fn:=by kernel_rfl
theorem un:aC Tryz.prog G0 75 yA:=ah (ak ⟨ay,(ai ug ae),ar,ae,aq⟩ Tryz.func75 rfl (by kernel_rfl))
theorem aaj:TOk yA sy:=az (E:=abz) (ET:=ahi) (EnvT.ofX (ax (ac aah al)) am ap aL an) ahh rfl
def acw:Env:=(eZ [(154,vl),(156,vB),(171,mN)] [274])
def aiI:Hints:=(hZ [] [])
def acv:PFn:=aE (runF Tryz.prog acw aiI Tryz.f99)
def anB:TH:={ loops:=[],ro:=[2,3] }
def zbs (a0:vV1) (a1:vV1):Option Int :=
(zau a0.2.2.1 a1.2.2.1).bind fun r1 =>
(zbw a0.1 a1.1).bind fun r2 =>
(zb7 ([r1,r2]:List Int)).bind fun r3 =>
 some r3
def uO:TFn:={ ps:=(.cons tT9 (.cons tT9 .unit)),res:=(.int .i64),fn:=fun v=>zbs v.1 v.2.1 }
def aiH:TEnv:={ pure:=[(154,pD),(156,pH),(171,ju)],look:=[],glob:=G0T,ty:=[(3,(.int .i64))],raw:=[],fresh:=[] }
theorem aiG:runY Tryz.prog acw aiI aiH anB Tryz.f99 uO.ps uO.res=uO.fn:=by kernel_rfl
theorem acu:aC Tryz.prog G0 99 acv:=ah (ak ⟨ay,(ai pE (ai pI (ai gj ae))),ar,ae,aq⟩ Tryz.func99 rfl (by kernel_rfl))
theorem aiF:TOk acv uO:=az (E:=acw) (ET:=aiH) (EnvT.ofX (ax (ac vk (ac vA (ac jt al)))) am ap aL an) aiG rfl
def acQ:Env:=(eZ [(145,yy),(173,mM)] [274])
def ajc:Hints:=(hZ [] [])
def yF:PFn:=aE (runF Tryz.prog acQ ajc Tryz.f102)
def anJ:TH:={ loops:=[],ro:=[3] }
def zbk (a0:List vV2) (a1:(Int×Int×Unit)):Option (vV2×Int×Unit) :=
(zck a0 a1).bind fun r1 =>
(zci a1).bind fun r2 =>
 cond (!r2) (
 some (((0,0,()),0,()),2,())) (
 cond (decide (r1≥64)) (
 some (((0,0,()),0,()),14,())) (
 some ((a1,(IntKind.wrap .i64 (r1+1)),()),0,())))
def sE:TFn:={ ps:=(.cons (.sl tT12) (.cons tT11 .unit)),res:=(.tup (.cons tT12 tT18)),fn:=fun v=>zbk v.1 v.2.1 }
def ajb:TEnv:=(vZ [(145,sw),(173,js)])
theorem aja:runY Tryz.prog acQ ajc ajb anJ Tryz.f102 sE.ps sE.res=sE.fn:=by kernel_rfl
theorem uW:aC Tryz.prog G0 102 yF:=ah (ak ⟨ay,(ai ug (ai gh ae)),ar,ae,aq⟩ Tryz.func102 rfl (by kernel_rfl))
theorem aao:TOk yF sE:=az (E:=acQ) (ET:=ajb) (EnvT.ofX (ax (ac aah (ac jr al))) am ap aL an) aja rfl
def abd:Env:=(eZ [(102,yF),(115,yr)] [274])
def agI:Hints:=(hZ [] [])
def yx:PFn:=aE (runF Tryz.prog abd agI Tryz.f100)
def am3:TH:={ loops:=[],ro:=[2,3] }
def zcp (a0:vV0) (a1:(Int×Int×Unit)):Option Int :=
(zcy a0.2.2.2.1 a1).bind fun r1 =>
 cond r1 (
 some 13) (
(zbk a0.2.1 a1).bind fun r2 =>
 some r2.2.1)
def sv:TFn:={ ps:=(.cons tT10 (.cons tT11 .unit)),res:=(.int .i64),fn:=fun v=>zcp v.1 v.2.1 }
def agH:TEnv:=(vZ [(102,sE),(115,sq)])
theorem agG:runY Tryz.prog abd agI agH am3 Tryz.f100 sv.ps sv.res=sv.fn:=by kernel_rfl
theorem tZ:aC Tryz.prog G0 100 yx:=ah (ak ⟨ay,(ai uW (ai tO ae)),ar,ae,aq⟩ Tryz.func100 rfl (by kernel_rfl))
theorem aag:TOk yx sv:=az (E:=abd) (ET:=agH) (EnvT.ofX (ax (ac aao (ac aad al))) am ap aL an) agG rfl
def aby:Env:=(eZ [(75,yA),(99,acv),(100,yx)] [274])
def ahg:Hints:=(hZ [(3,[1,2,4,6,12,13])] [])
def yz:PFn:=aE (runF Tryz.prog aby ahg Tryz.f35)
def anc:TH:={ joins:=[(9,{ keep:=[(2,(.bx 0 0)),(4,(.bx 1 0)),(6,(.orp tT9 0))],mem:=[.same,.box 72 tT11] })],loops:=[(3,{ keep:=[(2,(.bx 0 0)),(4,(.bx 1 0)),(6,(.orp tT9 0)),(13,(.int .i64))],mem:=[.same,.box 72 tT11] })],cuts:=[(6,[(15,{ keep:=[(2,(.bx 0 0)),(4,(.bx 1 0)),(34,.bool)],mem:=[.same,.box 72 tT11] })])],ro:=[2],news:=[] }
def qE (a0:vV0) (a1:Int) (y3:(Option vV1×Int×(Int×Int×Unit)×Unit)):Option ((Option vV1×Int×(Int×Int×Unit)×Unit)⊕((Option vV1×(Int×Int×Unit)×Unit)⊕vV2)) :=
 cond (decide (y3.2.1<(a0.1.length:Int))) (
(atI a0.1 y3.2.1).bind fun x1 =>
(cond (decide (x1.2.1=a1)) ((zcf a0.2.1 x1.1).bind fun r2 =>
 some (r2,y3.2.2.1,())) (some (false,y3.2.2.1,())):Option (Bool×(Int×Int×Unit)×Unit)).bind fun v3 =>
 cond v3.1 (cond (y3.1.isNone) (some (.inl ((some x1),(IntKind.wrap .i64 (y3.2.1+1)),v3.2.1,()))) ((y3.1).bind fun x4 =>
(zbs x4 x1).bind fun r5 =>
 cond (decide (r5<0)) (
 some (.inl ((some x1),(IntKind.wrap .i64 (y3.2.1+1)),v3.2.1,()))) (
 some (.inl (y3.1,(IntKind.wrap .i64 (y3.2.1+1)),v3.2.1,()))))) (some (.inl (y3.1,(IntKind.wrap .i64 (y3.2.1+1)),v3.2.1,())))) (
 some (.inr (.inl (y3.1,y3.2.2.1,()))))
def zcg (a0:vV0) (a1:Int):Option vV2 :=
(aM (qE a0 a1) (none,0,(0,0,()),()):Option ((Option vV1×(Int×Int×Unit)×Unit)⊕vV2)).bind (bQ fun v6 =>
 cond (v6.1.isNone) (
 some ((0,0,()),11,())) (
(v6.1).bind fun x7 =>
(zcp a0 x7.1).bind fun r8 =>
 cond (!decide (r8=0)) (
 some ((0,0,()),r8,())) (
(v6.1).bind fun x9 =>
 some (x9.1,0,()))))
def sx:TFn:={ ps:=(.cons tT10 tT18),res:=(.tup (.cons tT11 tT18)),fn:=fun v=>zcg v.1 v.2.1 }
def ahf:TEnv:=(vZ [(75,sy),(99,uO),(100,sv)])
theorem ahe:runY Tryz.prog aby ahg ahf anc Tryz.f35 sx.ps sx.res=sx.fn:=by kernel_rfl
theorem uj:aC Tryz.prog G0 35 yz:=ah (ak ⟨ay,(ai un (ai acu (ai tZ ae))),ar,ae,aq⟩ Tryz.func35 rfl (by kernel_rfl))
theorem aai:TOk yz sx:=az (E:=aby) (ET:=ahf) (EnvT.ofX (ax (ac aaj (ac aiF (ac aag al)))) am ap aL an) ahe rfl
def abN:Env:=(eZ [] [274])
def ahH:Hints:=(hZ [] [])
def abM:PFn:=aE (runF Tryz.prog abN ahH Tryz.f240)
def ank:TH:={ loops:=[],cuts:=[(1,[(9,{ keep:=[(1,(.bx 0 0)),(11,.bool)],mem:=[.same] })])],ro:=[1],news:=[] }
def zc8 (a0:vV3):Option Bool :=
(cond (decide (a0.1=0)) (some ((decide ((a0.2.1.length:Int)=0)),())) (some (false,())):Option (Bool×Unit)).bind fun v1 =>
 cond v1.1 (cond (eqV tT16 a0.2.2.1 (0,0,[],())) (cond (decide (a0.2.2.2.1=0)) (some (decide ((a0.2.2.2.2.1.length:Int)=0))) (some false)) (some false)) (some false)
def uw:TFn:={ ps:=(.cons tT13 .unit),res:=.bool,fn:=fun v=>zc8 v.1 }
def ahG:TEnv:=(vZ [])
theorem ahF:runY Tryz.prog abN ahH ahG ank Tryz.f240 uw.ps uw.res=uw.fn:=by kernel_rfl
theorem abL:aC Tryz.prog G0 240 abM:=ah (ak ⟨ay,ae,ar,ae,aq⟩ Tryz.func240 rfl (by kernel_rfl))
theorem ahE:TOk abM uw:=az (E:=abN) (ET:=ahG) (EnvT.ofX (ax al) am ap aL an) ahF rfl
def adW:PFn:=nM
theorem adV:aC Tryz.prog G0 375 adW:=pd (g3:=0) (g4:=1) ⟨Tryz.f375,Tryz.func375,rfl,by kernel_rfl⟩ (by kernel_rfl) (by kernel_rfl) (fun s w hT=>Tryz.utf8_DecodeRuneInString s w hT)
def zas (a0:List UInt8):Option (Int×Int×Unit):=xR a0
def akS:TFn:=kx
theorem akR:TOk adW akS:=tC
def abJ:Env:=(eZ [(375,adW)] [274])
def ahA:Hints:=(hZ [(3,[0,4,10])] [])
def yB:PFn:=aE (runF Tryz.prog abJ ahA Tryz.f366)
def ani:TH:={ joins:=[(9,{ keep:=[(4,(.own 1)),(10,(.it 0))],mem:=[.iter,.row true 21 (.int .i32)] })],loops:=[(3,{ keep:=[(4,(.own 1)),(10,(.it 0))],mem:=[.iter,.row true 21 (.int .i32)] })],ro:=[] }
def ahx (a0:List UInt8) (y3:(Nat×List Int×Unit)):Option ((Nat×List Int×Unit)⊕(List Int×Bool×Unit)) :=
 cond (decide (y3.1<a0.length)) ((cond (decide (((Utf8.decode ⟨a0.toArray⟩ y3.1).1:Int)=65533)) (
(subI a0 (y3.1:Int) (a0.length:Int)).bind fun s1 =>
(zas s1).bind fun r2 =>
 cond (decide (r2.2.1≤1)) (
 some (.inr (.inr ([],false,())))) (
 some (.inl ((y3.1+(Utf8.decode ⟨a0.toArray⟩ y3.1).2),y3.2.1,())))) (
 some (.inl ((y3.1+(Utf8.decode ⟨a0.toArray⟩ y3.1).2),y3.2.1,()))):Option ((Nat×List Int×Unit)⊕((Nat×List Int×Unit)⊕(List Int×Bool×Unit)))).bind (bQ fun v3 =>
(dO (v3.2.1.length+([((Utf8.decode ⟨a0.toArray⟩ y3.1).1:Int)]:List Int).length)).bind fun u4 =>
 some (.inl (v3.1,(v3.2.1++([((Utf8.decode ⟨a0.toArray⟩ y3.1).1:Int)]:List Int)),())))) (some (.inr (y3.2.1,true,())))
def zcb (a0:List UInt8):Option (List Int×Bool×Unit) :=
 aM (ahx a0) (0,[],())
def sA:TFn:={ ps:=(.cons .str .unit),res:=(.tup (.cons (.sl (.int .i32)) (.cons .bool .unit))),fn:=fun v=>zcb v.1 }
def ahz:TEnv:={ pure:=[(375,akS)],look:=[],glob:=G0T,ty:=[(21,(.int .i32))],raw:=[],fresh:=[] }
theorem ahy:runY Tryz.prog abJ ahA ahz ani Tryz.f366 sA.ps sA.res=sA.fn:=by kernel_rfl
theorem ut:aC Tryz.prog G0 366 yB:=ah (ak ⟨ay,(ai adV ae),ar,ae,aq⟩ Tryz.func366 rfl (by kernel_rfl))
theorem aak:TOk yB sA:=az (E:=abJ) (ET:=ahz) (EnvT.ofX (ax (ac akR al)) am ap aL an) ahy rfl
def aaQ:Env:=(eZ [] [274])
def af7:Hints:=(hZ [] [])
def aaP:PFn:=aE (runF Tryz.prog aaQ af7 Tryz.f367)
def amT:TH:=yZ
def zcz (a0:Int):Option Bool :=
 cond (decide (a0<32)) (
 cond (decide (a0<32)) (
 some false) (
 some (!decide (a0=65533)))) (
 cond (decide (a0≥127)) (cond (decide (a0<160)) (
 some false) (
 some (!decide (a0=65533)))) (some (!decide (a0=65533))))
def tN:TFn:={ ps:=(.cons (.int .i32) .unit),res:=.bool,fn:=fun v=>zcz v.1 }
def af6:TEnv:=(vZ [])
theorem af5:runY Tryz.prog aaQ af7 af6 amT Tryz.f367 tN.ps tN.res=tN.fn:=by kernel_rfl
theorem aaO:aC Tryz.prog G0 367 aaP:=ah (ak ⟨ay,ae,ar,ae,aq⟩ Tryz.func367 rfl (by kernel_rfl))
theorem af4:TOk aaP tN:=az (E:=aaQ) (ET:=af6) (EnvT.ofX (ax al) am ap aL an) af5 rfl
def abF:Env:=(eZ [(366,yB),(367,aaP)] [274])
def ahs:Hints:=(hZ [(5,[24,25,26])] [])
def abE:PFn:=aE (runF Tryz.prog abF ahs Tryz.f345)
def ang:TH:={ loops:=[(5,{ keep:=[(26,(.int .i64))],mem:=[] })],ro:=[] }
def ahp (r1:(List Int×Bool×Unit)) (y5:(Int×Unit)):Option ((Int×Unit)⊕Bool) :=
 cond (decide (y5.1<(r1.1.length:Int))) (
(atI r1.1 y5.1).bind fun x2 =>
(zcz x2).bind fun r3 =>
 cond (!r3) (
 some (.inr false)) (
 some (.inl ((IntKind.wrap .i64 (y5.1+1)),())))) (
 some (.inr true))
def zcd (a0:List UInt8):Option Bool :=
(zcb a0).bind fun r1 =>
 cond (!r1.2.1) (some false) (cond (decide ((r1.1.length:Int)=0)) (some false) (cond (decide ((r1.1.length:Int)>24)) (
 some false) (
 aM (ahp r1) (0,()))))
def uq:TFn:={ ps:=(.cons .str .unit),res:=.bool,fn:=fun v=>zcd v.1 }
def ahr:TEnv:=(vZ [(366,sA),(367,tN)])
theorem ahq:runY Tryz.prog abF ahs ahr ang Tryz.f345 uq.ps uq.res=uq.fn:=by kernel_rfl
theorem abD:aC Tryz.prog G0 345 abE:=ah (ak ⟨ay,(ai ut (ai aaO ae)),ar,ae,aq⟩ Tryz.func345 rfl (by kernel_rfl))
theorem aho:TOk abE uq:=az (E:=abF) (ET:=ahr) (EnvT.ofX (ax (ac aak (ac af4 al))) am ap aL an) ahq rfl
def ae9:Env:=(eZ [(345,abE)] [274])
def ami:Hints:=(hZ [] [])
def ae8:PFn:=aE (runF Tryz.prog ae9 ami Tryz.f344)
def aou:TH:=yZ
def za2 (a0:List UInt8):Option Bool :=
(zcd a0).bind fun r1 =>
 some (!r1)
def vU:TFn:={ ps:=(.cons .str .unit),res:=.bool,fn:=fun v=>za2 v.1 }
def amh:TEnv:=(vZ [(345,uq)])
theorem amg:runY Tryz.prog ae9 ami amh aou Tryz.f344 vU.ps vU.res=vU.fn:=by kernel_rfl
theorem ae7:aC Tryz.prog G0 344 ae8:=ah (ak ⟨ay,(ai abD ae),ar,ae,aq⟩ Tryz.func344 rfl (by kernel_rfl))
theorem amf:TOk ae8 vU:=az (E:=ae9) (ET:=amh) (EnvT.ofX (ax (ac aho al)) am ap aL an) amg rfl
def ael:Env:=(eZ [(344,ae8)] [274])
def ala:Hints:=(hZ [(2,[0,1,7,8])] [])
def aek:PFn:=aE (runF Tryz.prog ael ala Tryz.f214)
def aoc:TH:={ loops:=[(2,{ keep:=[(8,(.int .i64))],mem:=[] })],ro:=[] }
def ak7 (a0:List (List UInt8)) (y2:(Int×Unit)):Option ((Int×Unit)⊕Int) :=
 cond (decide (y2.1<(a0.length:Int))) (
(atI a0 y2.1).bind fun x1 =>
(za2 x1).bind fun r2 =>
 cond r2 (
 some (.inr y2.1)) (
 some (.inl ((IntKind.wrap .i64 (y2.1+1)),())))) (
 some (.inr (-1)))
def zaj (a0:List (List UInt8)) (a1:Unit):Option Int :=
 aM (ak7 a0) (0,())
def vD:TFn:={ ps:=(.cons (.sl .str) (.cons (.fn 344) .unit)),res:=(.int .i64),fn:=fun v=>zaj v.1 v.2.1 }
def ak9:TEnv:=(vZ [(344,vU)])
theorem ak8:runY Tryz.prog ael ala ak9 aoc Tryz.f214 vD.ps vD.res=vD.fn:=by kernel_rfl
theorem aej:aC Tryz.prog G0 214 aek:=ah (ak ⟨ay,(ai ae7 ae),ar,ae,aq⟩ Tryz.func214 rfl (by kernel_rfl))
theorem ak6:TOk aek vD:=az (E:=ael) (ET:=ak9) (EnvT.ofX (ax (ac amf al)) am ap aL an) ak8 rfl
def aeo:Env:=(eZ [(214,aek)] [274])
def ale:Hints:=(hZ [] [])
def aen:PFn:=aE (runF Tryz.prog aeo ale Tryz.f141)
def aod:TH:=yZ
def zai (a0:List (List UInt8)) (a1:Unit):Option Bool :=
(zaj a0 a1).bind fun r1 =>
 some (decide (r1≥0))
def vE:TFn:={ ps:=(.cons (.sl .str) (.cons (.fn 344) .unit)),res:=.bool,fn:=fun v=>zai v.1 v.2.1 }
def ald:TEnv:=(vZ [(214,vD)])
theorem alc:runY Tryz.prog aeo ale ald aod Tryz.f141 vE.ps vE.res=vE.fn:=by kernel_rfl
theorem aem:aC Tryz.prog G0 141 aen:=ah (ak ⟨ay,(ai aej ae),ar,ae,aq⟩ Tryz.func141 rfl (by kernel_rfl))
theorem alb:TOk aen vE:=az (E:=aeo) (ET:=ald) (EnvT.ofX (ax (ac ak6 al)) am ap aL an) alc rfl
def abC:Env:=(eZ [(141,aen)] [274])
def ahn:Hints:=(hZ [] [])
def abB:PFn:=aE (runF Tryz.prog abC ahn Tryz.f299)
def anf:TH:=yZ
def zce (a0:List (List UInt8)):Option Int :=
 cond (decide ((a0.length:Int)=0)) (
 some 8) (
 cond (decide ((a0.length:Int)>8)) (
 some 9) (
(zai a0 ()).bind fun r1 =>
 cond r1 (
 some 8) (
 some 0)))
def uo:TFn:={ ps:=(.cons (.sl .str) .unit),res:=(.int .i64),fn:=fun v=>zce v.1 }
def ahm:TEnv:=(vZ [(141,vE)])
theorem ahl:runY Tryz.prog abC ahn ahm anf Tryz.f299 uo.ps uo.res=uo.fn:=by kernel_rfl
theorem abA:aC Tryz.prog G0 299 abB:=ah (ak ⟨ay,(ai aem ae),ar,ae,aq⟩ Tryz.func299 rfl (by kernel_rfl))
theorem ahk:TOk abB uo:=az (E:=abC) (ET:=ahm) (EnvT.ofX (ax (ac alb al)) am ap aL an) ahl rfl
def ac5:Env:=(eZ [(366,yB)] [274])
def ajx:Hints:=(hZ [] [])
def ac4:PFn:=aE (runF Tryz.prog ac5 ajx Tryz.f346)
def anO:TH:={ loops:=[],ro:=[1] }
def zbf (a0:(Int×Int×List UInt8×Unit)):Option Bool :=
 cond (decide (a0.1=1)) (
 cond (decide (a0.2.2.1=[])) (cond (decide (a0.2.1≥(-2147483647))) (some (decide (a0.2.1≤2147483647))) (some false)) (some false)) (
 cond (decide (a0.1=2)) (
(zcb a0.2.2.1).bind fun r1 =>
 cond r1.2.1 (cond (decide (a0.2.1=0)) (some (decide ((a0.2.2.1.length:Int)≤64))) (some false)) (some false)) (
 cond (decide (a0.1=3)) (
 cond (decide (a0.2.2.1=[])) (cond (decide (a0.2.1=0)) (some true) (some (decide (a0.2.1=1)))) (some false)) (
 some false)))
def vd:TFn:={ ps:=(.cons tT16 .unit),res:=.bool,fn:=fun v=>zbf v.1 }
def ajw:TEnv:=(vZ [(366,sA)])
theorem ajv:runY Tryz.prog ac5 ajx ajw anO Tryz.f346 vd.ps vd.res=vd.fn:=by kernel_rfl
theorem ac3:aC Tryz.prog G0 346 ac4:=ah (ak ⟨ay,(ai ut ae),ar,ae,aq⟩ Tryz.func346 rfl (by kernel_rfl))
theorem aju:TOk ac4 vd:=az (E:=ac5) (ET:=ajw) (EnvT.ofX (ax (ac aak al)) am ap aL an) ajv rfl
def aa3:Env:=(eZ [(346,ac4)] [274])
def agt:Hints:=(hZ [] [])
def aa2:PFn:=aE (runF Tryz.prog aa3 agt Tryz.f300)
def amZ:TH:={ loops:=[],ro:=[1] }
def zct (a0:vV3):Option Bool :=
 cond (decide (a0.1=3)) (some (eqV tT16 a0.2.2.1 (0,0,[],()))) (cond (decide (a0.1=5)) (
 some (eqV tT16 a0.2.2.1 (0,0,[],()))) (
(zbf a0.2.2.1).bind fun r1 =>
 some r1))
def tV:TFn:={ ps:=(.cons tT13 .unit),res:=.bool,fn:=fun v=>zct v.1 }
def ags:TEnv:=(vZ [(346,vd)])
theorem agr:runY Tryz.prog aa3 agt ags amZ Tryz.f300 tV.ps tV.res=tV.fn:=by kernel_rfl
theorem aa1:aC Tryz.prog G0 300 aa2:=ah (ak ⟨ay,(ai ac3 ae),ar,ae,aq⟩ Tryz.func300 rfl (by kernel_rfl))
theorem agq:TOk aa2 tV:=az (E:=aa3) (ET:=ags) (EnvT.ofX (ax (ac aju al)) am ap aL an) agr rfl
def aaX:Env:=(eZ [] [274])
def agl:Hints:=(hZ [] [])
def aaW:PFn:=aE (runF Tryz.prog aaX agl Tryz.f301)
def amX:TH:={ loops:=[],ro:=[1] }
def zcv (a0:vV3):Option Bool :=
 cond (decide (a0.1=3)) (
 cond (!decide (a0.2.2.2.1=0)) (cond (decide (a0.2.2.2.1≥(-2147483647))) (some (decide (a0.2.2.2.1≤2147483647))) (some false)) (some false)) (
 some (decide (a0.2.2.2.1=0)))
def tT:TFn:={ ps:=(.cons tT13 .unit),res:=.bool,fn:=fun v=>zcv v.1 }
def agk:TEnv:=(vZ [])
theorem agj:runY Tryz.prog aaX agl agk amX Tryz.f301 tT.ps tT.res=tT.fn:=by kernel_rfl
theorem aaV:aC Tryz.prog G0 301 aaW:=ah (ak ⟨ay,ae,ar,ae,aq⟩ Tryz.func301 rfl (by kernel_rfl))
theorem agi:TOk aaW tT:=az (E:=aaX) (ET:=agk) (EnvT.ofX (ax al) am ap aL an) agj rfl
def abZ:Env:=(eZ [(154,vl),(156,vB),(171,mN)] [274])
def ahY:Hints:=(hZ [] [])
def abY:PFn:=aE (runF Tryz.prog abZ ahY Tryz.f347)
def ano:TH:={ loops:=[],ro:=[2,3] }
def zc4 (a0:vV2) (a1:vV2):Option Int :=
(zbw a0.1 a1.1).bind fun r1 =>
(zau a0.2.1 a1.2.1).bind fun r2 =>
(zb7 ([r1,r2]:List Int)).bind fun r3 =>
 some r3
def uC:TFn:={ ps:=(.cons tT12 (.cons tT12 .unit)),res:=(.int .i64),fn:=fun v=>zc4 v.1 v.2.1 }
def ahX:TEnv:={ pure:=[(154,pD),(156,pH),(171,ju)],look:=[],glob:=G0T,ty:=[(3,(.int .i64))],raw:=[],fresh:=[] }
theorem ahW:runY Tryz.prog abZ ahY ahX ano Tryz.f347 uC.ps uC.res=uC.fn:=by kernel_rfl
theorem abX:aC Tryz.prog G0 347 abY:=ah (ak ⟨ay,(ai pE (ai pI (ai gj ae))),ar,ae,aq⟩ Tryz.func347 rfl (by kernel_rfl))
theorem ahV:TOk abY uC:=az (E:=abZ) (ET:=ahX) (EnvT.ofX (ax (ac vk (ac vA (ac jt al)))) am ap aL an) ahW rfl
def abT:Env:=(eZ [(173,mM),(347,abY)] [274])
def ahQ:Hints:=(hZ [(2,[0,5,6,7])] [])
def abS:PFn:=aE (runF Tryz.prog abT ahQ Tryz.f302)
def anm:TH:={ loops:=[(2,{ keep:=[(7,(.int .i64))],mem:=[] })],cuts:=[(4,[(9,{ keep:=[(4,(.bx 0 0)),(20,.bool)],mem:=[.box 146 tT12] }),(5,{ keep:=[(4,(.bx 0 0)),(25,.bool)],mem:=[.box 146 tT12] })])],ro:=[],news:=[] }
def ahN (a0:List vV2) (y2:(Int×Unit)):Option ((Int×Unit)⊕Bool) :=
 cond (decide (y2.1<(a0.length:Int))) (
(atI a0 y2.1).bind fun x1 =>
((zci x1.1).bind fun r2 =>
 cond (!r2) (some (true,x1,())) (some ((decide (x1.2.1<0)),x1,())):Option (Bool×vV2×Unit)).bind fun v3 =>
(cond v3.1 (some (true,v3.2.1,())) (some ((decide (v3.2.1.2.1≥16)),v3.2.1,())):Option (Bool×vV2×Unit)).bind fun v4 =>
 cond v4.1 (some (.inr false)) (cond (decide (y2.1>0)) ((atI a0 (IntKind.wrap .i64 (y2.1-1))).bind fun x5 =>
(zc4 x5 v4.2.1).bind fun r6 =>
 cond (decide (r6≥0)) (
 some (.inr false)) (
 some (.inl ((IntKind.wrap .i64 (y2.1+1)),())))) (some (.inl ((IntKind.wrap .i64 (y2.1+1)),()))))) (
 some (.inr true))
def zc6 (a0:List vV2):Option Bool :=
 aM (ahN a0) (0,())
def uA:TFn:={ ps:=(.cons (.sl tT12) .unit),res:=.bool,fn:=fun v=>zc6 v.1 }
def ahP:TEnv:=(vZ [(173,js),(347,uC)])
theorem ahO:runY Tryz.prog abT ahQ ahP anm Tryz.f302 uA.ps uA.res=uA.fn:=by kernel_rfl
theorem abR:aC Tryz.prog G0 302 abS:=ah (ak ⟨ay,(ai gh (ai abX ae)),ar,ae,aq⟩ Tryz.func302 rfl (by kernel_rfl))
theorem ahM:TOk abS uA:=az (E:=abT) (ET:=ahP) (EnvT.ofX (ax (ac jr (ac ahV al))) am ap aL an) ahO rfl
def ab8:Env:=(eZ [(299,abB),(300,aa2),(301,aaW),(302,abS)] [274])
def aia:Hints:=(hZ [] [])
def ab7:PFn:=aE (runF Tryz.prog ab8 aia Tryz.f241)
def anr:TH:={ joins:=[(10,{ keep:=[(1,(.bx 0 0)),(32,.bool)],mem:=[.same] })],loops:=[],cuts:=[(6,[(8,{ keep:=[(1,(.bx 0 0)),(26,.bool)],mem:=[.same] }),(5,{ keep:=[(1,(.bx 0 0)),(31,.bool)],mem:=[.same] })]),(9,[(8,{ keep:=[(1,(.bx 0 0)),(46,.bool)],mem:=[.same] })])],ro:=[1],news:=[] }
def zc1 (a0:vV3):Option Int :=
 cond (decide (a0.1<1)) (some 18) (cond (decide (a0.1>5)) (
 some 18) (
(zce a0.2.1).bind fun r1 =>
 cond (!decide (r1=0)) (
 some r1) (
(cond (decide (a0.1=1)) (some (true,())) (some ((decide (a0.1=4)),())):Option (Bool×Unit)).bind fun v2 =>
(cond v2.1 (some (true,())) (some ((decide (a0.1=5)),())):Option (Bool×Unit)).bind fun v3 =>
((zct a0).bind fun r4 =>
 cond (!r4) (
 some (.inl ((!r4),()))) (
(zcv a0).bind fun r5 =>
 cond (!r5) (
 some (.inl ((!r5),()))) (
(cond (!v3.1) (some ((decide ((a0.2.2.2.2.1.length:Int)>0)),())) (some (false,())):Option (Bool×Unit)).bind fun v6 =>
 some (.inl (v6.1,())))):Option ((Bool×Unit)⊕Int)).bind (bQ fun v7 =>
 cond v7.1 (
 some 2) (
 cond (decide ((a0.2.2.2.2.1.length:Int)>256)) (
 some 7) (
(zc6 a0.2.2.2.2.1).bind fun r8 =>
 cond (!r8) (
 some 2) (
 some 0)))))))
def uF:TFn:={ ps:=(.cons tT13 .unit),res:=(.int .i64),fn:=fun v=>zc1 v.1 }
def ah9:TEnv:=(vZ [(299,uo),(300,tV),(301,tT),(302,uA)])
theorem ah8:runY Tryz.prog ab8 aia ah9 anr Tryz.f241 uF.ps uF.res=uF.fn:=by kernel_rfl
theorem ab6:aC Tryz.prog G0 241 ab7:=ah (ak ⟨ay,(ai abA (ai aa1 (ai aaV (ai abR ae)))),ar,ae,aq⟩ Tryz.func241 rfl (by kernel_rfl))
theorem ah7:TOk ab7 uF:=az (E:=ab8) (ET:=ah9) (EnvT.ofX (ax (ac ahk (ac agq (ac agi (ac ahM al))))) am ap aL an) ah8 rfl
def aaT:Env:=(eZ [(173,mM),(240,abM),(241,ab7)] [274])
def agd:Hints:=(hZ [(10,[1,38,39,40])] [])
def yu:PFn:=aE (runF Tryz.prog aaT agd Tryz.f174)
def amV:TH:={ joins:=[(4,{ keep:=[(1,(.bx 0 0)),(6,.bool)],mem:=[.same] }),(13,{ keep:=[(1,(.bx 0 0)),(4,(.bx 1 0))],mem:=[.same,.box 135 tT13] })],loops:=[(10,{ keep:=[(1,(.bx 0 0)),(40,(.int .i64))],mem:=[.same] })],cuts:=[(3,[(8,{ keep:=[(1,(.bx 0 0)),(26,.bool)],mem:=[.same] })])],ro:=[1],news:=[] }
def aaS (a0:vV1) (y10:(Int×Unit)):Option ((Int×Unit)⊕Int) :=
 cond (decide (y10.1<(a0.2.2.2.2.1.length:Int))) (
(atI a0.2.2.2.2.1 y10.1).bind fun x4 =>
(cond a0.2.2.2.1 ((zc8 x4).bind fun r5 =>
 cond r5 (
 some (.inr (.inl ((IntKind.wrap .i64 (y10.1+1)),())))) (
 some (.inl (x4,())))) (some (.inl (x4,()))):Option ((vV3×Unit)⊕((Int×Unit)⊕Int))).bind (bQ fun v6 =>
(zc1 v6.1).bind fun r7 =>
 cond (!decide (r7=0)) (
 some (.inr r7)) (
 some (.inl ((IntKind.wrap .i64 (y10.1+1)),()))))) (
 some (.inr 0))
def zcx (a0:vV1):Option Int :=
((zci a0.1).bind fun r1 =>
 cond (!r1) (
 some (.inl ((!r1),()))) (
 cond (decide (a0.2.1<0)) (some (.inl (true,()))) (cond (decide (a0.2.1≥8)) (
 some (.inl ((decide (a0.2.1≥8)),()))) (
(cond (decide (a0.2.2.1<1)) (some (true,())) (some ((decide (a0.2.2.1>1099511627776)),())):Option (Bool×Unit)).bind fun v2 =>
 some (.inl (v2.1,()))))):Option ((Bool×Unit)⊕Int)).bind (bQ fun v3 =>
 cond v3.1 (
 some 2) (
 cond (decide ((a0.2.2.2.2.1.length:Int)=0)) (
 some 11) (
 cond (decide ((a0.2.2.2.2.1.length:Int)>16)) (
 some 7) (
 aM (aaS a0) (0,())))))
def sr:TFn:={ ps:=(.cons tT9 .unit),res:=(.int .i64),fn:=fun v=>zcx v.1 }
def agc:TEnv:=(vZ [(173,js),(240,uw),(241,uF)])
theorem agb:runY Tryz.prog aaT agd agc amV Tryz.f174 sr.ps sr.res=sr.fn:=by kernel_rfl
theorem tP:aC Tryz.prog G0 174 yu:=ah (ak ⟨ay,(ai gh (ai abL (ai ab6 ae))),ar,ae,aq⟩ Tryz.func174 rfl (by kernel_rfl))
theorem aae:TOk yu sr:=az (E:=aaT) (ET:=agc) (EnvT.ofX (ax (ac jr (ac ahE (ac ah7 al)))) am ap aL an) agb rfl
def aeU:Env:=(eZ [] [274])
def alY:Hints:=(hZ [] [])
def aeT:PFn:=aE (runF Tryz.prog aeU alY Tryz.f175)
def aoo:TH:=yZ
def za7 (a0:Int):Option Bool :=
 cond (decide (a0≥0)) (some (decide (a0<8))) (some false)
def vP:TFn:={ ps:=tT18,res:=.bool,fn:=fun v=>za7 v.1 }
def alX:TEnv:=(vZ [])
theorem alW:runY Tryz.prog aeU alY alX aoo Tryz.f175 vP.ps vP.res=vP.fn:=by kernel_rfl
theorem aeS:aC Tryz.prog G0 175 aeT:=ah (ak ⟨ay,ae,ar,ae,aq⟩ Tryz.func175 rfl (by kernel_rfl))
theorem alV:TOk aeT vP:=az (E:=aeU) (ET:=alX) (EnvT.ofX (ax al) am ap aL an) alW rfl
def ac6:Env:=(eZ [(173,mM),(242,vv)] [274])
def ajA:Hints:=(hZ [(2,[0,5,6,7])] [])
def yG:PFn:=aE (runF Tryz.prog ac6 ajA Tryz.f176)
def anP:TH:={ loops:=[(2,{ keep:=[(7,(.int .i64))],mem:=[] })],cuts:=[(4,[(9,{ keep:=[(4,(.bx 0 0)),(20,.bool)],mem:=[.box 82 tT12] }),(5,{ keep:=[(4,(.bx 0 0)),(25,.bool)],mem:=[.box 82 tT12] })])],ro:=[],news:=[] }
def oc (a0:List vV2) (y2:(Int×Unit)):Option ((Int×Unit)⊕Bool) :=
 cond (decide (y2.1<(a0.length:Int))) (
(atI a0 y2.1).bind fun x1 =>
((zci x1.1).bind fun r2 =>
 cond (!r2) (some (true,x1,())) (some ((decide (x1.2.1<1)),x1,())):Option (Bool×vV2×Unit)).bind fun v3 =>
(cond v3.1 (some (true,v3.2.1,())) (some ((decide (v3.2.1.2.1>64)),v3.2.1,())):Option (Bool×vV2×Unit)).bind fun v4 =>
 cond v4.1 (some (.inr false)) (cond (decide (y2.1>0)) ((atI a0 (IntKind.wrap .i64 (y2.1-1))).bind fun x5 =>
(zay x5 v4.2.1).bind fun r6 =>
 cond (decide (r6≥0)) (
 some (.inr false)) (
 some (.inl ((IntKind.wrap .i64 (y2.1+1)),())))) (some (.inl ((IntKind.wrap .i64 (y2.1+1)),()))))) (
 some (.inr true))
def zbe (a0:List vV2):Option Bool :=
 aM (oc a0) (0,())
def sF:TFn:={ ps:=(.cons (.sl tT12) .unit),res:=.bool,fn:=fun v=>zbe v.1 }
def ajz:TEnv:=(vZ [(173,js),(242,pF)])
theorem ajy:runY Tryz.prog ac6 ajA ajz anP Tryz.f176 sF.ps sF.res=sF.fn:=by kernel_rfl
theorem ve:aC Tryz.prog G0 176 yG:=ah (ak ⟨ay,(ai gh (ai pG ae)),ar,ae,aq⟩ Tryz.func176 rfl (by kernel_rfl))
theorem aap:TOk yG sF:=az (E:=ac6) (ET:=ajz) (EnvT.ofX (ax (ac jr (ac vu al))) am ap aL an) ajy rfl
def adS:Env:=(eZ [(174,yu)] [274])
def akJ:Hints:=(hZ [] [])
def adR:PFn:=aE (runF Tryz.prog adS akJ Tryz.f243)
def an8:TH:={ loops:=[],ro:=[1] }
def zav (a0:vV1):Option Bool :=
(zcx a0).bind fun r1 =>
 some (!decide (r1=0))
def vz:TFn:={ ps:=(.cons tT9 .unit),res:=.bool,fn:=fun v=>zav v.1 }
def akI:TEnv:=(vZ [(174,sr)])
theorem akH:runY Tryz.prog adS akJ akI an8 Tryz.f243 vz.ps vz.res=vz.fn:=by kernel_rfl
theorem adQ:aC Tryz.prog G0 243 adR:=ah (ak ⟨ay,(ai tP ae),ar,ae,aq⟩ Tryz.func243 rfl (by kernel_rfl))
theorem akG:TOk adR vz:=az (E:=adS) (ET:=akI) (EnvT.ofX (ax (ac aae al)) am ap aL an) akH rfl
def adP:Env:=(eZ [(173,mM)] [274])
def akF:Hints:=(hZ [] [])
def adO:PFn:=aE (runF Tryz.prog adP akF Tryz.f244)
def an7:TH:={ loops:=[],ro:=[1] }
def zaw (a0:(Int×Int×Unit)):Option Bool :=
(zci a0).bind fun r1 =>
 some (!r1)
def vy:TFn:={ ps:=(.cons tT11 .unit),res:=.bool,fn:=fun v=>zaw v.1 }
def akE:TEnv:=(vZ [(173,js)])
theorem akD:runY Tryz.prog adP akF akE an7 Tryz.f244 vy.ps vy.res=vy.fn:=by kernel_rfl
theorem adN:aC Tryz.prog G0 244 adO:=ah (ak ⟨ay,(ai gh ae),ar,ae,aq⟩ Tryz.func244 rfl (by kernel_rfl))
theorem akC:TOk adO vy:=az (E:=adP) (ET:=akE) (EnvT.ofX (ax (ac jr al)) am ap aL an) akD rfl
def abj:Env:=(eZ [(171,mN)] [274])
def agR:Hints:=(hZ [(2,[0,5,6,7])] [])
def abi:PFn:=aE (runF Tryz.prog abj agR Tryz.f245)
def am5:TH:={ loops:=[(2,{ keep:=[(7,(.int .i64))],mem:=[] })],ro:=[] }
def agO (a0:List vV1) (y2:(Int×Unit)):Option ((Int×Unit)⊕Bool) :=
 cond (decide (y2.1<(a0.length:Int))) (
(atI a0 y2.1).bind fun x1 =>
 cond (decide (y2.1>0)) ((atI a0 (IntKind.wrap .i64 (y2.1-1))).bind fun x2 =>
(zbw x2.1 x1.1).bind fun r3 =>
 cond (decide (r3≥0)) (
 some (.inr false)) (
 some (.inl ((IntKind.wrap .i64 (y2.1+1)),())))) (some (.inl ((IntKind.wrap .i64 (y2.1+1)),())))) (
 some (.inr true))
def zcn (a0:List vV1):Option Bool :=
 aM (agO a0) (0,())
def t8:TFn:={ ps:=(.cons (.sl tT9) .unit),res:=.bool,fn:=fun v=>zcn v.1 }
def agQ:TEnv:=(vZ [(171,ju)])
theorem agP:runY Tryz.prog abj agR agQ am5 Tryz.f245 t8.ps t8.res=t8.fn:=by kernel_rfl
theorem abh:aC Tryz.prog G0 245 abi:=ah (ak ⟨ay,(ai gj ae),ar,ae,aq⟩ Tryz.func245 rfl (by kernel_rfl))
theorem agN:TOk abi t8:=az (E:=abj) (ET:=agQ) (EnvT.ofX (ax (ac jt al)) am ap aL an) agP rfl
def aev:Env:=(eZ [(243,adR)] [274])
def alp:Hints:=(hZ [(2,[0,1,7,8])] [])
def aeu:PFn:=aE (runF Tryz.prog aev alp Tryz.f303)
def aof:TH:={ loops:=[(2,{ keep:=[(8,(.int .i64))],mem:=[] })],ro:=[] }
def alm (a0:List vV1) (y2:(Int×Unit)):Option ((Int×Unit)⊕Int) :=
 cond (decide (y2.1<(a0.length:Int))) (
(atI a0 y2.1).bind fun x1 =>
(zav x1).bind fun r2 =>
 cond r2 (
 some (.inr y2.1)) (
 some (.inl ((IntKind.wrap .i64 (y2.1+1)),())))) (
 some (.inr (-1)))
def zag (a0:List vV1) (a1:Unit):Option Int :=
 aM (alm a0) (0,())
def vG:TFn:={ ps:=(.cons (.sl tT9) (.cons (.fn 243) .unit)),res:=(.int .i64),fn:=fun v=>zag v.1 v.2.1 }
def alo:TEnv:=(vZ [(243,vz)])
theorem aln:runY Tryz.prog aev alp alo aof Tryz.f303 vG.ps vG.res=vG.fn:=by kernel_rfl
theorem aet:aC Tryz.prog G0 303 aeu:=ah (ak ⟨ay,(ai adQ ae),ar,ae,aq⟩ Tryz.func303 rfl (by kernel_rfl))
theorem alk:TOk aeu vG:=az (E:=aev) (ET:=alo) (EnvT.ofX (ax (ac akG al)) am ap aL an) aln rfl
def aeB:Env:=(eZ [(303,aeu)] [274])
def alx:Hints:=(hZ [] [])
def aeA:PFn:=aE (runF Tryz.prog aeB alx Tryz.f246)
def aoh:TH:=yZ
def zae (a0:List vV1) (a1:Unit):Option Bool :=
(zag a0 a1).bind fun r1 =>
 some (decide (r1≥0))
def vI:TFn:={ ps:=(.cons (.sl tT9) (.cons (.fn 243) .unit)),res:=.bool,fn:=fun v=>zae v.1 v.2.1 }
def alw:TEnv:=(vZ [(303,vG)])
theorem alv:runY Tryz.prog aeB alx alw aoh Tryz.f246 vI.ps vI.res=vI.fn:=by kernel_rfl
theorem aez:aC Tryz.prog G0 246 aeA:=ah (ak ⟨ay,(ai aet ae),ar,ae,aq⟩ Tryz.func246 rfl (by kernel_rfl))
theorem alu:TOk aeA vI:=az (E:=aeB) (ET:=alw) (EnvT.ofX (ax (ac alk al)) am ap aL an) alv rfl
def aes:Env:=(eZ [(244,adO)] [274])
def alj:Hints:=(hZ [(2,[0,1,7,8])] [])
def aer:PFn:=aE (runF Tryz.prog aes alj Tryz.f259)
def aoe:TH:={ loops:=[(2,{ keep:=[(8,(.int .i64))],mem:=[] })],ro:=[] }
def alg (a0:List (Int×Int×Unit)) (y2:(Int×Unit)):Option ((Int×Unit)⊕Int) :=
 cond (decide (y2.1<(a0.length:Int))) (
(atI a0 y2.1).bind fun x1 =>
(zaw x1).bind fun r2 =>
 cond r2 (
 some (.inr y2.1)) (
 some (.inl ((IntKind.wrap .i64 (y2.1+1)),())))) (
 some (.inr (-1)))
def zah (a0:List (Int×Int×Unit)) (a1:Unit):Option Int :=
 aM (alg a0) (0,())
def vF:TFn:={ ps:=(.cons (.sl tT11) (.cons (.fn 244) .unit)),res:=(.int .i64),fn:=fun v=>zah v.1 v.2.1 }
def ali:TEnv:=(vZ [(244,vy)])
theorem alh:runY Tryz.prog aes alj ali aoe Tryz.f259 vF.ps vF.res=vF.fn:=by kernel_rfl
theorem aep:aC Tryz.prog G0 259 aer:=ah (ak ⟨ay,(ai adN ae),ar,ae,aq⟩ Tryz.func259 rfl (by kernel_rfl))
theorem alf:TOk aer vF:=az (E:=aes) (ET:=ali) (EnvT.ofX (ax (ac akC al)) am ap aL an) alh rfl
def aey:Env:=(eZ [(259,aer)] [274])
def alt:Hints:=(hZ [] [])
def aex:PFn:=aE (runF Tryz.prog aey alt Tryz.f247)
def aog:TH:=yZ
def zaf (a0:List (Int×Int×Unit)) (a1:Unit):Option Bool :=
(zah a0 a1).bind fun r1 =>
 some (decide (r1≥0))
def vH:TFn:={ ps:=(.cons (.sl tT11) (.cons (.fn 244) .unit)),res:=.bool,fn:=fun v=>zaf v.1 v.2.1 }
def als:TEnv:=(vZ [(259,vF)])
theorem alr:runY Tryz.prog aey alt als aog Tryz.f247 vH.ps vH.res=vH.fn:=by kernel_rfl
theorem aew:aC Tryz.prog G0 247 aex:=ah (ak ⟨ay,(ai aep ae),ar,ae,aq⟩ Tryz.func247 rfl (by kernel_rfl))
theorem alq:TOk aex vH:=az (E:=aey) (ET:=als) (EnvT.ofX (ax (ac alf al)) am ap aL an) alr rfl
def afc:Env:=(eZ [(176,yG),(245,abi),(246,aeA),(247,aex)] [274])
def amm:Hints:=(hZ [] [])
def afb:PFn:=aE (runF Tryz.prog afc amm Tryz.f177)
def aov:TH:={ loops:=[],cuts:=[(3,[(9,{ keep:=[(1,(.bx 0 0)),(13,.bool)],mem:=[.same] }),(7,{ keep:=[(1,(.bx 0 0)),(20,.bool)],mem:=[.same] })])],ro:=[1],news:=[] }
def za1 (a0:(List vV1×List vV2×List (Int×Int×Unit)×Unit)):Option Bool :=
(cond (decide ((a0.1.length:Int)≤1000)) ((zcn a0.1).bind fun r1 =>
 some (r1,())) (some (false,())):Option (Bool×Unit)).bind fun v2 =>
(cond v2.1 ((zae a0.1 ()).bind fun r3 =>
 some ((!r3),())) (some (false,())):Option (Bool×Unit)).bind fun v4 =>
 cond v4.1 ((zbe a0.2.1).bind fun r5 =>
 cond r5 ((zaf a0.2.2.1 ()).bind fun r6 =>
 some (!r6)) (some false)) (some false)
def vV:TFn:={ ps:=(.cons (.agg (.cons (.sl tT9) (.cons (.sl tT12) (.cons (.sl tT11) .unit)))) .unit),res:=.bool,fn:=fun v=>za1 v.1 }
def aml:TEnv:=(vZ [(176,sF),(245,t8),(246,vI),(247,vH)])
theorem amk:runY Tryz.prog afc amm aml aov Tryz.f177 vV.ps vV.res=vV.fn:=by kernel_rfl
theorem afa:aC Tryz.prog G0 177 afb:=ah (ak ⟨ay,(ai ve (ai abh (ai aez (ai aew ae)))),ar,ae,aq⟩ Tryz.func177 rfl (by kernel_rfl))
theorem amj:TOk afb vV:=az (E:=afc) (ET:=aml) (EnvT.ofX (ax (ac aap (ac agN (ac alu (ac alq al))))) am ap aL an) amk rfl
def ae6:Env:=(eZ [(174,yu),(175,aeT),(176,yG),(177,afb)] [274])
def ame:Hints:=(hZ [] [])
def ae5:PFn:=aE (runF Tryz.prog ae6 ame Tryz.f103)
def aot:TH:={ loops:=[],ro:=[1] }
def za3 (a0:vV5):Option Bool :=
 cond (decide (a0.1=1)) (
(zcx a0.2.1).bind fun r1 =>
 some (decide (r1=0))) (
 cond (decide (a0.1=2)) (
(za7 a0.2.2.1).bind fun r2 =>
 cond r2 ((zbe ([a0.2.2.2.1]:List vV2)).bind fun r3 =>
 cond r3 (cond (decide (a0.2.2.2.2.1≥0)) (some (decide (a0.2.2.2.2.1≤2))) (some false)) (some false)) (some false)) (
 cond (decide (a0.1=3)) (
(za1 a0.2.2.2.2.2.1).bind fun r4 =>
 some r4) (
 cond (decide (a0.1=4)) (
 none) (
 some false))))
def vT:TFn:={ ps:=(.cons tT15 .unit),res:=.bool,fn:=fun v=>za3 v.1 }
def amd:TEnv:={ pure:=[(174,sr),(175,vP),(176,sF),(177,vV)],look:=[],glob:=G0T,ty:=[(82,tT12)],raw:=[],fresh:=[] }
theorem amc:runY Tryz.prog ae6 ame amd aot Tryz.f103 vT.ps vT.res=vT.fn:=by kernel_rfl
theorem ae4:aC Tryz.prog G0 103 ae5:=ah (ak ⟨ay,(ai tP (ai aeS (ai ve (ai afa ae)))),ar,ae,aq⟩ Tryz.func103 rfl (by kernel_rfl))
theorem amb:TOk ae5 vT:=az (E:=ae6) (ET:=amd) (EnvT.ofX (ax (ac aae (ac alV (ac aap (ac amj al))))) am ap aL an) amc rfl
def abK:Env:=(eZ [(102,yF),(103,ae5)] [274])
def ahD:Hints:=(hZ [] [])
def yC:PFn:=aE (runF Tryz.prog abK ahD Tryz.f39)
def anj:TH:={ loops:=[],ro:=[4,6] }
def zca (a0:vV0) (a1:Int) (a2:(Int×Int×Unit)) (a3:Int):Option (vV5×Int×Unit) :=
(zbk a0.2.1 a2).bind fun r1 =>
 cond (!decide (r1.2.1=0)) (
 some ((0,((0,0,()),0,0,false,[],()),0,((0,0,()),0,()),0,([],[],[],()),([],[],([0,0,0,0,0,0,0,0,0,0,0,0,0,0,0,0],[],()),([0,0,0,0,0,0,0,0,0,0,0,0,0,0,0,0],[],()),[[],[],[],[],[],[],[],[]],()),()),r1.2.1,())) (
(za3 (2,((0,0,()),0,0,false,[],()),a1,r1.1,a3,([],[],[],()),([],[],([0,0,0,0,0,0,0,0,0,0,0,0,0,0,0,0],[],()),([0,0,0,0,0,0,0,0,0,0,0,0,0,0,0,0],[],()),[[],[],[],[],[],[],[],[]],()),())).bind fun r2 =>
 cond (!r2) (
 some ((0,((0,0,()),0,0,false,[],()),0,((0,0,()),0,()),0,([],[],[],()),([],[],([0,0,0,0,0,0,0,0,0,0,0,0,0,0,0,0],[],()),([0,0,0,0,0,0,0,0,0,0,0,0,0,0,0,0],[],()),[[],[],[],[],[],[],[],[]],()),()),2,())) (
 some ((2,((0,0,()),0,0,false,[],()),a1,r1.1,a3,([],[],[],()),([],[],([0,0,0,0,0,0,0,0,0,0,0,0,0,0,0,0],[],()),([0,0,0,0,0,0,0,0,0,0,0,0,0,0,0,0],[],()),[[],[],[],[],[],[],[],[]],()),()),0,())))
def sB:TFn:={ ps:=(.cons tT10 (.cons (.int .i64) (.cons tT11 tT18))),res:=(.tup (.cons tT15 tT18)),fn:=fun v=>zca v.1 v.2.1 v.2.2.1 v.2.2.2.1 }
def ahC:TEnv:=(vZ [(102,sE),(103,vT)])
theorem ahB:runY Tryz.prog abK ahD ahC anj Tryz.f39 sB.ps sB.res=sB.fn:=by kernel_rfl
theorem uu:aC Tryz.prog G0 39 yC:=ah (ak ⟨ay,(ai uW (ai ae4 ae)),ar,ae,aq⟩ Tryz.func39 rfl (by kernel_rfl))
theorem aal:TOk yC sB:=az (E:=abK) (ET:=ahC) (EnvT.ofX (ax (ac aao (ac amb al))) am ap aL an) ahB rfl
def adA:Env:=(eZ [(242,vv)] [274])
def akg:Hints:=(hZ [(2,[0,1,5])] [34,38,42,57,68])
def adz:PFn:=aE (runF Tryz.prog adA akg Tryz.f179)
def an0:TH:={ joins:=[(3,{ keep:=[(5,(.own 0))],mem:=[.row true 82 tT12] }),(10,{ keep:=[(5,(.own 0)),(6,(.int .i64))],mem:=[.row true 82 tT12] })],loops:=[(2,{ keep:=[(0,(.sl tT12)),(1,(.sl tT12)),(5,(.own 0))],mem:=[.row true 82 tT12] })],ro:=[] }
def fa (y2:(List vV2×List vV2×List vV2×Unit)):Option ((List vV2×List vV2×List vV2×Unit)⊕List vV2) :=
(cond (decide ((y2.1.length:Int)>0)) (some (.inl (y2.2.2.1,()))) (cond (decide ((y2.2.1.length:Int)>0)) (
 some (.inl (y2.2.2.1,()))) (
 some (.inr (.inr y2.2.2.1)))):Option ((List vV2×Unit)⊕((List vV2×List vV2×List vV2×Unit)⊕List vV2))).bind (bQ fun v1 =>
(cond (decide ((y2.1.length:Int)=0)) (
 some (.inl (1,v1.1,()))) (
 cond (decide ((y2.2.1.length:Int)>0)) (
(atI y2.1 0).bind fun x2 =>
(atI y2.2.1 0).bind fun x3 =>
(zay x2 x3).bind fun r4 =>
 some (.inl (r4,v1.1,()))) (
 some (.inl ((-1),v1.1,())))):Option ((Int×List vV2×Unit)⊕((List vV2×List vV2×List vV2×Unit)⊕List vV2))).bind (bQ fun v5 =>
 cond (decide (v5.1<0)) (
(atI y2.1 0).bind fun x6 =>
(dO (v5.2.1.length+([x6]:List vV2).length)).bind fun u7 =>
(subI y2.1 1 (y2.1.length:Int)).bind fun s8 =>
 some (.inl (s8,y2.2.1,(v5.2.1++([x6]:List vV2)),()))) (
 cond (decide (v5.1>0)) (
(atI y2.2.1 0).bind fun x9 =>
(dO (v5.2.1.length+([x9]:List vV2).length)).bind fun u10 =>
(subI y2.2.1 1 (y2.2.1.length:Int)).bind fun s11 =>
 some (.inl (y2.1,s11,(v5.2.1++([x9]:List vV2)),()))) (
(atI y2.1 0).bind fun x12 =>
(atI y2.1 0).bind fun x13 =>
(atI y2.2.1 0).bind fun x14 =>
(dO (v5.2.1.length+([(x12.1,(max x13.2.1 x14.2.1),())]:List vV2).length)).bind fun u15 =>
(subI y2.1 1 (y2.1.length:Int)).bind fun s16 =>
(subI y2.2.1 1 (y2.2.1.length:Int)).bind fun s17 =>
 some (.inl (s16,s17,(v5.2.1++([(x12.1,(max x13.2.1 x14.2.1),())]:List vV2)),()))))))
def zb3 (a0:List vV2) (a1:List vV2):Option (List vV2) :=
 aM (fa) (a0,a1,[],())
def vp:TFn:={ ps:=(.cons (.sl tT12) (.cons (.sl tT12) .unit)),res:=(.sl tT12),fn:=fun v=>zb3 v.1 v.2.1 }
def akf:TEnv:={ pure:=[(242,pF)],look:=[],glob:=G0T,ty:=[(82,tT12)],raw:=[],fresh:=[] }
theorem ake:runY Tryz.prog adA akg akf an0 Tryz.f179 vp.ps vp.res=vp.fn:=by kernel_rfl
theorem ady:aC Tryz.prog G0 179 adz:=ah (ak ⟨ay,(ai pG ae),ar,ae,aq⟩ Tryz.func179 rfl (by kernel_rfl))
theorem akd:TOk adz vp:=az (E:=adA) (ET:=akf) (EnvT.ofX (ax (ac vu al)) am ap aL an) ake rfl
def acC:Env:=(eZ [(179,adz)] [274])
def aiQ:Hints:=(hZ [] [])
def acB:PFn:=aE (runF Tryz.prog acC aiQ Tryz.f104)
def anD:TH:=yZ
def zbq (a0:vV0) (a1:List vV2):Option vV0 :=
(zb3 a0.2.1 a1).bind fun r1 =>
 some (a0.1,r1,a0.2.2.1,a0.2.2.2.1,a0.2.2.2.2.1,())
def uQ:TFn:={ ps:=(.cons tT10 (.cons (.sl tT12) .unit)),res:=tT10,fn:=fun v=>zbq v.1 v.2.1 }
def aiP:TEnv:=(vZ [(179,vp)])
theorem aiO:runY Tryz.prog acC aiQ aiP anD Tryz.f104 uQ.ps uQ.res=uQ.fn:=by kernel_rfl
theorem acA:aC Tryz.prog G0 104 acB:=ah (ak ⟨ay,(ai ady ae),ar,ae,aq⟩ Tryz.func104 rfl (by kernel_rfl))
theorem aiN:TOk acB uQ:=az (E:=acC) (ET:=aiP) (EnvT.ofX (ax (ac akd al)) am ap aL an) aiO rfl
def ade:Env:={ pure:=[],raw:=[(180,yJ)],glob:=G0,same:=[274],look:=[],ext:=[] }
def ajL:Hints:={ seqs:=[],loops:=[(6,[0,3,5])],own:=[14],frz:=[(3,[3])] }
def adc:PFn:=aE (runF Tryz.prog ade ajL Tryz.f105)
def anS:TH:={ loops:=[(6,{ keep:=[(3,(.bx 0 0)),(5,(.int .i64))],mem:=[.box 86 tT15] })],ro:=[] }
def aaq (a0:List (Int×Int×Unit)) (y6:(Int×vV5×Unit)):Option ((Int×vV5×Unit)⊕List (Int×Int×Unit)) :=
 cond (decide (y6.1≥0)) (
(atI a0 y6.1).bind fun x3 =>
 cond (eqV tT11 x3 y6.2.1.2.2.2.1.1) (
(subI a0 0 y6.1).bind fun s4 =>
(zar s4).bind fun n5 =>
 some (.inr n5)) (
 some (.inl ((IntKind.wrap .i64 (y6.1-1)),y6.2.1,())))) (
 some (.inr a0))
def zbb (a0:List (Int×Int×Unit)) (a1:vV5):Option (List (Int×Int×Unit)) :=
 cond (decide (a1.2.2.2.2.1=1)) (
(zar a0).bind fun n1 =>
(dO (n1.length+([a1.2.2.2.1.1]:List (Int×Int×Unit)).length)).bind fun u2 =>
 some (n1++([a1.2.2.2.1.1]:List (Int×Int×Unit)))) (
 cond (decide (a1.2.2.2.2.1=2)) (
 aM (aaq a0) ((IntKind.wrap .i64 ((a0.length:Int)-1)),a1,())) (
 some a0))
def vg:TFn:={ ps:=(.cons (.sl tT11) (.cons tT15 .unit)),res:=(.sl tT11),fn:=fun v=>zbb v.1 v.2.1 }
def ajK:TEnv:={ pure:=[],look:=[],glob:=G0T,ty:=[(72,tT11)],raw:=[],fresh:=[(180,adY)] }
theorem ajJ:runY Tryz.prog ade ajL ajK anS Tryz.f105 vg.ps vg.res=vg.fn:=by kernel_rfl
theorem adb:aC Tryz.prog G0 105 adc:=ah (ak ⟨ay,ae,(fx vC ar),ae,aq⟩ Tryz.func105 rfl (by kernel_rfl))
theorem ajI:TOk adc vg:=az (E:=ade) (ET:=ajK) (EnvT.ofX (ax al) am (jS ap rfl) aL (j4 aas rfl rfl rfl an)) ajJ rfl
def ad8:Go.Shelf.Ren:=⟨fun | 41=>182 | n=>n,fun | 22=>39 | 23=>82 | 4=>4 | n=>n,fun | n=>n⟩
theorem yN:Go.Proofs.SlLaysE0.n41 Tryz.prog ad8:={
 mixed:=by kernel_rfl
 f41:=⟨Tryz.f182.name,by decide,Tryz.func182.trans (congrArg some (by kernel_rfl))⟩
 t4:=Tryz.underlying4
 a4:=Tryz.isAgg4
 z4:=Tryz.sizeOf4
 v4:=Tryz.zeroValue4
 t22:=Tryz.underlying39
 a22:=Tryz.isAgg39
 z22:=Tryz.sizeOf39
 v22:=Tryz.zeroValue39 }
def aea:PFn:=(iU 3)
theorem ad9:aC Tryz.prog G0 182 aea:=clone_lays yN 3 ⟨Tryz.f182,Tryz.func182,rfl,by kernel_rfl⟩ (by kernel_rfl) (by kernel_rfl) (by kernel_rfl) (by kernel_rfl) (by kernel_rfl) (by decide) (fun w=>Tryz.sizeOf82 w)
def zan (a0:List vV2):Option (List vV2):=eF a0
def akZ:TFn:=eY tT12
theorem akY:TOk aea akZ:=kD rfl rfl rfl
def aeb:Go.Shelf.Ren:=⟨fun | 41=>181 | n=>n,fun | 22=>22 | 23=>78 | 4=>4 | n=>n,fun | n=>n⟩
theorem yO:Go.Proofs.SlLaysE0.n41 Tryz.prog aeb:={
 mixed:=by kernel_rfl
 f41:=⟨Tryz.f181.name,by decide,Tryz.func181.trans (congrArg some (by kernel_rfl))⟩
 t4:=Tryz.underlying4
 a4:=Tryz.isAgg4
 z4:=Tryz.sizeOf4
 v4:=Tryz.zeroValue4
 t22:=Tryz.underlying22
 a22:=Tryz.isAgg22
 z22:=Tryz.sizeOf22
 v22:=Tryz.zeroValue22 }
def aed:PFn:=(iU 6)
theorem aec:aC Tryz.prog G0 181 aed:=clone_lays yO 6 ⟨Tryz.f181,Tryz.func181,rfl,by kernel_rfl⟩ (by kernel_rfl) (by kernel_rfl) (by kernel_rfl) (by kernel_rfl) (by kernel_rfl) (by decide) (fun w=>Tryz.sizeOf78 w)
def zam (a0:List vV1):Option (List vV1):=eF a0
def ak1:TFn:=eY tT9
theorem ak0:TOk aed ak1:=kD rfl rfl rfl
def aee:Go.Shelf.Ren:=⟨fun | 41=>180 | n=>n,fun | 22=>64 | 23=>72 | 4=>4 | n=>n,fun | n=>n⟩
theorem yP:Go.Proofs.SlLaysE0.n41 Tryz.prog aee:={
 mixed:=by kernel_rfl
 f41:=⟨Tryz.f180.name,by decide,Tryz.func180.trans (congrArg some (by kernel_rfl))⟩
 t4:=Tryz.underlying4
 a4:=Tryz.isAgg4
 z4:=Tryz.sizeOf4
 v4:=Tryz.zeroValue4
 t22:=Tryz.underlying64
 a22:=Tryz.isAgg64
 z22:=Tryz.sizeOf64
 v22:=Tryz.zeroValue64 }
def aeg:PFn:=(iU 2)
theorem aef:aC Tryz.prog G0 180 aeg:=clone_lays yP 2 ⟨Tryz.f180,Tryz.func180,rfl,by kernel_rfl⟩ (by kernel_rfl) (by kernel_rfl) (by kernel_rfl) (by kernel_rfl) (by kernel_rfl) (by decide) (fun w=>Tryz.sizeOf72 w)
def zal (a0:List (Int×Int×Unit)):Option (List (Int×Int×Unit)):=eF a0
def ak3:TFn:=eY tT11
theorem ak2:TOk aeg ak3:=kD rfl rfl rfl
def acT:Env:=(eZ [(180,aeg),(181,aed),(182,aea)] [274])
def ajh:Hints:=(hZ [(6,[1,2,26,27])] [])
def acS:PFn:=aE (runF Tryz.prog acT ajh Tryz.f107)
def anK:TH:={ loops:=[(6,{ keep:=[(1,(.bx 0 0)),(2,(.bx 1 0)),(27,(.int .i64))],mem:=[.box 69 tT10,.box 69 (.agg (.cons .nilsl (.cons .nilsl (.cons tT17 (.cons tT17 (.cons (.arr 8 .nilsl) .unit))))))] })],ro:=[] }
def aje (a0:vV0) (y6:(Int×vV0×(Unit×Unit×vV7×vV7×List Unit×Unit)×Unit)):Option ((Int×vV0×(Unit×Unit×vV7×vV7×List Unit×Unit)×Unit)⊕vV0) :=
 cond (decide (y6.1<8)) (
(atI a0.2.2.2.2.1 y6.1).bind fun x5 =>
(zal x5).bind fun r6 =>
(inI 8 y6.1).bind fun i7 =>
(y6.2.1.2.2.2.2.1[i7]?).bind fun x8 =>
 some (.inl ((IntKind.wrap .i64 (y6.1+1)),(y6.2.1.1,y6.2.1.2.1,y6.2.1.2.2.1,y6.2.1.2.2.2.1,(y6.2.1.2.2.2.2.1.set i7 r6),()),y6.2.2.1,()))) (
 some (.inr y6.2.1))
def zbj (a0:vV0):Option vV0 :=
(zam a0.1).bind fun r1 =>
(zan a0.2.1).bind fun r2 =>
(zal a0.2.2.1.2.1).bind fun r3 =>
(zal a0.2.2.2.1.2.1).bind fun r4 =>
 aM (aje a0) (0,(r1,r2,(a0.2.2.1.1,r3,()),(a0.2.2.2.1.1,r4,()),a0.2.2.2.2.1,()),((),(),([0,0,0,0,0,0,0,0,0,0,0,0,0,0,0,0],(),()),([0,0,0,0,0,0,0,0,0,0,0,0,0,0,0,0],(),()),[(),(),(),(),(),(),(),()],()),())
def uX:TFn:={ ps:=(.cons tT10 .unit),res:=tT10,fn:=fun v=>zbj v.1 }
def ajg:TEnv:=(vZ [(180,ak3),(181,ak1),(182,akZ)])
theorem ajf:runY Tryz.prog acT ajh ajg anK Tryz.f107 uX.ps uX.res=uX.fn:=by kernel_rfl
theorem acR:aC Tryz.prog G0 107 acS:=ah (ak ⟨ay,(ai aef (ai aec (ai ad9 ae))),ar,ae,aq⟩ Tryz.func107 rfl (by kernel_rfl))
theorem ajd:TOk acS uX:=az (E:=acT) (ET:=ajg) (EnvT.ofX (ax (ac ak2 (ac ak0 (ac akY al)))) am ap aL an) ajf rfl
def acn:Env:=(eZ [(97,yw),(104,acB),(105,adc),(107,acS)] [274])
def aiw:Hints:=(hZ [] [])
def yD:PFn:=aE (runF Tryz.prog acn aiw Tryz.f40)
def anx:TH:={ loops:=[],ro:=[3] }
def zbv (a0:vV0) (a1:vV5):Option vV0 :=
 cond (decide (a1.1=1)) (
(zcw a0 a1.2.1).bind fun r1 =>
(inI 8 a1.2.1.2.1).bind fun i2 =>
(r1.2.2.2.2.1[i2]?).bind fun x3 =>
 some (r1.1,r1.2.1,r1.2.2.1,r1.2.2.2.1,(r1.2.2.2.2.1.set i2 []),())) (
 cond (decide (a1.1=2)) (
(zbq a0 ([a1.2.2.2.1]:List vV2)).bind fun r4 =>
(inI 8 a1.2.2.1).bind fun i5 =>
(r4.2.2.2.2.1[i5]?).bind fun x6 =>
(zbb x6 a1).bind fun r7 =>
(inI 8 a1.2.2.1).bind fun i8 =>
(r4.2.2.2.2.1[i8]?).bind fun x9 =>
 some (r4.1,r4.2.1,r4.2.2.1,r4.2.2.2.1,(r4.2.2.2.2.1.set i8 r7),())) (
 cond (decide (a1.1=3)) (
 none) (
 cond (decide (a1.1=4)) (
(zbj a1.2.2.2.2.2.2.1).bind fun r10 =>
 some r10) (
 some a0))))
def sC:TFn:={ ps:=(.cons tT10 (.cons tT15 .unit)),res:=tT10,fn:=fun v=>zbv v.1 v.2.1 }
def aiv:TEnv:={ pure:=[(97,ss),(104,uQ),(105,vg),(107,uX)],look:=[],glob:=G0T,ty:=[(82,tT12)],raw:=[],fresh:=[] }
theorem aiu:runY Tryz.prog acn aiw aiv anx Tryz.f40 sC.ps sC.res=sC.fn:=by kernel_rfl
theorem uL:aC Tryz.prog G0 40 yD:=ah (ak ⟨ay,(ai tQ (ai acA (ai adb (ai acR ae)))),ar,ae,aq⟩ Tryz.func40 rfl (by kernel_rfl))
theorem aam:TOk yD sC:=az (E:=acn) (ET:=aiv) (EnvT.ofX (ax (ac aaf (ac aiN (ac ajI (ac ajd al))))) am ap aL an) aiu rfl
def aci:Env:=(eZ [(75,yA),(100,yx)] [274])
def aim:Hints:=(hZ [(5,[2,4,6,7])] [])
def ach:PFn:=aE (runF Tryz.prog aci aim Tryz.f44)
def anu:TH:={ loops:=[(5,{ keep:=[(2,(.bx 0 0)),(4,(.bx 1 0)),(7,(.int .i64))],mem:=[.box 69 tT10,.box 72 tT11] })],ro:=[] }
def uI (x2:List (Int×Int×Unit)) (y5:(Int×vV0×(Int×Int×Unit)×Unit)):Option ((Int×vV0×(Int×Int×Unit)×Unit)⊕vV2) :=
 cond (decide (y5.1≥0)) (
(atI x2 y5.1).bind fun x3 =>
(zcf y5.2.1.2.1 x3).bind fun r4 =>
 cond r4 (
 some (.inl ((IntKind.wrap .i64 (y5.1-1)),y5.2.1,y5.2.2.1,()))) (
(atI x2 y5.1).bind fun x5 =>
(zcp y5.2.1 x5).bind fun r6 =>
 cond (!decide (r6=0)) (
 some (.inr ((0,0,()),r6,()))) (
(atI x2 y5.1).bind fun x7 =>
 some (.inr (x7,0,()))))) (
 some (.inr ((0,0,()),11,())))
def zby (a0:vV0) (a1:Int):Option vV2 :=
 cond (decide (a1<0)) (some ((0,0,()),2,())) (cond (decide (a1≥8)) (
 some ((0,0,()),2,())) (
(inI 8 a1).bind fun i1 =>
(a0.2.2.2.2.1[i1]?).bind fun x2 =>
 aM (uI x2) ((IntKind.wrap .i64 ((x2.length:Int)-1)),a0,(0,0,()),())))
def uJ:TFn:={ ps:=(.cons tT10 tT18),res:=(.tup (.cons tT11 tT18)),fn:=fun v=>zby v.1 v.2.1 }
def ail:TEnv:=(vZ [(75,sy),(100,sv)])
theorem aik:runY Tryz.prog aci aim ail anu Tryz.f44 uJ.ps uJ.res=uJ.fn:=by kernel_rfl
theorem acg:aC Tryz.prog G0 44 ach:=ah (ak ⟨ay,(ai un (ai tZ ae)),ar,ae,aq⟩ Tryz.func44 rfl (by kernel_rfl))
theorem aij:TOk ach uJ:=az (E:=aci) (ET:=ail) (EnvT.ofX (ax (ac aaj (ac aag al))) am ap aL an) aik rfl
def aeO:Env:=(eZ [(35,yz),(39,yC),(40,yD),(44,ach),(97,yw),(98,aa5)] [274])
def alQ:Hints:=(hZ [] [])
def aeN:PFn:=aE (runF Tryz.prog aeO alQ Tryz.f34)
def aom:TH:={ loops:=[],cuts:=[(7,[(7,{ keep:=[(2,(.bx 1 0)),(7,(.bx 4 0)),(46,.bool)],mem:=[.gone,.box 72 tT11,.gone,.gone,.box 72 tT11,.gone] }),(4,{ keep:=[(2,(.bx 1 0)),(7,(.bx 4 0)),(50,.bool)],mem:=[.gone,.box 72 tT11,.gone,.gone,.box 72 tT11,.gone] })])],ro:=[],news:=[] }
def za9:Option Bool :=
(zcs 1).bind fun r1 =>
(zcw ([],[],([0,0,0,0,0,0,0,0,0,0,0,0,0,0,0,0],[],()),([0,0,0,0,0,0,0,0,0,0,0,0,0,0,0,0],[],()),[[],[],[],[],[],[],[],[]],()) r1).bind fun r2 =>
(zcs 2).bind fun r3 =>
(zcw r2 r3).bind fun r4 =>
(zcg r4 1).bind fun r5 =>
(zca r4 1 r5.1 1).bind fun r6 =>
(zbv r4 r6.1).bind fun r7 =>
(zby r7 1).bind fun r8 =>
(zcg r4 0).bind fun r9 =>
(cond (decide (r5.2.1=0)) (some ((decide (r5.1.2.1=2)),r5.1,r8.1,())) (some (false,r5.1,r8.1,())):Option (Bool×(Int×Int×Unit)×(Int×Int×Unit)×Unit)).bind fun v10 =>
(cond v10.1 (some ((decide (r6.2.1=0)),v10.2.1,v10.2.2.1,())) (some (false,v10.2.1,v10.2.2.1,())):Option (Bool×(Int×Int×Unit)×(Int×Int×Unit)×Unit)).bind fun v11 =>
 cond v11.1 (cond (decide (r8.2.1=0)) (cond (eqV tT11 v11.2.2.1 v11.2.1) (some (decide (r9.2.1=11))) (some false)) (some false)) (some false)
def vN:TFn:={ ps:=.unit,res:=.bool,fn:=fun v=>za9  }
def alP:TEnv:=(vZ [(35,sx),(39,sB),(40,sC),(44,uJ),(97,ss),(98,tW)])
theorem alO:runY Tryz.prog aeO alQ alP aom Tryz.f34 vN.ps vN.res=vN.fn:=by kernel_rfl
theorem aeM:aC Tryz.prog G0 34 aeN:=ah (ak ⟨ay,(ai uj (ai uu (ai uL (ai acg (ai tQ (ai aa4 ae)))))),ar,ae,aq⟩ Tryz.func34 rfl (by kernel_rfl))
theorem alN:TOk aeN vN:=az (E:=aeO) (ET:=alP) (EnvT.ofX (ax (ac aai (ac aal (ac aam (ac aij (ac aaf (ac agu al))))))) am ap aL an) alO rfl
def adr:Env:=(eZ [] [274])
def aj4:Hints:=(hZ [(2,[0,3,5])] [])
def adq:PFn:=aE (runF Tryz.prog adr aj4 Tryz.f36)
def anX:TH:={ loops:=[(2,{ keep:=[(3,(.bx 0 0)),(5,(.int .i64))],mem:=[.same] })],ro:=[3] }
def qM (a0:List vV1) (a1:(Int×Int×Unit)) (y2:(Int×Unit)):Option ((Int×Unit)⊕Int) :=
 cond (decide (y2.1<(a0.length:Int))) (
(atI a0 y2.1).bind fun x1 =>
 cond (eqV tT11 x1.1 a1) (
 some (.inr y2.1)) (
 some (.inl ((IntKind.wrap .i64 (y2.1+1)),())))) (
 some (.inr (-1)))
def zb6 (a0:List vV1) (a1:(Int×Int×Unit)):Option Int :=
 aM (qM a0 a1) (0,())
def vm:TFn:={ ps:=(.cons (.sl tT9) (.cons tT11 .unit)),res:=(.int .i64),fn:=fun v=>zb6 v.1 v.2.1 }
def aj3:TEnv:=(vZ [])
theorem aj2:runY Tryz.prog adr aj4 aj3 anX Tryz.f36 vm.ps vm.res=vm.fn:=by kernel_rfl
theorem adp:aC Tryz.prog G0 36 adq:=ah (ak ⟨ay,ae,ar,ae,aq⟩ Tryz.func36 rfl (by kernel_rfl))
theorem aj1:TOk adq vm:=az (E:=adr) (ET:=aj3) (EnvT.ofX (ax al) am ap aL an) aj2 rfl
def abt:Env:=(eZ [] [274])
def ag6:Hints:=(hZ [(2,[0,3,5])] [])
def abs:PFn:=aE (runF Tryz.prog abt ag6 Tryz.f48)
def am9:TH:={ loops:=[(2,{ keep:=[(3,(.bx 0 0)),(5,(.int .i64))],mem:=[.same] })],ro:=[3] }
def nZ (a0:List vV2) (a1:(Int×Int×Unit)) (y2:(Int×Unit)):Option ((Int×Unit)⊕Int) :=
 cond (decide (y2.1<(a0.length:Int))) (
(atI a0 y2.1).bind fun x1 =>
 cond (eqV tT11 x1.1 a1) (
(atI a0 y2.1).bind fun x2 =>
 some (.inr x2.2.1)) (
 some (.inl ((IntKind.wrap .i64 (y2.1+1)),())))) (
 some (.inr 0))
def zcj (a0:List vV2) (a1:(Int×Int×Unit)):Option Int :=
 aM (nZ a0 a1) (0,())
def uh:TFn:={ ps:=(.cons (.sl tT12) (.cons tT11 .unit)),res:=(.int .i64),fn:=fun v=>zcj v.1 v.2.1 }
def ag5:TEnv:=(vZ [])
theorem ag4:runY Tryz.prog abt ag6 ag5 am9 Tryz.f48 uh.ps uh.res=uh.fn:=by kernel_rfl
theorem abr:aC Tryz.prog G0 48 abs:=ah (ak ⟨ay,ae,ar,ae,aq⟩ Tryz.func48 rfl (by kernel_rfl))
theorem ag3:TOk abs uh:=az (E:=abt) (ET:=ag5) (EnvT.ofX (ax al) am ap aL an) ag4 rfl
def acl:Env:=(eZ [(48,abs)] [274])
def aiq:Hints:=(hZ [] [])
def ack:PFn:=aE (runF Tryz.prog acl aiq Tryz.f37)
def anv:TH:={ loops:=[],ro:=[3] }
def zbx (a0:List vV2) (a1:(Int×Int×Unit)):Option Bool :=
(zcj a0 a1).bind fun r1 =>
(remT r1 2).bind fun t2 =>
 some (decide (t2=0))
def uK:TFn:={ ps:=(.cons (.sl tT12) (.cons tT11 .unit)),res:=.bool,fn:=fun v=>zbx v.1 v.2.1 }
def aip:TEnv:=(vZ [(48,uh)])
theorem aio:runY Tryz.prog acl aiq aip anv Tryz.f37 uK.ps uK.res=uK.fn:=by kernel_rfl
theorem acj:aC Tryz.prog G0 37 ack:=ah (ak ⟨ay,(ai abr ae),ar,ae,aq⟩ Tryz.func37 rfl (by kernel_rfl))
theorem ain:TOk ack uK:=az (E:=acl) (ET:=aip) (EnvT.ofX (ax (ac ag3 al)) am ap aL an) aio rfl
def adM:Env:=(eZ [(101,od)] [274])
def akB:Hints:=(hZ [] [])
def adL:PFn:=aE (runF Tryz.prog adM akB Tryz.f38)
def an6:TH:={ loops:=[],ro:=[2,3] }
def zax (a0:vV1) (a1:vV1):Option Int :=
 cond (decide (a0.2.2.1<a1.2.2.1)) (
 some (-1)) (
 cond (decide (a0.2.2.1>a1.2.2.1)) (
 some 1) (
(zaz a0.1 a1.1).bind fun r1 =>
 some r1))
def vx:TFn:={ ps:=(.cons tT9 (.cons tT9 .unit)),res:=(.int .i64),fn:=fun v=>zax v.1 v.2.1 }
def akA:TEnv:=(vZ [(101,kT)])
theorem akz:runY Tryz.prog adM akB akA an6 Tryz.f38 vx.ps vx.res=vx.fn:=by kernel_rfl
theorem adK:aC Tryz.prog G0 38 adL:=ah (ak ⟨ay,(ai ib ae),ar,ae,aq⟩ Tryz.func38 rfl (by kernel_rfl))
theorem aky:TOk adL vx:=az (E:=adM) (ET:=akA) (EnvT.ofX (ax (ac lq al)) am ap aL an) akz rfl
def adU:Env:=(eZ [(33,adt),(34,aeN),(35,yz),(36,adq),(37,ack),(38,adL),(39,yC),(40,yD)] [274])
def akP:Hints:=(hZ [(10,[1,2,5,7,8])] [])
def akQ:PFn:=aE (runF Tryz.prog adU akP Tryz.f6)
def aoa:TH:={ joins:=[(14,{ keep:=[(2,(.bx 0 0)),(5,(.bx 1 0))],mem:=[.same,.box 72 tT11] })],loops:=[(10,{ keep:=[(2,(.bx 0 0)),(5,(.bx 1 0)),(8,(.int .i64))],mem:=[.same,.box 72 tT11] })],cuts:=[(12,[(19,{ keep:=[(2,(.bx 0 0)),(5,(.bx 1 0)),(83,.bool)],mem:=[.same,.box 72 tT11] })])],ro:=[2],news:=[] }
def jx (a0:vV0) (a1:Int) (r7:Int) (y10:(Int×(Int×Int×Unit)×Unit)):Option ((Int×(Int×Int×Unit)×Unit)⊕(((Int×Int×Unit)×Unit)⊕Bool)) :=
 cond (decide (y10.1<(a0.1.length:Int))) (
((atI a0.1 y10.1).bind fun x10 =>
 cond (decide (x10.2.1=a1)) ((atI a0.1 y10.1).bind fun x11 =>
(zbx a0.2.1 x11.1).bind fun r12 =>
 some (r12,y10.2.1,())) (some (false,y10.2.1,())):Option (Bool×(Int×Int×Unit)×Unit)).bind fun v13 =>
 cond v13.1 ((atI a0.1 y10.1).bind fun x14 =>
(atI a0.1 r7).bind fun x15 =>
(zax x14 x15).bind fun r16 =>
 cond (decide (r16>0)) (
 some (.inr (.inr false))) (
 some (.inl ((IntKind.wrap .i64 (y10.1+1)),v13.2.1,())))) (some (.inl ((IntKind.wrap .i64 (y10.1+1)),v13.2.1,())))) (
 some (.inr (.inl (y10.2.1,()))))
def zat (a0:vV0) (a1:Int):Option Bool :=
(zb5 a0).bind fun r1 =>
 cond (!r1) ((za9).bind fun r2 =>
 some r2) (cond (decide (a1<0)) ((za9).bind fun r3 =>
 some r3) (cond (decide (a1≥8)) (
(za9).bind fun r4 =>
 some r4) (
(zcg a0 a1).bind fun r5 =>
 cond (!decide (r5.2.1=0)) (
(za9).bind fun r6 =>
 some r6) (
(zb6 a0.1 r5.1).bind fun r7 =>
 cond (decide (r7<0)) (some false) ((atI a0.1 r7).bind fun x8 =>
 cond (!decide (x8.2.1=a1)) (some false) ((zbx a0.2.1 r5.1).bind fun r9 =>
 cond (!r9) (
 some false) (
(aM (jx a0 a1 r7) (0,r5.1,()):Option (((Int×Int×Unit)×Unit)⊕Bool)).bind (bQ fun v17 =>
(zca a0 a1 v17.1 1).bind fun r18 =>
(zbv a0 r18.1).bind fun r19 =>
(zcg r19 a1).bind fun r20 =>
 cond (!decide (r20.2.1=0)) (
(za9).bind fun r21 =>
 some r21) (
(zb6 a0.1 r20.1).bind fun r22 =>
 cond (decide (r22≥0)) ((atI a0.1 r22).bind fun x23 =>
(atI a0.1 r7).bind fun x24 =>
(zax x23 x24).bind fun r25 =>
 cond (decide (r25<0)) ((za9).bind fun r26 =>
 some r26) (some false)) (some false))))))))))
def pJ:TFn:={ ps:=(.cons tT10 tT18),res:=.bool,fn:=fun v=>zat v.1 v.2.1 }
def akO:TEnv:=(vZ [(33,vn),(34,vN),(35,sx),(36,vm),(37,uK),(38,vx),(39,sB),(40,sC)])
theorem akN:runY Tryz.prog adU akP akO aoa Tryz.f6 pJ.ps pJ.res=pJ.fn:=by kernel_rfl
theorem zat_Fok:aC Tryz.prog G0 6 akQ:=ah (ak ⟨ay,(ai ads (ai aeM (ai uj (ai adp (ai acj (ai adK (ai uu (ai uL ae)))))))),ar,ae,aq⟩ Tryz.func6 rfl (by kernel_rfl))
theorem zat_ok:TOk akQ pJ:=az (E:=adU) (ET:=akO) (EnvT.ofX (ax (ac aj5 (ac alN (ac aai (ac aj1 (ac ain (ac aky (ac aal (ac aam al))))))))) am ap aL an) akN rfl
def dG (a0:vV0) (y3:(Int×Int×Unit)):Option ((Int×Int×Unit)⊕Int) :=
 cond (decide (y3.2.1<(a0.1.length:Int))) (
(atI a0.1 y3.2.1).bind fun x1 =>
 some (.inl ((max y3.1 x1.2.2.1),(IntKind.wrap .i64 (y3.2.1+1)),()))) (
 some (.inr y3.1))
def ig (a0:vV0):Option Int :=
 aM (dG a0) (0,0,())
def bP (a0:vV0) (y4:(Int×vV1×Unit)):Option ((Int×vV1×Unit)⊕((vV1×Unit)⊕Bool)) :=
 cond (decide (y4.1<(a0.2.1.length:Int))) (
(atI a0.2.1 y4.1).bind fun x9 =>
 cond (eqV tT11 x9.1 y4.2.1.1) (
(za9).bind fun r10 =>
 some (.inr (.inr r10))) (
 some (.inl ((IntKind.wrap .i64 (y4.1+1)),y4.2.1,())))) (
 some (.inr (.inl (y4.2.1,()))))
def cO (a0:vV0) (a1:vV1):Option Bool :=
((zb5 a0).bind fun r1 =>
 cond (!r1) (some (true,a1,())) ((zbg a1).bind fun r2 =>
 some ((!r2),a1,())):Option (Bool×vV1×Unit)).bind fun v3 =>
 cond v3.1 ((za9).bind fun r4 =>
 some r4) ((zbp v3.2.1).bind fun r5 =>
 cond (!decide (r5=0)) ((za9).bind fun r6 =>
 some r6) ((zb6 a0.1 v3.2.1.1).bind fun r7 =>
 cond (decide (r7≥0)) (
(za9).bind fun r8 =>
 some r8) (
(aM (bP a0) (0,v3.2.1,()):Option ((vV1×Unit)⊕Bool)).bind (bQ fun v11 =>
(ig a0).bind fun r12 =>
 cond (decide (r12≥1099511627776)) (
(za9).bind fun r13 =>
 some r13) (
(zbv a0 (1,(v11.1.1,v11.1.2.1,(IntKind.wrap .i64 (r12+1)),v11.1.2.2.2.1,v11.1.2.2.2.2.1,()),0,((0,0,()),0,()),0,([],[],[],()),([],[],([0,0,0,0,0,0,0,0,0,0,0,0,0,0,0,0],[],()),([0,0,0,0,0,0,0,0,0,0,0,0,0,0,0,0],[],()),[[],[],[],[],[],[],[],[]],()),())).bind fun r14 =>
(zcg (r14.1,r14.2.1,r14.2.2.1,([0,0,0,0,0,0,0,0,0,0,0,0,0,0,0,0],[],()),r14.2.2.2.2.1,()) v11.1.2.1).bind fun r15 =>
(zby (r14.1,r14.2.1,r14.2.2.1,([0,0,0,0,0,0,0,0,0,0,0,0,0,0,0,0],[],()),r14.2.2.2.2.1,()) v11.1.2.1).bind fun r16 =>
 cond (decide (r15.2.1=0)) (cond (eqV tT11 r15.1 v11.1.1) (cond (decide (r16.2.1=11)) ((za9).bind fun r17 =>
 some r17) (some false)) (some false)) (some false))))))
def ct:TFn:={ ps:=(.cons tT10 (.cons tT9 .unit)),res:=.bool,fn:=fun v=>cO v.1 v.2.1 }
def cB (y7:vV8) (x3:vV3) (y10:vV8):Option (vV8⊕(vV8⊕(vV8⊕(List (vV2×Bool))))) :=
 cond (decide (y10.1<(x3.2.2.2.2.1.length:Int))) (
(atI x3.2.2.2.2.1 y10.1).bind fun x4 =>
 some (.inl ((IntKind.wrap .i64 (y10.1+1)),(putK tT12 x4 true y10.2.1),()))) (
 some (.inr (.inl ((IntKind.wrap .i64 (y7.1+1)),y10.2.1,()))))
def cM (y3:vV8) (x1:vV1) (y7:vV8):Option (vV8⊕(vV8⊕(List (vV2×Bool)))) :=
 cond (decide (y7.1<(x1.2.2.2.2.1.length:Int))) (
(atI x1.2.2.2.2.1 y7.1).bind fun x3 =>
 aM (cB y7 x3) (0,y7.2.1,())) (
 some (.inr (.inl ((IntKind.wrap .i64 (y3.1+1)),y7.2.1,()))))
def cN (a0:List vV1) (a1:List vV2) (y3:vV8):Option (vV8⊕(List (vV2×Bool))) :=
 cond (decide (y3.1<(a0.length:Int))) (
(atI a0 y3.1).bind fun x1 =>
(zcf a1 x1.1).bind fun r2 =>
 cond (!r2) (
 some (.inl ((IntKind.wrap .i64 (y3.1+1)),y3.2.1,()))) (
 aM (cM y3 x1) (0,y3.2.1,()))) (
 some (.inr y3.2.1))
def fw (a0:List vV1) (a1:List vV2):Option (List (vV2×Bool)) :=
 aM (cN a0 a1) (0,[],())
def eO (y4:(Int×List (vV2×Bool)×List vV6×Unit)) (x2:vV1) (y8:(Int×List (vV2×Bool)×List vV6×vV1×Unit)):Option ((Int×List (vV2×Bool)×List vV6×vV1×Unit)⊕((Int×List (vV2×Bool)×List vV6×Unit)⊕List vV6)) :=
 cond (decide (y8.1<(x2.2.2.2.2.1.length:Int))) (
(atI x2.2.2.2.2.1 y8.1).bind fun x4 =>
 cond (decide (x4.1=1)) (cond (!((getK tT12 false (y8.2.2.2.1.1,y8.1,()) y8.2.1).1)) (
(dO (y8.2.2.1.length+([((y8.2.2.2.1.1,y8.1,()),x4,y8.2.2.2.1.2.2.1,())]:List vV6).length)).bind fun u5 =>
 some (.inl ((IntKind.wrap .i64 (y8.1+1)),y8.2.1,(y8.2.2.1++([((y8.2.2.2.1.1,y8.1,()),x4,y8.2.2.2.1.2.2.1,())]:List vV6)),y8.2.2.2.1,()))) (
 some (.inl ((IntKind.wrap .i64 (y8.1+1)),y8.2.1,y8.2.2.1,y8.2.2.2.1,())))) (cond (decide (x4.1=2)) (cond (!((getK tT12 false (y8.2.2.2.1.1,y8.1,()) y8.2.1).1)) (
(dO (y8.2.2.1.length+([((y8.2.2.2.1.1,y8.1,()),x4,y8.2.2.2.1.2.2.1,())]:List vV6).length)).bind fun u6 =>
 some (.inl ((IntKind.wrap .i64 (y8.1+1)),y8.2.1,(y8.2.2.1++([((y8.2.2.2.1.1,y8.1,()),x4,y8.2.2.2.1.2.2.1,())]:List vV6)),y8.2.2.2.1,()))) (
 some (.inl ((IntKind.wrap .i64 (y8.1+1)),y8.2.1,y8.2.2.1,y8.2.2.2.1,())))) (cond (decide (x4.1=3)) (cond (!((getK tT12 false (y8.2.2.2.1.1,y8.1,()) y8.2.1).1)) (
(dO (y8.2.2.1.length+([((y8.2.2.2.1.1,y8.1,()),x4,y8.2.2.2.1.2.2.1,())]:List vV6).length)).bind fun u7 =>
 some (.inl ((IntKind.wrap .i64 (y8.1+1)),y8.2.1,(y8.2.2.1++([((y8.2.2.2.1.1,y8.1,()),x4,y8.2.2.2.1.2.2.1,())]:List vV6)),y8.2.2.2.1,()))) (
 some (.inl ((IntKind.wrap .i64 (y8.1+1)),y8.2.1,y8.2.2.1,y8.2.2.2.1,())))) (some (.inl ((IntKind.wrap .i64 (y8.1+1)),y8.2.1,y8.2.2.1,y8.2.2.2.1,())))))) (
 some (.inr (.inl ((IntKind.wrap .i64 (y4.1+1)),y8.2.1,y8.2.2.1,()))))
def eP (a0:List vV1) (a1:List vV2) (y4:(Int×List (vV2×Bool)×List vV6×Unit)):Option ((Int×List (vV2×Bool)×List vV6×Unit)⊕List vV6) :=
 cond (decide (y4.1<(a0.length:Int))) (
(atI a0 y4.1).bind fun x2 =>
(zcf a1 x2.1).bind fun r3 =>
 cond (!r3) (
 some (.inl ((IntKind.wrap .i64 (y4.1+1)),y4.2.1,y4.2.2.1,()))) (
 aM (eO y4 x2) (0,y4.2.1,y4.2.2.1,x2,()))) (
 some (.inr y4.2.2.1))
def nw (a0:List vV1) (a1:List vV2):Option (List vV6) :=
(fw a0 a1).bind fun n1 =>
 aM (eP a0 a1) (0,n1,[],())
def gl (a0:vV0):Option (List vV6) :=
(nw a0.1 a0.2.1).bind fun r1 =>
 some r1
def aV (a0:List (List UInt8)) (a1:List (List UInt8)) (y4:(Int×Unit)):Option ((Int×Unit)⊕Bool) :=
 cond (decide (y4.1<(a0.length:Int))) (
(atI a0 y4.1).bind fun x1 =>
(atI a1 y4.1).bind fun x2 =>
 cond (!decide (x1=x2)) (
 some (.inr false)) (
 some (.inl ((IntKind.wrap .i64 (y4.1+1)),())))) (
 some (.inr true))
def bp (a0:List (List UInt8)) (a1:List (List UInt8)):Option Bool :=
 cond (!decide ((a0.length:Int)=(a1.length:Int))) (
 some false) (
 aM (aV a0 a1) (0,()))
def aS (a0:List vV2) (a1:List vV2) (y4:(Int×Unit)):Option ((Int×Unit)⊕Bool) :=
 cond (decide (y4.1<(a0.length:Int))) (
(atI a0 y4.1).bind fun x1 =>
(atI a1 y4.1).bind fun x2 =>
 cond (!(eqV tT12 x1 x2)) (
 some (.inr false)) (
 some (.inl ((IntKind.wrap .i64 (y4.1+1)),())))) (
 some (.inr true))
def bj (a0:List vV2) (a1:List vV2):Option Bool :=
 cond (!decide ((a0.length:Int)=(a1.length:Int))) (
 some false) (
 aM (aS a0 a1) (0,()))
def wT (a0:vV3) (a1:vV3):Option Bool :=
(cond (decide (a0.1=a1.1)) (some ((eqV tT16 a0.2.2.1 a1.2.2.1),())) (some (false,())):Option (Bool×Unit)).bind fun v1 =>
(cond v1.1 (some ((decide (a0.2.2.2.1=a1.2.2.2.1)),())) (some (false,())):Option (Bool×Unit)).bind fun v2 =>
 cond v2.1 ((bp a0.2.1 a1.2.1).bind fun r3 =>
 cond r3 ((bj a0.2.2.2.2.1 a1.2.2.2.2.1).bind fun r4 =>
 some r4) (some false)) (some false)
def gv (a0:vV6) (a1:vV6):Option Bool :=
 cond (eqV tT12 a0.1 a1.1) (cond (decide (a0.2.2.1=a1.2.2.1)) ((wT a0.2.1 a1.2.1).bind fun r1 =>
 some r1) (some false)) (some false)
def aB (a0:List vV6) (a1:List vV6) (y4:(Int×Unit)):Option ((Int×Unit)⊕Bool) :=
 cond (decide (y4.1<(a0.length:Int))) (
(atI a0 y4.1).bind fun x1 =>
(atI a1 y4.1).bind fun x2 =>
(gv x1 x2).bind fun r3 =>
 cond (!r3) (
 some (.inr false)) (
 some (.inl ((IntKind.wrap .i64 (y4.1+1)),())))) (
 some (.inr true))
def aJ (a0:List vV6) (a1:List vV6) (a2:Unit):Option Bool :=
 cond (!decide ((a0.length:Int)=(a1.length:Int))) (
 some false) (
 aM (aB a0 a1) (0,()))
def ka (a0:List vV6) (a1:List vV6):Option Bool :=
(aJ a0 a1 ()).bind fun r1 =>
 some r1
def bk (y11:(Int×vV0×(Int×Int×Unit)×vV0×Unit)):Option ((Int×vV0×(Int×Int×Unit)×vV0×Unit)⊕((vV0×(Int×Int×Unit)×vV0×Unit)⊕Bool)) :=
 cond (decide (y11.1<(y11.2.1.1.length:Int))) (
(atI y11.2.1.1 y11.1).bind fun x14 =>
 cond (!(eqV tT11 x14.1 y11.2.2.1)) ((zbx y11.2.2.2.1.2.1 x14.1).bind fun r15 =>
(zbx y11.2.1.2.1 x14.1).bind fun r16 =>
 cond (!(r15==r16)) (
 some (.inr (.inr false))) (
 some (.inl ((IntKind.wrap .i64 (y11.1+1)),y11.2.1,y11.2.2.1,y11.2.2.2.1,())))) (some (.inl ((IntKind.wrap .i64 (y11.1+1)),y11.2.1,y11.2.2.1,y11.2.2.2.1,())))) (
 some (.inr (.inl (y11.2.1,y11.2.2.1,y11.2.2.2.1,()))))
def de (a0:vV0) (a1:Int):Option Bool :=
(zb5 a0).bind fun r1 =>
 cond (!r1) ((za9).bind fun r2 =>
 some r2) (cond (decide (a1<0)) ((za9).bind fun r3 =>
 some r3) (cond (decide (a1≥8)) ((za9).bind fun r4 =>
 some r4) ((inI 8 a1).bind fun i5 =>
(a0.2.2.2.2.1[i5]?).bind fun x6 =>
 cond (decide ((x6.length:Int)≥40)) (
(za9).bind fun r7 =>
 some r7) (
(zcg a0 a1).bind fun r8 =>
 cond (!decide (r8.2.1=0)) (
 cond (eqV tT11 r8.1 (0,0,())) ((za9).bind fun r9 =>
 some r9) (some false)) (
(zca a0 a1 r8.1 1).bind fun r10 =>
(zbv a0 r10.1).bind fun r11 =>
 cond (!decide (r10.2.1=0)) (some false) ((zbx r11.2.1 r8.1).bind fun r12 =>
 cond r12 (some false) ((zb6 a0.1 r8.1).bind fun r13 =>
 cond (decide (r13<0)) (
 some false) (
(aM (bk) (0,a0,r8.1,r11,()):Option ((vV0×(Int×Int×Unit)×vV0×Unit)⊕Bool)).bind (bQ fun v17 =>
(zby v17.2.2.1 a1).bind fun r18 =>
 cond (!decide (r18.2.1=0)) (
 cond (decide (r18.2.1=14)) ((zcj v17.2.2.1.2.1 v17.2.1).bind fun r19 =>
 cond (decide (r19=64)) ((za9).bind fun r20 =>
 some r20) (some false)) (some false)) (
(zca v17.2.2.1 a1 r18.1 2).bind fun r21 =>
(zbv v17.2.2.1 r21.1).bind fun r22 =>
(cond (eqV tT11 r18.1 v17.2.1) (some ((decide (r21.2.1=0)),v17.1,r22,())) (some (false,v17.1,r22,())):Option (Bool×vV0×vV0×Unit)).bind fun v23 =>
(cond v23.1 ((gl v23.2.2.1).bind fun r24 =>
(gl v23.2.1).bind fun r25 =>
(ka r24 r25).bind fun r26 =>
 some (r26,v23.2.1,v23.2.2.1,())) (some (false,v23.2.1,v23.2.2.1,())):Option (Bool×vV0×vV0×Unit)).bind fun v27 =>
 cond v27.1 ((inI 8 a1).bind fun i28 =>
(v27.2.2.1.2.2.2.2.1[i28]?).bind fun x29 =>
(inI 8 a1).bind fun i30 =>
(v27.2.1.2.2.2.2.1[i30]?).bind fun x31 =>
 cond (decide ((x29.length:Int)=(x31.length:Int))) ((za9).bind fun r32 =>
 some r32) (some false)) (some false)))))))))))
def cG:TFn:={ ps:=(.cons tT10 tT18),res:=.bool,fn:=fun v=>de v.1 v.2.1 }
end
end Go.Proofs.YtnbgkhdcidbkaaaGreatDoor.Y
