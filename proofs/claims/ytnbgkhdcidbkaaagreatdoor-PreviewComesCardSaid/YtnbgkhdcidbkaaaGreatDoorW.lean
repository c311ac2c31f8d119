import Derived.Test.YtnbgkhdcidbkaaaGreatDoorS
import Derived.Test.YtnbgkhdcidbkaaaGreatDoorT32
import GoSem.PinnedTables
set_option linter.unusedVariables false
set_option maxRecDepth 100000
namespace Go.Proofs.YtnbgkhdcidbkaaaGreatDoor.Y
open Go.EM Go.TY Go.Proofs
theorem zb.{u,v}{A:Type u}{B:Type v} (a:A) (f:A→Option B):(some a).bind f=f a:=rfl
theorem zg.{u}{A:Type u}{l:List A}{i:Nat} (h:i<l.length):l[i]? = some l[i]:=qAF h
theorem zl.{u}{A:Type u}{a:A}{l:List A}:(a::l).length=l.length+1:=rfl
theorem zf {p:Prop} [Decidable p] (h:¬p):decide p=false:=decide_eq_false h
theorem zn.{u}{c:Prop}{h:Decidable c} (hc:¬c) {A:Sort u}{t e:A}:ite c t e=e:=if_neg hc
theorem zp.{u}{c:Prop}{h:Decidable c} (hc:c) {A:Sort u}{t e:A}:ite c t e=t:=if_pos hc
theorem zm.{u}{A:Type u}{l:List A}{n:Nat} (h:n<l.length):l[n]∈l:=qCK h
theorem zt {p:Prop} [Decidable p] (h:p):decide p=true:=decide_eq_true h
noncomputable section
def wJ:List Int:=Go.Pinned.utf8FirstZ.map fun (n:Nat)=>(n:Int)
def rC:List (Int×Int×Unit):=[(128,191,()),(160,191,()),(128,159,()),(144,191,()),(128,143,()),(0,0,()),(0,0,()),(0,0,()),(0,0,()),(0,0,()),(0,0,()),(0,0,()),(0,0,()),(0,0,()),(0,0,()),(0,0,())]
def G0:List (Nat×AVal):=[(0,.rptr (wJ.map (AVal.int .u8))),(1,.rptr (rC.flatMap fun p=>[AVal.int .u8 p.1,AVal.int .u8 p.2.1])),(3,.rptr (Lib.pow10Tab.map (AVal.int .u64)))]
def G0T:List (Nat×TV):=[(0,⟨.rp (.arr 256 (.int .u8)) 0,wJ⟩),(1,⟨.rp (.arr 16 (.agg (.cons (.int .u8) (.cons (.int .u8) .unit)))) 0,rC⟩)]
theorem aI:jV G0 G0T:=oR rfl rfl (ad6 (by kernel_rfl)) (oR rfl rfl (zq (by kernel_rfl)) ad5)
theorem au:∀ f,memN f [274]=true→Same Tryz.prog f:=by
 intro f h;by_cases e274:f=274
 · subst e274; exact ⟨Tryz.f274,Tryz.func274,by kernel_rfl,by kernel_rfl,by kernel_rfl,by kernel_rfl⟩
 simp_all [memN]
def eZ (l:List (Nat×PFn)) (s:List Nat):Env:={ pure:=l,raw:=[],glob:=G0,same:=s,look:=[],ext:=[] }
def vZ (l:List (Nat×TFn)):TEnv:={ pure:=l,look:=[],glob:=G0T,ty:=[],raw:=[],fresh:=[] }
def hZ (l:List (Nat×List Nat)) (o:List Nat):Hints:={ seqs:=[],loops:=l,own:=o }
def yZ:TH:={ joins:=[],loops:=[],cuts:=[],ro:=[],news:=[] }
abbrev vV0:=(List ((Int×Int×Unit)×Int×Int×Bool×List (Int×List (List UInt8)×(Int×Int×List UInt8×Unit)×Int×List ((Int×Int×Unit)×Int×Unit)×Unit)×Unit)×List ((Int×Int×Unit)×Int×Unit)×(List Int×List (Int×Int×Unit)×Unit)×(List Int×List (Int×Int×Unit)×Unit)×List (List (Int×Int×Unit))×Unit)
abbrev vV1:=(Int×List (List UInt8)×(Int×Int×List UInt8×Unit)×Int×List ((Int×Int×Unit)×Int×Unit)×Unit)
abbrev vV2:=(List (List UInt8)×Int×List (Int×Int×List UInt8×Unit)×Int×Unit)
abbrev vV3:=((Int×Int×Unit)×Int×Unit)
abbrev vV4:=((Int×Int×Unit)×Int×Int×Bool×List vV1×Unit)
abbrev vV5:=(Int×Int×List UInt8×Unit)
abbrev vV6:=(List Int×List (Int×Int×Unit)×Unit)
abbrev vV7:=(List (List UInt8)×Int×Unit)
abbrev vV8:=(Int×vV2×vV2×Unit)
abbrev vV9:=(vV3×vV1×Int×Unit)
abbrev vV10:=(Int×vV4×Int×vV3×Int×(List vV4×List vV3×List (Int×Int×Unit)×Unit)×vV0×Unit)
abbrev vV11:=(List Int×Unit×Unit)
abbrev vV12:=(Bool×Unit×Unit)
abbrev vV13:=(Int×List (vV3×Bool)×Unit)
abbrev tT14:Ty:=(.agg (.cons (.sl (.agg (.cons (.agg (.cons (.int .i64) (.cons (.int .i64) .unit))) (.cons (.int .i64) (.cons (.int .i64) (.cons .bool (.cons (.sl (.agg (.cons (.int .i64) (.cons (.sl .str) (.cons (.agg (.cons (.int .i64) (.cons (.int .i64) (.cons .str .unit)))) (.cons (.int .i64) (.cons (.sl (.agg (.cons (.agg (.cons (.int .i64) (.cons (.int .i64) .unit))) (.cons (.int .i64) .unit)))) .unit))))))) .unit))))))) (.cons (.sl (.agg (.cons (.agg (.cons (.int .i64) (.cons (.int .i64) .unit))) (.cons (.int .i64) .unit)))) (.cons (.agg (.cons (.arr 16 (.int .i64)) (.cons (.sl (.agg (.cons (.int .i64) (.cons (.int .i64) .unit)))) .unit))) (.cons (.agg (.cons (.arr 16 (.int .i64)) (.cons (.sl (.agg (.cons (.int .i64) (.cons (.int .i64) .unit)))) .unit))) (.cons (.arr 8 (.sl (.agg (.cons (.int .i64) (.cons (.int .i64) .unit))))) .unit))))))
abbrev tT15:Ty:=(.agg (.cons (.int .i64) (.cons (.sl .str) (.cons (.agg (.cons (.int .i64) (.cons (.int .i64) (.cons .str .unit)))) (.cons (.int .i64) (.cons (.sl (.agg (.cons (.agg (.cons (.int .i64) (.cons (.int .i64) .unit))) (.cons (.int .i64) .unit)))) .unit))))))
abbrev tT16:Ty:=(.agg (.cons (.int .i64) (.cons (.int .i64) .unit)))
abbrev tT17:Ty:=(.agg (.cons (.sl .str) (.cons (.int .i64) (.cons (.sl (.agg (.cons (.int .i64) (.cons (.int .i64) (.cons .str .unit))))) (.cons (.int .i64) .unit)))))
abbrev tT18:Ty:=(.agg (.cons tT16 (.cons (.int .i64) (.cons (.int .i64) (.cons .bool (.cons (.sl tT15) .unit))))))
abbrev tT19:Ty:=(.agg (.cons tT16 (.cons (.int .i64) .unit)))
abbrev tT20:Ty:=(.agg (.cons (.int .i64) (.cons (.int .i64) (.cons .str .unit))))
abbrev tT21:Ty:=(.agg (.cons (.int .i64) (.cons tT17 (.cons tT17 .unit))))
abbrev tT22:Ty:=(.cons (.int .i64) .unit)
abbrev tT23:Ty:=(.agg (.cons (.arr 16 (.int .i64)) (.cons (.sl tT16) .unit)))
abbrev tT24:Ty:=(.agg (.cons (.int .i64) (.cons tT18 (.cons (.int .i64) (.cons tT19 (.cons (.int .i64) (.cons (.agg (.cons (.sl tT18) (.cons (.sl tT19) (.cons (.sl tT16) .unit)))) (.cons tT14 .unit))))))))
abbrev tT25:Ty:=(.agg (.cons tT19 (.cons tT15 tT22)))
abbrev tT26:Ty:=(.agg (.cons (.arr 16 (.int .i64)) (.cons .nilsl .unit)))
abbrev tT27:Ty:=(.agg (.cons (.op 0) (.cons (.own 1) .unit)))
abbrev tT28:Ty:=(.agg (.cons (.sl .str) tT22))
abbrev tT29:Ty:=(.agg (.cons (.op 1) (.cons (.own 0) .unit)))
def als:Env:=(eZ [] [274])
def avs:Hints:=(hZ [(4,[0,3])] [])
def alr:PFn:=aC (runF Tryz.prog als avs Tryz.f15)
def aCn:TH:={ loops:=[(4,{ keep:=[(3,(.int .i64))],mem:=[] })],ro:=[] }
def wj (a0:List (List UInt8)) (y4:(Int×Unit)):Option ((Int×Unit)⊕Bool) :=
 cond (decide (y4.1<(a0.length:Int))) (
(atI a0 y4.1).bind fun x1 =>
 cond (decide ((x1.length:Int)>120)) (
 some (.inr false)) (
 some (.inl ((IntKind.wrap .i64 (y4.1+1)),())))) (
 some (.inr true))
def zcj (a0:List (List UInt8)):Option Bool :=
 cond (decide ((a0.length:Int)>12)) (
 some false) (
 aK (wj a0) (0,()))
def abi:TFn:={ ps:=(.cons (.sl .str) .unit),res:=.bool,fn:=fun v=>zcj v.1 }
def avr:TEnv:=(vZ [])
theorem avq:runY Tryz.prog als avs avr aCn Tryz.f15 abi.ps abi.res=abi.fn:=by kernel_rfl
theorem alq:az Tryz.prog G0 15 alr:=ah (aj ⟨au,ac,ap,ac,an⟩ Tryz.func15 rfl (by kernel_rfl))
theorem avp:TOk alr abi:=ay (E:=als) (ET:=avr) (EnvT.ofX (ax al) am ar aI aq) avq rfl
def akT:Env:=(eZ [(15,alr)] [274])
def auE:Hints:=(hZ [] [])
def akS:PFn:=aC (runF Tryz.prog akT auE Tryz.f108)
def aB8:TH:={ loops:=[],ro:=[1] }
def zcx (a0:vV1):Option Bool :=
(zcj a0.2.1).bind fun r1 =>
 cond r1 (cond (decide ((a0.2.2.1.2.2.1.length:Int)≤200)) (some (decide ((a0.2.2.2.2.1.length:Int)≤300))) (some false)) (some false)
def aa7:TFn:={ ps:=(.cons tT15 .unit),res:=.bool,fn:=fun v=>zcx v.1 }
def auD:TEnv:=(vZ [(15,abi)])
theorem auC:runY Tryz.prog akT auE auD aB8 Tryz.f108 aa7.ps aa7.res=aa7.fn:=by kernel_rfl
theorem akR:az Tryz.prog G0 108 akS:=ah (aj ⟨au,(ai alq ac),ap,ac,an⟩ Tryz.func108 rfl (by kernel_rfl))
theorem auB:TOk akS aa7:=ay (E:=akT) (ET:=auD) (EnvT.ofX (ax (ae avp al)) am ar aI aq) auC rfl
def aka:Env:=(eZ [(108,akS)] [274])
def atx:Hints:=(hZ [(4,[1,3])] [])
def aj9:PFn:=aC (runF Tryz.prog aka atx Tryz.f41)
def aBR:TH:={ loops:=[(4,{ keep:=[(1,(.bx 0 0)),(3,(.int .i64))],mem:=[.same] })],ro:=[1] }
def vX (a0:vV4) (y4:(Int×Unit)):Option ((Int×Unit)⊕Bool) :=
 cond (decide (y4.1<(a0.2.2.2.2.1.length:Int))) (
(atI a0.2.2.2.2.1 y4.1).bind fun x1 =>
(zcx x1).bind fun r2 =>
 cond (!r2) (
 some (.inr false)) (
 some (.inl ((IntKind.wrap .i64 (y4.1+1)),())))) (
 some (.inr true))
def zde (a0:vV4):Option Bool :=
 cond (decide ((a0.2.2.2.2.1.length:Int)>20)) (
 some false) (
 aK (vX a0) (0,()))
def aaS:TFn:={ ps:=(.cons tT18 .unit),res:=.bool,fn:=fun v=>zde v.1 }
def atw:TEnv:=(vZ [(108,aa7)])
theorem atv:runY Tryz.prog aka atx atw aBR Tryz.f41 aaS.ps aaS.res=aaS.fn:=by kernel_rfl
theorem aj8:az Tryz.prog G0 41 aj9:=ah (aj ⟨au,(ai akR ac),ap,ac,an⟩ Tryz.func41 rfl (by kernel_rfl))
theorem atu:TOk aj9 aaS:=ay (E:=aka) (ET:=atw) (EnvT.ofX (ax (ae auB al)) am ar aI aq) atv rfl
def alh:Env:=(eZ [(41,aj9)] [274])
def avc:Hints:=(hZ [(4,[1,3]),(9,[1,4])] [])
def alg:PFn:=aC (runF Tryz.prog alh avc Tryz.f95)
def aCj:TH:={ joins:=[(8,{ keep:=[(1,(.bx 0 0))],mem:=[.box 69 tT14] })],loops:=[(4,{ keep:=[(1,(.bx 0 0)),(3,(.int .i64))],mem:=[.box 69 tT14] }),(9,{ keep:=[(1,(.bx 0 0)),(4,(.int .i64))],mem:=[.box 69 tT14] })],cuts:=[(1,[(10,{ keep:=[(1,(.bx 0 0)),(14,.bool)],mem:=[.box 69 tT14] })])],ro:=[],news:=[] }
def nN (y4:(Int×vV0×Unit)):Option ((Int×vV0×Unit)⊕((vV0×Unit)⊕Bool)) :=
 cond (decide (y4.1<(y4.2.1.1.length:Int))) (
(atI y4.2.1.1 y4.1).bind fun x2 =>
(zde x2).bind fun r3 =>
 cond (!r3) (
 some (.inr (.inr false))) (
 some (.inl ((IntKind.wrap .i64 (y4.1+1)),y4.2.1,())))) (
 some (.inr (.inl (y4.2.1,()))))
def nM (y9:(Int×vV0×Unit)):Option ((Int×vV0×Unit)⊕Bool) :=
 cond (decide (y9.1<8)) (
(inI 8 y9.1).bind fun i5 =>
(y9.2.1.2.2.2.2.1[i5]?).bind fun x6 =>
 cond (decide ((x6.length:Int)>40)) (
 some (.inr false)) (
 some (.inl ((IntKind.wrap .i64 (y9.1+1)),y9.2.1,())))) (
 some (.inr true))
def zcn (a0:vV0):Option Bool :=
(cond (decide ((a0.1.length:Int)>20)) (some (true,a0,())) (some ((decide ((a0.2.1.length:Int)>100)),a0,())):Option (Bool×vV0×Unit)).bind fun v1 =>
 cond v1.1 (some false) (cond (decide ((v1.2.1.2.2.1.2.1.length:Int)>100)) (some false) (cond (decide ((v1.2.1.2.2.2.1.2.1.length:Int)>100)) (
 some false) (
(aK (nN) (0,v1.2.1,()):Option ((vV0×Unit)⊕Bool)).bind (aZ fun v4 =>
 aK (nM) (0,v4.1,())))))
def abf:TFn:={ ps:=(.cons tT14 .unit),res:=.bool,fn:=fun v=>zcn v.1 }
def avb:TEnv:=(vZ [(41,aaS)])
theorem ava:runY Tryz.prog alh avc avb aCj Tryz.f95 abf.ps abf.res=abf.fn:=by kernel_rfl
theorem alf:az Tryz.prog G0 95 alg:=ah (aj ⟨au,(ai aj8 ac),ap,ac,an⟩ Tryz.func95 rfl (by kernel_rfl))
theorem au9:TOk alg abf:=ay (E:=alh) (ET:=avb) (EnvT.ofX (ax (ae atu al)) am ar aI aq) ava rfl
def ajT:Env:=(eZ [] [274])
def as6:Hints:=(hZ [] [])
def ae8:PFn:=aC (runF Tryz.prog ajT as6 Tryz.f172)
def aBK:TH:=yZ
def zdl (a0:Int) (a1:Int):Option Int :=
 cond (decide (a0<a1)) (
 some (-1)) (
 cond (decide (a0>a1)) (
 some 1) (
 some 0))
def xZ:TFn:={ ps:=(.cons (.int .i64) tT22),res:=(.int .i64),fn:=fun v=>zdl v.1 v.2.1 }
def as5:TEnv:=(vZ [])
theorem as4:runY Tryz.prog ajT as6 as5 aBK Tryz.f172 xZ.ps xZ.res=xZ.fn:=by kernel_rfl
theorem aaL:az Tryz.prog G0 172 ae8:=ah (aj ⟨au,ac,ap,ac,an⟩ Tryz.func172 rfl (by kernel_rfl))
theorem ahm:TOk ae8 xZ:=ay (E:=ajT) (ET:=as5) (EnvT.ofX (ax al) am ar aI aq) as4 rfl
def al9:Env:=(eZ [(172,ae8)] [274])
def awz:Hints:=(hZ [] [])
def tV:PFn:=aC (runF Tryz.prog al9 awz Tryz.f101)
def aCG:TH:={ loops:=[],ro:=[2,3] }
def zbz (a0:(Int×Int×Unit)) (a1:(Int×Int×Unit)):Option Int :=
 cond (!decide (a0.1=a1.1)) (
(zdl a0.1 a1.1).bind fun r1 =>
 some r1) (
(zdl a0.2.1 a1.2.1).bind fun r2 =>
 some r2)
def pn:TFn:={ ps:=(.cons tT16 (.cons tT16 .unit)),res:=(.int .i64),fn:=fun v=>zbz v.1 v.2.1 }
def awy:TEnv:=(vZ [(172,xZ)])
theorem awx:runY Tryz.prog al9 awz awy aCG Tryz.f101 pn.ps pn.res=pn.fn:=by kernel_rfl
theorem kT:az Tryz.prog G0 101 tV:=ah (aj ⟨au,(ai aaL ac),ap,ac,an⟩ Tryz.func101 rfl (by kernel_rfl))
theorem qX:TOk tV pn:=ay (E:=al9) (ET:=awy) (EnvT.ofX (ax (ae ahm al)) am ar aI aq) awx rfl
def akk:Env:=(eZ [(101,tV)] [274])
def atO:Hints:=(hZ [(2,[0,3])] [])
def akj:PFn:=aC (runF Tryz.prog akk atO Tryz.f152)
def aBV:TH:={ loops:=[(2,{ keep:=[(3,(.int .i64))],mem:=[] })],ro:=[] }
def wb (a0:List vV4) (y2:(Int×Unit)):Option ((Int×Unit)⊕Bool) :=
 cond (decide (y2.1<(a0.length:Int))) (
(atI a0 (IntKind.wrap .i64 (y2.1-1))).bind fun x1 =>
(atI a0 y2.1).bind fun x2 =>
(zbz x1.1 x2.1).bind fun r3 =>
 cond (!decide (r3=(-1))) (
 some (.inr false)) (
 some (.inl ((IntKind.wrap .i64 (y2.1+1)),())))) (
 some (.inr true))
def zda (a0:List vV4):Option Bool :=
 aK (wb a0) (1,())
def aaV:TFn:={ ps:=(.cons (.sl tT18) .unit),res:=.bool,fn:=fun v=>zda v.1 }
def atN:TEnv:=(vZ [(101,pn)])
theorem atL:runY Tryz.prog akk atO atN aBV Tryz.f152 aaV.ps aaV.res=aaV.fn:=by kernel_rfl
theorem aki:az Tryz.prog G0 152 akj:=ah (aj ⟨au,(ai kT ac),ap,ac,an⟩ Tryz.func152 rfl (by kernel_rfl))
theorem atK:TOk akj aaV:=ay (E:=akk) (ET:=atN) (EnvT.ofX (ax (ae qX al)) am ar aI aq) atL rfl
def ake:Env:=(eZ [] [274])
def atE:Hints:=(hZ [] [])
def pj:PFn:=aC (runF Tryz.prog ake atE Tryz.f109)
def aBT:TH:={ loops:=[],ro:=[1] }
def zdc (a0:(Int×Int×Unit)):Option Bool :=
 cond (decide (a0.1≥0)) (cond (decide (a0.1≤15)) (cond (decide (a0.2.1≥1)) (some (decide (a0.2.1≤1048576))) (some false)) (some false)) (some false)
def kQ:TFn:={ ps:=(.cons tT16 .unit),res:=.bool,fn:=fun v=>zdc v.1 }
def atD:TEnv:=(vZ [])
theorem atC:runY Tryz.prog ake atE atD aBT Tryz.f109 kQ.ps kQ.res=kQ.fn:=by kernel_rfl
theorem ig:az Tryz.prog G0 109 pj:=ah (aj ⟨au,ac,ap,ac,an⟩ Tryz.func109 rfl (by kernel_rfl))
theorem kP:TOk pj kQ:=ay (E:=ake) (ET:=atD) (EnvT.ofX (ax al) am ar aI aq) atC rfl
def aiR:Env:=(eZ [(109,pj)] [274])
def arw:Hints:=(hZ [] [])
def aiQ:PFn:=aC (runF Tryz.prog aiR arw Tryz.f224)
def aBl:TH:={ loops:=[],ro:=[1] }
def zeh (a0:vV3):Option Bool :=
(zdc a0.1).bind fun r1 =>
 cond r1 (cond (decide (a0.2.1≥1)) (some (decide (a0.2.1≤64))) (some false)) (some false)
def aan:TFn:={ ps:=(.cons tT19 .unit),res:=.bool,fn:=fun v=>zeh v.1 }
def arv:TEnv:=(vZ [(109,kQ)])
theorem aru:runY Tryz.prog aiR arw arv aBl Tryz.f224 aan.ps aan.res=aan.fn:=by kernel_rfl
theorem aiP:az Tryz.prog G0 224 aiQ:=ah (aj ⟨au,(ai ig ac),ap,ac,an⟩ Tryz.func224 rfl (by kernel_rfl))
theorem art:TOk aiQ aan:=ay (E:=aiR) (ET:=arv) (EnvT.ofX (ax (ae kP al)) am ar aI aq) aru rfl
def akh:Env:=(eZ [(101,tV),(224,aiQ)] [274])
def atJ:Hints:=(hZ [(2,[0,3])] [])
def akg:PFn:=aC (runF Tryz.prog akh atJ Tryz.f153)
def aBU:TH:={ loops:=[(2,{ keep:=[(3,(.int .i64))],mem:=[] })],ro:=[] }
def wa (a0:List vV3) (y2:(Int×Unit)):Option ((Int×Unit)⊕Bool) :=
 cond (decide (y2.1<(a0.length:Int))) (
(atI a0 y2.1).bind fun x1 =>
(zeh x1).bind fun r2 =>
 cond (!r2) (some (.inr false)) (cond (decide (y2.1>0)) ((atI a0 (IntKind.wrap .i64 (y2.1-1))).bind fun x3 =>
(atI a0 y2.1).bind fun x4 =>
(zbz x3.1 x4.1).bind fun r5 =>
 cond (!decide (r5=(-1))) (
 some (.inr false)) (
 some (.inl ((IntKind.wrap .i64 (y2.1+1)),())))) (some (.inl ((IntKind.wrap .i64 (y2.1+1)),()))))) (
 some (.inr true))
def zdb (a0:List vV3):Option Bool :=
 aK (wa a0) (0,())
def aaU:TFn:={ ps:=(.cons (.sl tT19) .unit),res:=.bool,fn:=fun v=>zdb v.1 }
def atH:TEnv:=(vZ [(101,pn),(224,aan)])
theorem atG:runY Tryz.prog akh atJ atH aBU Tryz.f153 aaU.ps aaU.res=aaU.fn:=by kernel_rfl
theorem akf:az Tryz.prog G0 153 akg:=ah (aj ⟨au,(ai kT (ai aiP ac)),ap,ac,an⟩ Tryz.func153 rfl (by kernel_rfl))
theorem atF:TOk akg aaU:=ay (E:=akh) (ET:=atH) (EnvT.ofX (ax (ae qX (ae art al))) am ar aI aq) atG rfl
def ak5:Env:=(eZ [] [274])
def auX:Hints:=(hZ [(2,[1,3])] [])
def ak4:PFn:=aC (runF Tryz.prog ak5 auX Tryz.f235)
def aCd:TH:={ loops:=[(2,{ keep:=[(1,(.bx 0 0)),(3,(.int .i64))],mem:=[.box 63 (.arr 16 (.int .i64))] })],ro:=[] }
def wg (y2:(Int×List Int×Unit)):Option ((Int×List Int×Unit)⊕Bool) :=
 cond (decide (y2.1<16)) (
(inI 16 y2.1).bind fun i1 =>
(y2.2.1[i1]?).bind fun x2 =>
 cond (decide (x2<0)) (some (.inr false)) ((inI 16 y2.1).bind fun i3 =>
(y2.2.1[i3]?).bind fun x4 =>
 cond (decide (x4>1048576)) (
 some (.inr false)) (
 some (.inl ((IntKind.wrap .i64 (y2.1+1)),y2.2.1,()))))) (
 some (.inr true))
def zcs (a0:List Int):Option Bool :=
 aK (wg) (0,a0,())
def abb:TFn:={ ps:=(.cons (.arr 16 (.int .i64)) .unit),res:=.bool,fn:=fun v=>zcs v.1 }
def auW:TEnv:=(vZ [])
theorem auV:runY Tryz.prog ak5 auX auW aCd Tryz.f235 abb.ps abb.res=abb.fn:=by kernel_rfl
theorem ak3:az Tryz.prog G0 235 ak4:=ah (aj ⟨au,ac,ap,ac,an⟩ Tryz.func235 rfl (by kernel_rfl))
theorem auU:TOk ak4 abb:=ay (E:=ak5) (ET:=auW) (EnvT.ofX (ax al) am ar aI aq) auV rfl
def aly:Env:=(eZ [(101,tV),(109,pj),(235,ak4)] [274])
def avB:Hints:=(hZ [(4,[1,3])] [])
def alx:PFn:=aC (runF Tryz.prog aly avB Tryz.f166)
def aCp:TH:={ loops:=[(4,{ keep:=[(1,(.bx 0 0)),(3,(.int .i64))],mem:=[.box 66 tT23] })],ro:=[] }
def wk (y4:(Int×vV6×Unit)):Option ((Int×vV6×Unit)⊕Bool) :=
 cond (decide (y4.1<(y4.2.1.2.1.length:Int))) (
(atI y4.2.1.2.1 y4.1).bind fun x2 =>
(zdc x2).bind fun r3 =>
 cond (!r3) (some (.inr false)) ((inI 16 x2.1).bind fun i4 =>
(y4.2.1.1[i4]?).bind fun x5 =>
 cond (decide ((IntKind.wrap .i64 (x2.2.1-1))≤x5)) (
 some (.inr false)) (
 cond (decide (y4.1>0)) ((atI y4.2.1.2.1 (IntKind.wrap .i64 (y4.1-1))).bind fun x6 =>
(zbz x6 x2).bind fun r7 =>
 cond (!decide (r7=(-1))) (
 some (.inr false)) (
 some (.inl ((IntKind.wrap .i64 (y4.1+1)),y4.2.1,())))) (some (.inl ((IntKind.wrap .i64 (y4.1+1)),y4.2.1,())))))) (
 some (.inr true))
def zch (a0:vV6):Option Bool :=
(zcs a0.1).bind fun r1 =>
 cond (!r1) (some false) (cond (decide ((a0.2.1.length:Int)>4096)) (
 some false) (
 aK (wk) (0,a0,())))
def abk:TFn:={ ps:=(.cons tT23 .unit),res:=.bool,fn:=fun v=>zch v.1 }
def avA:TEnv:=(vZ [(101,pn),(109,kQ),(235,abb)])
theorem avz:runY Tryz.prog aly avB avA aCp Tryz.f166 abk.ps abk.res=abk.fn:=by kernel_rfl
theorem alw:az Tryz.prog G0 166 alx:=ah (aj ⟨au,(ai kT (ai ig (ai ak3 ac))),ap,ac,an⟩ Tryz.func166 rfl (by kernel_rfl))
theorem avy:TOk alx abk:=ay (E:=aly) (ET:=avA) (EnvT.ofX (ax (ae qX (ae kP (ae auU al)))) am ar aI aq) avz rfl
def aju:Env:=(eZ [] [274])
def asq:Hints:=(hZ [(17,[0,4,5,6,7])] [])
def ajt:PFn:=aC (runF Tryz.prog aju asq Tryz.f216)
def aBz:TH:={ joins:=[(14,{ keep:=[(4,(.int .i64)),(5,(.int .i64)),(6,(.int .i64))],mem:=[] }),(9,{ keep:=[(18,.bool)],mem:=[] }),(22,{ keep:=[(4,(.int .i64))],mem:=[] }),(24,{ keep:=[],mem:=[] })],loops:=[(17,{ keep:=[(4,(.int .i64)),(7,(.int .i64))],mem:=[] })],ro:=[] }
def f7 (a0:List UInt8) (v3:(Int×Int×Int×Unit)) (y17:(Int×Int×Unit)):Option ((Int×Int×Unit)⊕((Int×Unit)⊕(Int×Int×Unit))) :=
 cond (decide (y17.2.1<v3.2.1)) (
(atI a0 y17.2.1).bind fun b4 =>
 cond (decide ((b4.toNat:Int)<128)) (some (.inr (.inr (0,0,())))) ((atI a0 y17.2.1).bind fun b5 =>
 cond (decide ((b5.toNat:Int)>191)) (
 some (.inr (.inr (0,0,())))) (
(atI a0 y17.2.1).bind fun b6 =>
 some (.inl ((IntKind.wrap .i64 ((IntKind.wrap .i64 ((IntKind.wrap .i64 (64*y17.1))+(IntKind.wrap .i64 (b6.toNat:Int))))-128)),(IntKind.wrap .i64 (y17.2.1+1)),()))))) (
 some (.inr (.inl (y17.1,()))))
def zdw (a0:List UInt8):Option (Int×Int×Unit) :=
 cond (decide ((a0.length:Int)=0)) (
 some (0,0,())) (
(atI a0 0).bind fun b1 =>
(cond (decide ((IntKind.wrap .i64 (b1.toNat:Int))<128)) (
 some (.inr ((IntKind.wrap .i64 (b1.toNat:Int)),1,()))) (
(cond (decide ((IntKind.wrap .i64 (b1.toNat:Int))≥194)) (some (.inl ((decide ((IntKind.wrap .i64 (b1.toNat:Int))<224)),()))) (some (.inl (false,()))):Option ((Bool×Unit)⊕((Int×Int×Int×Unit)⊕(Int×Int×Unit)))).bind (aZ fun v2 =>
 cond v2.1 (
 some (.inl ((IntKind.wrap .i64 ((IntKind.wrap .i64 (b1.toNat:Int))-192)),2,128,()))) (
 cond (decide ((IntKind.wrap .i64 (b1.toNat:Int))≥224)) (cond (decide ((IntKind.wrap .i64 (b1.toNat:Int))<240)) (
 some (.inl ((IntKind.wrap .i64 ((IntKind.wrap .i64 (b1.toNat:Int))-224)),3,2048,()))) (
 cond (decide ((IntKind.wrap .i64 (b1.toNat:Int))≥240)) (cond (decide ((IntKind.wrap .i64 (b1.toNat:Int))<245)) (
 some (.inl ((IntKind.wrap .i64 ((IntKind.wrap .i64 (b1.toNat:Int))-240)),4,65536,()))) (
 some (.inr (0,0,())))) (some (.inr (0,0,()))))) (cond (decide ((IntKind.wrap .i64 (b1.toNat:Int))≥240)) (cond (decide ((IntKind.wrap .i64 (b1.toNat:Int))<245)) (
 some (.inl ((IntKind.wrap .i64 ((IntKind.wrap .i64 (b1.toNat:Int))-240)),4,65536,()))) (
 some (.inr (0,0,())))) (some (.inr (0,0,()))))))):Option ((Int×Int×Int×Unit)⊕(Int×Int×Unit))).bind (aZ fun v3 =>
 cond (decide ((a0.length:Int)<v3.2.1)) (
 some (0,0,())) (
(aK (f7 a0 v3) (v3.1,1,()):Option ((Int×Unit)⊕(Int×Int×Unit))).bind (aZ fun v7 =>
(cond (decide (v7.1<v3.2.2.1)) (some (.inr (0,0,()))) (cond (decide (v7.1>1114111)) (some (.inr (0,0,()))) (cond (decide (v7.1≥55296)) (cond (decide (v7.1≤57343)) (
 some (.inr (0,0,()))) (
 some (.inl ()))) (some (.inl ())))):Option (Unit⊕(Int×Int×Unit))).bind (aZ fun v8 =>
 some (v7.1,v3.2.1,()))))))
def aaB:TFn:={ ps:=(.cons .str .unit),res:=(.tup (.cons (.int .i64) tT22)),fn:=fun v=>zdw v.1 }
def aso:TEnv:=(vZ [])
theorem asn:runY Tryz.prog aju asq aso aBz Tryz.f216 aaB.ps aaB.res=aaB.fn:=by kernel_rfl
theorem ajs:az Tryz.prog G0 216 ajt:=ah (aj ⟨au,ac,ap,ac,an⟩ Tryz.func216 rfl (by kernel_rfl))
theorem asm:TOk ajt aaB:=ay (E:=aju) (ET:=aso) (EnvT.ofX (ax al) am ar aI aq) asn rfl
def ak6:Env:=(eZ [(216,ajt)] [274])
def au0:Hints:=(hZ [(3,[0,4,5])] [])
def aff:PFn:=aC (runF Tryz.prog ak6 au0 Tryz.f144)
def aCe:TH:={ loops:=[(3,{ keep:=[(4,(.own 0)),(5,(.int .i64))],mem:=[.row true 3 (.int .i64)] })],ro:=[] }
def nK (a0:List UInt8) (y3:(Int×List Int×Unit)):Option ((Int×List Int×Unit)⊕(List Int×Bool×Unit)) :=
 cond (decide (y3.1<(a0.length:Int))) (
(subI a0 y3.1 (a0.length:Int)).bind fun s1 =>
(zdw s1).bind fun r2 =>
 cond (decide (r2.2.1=0)) (
 some (.inr ([],false,()))) (
(bY (y3.2.1.length+([r2.1]:List Int).length)).bind fun u3 =>
 some (.inl ((IntKind.wrap .i64 (y3.1+r2.2.1)),(y3.2.1++([r2.1]:List Int)),())))) (
 some (.inr (y3.2.1,true,())))
def zcr (a0:List UInt8):Option (List Int×Bool×Unit) :=
 aK (nK a0) (0,[],())
def ye:TFn:={ ps:=(.cons .str .unit),res:=(.tup (.cons (.sl (.int .i64)) (.cons .bool .unit))),fn:=fun v=>zcr v.1 }
def auZ:TEnv:={ pure:=[(216,aaB)],look:=[],glob:=G0T,ty:=[(3,(.int .i64))],raw:=[],fresh:=[] }
theorem auY:runY Tryz.prog ak6 au0 auZ aCe Tryz.f144 ye.ps ye.res=ye.fn:=by kernel_rfl
theorem abc:az Tryz.prog G0 144 aff:=ah (aj ⟨au,(ai ajs ac),ap,ac,an⟩ Tryz.func144 rfl (by kernel_rfl))
theorem ahr:TOk aff ye:=ay (E:=ak6) (ET:=auZ) (EnvT.ofX (ax (ae asm al)) am ar aI aq) auY rfl
def ai9:Env:=(eZ [] [274])
def arX:Hints:=(hZ [] [])
def ai8:PFn:=aC (runF Tryz.prog ai9 arX Tryz.f306)
def aBs:TH:=yZ
def zea (a0:Int):Option Bool :=
 cond (decide (a0≥32)) (cond (decide (a0<127)) (some (!decide (a0=65533))) (cond (decide (a0>159)) (some (!decide (a0=65533))) (some false))) (some false)
def aau:TFn:={ ps:=tT22,res:=.bool,fn:=fun v=>zea v.1 }
def arW:TEnv:=(vZ [])
theorem arV:runY Tryz.prog ai9 arX arW aBs Tryz.f306 aau.ps aau.res=aau.fn:=by kernel_rfl
theorem ai7:az Tryz.prog G0 306 ai8:=ah (aj ⟨au,ac,ap,ac,an⟩ Tryz.func306 rfl (by kernel_rfl))
theorem arU:TOk ai8 aau:=ay (E:=ai9) (ET:=arW) (EnvT.ofX (ax al) am ar aI aq) arV rfl
def alZ:Env:=(eZ [(144,aff),(306,ai8)] [274])
def awf:Hints:=(hZ [(3,[3,4,5])] [])
def alY:PFn:=aC (runF Tryz.prog alZ awf Tryz.f253)
def aCA:TH:={ joins:=[(7,{ keep:=[],mem:=[] })],loops:=[(3,{ keep:=[(5,(.int .i64))],mem:=[] })],ro:=[] }
def qV (r1:(List Int×Bool×Unit)) (y3:(Int×Unit)):Option ((Int×Unit)⊕(Unit⊕Bool)) :=
 cond (decide (y3.1<(r1.1.length:Int))) (
(atI r1.1 y3.1).bind fun x2 =>
(zea x2).bind fun r3 =>
 cond (!r3) (
 some (.inr (.inr false))) (
 some (.inl ((IntKind.wrap .i64 (y3.1+1)),())))) (
 some (.inr (.inl ())))
def zc5 (a0:List UInt8):Option Bool :=
(zcr a0).bind fun r1 =>
(aK (qV r1) (0,()):Option (Unit⊕Bool)).bind (aZ fun v4 =>
 cond r1.2.1 (cond (decide ((r1.1.length:Int)≥1)) (some (decide ((r1.1.length:Int)≤24))) (some false)) (some false))
def abz:TFn:={ ps:=(.cons .str .unit),res:=.bool,fn:=fun v=>zc5 v.1 }
def awe:TEnv:=(vZ [(144,ye),(306,aau)])
theorem awd:runY Tryz.prog alZ awf awe aCA Tryz.f253 abz.ps abz.res=abz.fn:=by kernel_rfl
theorem alX:az Tryz.prog G0 253 alY:=ah (aj ⟨au,(ai abc (ai ai7 ac)),ap,ac,an⟩ Tryz.func253 rfl (by kernel_rfl))
theorem awc:TOk alY abz:=ay (E:=alZ) (ET:=awe) (EnvT.ofX (ax (ae ahr (ae arU al))) am ar aI aq) awd rfl
def alm:Env:=(eZ [(253,alY)] [274])
def avj:Hints:=(hZ [(6,[0,3])] [])
def alk:PFn:=aC (runF Tryz.prog alm avj Tryz.f183)
def aCl:TH:={ loops:=[(6,{ keep:=[(3,(.int .i64))],mem:=[] })],ro:=[] }
def wi (a0:List (List UInt8)) (y6:(Int×Unit)):Option ((Int×Unit)⊕Int) :=
 cond (decide (y6.1<(a0.length:Int))) (
(atI a0 y6.1).bind fun x1 =>
(zc5 x1).bind fun r2 =>
 cond (!r2) (
 some (.inr 8)) (
 some (.inl ((IntKind.wrap .i64 (y6.1+1)),())))) (
 some (.inr 0))
def zcl (a0:List (List UInt8)):Option Int :=
 cond (decide ((a0.length:Int)=0)) (
 some 8) (
 cond (decide ((a0.length:Int)>8)) (
 some 9) (
 aK (wi a0) (0,())))
def abg:TFn:={ ps:=(.cons (.sl .str) .unit),res:=(.int .i64),fn:=fun v=>zcl v.1 }
def avi:TEnv:=(vZ [(253,abz)])
theorem avh:runY Tryz.prog alm avj avi aCl Tryz.f183 abg.ps abg.res=abg.fn:=by kernel_rfl
theorem alj:az Tryz.prog G0 183 alk:=ah (aj ⟨au,(ai alX ac),ap,ac,an⟩ Tryz.func183 rfl (by kernel_rfl))
theorem avg:TOk alk abg:=ay (E:=alm) (ET:=avi) (EnvT.ofX (ax (ae awc al)) am ar aI aq) avh rfl
def al8:Env:=(eZ [(144,aff)] [274])
def aww:Hints:=(hZ [] [])
def al7:PFn:=aC (runF Tryz.prog al8 aww Tryz.f184)
def aCF:TH:={ loops:=[],ro:=[1] }
def zc0 (a0:vV5):Option Bool :=
 cond (decide (a0.1=1)) (
 cond (decide (a0.2.2.1=[])) (cond (decide (a0.2.1≥(-2147483647))) (some (decide (a0.2.1≤2147483647))) (some false)) (some false)) (
 cond (decide (a0.1=2)) (
(zcr a0.2.2.1).bind fun r1 =>
 cond (decide (a0.2.1=0)) (cond r1.2.1 (some (decide ((a0.2.2.1.length:Int)≤64))) (some false)) (some false)) (
 cond (decide (a0.1=3)) (cond (decide (a0.2.2.1=[])) (cond (decide (a0.2.1≥0)) (some (decide (a0.2.1≤1))) (some false)) (some false)) (some false)))
def abE:TFn:={ ps:=(.cons tT20 .unit),res:=.bool,fn:=fun v=>zc0 v.1 }
def awv:TEnv:=(vZ [(144,ye)])
theorem awu:runY Tryz.prog al8 aww awv aCF Tryz.f184 abE.ps abE.res=abE.fn:=by kernel_rfl
theorem al6:az Tryz.prog G0 184 al7:=ah (aj ⟨au,(ai abc ac),ap,ac,an⟩ Tryz.func184 rfl (by kernel_rfl))
theorem awt:TOk al7 abE:=ay (E:=al8) (ET:=awv) (EnvT.ofX (ax (ae ahr al)) am ar aI aq) awu rfl
def ajr:Env:=(eZ [(101,tV),(172,ae8)] [274])
def asl:Hints:=(hZ [] [])
def ajq:PFn:=aC (runF Tryz.prog ajr asl Tryz.f254)
def aBy:TH:={ loops:=[],ro:=[2,3] }
def zdx (a0:vV3) (a1:vV3):Option Int :=
(zbz a0.1 a1.1).bind fun r1 =>
 cond (!decide (r1=0)) (
(zbz a0.1 a1.1).bind fun r2 =>
 some r2) (
(zdl a0.2.1 a1.2.1).bind fun r3 =>
 some r3)
def aaA:TFn:={ ps:=(.cons tT19 (.cons tT19 .unit)),res:=(.int .i64),fn:=fun v=>zdx v.1 v.2.1 }
def ask:TEnv:=(vZ [(101,pn),(172,xZ)])
theorem asj:runY Tryz.prog ajr asl ask aBy Tryz.f254 aaA.ps aaA.res=aaA.fn:=by kernel_rfl
theorem ajp:az Tryz.prog G0 254 ajq:=ah (aj ⟨au,(ai kT (ai aaL ac)),ap,ac,an⟩ Tryz.func254 rfl (by kernel_rfl))
theorem asi:TOk ajq aaA:=ay (E:=ajr) (ET:=ask) (EnvT.ofX (ax (ae qX (ae ahm al))) am ar aI aq) asj rfl
def ajo:Env:=(eZ [(109,pj),(254,ajq)] [274])
def ash:Hints:=(hZ [(2,[0,3])] [])
def ajn:PFn:=aC (runF Tryz.prog ajo ash Tryz.f185)
def aBx:TH:={ loops:=[(2,{ keep:=[(3,(.int .i64))],mem:=[] })],ro:=[] }
def vT (a0:List vV3) (y2:(Int×Unit)):Option ((Int×Unit)⊕Bool) :=
 cond (decide (y2.1<(a0.length:Int))) (
(atI a0 y2.1).bind fun x1 =>
(zdc x1.1).bind fun r2 =>
 cond (!r2) (some (.inr false)) ((atI a0 y2.1).bind fun x3 =>
 cond (decide (x3.2.1<0)) (some (.inr false)) ((atI a0 y2.1).bind fun x4 =>
 cond (decide (x4.2.1>15)) (
 some (.inr false)) (
 cond (decide (y2.1>0)) ((atI a0 (IntKind.wrap .i64 (y2.1-1))).bind fun x5 =>
(atI a0 y2.1).bind fun x6 =>
(zdx x5 x6).bind fun r7 =>
 cond (!decide (r7=(-1))) (
 some (.inr false)) (
 some (.inl ((IntKind.wrap .i64 (y2.1+1)),())))) (some (.inl ((IntKind.wrap .i64 (y2.1+1)),()))))))) (
 some (.inr true))
def zdy (a0:List vV3):Option Bool :=
 aK (vT a0) (0,())
def aaz:TFn:={ ps:=(.cons (.sl tT19) .unit),res:=.bool,fn:=fun v=>zdy v.1 }
def asg:TEnv:=(vZ [(109,kQ),(254,aaA)])
theorem asf:runY Tryz.prog ajo ash asg aBx Tryz.f185 aaz.ps aaz.res=aaz.fn:=by kernel_rfl
theorem ajm:az Tryz.prog G0 185 ajn:=ah (aj ⟨au,(ai ig (ai ajp ac)),ap,ac,an⟩ Tryz.func185 rfl (by kernel_rfl))
theorem ase:TOk ajn aaz:=ay (E:=ajo) (ET:=asg) (EnvT.ofX (ax (ae kP (ae asi al))) am ar aI aq) asf rfl
def akQ:Env:=(eZ [(183,alk),(184,al7),(185,ajn)] [274])
def auA:Hints:=(hZ [] [])
def akP:PFn:=aC (runF Tryz.prog akQ auA Tryz.f110)
def aB7:TH:={ joins:=[(9,{ keep:=[(1,(.bx 0 0))],mem:=[.same,.gone] }),(11,{ keep:=[(1,(.bx 0 0))],mem:=[.same,.gone] }),(13,{ keep:=[(1,(.bx 0 0))],mem:=[.same,.gone] }),(15,{ keep:=[(1,(.bx 0 0))],mem:=[.same,.gone] })],loops:=[],cuts:=[(11,[(8,{ keep:=[(1,(.bx 0 0)),(55,.bool)],mem:=[.same,.gone] })])],ro:=[1],news:=[] }
def zcy (a0:vV1):Option Int :=
 cond (decide (a0.1<1)) (some 18) (cond (decide (a0.1>5)) (
 some 18) (
(zcl a0.2.1).bind fun r1 =>
 cond (!decide (r1=0)) (
 some r1) (
(cond (decide (a0.1=3)) (cond (!(eqV tT20 a0.2.2.1 (0,0,[],()))) (
 some (.inr 2)) (
 some (.inl ()))) (cond (decide (a0.1=5)) (cond (!(eqV tT20 a0.2.2.1 (0,0,[],()))) (
 some (.inr 2)) (
 some (.inl ()))) (some (.inl ()))):Option (Unit⊕Int)).bind (aZ fun v2 =>
(cond (!decide (a0.1=3)) (cond (!decide (a0.1=5)) ((zc0 a0.2.2.1).bind fun r3 =>
 cond (!r3) (
 some (.inr 2)) (
 some (.inl ()))) (some (.inl ()))) (some (.inl ())):Option (Unit⊕Int)).bind (aZ fun v4 =>
((cond (!decide (a0.1=3)) (some ((!decide (a0.2.2.2.1=0)),())) (some (false,())):Option (Bool×Unit)).bind fun v5 =>
 cond v5.1 (some (.inr 2)) (cond (decide (a0.1=3)) (cond (decide (a0.2.2.2.1=0)) (some (.inr 2)) (cond (decide (a0.2.2.2.1>2147483647)) (some (.inr 2)) (cond (decide (a0.2.2.2.1<(-2147483647))) (
 some (.inr 2)) (
 some (.inl ()))))) (some (.inl ()))):Option (Unit⊕Int)).bind (aZ fun v6 =>
(cond (decide (a0.1=2)) (cond (decide ((a0.2.2.2.2.1.length:Int)>0)) (
 some (.inr 2)) (
 some (.inl ()))) (cond (decide (a0.1=3)) (cond (decide ((a0.2.2.2.2.1.length:Int)>0)) (
 some (.inr 2)) (
 some (.inl ()))) (some (.inl ()))):Option (Unit⊕Int)).bind (aZ fun v7 =>
 cond (decide ((a0.2.2.2.2.1.length:Int)>256)) (
 some 7) (
(zdy a0.2.2.2.2.1).bind fun r8 =>
 cond (!r8) (
 some 2) (
 some 0)))))))))
def aa6:TFn:={ ps:=(.cons tT15 .unit),res:=(.int .i64),fn:=fun v=>zcy v.1 }
def auz:TEnv:=(vZ [(183,abg),(184,abE),(185,aaz)])
theorem auy:runY Tryz.prog akQ auA auz aB7 Tryz.f110 aa6.ps aa6.res=aa6.fn:=by kernel_rfl
theorem akO:az Tryz.prog G0 110 akP:=ah (aj ⟨au,(ai alj (ai al6 (ai ajm ac))),ap,ac,an⟩ Tryz.func110 rfl (by kernel_rfl))
theorem aux:TOk akP aa6:=ay (E:=akQ) (ET:=auz) (EnvT.ofX (ax (ae avg (ae awt (ae ase al)))) am ar aI aq) auy rfl
def ajE:Env:=(eZ [] [274])
def asF:Hints:=(hZ [] [])
def ajD:PFn:=aC (runF Tryz.prog ajE asF Tryz.f111)
def aBD:TH:={ loops:=[],cuts:=[(2,[(9,{ keep:=[(1,(.bx 0 0)),(3,(.bx 1 0)),(13,.bool)],mem:=[.same,.box 132 tT20] })])],ro:=[1],news:=[] }
def zds (a0:vV1):Option Bool :=
(cond (decide (a0.1=0)) (some ((decide ((a0.2.1.length:Int)=0)),(0,0,[],()),())) (some (false,(0,0,[],()),())):Option (Bool×vV5×Unit)).bind fun v1 =>
 cond v1.1 (cond (eqV tT20 a0.2.2.1 v1.2.1) (cond (decide (a0.2.2.2.1=0)) (some (decide ((a0.2.2.2.2.1.length:Int)=0))) (some false)) (some false)) (some false)
def aaE:TFn:={ ps:=(.cons tT15 .unit),res:=.bool,fn:=fun v=>zds v.1 }
def asE:TEnv:=(vZ [])
theorem asD:runY Tryz.prog ajE asF asE aBD Tryz.f111 aaE.ps aaE.res=aaE.fn:=by kernel_rfl
theorem ajC:az Tryz.prog G0 111 ajD:=ah (aj ⟨au,ac,ap,ac,an⟩ Tryz.func111 rfl (by kernel_rfl))
theorem asC:TOk ajD aaE:=ay (E:=ajE) (ET:=asE) (EnvT.ofX (ax al) am ar aI aq) asD rfl
def aj7:Env:=(eZ [(109,pj),(110,akP),(111,ajD)] [274])
def att:Hints:=(hZ [(8,[1,3])] [])
def aj6:PFn:=aC (runF Tryz.prog aj7 att Tryz.f42)
def aBQ:TH:={ loops:=[(8,{ keep:=[(1,(.bx 0 0)),(3,(.int .i64))],mem:=[.same] })],cuts:=[(1,[(9,{ keep:=[(1,(.bx 0 0)),(13,.bool)],mem:=[.same] })])],ro:=[1],news:=[] }
def qS (a0:vV4) (y8:(Int×Unit)):Option ((Int×Unit)⊕Int) :=
 cond (decide (y8.1<(a0.2.2.2.2.1.length:Int))) (
(atI a0.2.2.2.2.1 y8.1).bind fun x3 =>
(zcy x3).bind fun r4 =>
 cond (!decide (r4=0)) (cond a0.2.2.2.1 ((atI a0.2.2.2.2.1 y8.1).bind fun x5 =>
(zds x5).bind fun r6 =>
 cond (!r6) (
 some (.inr r4)) (
 some (.inl ((IntKind.wrap .i64 (y8.1+1)),())))) (some (.inr r4))) (some (.inl ((IntKind.wrap .i64 (y8.1+1)),())))) (
 some (.inr 0))
def zdf (a0:vV4):Option Int :=
((zdc a0.1).bind fun r1 =>
 cond (!r1) (some (true,())) (some ((decide (a0.2.1<0)),())):Option (Bool×Unit)).bind fun v2 =>
 cond v2.1 (some 2) (cond (decide (a0.2.1>7)) (some 2) (cond (decide (a0.2.2.1<1)) (some 2) (cond (decide (a0.2.2.1>1099511627776)) (
 some 2) (
 cond (decide ((a0.2.2.2.2.1.length:Int)=0)) (
 some 11) (
 cond (decide ((a0.2.2.2.2.1.length:Int)>16)) (
 some 7) (
 aK (qS a0) (0,())))))))
def aaR:TFn:={ ps:=(.cons tT18 .unit),res:=(.int .i64),fn:=fun v=>zdf v.1 }
def ats:TEnv:=(vZ [(109,kQ),(110,aa6),(111,aaE)])
theorem atr:runY Tryz.prog aj7 att ats aBQ Tryz.f42 aaR.ps aaR.res=aaR.fn:=by kernel_rfl
theorem aj5:az Tryz.prog G0 42 aj6:=ah (aj ⟨au,(ai ig (ai akO (ai ajC ac))),ap,ac,an⟩ Tryz.func42 rfl (by kernel_rfl))
theorem atq:TOk aj6 aaR:=ay (E:=aj7) (ET:=ats) (EnvT.ofX (ax (ae kP (ae aux (ae asC al)))) am ar aI aq) atr rfl
def akv:Env:=(eZ [(109,pj)] [274])
def at7:Hints:=(hZ [] [])
def aku:PFn:=aC (runF Tryz.prog akv at7 Tryz.f320)
def aB0:TH:={ loops:=[],ro:=[3] }
def zd5 (a0:List Int) (a1:(Int×Int×Unit)):Option Bool :=
(zdc a1).bind fun r1 =>
 cond r1 ((inI 16 a1.1).bind fun i2 =>
(a0[i2]?).bind fun x3 =>
 some (decide (x3≥a1.2.1))) (some false)
def aaZ:TFn:={ ps:=(.cons (.arr 16 (.int .i64)) (.cons tT16 .unit)),res:=.bool,fn:=fun v=>zd5 v.1 v.2.1 }
def at6:TEnv:=(vZ [(109,kQ)])
theorem at5:runY Tryz.prog akv at7 at6 aB0 Tryz.f320 aaZ.ps aaZ.res=aaZ.fn:=by kernel_rfl
theorem akt:az Tryz.prog G0 320 aku:=ah (aj ⟨au,(ai ig ac),ap,ac,an⟩ Tryz.func320 rfl (by kernel_rfl))
theorem at4:TOk aku aaZ:=ay (E:=akv) (ET:=at6) (EnvT.ofX (ax (ae kP al)) am ar aI aq) at5 rfl
def aiK:Env:=(eZ [(320,aku)] [274])
def ark:Hints:=(hZ [(4,[2,3,5])] [])
def aiJ:PFn:=aC (runF Tryz.prog aiK ark Tryz.f270)
def aBi:TH:={ loops:=[(4,{ keep:=[(2,(.bx 0 0)),(3,(.bx 1 0)),(5,(.int .i64))],mem:=[.same,.same] })],ro:=[2,3] }
def vO (a0:vV6) (a1:(Int×Int×Unit)) (y4:(Int×Unit)):Option ((Int×Unit)⊕Bool) :=
 cond (decide (y4.1<(a0.2.1.length:Int))) (
(atI a0.2.1 y4.1).bind fun x2 =>
 cond (eqV tT16 x2 a1) (
 some (.inr true)) (
 some (.inl ((IntKind.wrap .i64 (y4.1+1)),())))) (
 some (.inr false))
def zek (a0:vV6) (a1:(Int×Int×Unit)):Option Bool :=
(zd5 a0.1 a1).bind fun r1 =>
 cond r1 (
 some true) (
 aK (vO a0 a1) (0,()))
def aak:TFn:={ ps:=(.cons tT23 (.cons tT16 .unit)),res:=.bool,fn:=fun v=>zek v.1 v.2.1 }
def arj:TEnv:=(vZ [(320,aaZ)])
theorem ari:runY Tryz.prog aiK ark arj aBi Tryz.f270 aak.ps aak.res=aak.fn:=by kernel_rfl
theorem aiI:az Tryz.prog G0 270 aiJ:=ah (aj ⟨au,(ai akt ac),ap,ac,an⟩ Tryz.func270 rfl (by kernel_rfl))
theorem arh:TOk aiJ aak:=ay (E:=aiK) (ET:=arj) (EnvT.ofX (ax (ae at4 al)) am ar aI aq) ari rfl
def alM:Env:=(eZ [] [274])
def avW:Hints:=(hZ [(3,[1,2,3,4])] [])
def alL:PFn:=aC (runF Tryz.prog alM avW Tryz.f294)
def aCv:TH:={ loops:=[(3,{ keep:=[(1,(.bx 0 0)),(2,(.bx 1 0)),(3,(.bx 2 0)),(4,(.int .i64))],mem:=[.same,.box 66 tT26,.box 66 (.agg (.cons (.arr 16 (.int .i64)) (.cons (.own 4) .unit))),.gone,.row true 72 tT16] })],ro:=[1] }
def wl (a0:vV6) (y3:(Int×vV11×vV11×List (Int×Int×Unit)×Unit)):Option ((Int×vV11×vV11×List (Int×Int×Unit)×Unit)⊕vV6) :=
 cond (decide (y3.1<(a0.2.1.length:Int))) (
(atI a0.2.1 y3.1).bind fun x1 =>
(inI 16 x1.1).bind fun i2 =>
(y3.2.2.1.1[i2]?).bind fun x3 =>
 cond (decide (x1.2.1=(IntKind.wrap .i64 (x3+1)))) (
(inI 16 x1.1).bind fun i4 =>
(y3.2.2.1.1[i4]?).bind fun x5 =>
 some (.inl ((IntKind.wrap .i64 (y3.1+1)),y3.2.1,((y3.2.2.1.1.set i4 x1.2.1),y3.2.2.1.2.1,()),y3.2.2.2.1,()))) (
(inI 16 x1.1).bind fun i6 =>
(y3.2.2.1.1[i6]?).bind fun x7 =>
 cond (decide (x1.2.1>x7)) (
(bY (y3.2.2.2.1.length+([x1]:List (Int×Int×Unit)).length)).bind fun u8 =>
 some (.inl ((IntKind.wrap .i64 (y3.1+1)),y3.2.1,(y3.2.2.1.1,(),()),(y3.2.2.2.1++([x1]:List (Int×Int×Unit))),()))) (
 some (.inl ((IntKind.wrap .i64 (y3.1+1)),y3.2.1,y3.2.2.1,y3.2.2.2.1,()))))) (
 some (.inr (y3.2.2.1.1,y3.2.2.2.1,())))
def zca (a0:vV6):Option vV6 :=
 aK (wl a0) (0,([0,0,0,0,0,0,0,0,0,0,0,0,0,0,0,0],(),()),(a0.1,(),()),[],())
def abu:TFn:={ ps:=(.cons tT23 .unit),res:=tT23,fn:=fun v=>zca v.1 }
def avV:TEnv:={ pure:=[],look:=[],glob:=G0T,ty:=[(72,tT16)],raw:=[],fresh:=[] }
theorem avU:runY Tryz.prog alM avW avV aCv Tryz.f294 abu.ps abu.res=abu.fn:=by kernel_rfl
theorem alK:az Tryz.prog G0 294 alL:=ah (aj ⟨au,ac,ap,ac,an⟩ Tryz.func294 rfl (by kernel_rfl))
theorem avT:TOk alL abu:=ay (E:=alM) (ET:=avV) (EnvT.ofX (ax al) am ar aI aq) avU rfl
def akH:Env:=(eZ [(101,tV),(109,pj),(270,aiJ),(294,alL)] [274])
def auo:Hints:=(hZ [(6,[2,3,4,5,6,7])] [56])
def akG:PFn:=aC (runF Tryz.prog akH auo Tryz.f236)
def aB4:TH:={ joins:=[(12,{ keep:=[(2,(.bx 0 0)),(3,(.bx 1 0)),(4,(.bx 2 0)),(5,(.own 3)),(6,.bool)],mem:=[.same,.same,.box 66 tT26,.row true 72 tT16] }),(11,{ keep:=[(2,(.bx 0 0)),(3,(.bx 1 0)),(4,(.bx 2 0)),(5,(.own 3)),(6,.bool)],mem:=[.same,.same,.box 66 tT26,.row true 72 tT16] }),(14,{ keep:=[(2,(.bx 0 0)),(4,(.bx 2 0)),(5,(.own 3))],mem:=[.same,.same,.box 66 tT26,.row true 72 tT16] })],loops:=[(6,{ keep:=[(2,(.bx 0 0)),(3,(.bx 1 0)),(4,(.bx 2 0)),(5,(.own 3)),(6,.bool),(7,(.int .i64))],mem:=[.same,.same,.box 66 tT26,.row true 72 tT16] })],ro:=[2,3] }
def we (a0:vV6) (a1:(Int×Int×Unit)) (y6:(Bool×Int×vV11×List (Int×Int×Unit)×Unit)):Option ((Bool×Int×vV11×List (Int×Int×Unit)×Unit)⊕((Bool×vV11×List (Int×Int×Unit)×Unit)⊕vV6)) :=
 cond (decide (y6.2.1<(a0.2.1.length:Int))) (
(cond (!y6.1) ((atI a0.2.1 y6.2.1).bind fun x3 =>
(zbz a1 x3).bind fun r4 =>
 cond (decide (r4<0)) (
(bY (y6.2.2.2.1.length+([a1]:List (Int×Int×Unit)).length)).bind fun u5 =>
 some (.inl (true,y6.2.2.1,(y6.2.2.2.1++([a1]:List (Int×Int×Unit))),()))) (
 some (.inl (y6.1,y6.2.2.1,y6.2.2.2.1,())))) (some (.inl (y6.1,y6.2.2.1,y6.2.2.2.1,()))):Option ((Bool×vV11×List (Int×Int×Unit)×Unit)⊕((Bool×Int×vV11×List (Int×Int×Unit)×Unit)⊕((Bool×vV11×List (Int×Int×Unit)×Unit)⊕vV6)))).bind (aZ fun v6 =>
(atI a0.2.1 y6.2.1).bind fun x7 =>
(bY (v6.2.2.1.length+([x7]:List (Int×Int×Unit)).length)).bind fun u8 =>
 some (.inl (v6.1,(IntKind.wrap .i64 (y6.2.1+1)),v6.2.1,(v6.2.2.1++([x7]:List (Int×Int×Unit))),())))) (
 some (.inr (.inl (y6.1,y6.2.2.1,y6.2.2.2.1,()))))
def zd1 (a0:vV6) (a1:(Int×Int×Unit)):Option vV6 :=
(zdc a1).bind fun r1 =>
 cond (!r1) (some a0) ((zek a0 a1).bind fun r2 =>
 cond r2 (
 some a0) (
(aK (we a0 a1) (false,0,([0,0,0,0,0,0,0,0,0,0,0,0,0,0,0,0],(),()),[],()):Option ((Bool×vV11×List (Int×Int×Unit)×Unit)⊕vV6)).bind (aZ fun v9 =>
(cond (!v9.1) (
(bY (v9.2.2.1.length+([a1]:List (Int×Int×Unit)).length)).bind fun u10 =>
 some (.inl (v9.2.1,(v9.2.2.1++([a1]:List (Int×Int×Unit))),()))) (
 some (.inl (v9.2.1,v9.2.2.1,()))):Option ((vV11×List (Int×Int×Unit)×Unit)⊕vV6)).bind (aZ fun v11 =>
(zca (a0.1,v11.2.1,())).bind fun r12 =>
 some r12))))
def aa3:TFn:={ ps:=(.cons tT23 (.cons tT16 .unit)),res:=tT23,fn:=fun v=>zd1 v.1 v.2.1 }
def aum:TEnv:={ pure:=[(101,pn),(109,kQ),(270,aak),(294,abu)],look:=[],glob:=G0T,ty:=[(72,tT16)],raw:=[],fresh:=[] }
theorem aul:runY Tryz.prog akH auo aum aB4 Tryz.f236 aa3.ps aa3.res=aa3.fn:=by kernel_rfl
theorem akF:az Tryz.prog G0 236 akG:=ah (aj ⟨au,(ai kT (ai ig (ai aiI (ai alK ac)))),ap,ac,an⟩ Tryz.func236 rfl (by kernel_rfl))
theorem auk:TOk akG aa3:=ay (E:=akH) (ET:=aum) (EnvT.ofX (ax (ae qX (ae kP (ae arh (ae avT al))))) am ar aI aq) aul rfl
def al2:Env:=(eZ [(236,akG)] [274])
def awj:Hints:=(hZ [(3,[0,2,3,4])] [])
def al1:PFn:=aC (runF Tryz.prog al2 awj Tryz.f168)
def aCB:TH:={ loops:=[(3,{ keep:=[(2,(.bx 0 0)),(3,(.bx 1 0)),(4,(.int .i64))],mem:=[.box 66 tT26,.box 66 tT23] })],ro:=[] }
def wo (a0:List vV4) (y3:(Int×vV11×vV6×Unit)):Option ((Int×vV11×vV6×Unit)⊕vV6) :=
 cond (decide (y3.1<(a0.length:Int))) (
(atI a0 y3.1).bind fun x1 =>
(zd1 y3.2.2.1 x1.1).bind fun r2 =>
 some (.inl ((IntKind.wrap .i64 (y3.1+1)),y3.2.1,r2,()))) (
 some (.inr y3.2.2.1))
def zc4 (a0:List vV4):Option vV6 :=
 aK (wo a0) (0,([0,0,0,0,0,0,0,0,0,0,0,0,0,0,0,0],(),()),([0,0,0,0,0,0,0,0,0,0,0,0,0,0,0,0],[],()),())
def abA:TFn:={ ps:=(.cons (.sl tT18) .unit),res:=tT23,fn:=fun v=>zc4 v.1 }
def awi:TEnv:=(vZ [(236,aa3)])
theorem awh:runY Tryz.prog al2 awj awi aCB Tryz.f168 abA.ps abA.res=abA.fn:=by kernel_rfl
theorem al0:az Tryz.prog G0 168 al1:=ah (aj ⟨au,(ai akF ac),ap,ac,an⟩ Tryz.func168 rfl (by kernel_rfl))
theorem awg:TOk al1 abA:=ay (E:=al2) (ET:=awi) (EnvT.ofX (ax (ae auk al)) am ar aI aq) awh rfl
def ajQ:Env:=(eZ [] [274])
def asV:Hints:=(hZ [(4,[0,1,5])] [])
def ajP:PFn:=aC (runF Tryz.prog ajQ asV Tryz.f65)
def aBH:TH:={ loops:=[(4,{ keep:=[(5,(.int .i64))],mem:=[] })],ro:=[] }
def vV (a0:List (Int×Int×Unit)) (a1:List (Int×Int×Unit)) (y4:(Int×Unit)):Option ((Int×Unit)⊕Bool) :=
 cond (decide (y4.1<(a0.length:Int))) (
(atI a0 y4.1).bind fun x1 =>
(atI a1 y4.1).bind fun x2 =>
 cond (!(eqV tT16 x1 x2)) (
 some (.inr false)) (
 some (.inl ((IntKind.wrap .i64 (y4.1+1)),())))) (
 some (.inr true))
def zdo (a0:List (Int×Int×Unit)) (a1:List (Int×Int×Unit)):Option Bool :=
 cond (!decide ((a0.length:Int)=(a1.length:Int))) (
 some false) (
 aK (vV a0 a1) (0,()))
def aaI:TFn:={ ps:=(.cons (.sl tT16) (.cons (.sl tT16) .unit)),res:=.bool,fn:=fun v=>zdo v.1 v.2.1 }
def asU:TEnv:=(vZ [])
theorem asT:runY Tryz.prog ajQ asV asU aBH Tryz.f65 aaI.ps aaI.res=aaI.fn:=by kernel_rfl
theorem ajO:az Tryz.prog G0 65 ajP:=ah (aj ⟨au,ac,ap,ac,an⟩ Tryz.func65 rfl (by kernel_rfl))
theorem asS:TOk ajP aaI:=ay (E:=ajQ) (ET:=asU) (EnvT.ofX (ax al) am ar aI aq) asT rfl
def ajZ:Env:=(eZ [(65,ajP)] [274])
def ate:Hints:=(hZ [] [])
def ajY:PFn:=aC (runF Tryz.prog ajZ ate Tryz.f167)
def aBM:TH:={ loops:=[],ro:=[2,3] }
def zdj (a0:vV6) (a1:vV6):Option Bool :=
 cond (eqV (.arr 16 (.int .i64)) a0.1 a1.1) ((zdo a0.2.1 a1.2.1).bind fun r1 =>
 some r1) (some false)
def aaN:TFn:={ ps:=(.cons tT23 (.cons tT23 .unit)),res:=.bool,fn:=fun v=>zdj v.1 v.2.1 }
def atd:TEnv:=(vZ [(65,aaI)])
theorem atc:runY Tryz.prog ajZ ate atd aBM Tryz.f167 aaN.ps aaN.res=aaN.fn:=by kernel_rfl
theorem ajX:az Tryz.prog G0 167 ajY:=ah (aj ⟨au,(ai ajO ac),ap,ac,an⟩ Tryz.func167 rfl (by kernel_rfl))
theorem atb:TOk ajY aaN:=ay (E:=ajZ) (ET:=atd) (EnvT.ofX (ax (ae asS al)) am ar aI aq) atc rfl
def ale:Env:=(eZ [(42,aj6),(109,pj),(152,akj),(153,akg),(166,alx),(167,ajY),(168,al1)] [274])
def au8:Hints:=(hZ [(4,[1,3]),(9,[1,4]),(14,[1,4,5])] [])
def ald:PFn:=aC (runF Tryz.prog ale au8 Tryz.f96)
def aCi:TH:={ joins:=[(8,{ keep:=[(1,(.bx 0 0))],mem:=[.box 69 tT14] }),(18,{ keep:=[(1,(.bx 0 0))],mem:=[.box 69 tT14] })],loops:=[(4,{ keep:=[(1,(.bx 0 0)),(3,(.int .i64))],mem:=[.box 69 tT14] }),(9,{ keep:=[(1,(.bx 0 0)),(4,(.int .i64))],mem:=[.box 69 tT14] }),(14,{ keep:=[(1,(.bx 0 0)),(5,(.int .i64))],mem:=[.box 69 tT14] })],ro:=[] }
def wh (y4:(Int×vV0×Unit)):Option ((Int×vV0×Unit)⊕((vV0×Unit)⊕Bool)) :=
 cond (decide (y4.1<(y4.2.1.1.length:Int))) (
(atI y4.2.1.1 y4.1).bind fun x4 =>
(zdf x4).bind fun r5 =>
 cond (!decide (r5=0)) (
 some (.inr (.inr false))) (
 some (.inl ((IntKind.wrap .i64 (y4.1+1)),y4.2.1,())))) (
 some (.inr (.inl (y4.2.1,()))))
def pm (y9:(Int×vV0×Unit)) (y14:(Int×vV0×Unit)):Option ((Int×vV0×Unit)⊕((Int×vV0×Unit)⊕((vV0×Unit)⊕Bool))) :=
(inI 8 y9.1).bind fun i9 =>
(y14.2.1.2.2.2.2.1[i9]?).bind fun x10 =>
 cond (decide (y14.1<(x10.length:Int))) (
(inI 8 y9.1).bind fun i11 =>
(y14.2.1.2.2.2.2.1[i11]?).bind fun x12 =>
(atI x12 y14.1).bind fun x13 =>
(zdc x13).bind fun r14 =>
 cond (!r14) (
 some (.inr (.inr (.inr false)))) (
 some (.inl ((IntKind.wrap .i64 (y14.1+1)),y14.2.1,())))) (
 some (.inr (.inl ((IntKind.wrap .i64 (y9.1+1)),y14.2.1,()))))
def nL (y9:(Int×vV0×Unit)):Option ((Int×vV0×Unit)⊕((vV0×Unit)⊕Bool)) :=
 cond (decide (y9.1<8)) (
(inI 8 y9.1).bind fun i7 =>
(y9.2.1.2.2.2.2.1[i7]?).bind fun x8 =>
 cond (decide ((x8.length:Int)>1000)) (
 some (.inr (.inr false))) (
 aK (pm y9) (0,y9.2.1,()))) (
 some (.inr (.inl (y9.2.1,()))))
def zco (a0:vV0):Option Bool :=
 cond (decide ((a0.1.length:Int)>1000)) (some false) ((zda a0.1).bind fun r1 =>
 cond (!r1) (some false) ((zdb a0.2.1).bind fun r2 =>
 cond (!r2) (some false) ((zch a0.2.2.2.1).bind fun r3 =>
 cond (!r3) (
 some false) (
(aK (wh) (0,a0,()):Option ((vV0×Unit)⊕Bool)).bind (aZ fun v6 =>
(aK (nL) (0,v6.1,()):Option ((vV0×Unit)⊕Bool)).bind (aZ fun v15 =>
(zch v15.1.2.2.1).bind fun r16 =>
 cond r16 ((zc4 v15.1.1).bind fun r17 =>
(zdj v15.1.2.2.1 r17).bind fun r18 =>
 some r18) (some false)))))))
def abe:TFn:={ ps:=(.cons tT14 .unit),res:=.bool,fn:=fun v=>zco v.1 }
def au7:TEnv:=(vZ [(42,aaR),(109,kQ),(152,aaV),(153,aaU),(166,abk),(167,aaN),(168,abA)])
theorem au6:runY Tryz.prog ale au8 au7 aCi Tryz.f96 abe.ps abe.res=abe.fn:=by kernel_rfl
theorem alc:az Tryz.prog G0 96 ald:=ah (aj ⟨au,(ai aj5 (ai ig (ai aki (ai akf (ai alw (ai ajX (ai al0 ac))))))),ap,ac,an⟩ Tryz.func96 rfl (by kernel_rfl))
theorem au5:TOk ald abe:=ay (E:=ale) (ET:=au7) (EnvT.ofX (ax (ae atq (ae kP (ae atK (ae atF (ae avy (ae atb (ae awg al)))))))) am ar aI aq) au6 rfl
def akK:Env:=(eZ [(95,alg),(96,ald)] [274])
def aus:Hints:=(hZ [] [])
def akJ:PFn:=aC (runF Tryz.prog akK aus Tryz.f33)
def aB5:TH:={ loops:=[],ro:=[1] }
def zd0 (a0:vV0):Option Bool :=
(zcn a0).bind fun r1 =>
 cond r1 ((zco a0).bind fun r2 =>
 some r2) (some false)
def aa4:TFn:={ ps:=(.cons tT14 .unit),res:=.bool,fn:=fun v=>zd0 v.1 }
def aur:TEnv:=(vZ [(95,abf),(96,abe)])
theorem auq:runY Tryz.prog akK aus aur aB5 Tryz.f33 aa4.ps aa4.res=aa4.fn:=by kernel_rfl
theorem akI:az Tryz.prog G0 33 akJ:=ah (aj ⟨au,(ai alf (ai alc ac)),ap,ac,an⟩ Tryz.func33 rfl (by kernel_rfl))
theorem aup:TOk akJ aa4:=ay (E:=akK) (ET:=aur) (EnvT.ofX (ax (ae au9 (ae au5 al))) am ar aI aq) auq rfl
def aiU:Env:=(eZ [] [274])
def arA:Hints:=(hZ [] [])
def aiT:PFn:=aC (runF Tryz.prog aiU arA Tryz.f119)
def aBm:TH:=yZ
def zeg (a0:Int) (a1:Int) (a2:List vV3):Option vV4 :=
 some ((0,a0,()),0,a0,false,([(1,([[97]]:List (List UInt8)),(1,a1,[],()),0,a2,())]:List vV1),())
def aao:TFn:={ ps:=(.cons (.int .i64) (.cons (.int .i64) (.cons (.sl tT19) .unit))),res:=tT18,fn:=fun v=>zeg v.1 v.2.1 v.2.2.1 }
def arz:TEnv:={ pure:=[],look:=[],glob:=G0T,ty:=[(9,.str),(135,tT15)],raw:=[],fresh:=[] }
theorem ary:runY Tryz.prog aiU arA arz aBm Tryz.f119 aao.ps aao.res=aao.fn:=by kernel_rfl
theorem aiS:az Tryz.prog G0 119 aiT:=ah (aj ⟨au,ac,ap,ac,an⟩ Tryz.func119 rfl (by kernel_rfl))
theorem arx:TOk aiT aao:=ay (E:=aiU) (ET:=arz) (EnvT.ofX (ax al) am ar aI aq) ary rfl
def anh:Env:=(eZ [] [274])
def ayl:Hints:=(hZ [] [])
def afC:PFn:=aC (runF Tryz.prog anh ayl Tryz.f226)
def aC8:TH:=yZ
def zb3 (a0:Int):Option Bool :=
 some (!decide (a0=a0))
def ab6:TFn:={ ps:=tT22,res:=.bool,fn:=fun v=>zb3 v.1 }
def ayk:TEnv:=(vZ [])
theorem ayj:runY Tryz.prog anh ayl ayk aC8 Tryz.f226 ab6.ps ab6.res=ab6.fn:=by kernel_rfl
theorem ang:az Tryz.prog G0 226 afC:=ah (aj ⟨au,ac,ap,ac,an⟩ Tryz.func226 rfl (by kernel_rfl))
theorem ayi:TOk afC ab6:=ay (E:=anh) (ET:=ayk) (EnvT.ofX (ax al) am ar aI aq) ayj rfl
def amk:Env:=(eZ [(226,afC)] [274])
def awR:Hints:=(hZ [] [])
def q9:PFn:=aC (runF Tryz.prog amk awR Tryz.f156)
def aCL:TH:=yZ
def zbu (a0:Int) (a1:Int):Option Int :=
(zb3 a0).bind fun r1 =>
(zb3 a1).bind fun r2 =>
 cond r1 (
 cond r2 (
 some 0) (
 some (-1))) (
 cond r2 (
 some 1) (
 cond (decide (a0<a1)) (
 some (-1)) (
 cond (decide (a0>a1)) (
 some 1) (
 some 0))))
def pp:TFn:={ ps:=(.cons (.int .i64) tT22),res:=(.int .i64),fn:=fun v=>zbu v.1 v.2.1 }
def awQ:TEnv:=(vZ [(226,ab6)])
theorem awP:runY Tryz.prog amk awR awQ aCL Tryz.f156 pp.ps pp.res=pp.fn:=by kernel_rfl
theorem kU:az Tryz.prog G0 156 q9:=ah (aj ⟨au,(ai ang ac),ap,ac,an⟩ Tryz.func156 rfl (by kernel_rfl))
theorem qZ:TOk q9 pp:=ay (E:=amk) (ET:=awQ) (EnvT.ofX (ax (ae ayi al)) am ar aI aq) awP rfl
def ajR:Env:=(eZ [] [274])
def asY:Hints:=(hZ [(3,[3,6,7,8])] [])
def qR:PFn:=aC (runF Tryz.prog ajR asY Tryz.f154)
def aBI:TH:={ loops:=[(3,{ keep:=[(8,(.int .i64))],mem:=[] })],ro:=[] }
def fS (a0:List Int) (y3:(Int×Unit)):Option ((Int×Unit)⊕Int) :=
 cond (decide (y3.1<(a0.length:Int))) (
(atI a0 y3.1).bind fun x1 =>
 cond (!decide (x1=0)) (
 some (.inr x1)) (
 some (.inl ((IntKind.wrap .i64 (y3.1+1)),())))) (
 some (.inr 0))
def zdn (a0:List Int):Option Int :=
 aK (fS a0) (0,())
def pi:TFn:={ ps:=(.cons (.sl (.int .i64)) .unit),res:=(.int .i64),fn:=fun v=>zdn v.1 }
def asX:TEnv:=(vZ [])
theorem asW:runY Tryz.prog ajR asY asX aBI Tryz.f154 pi.ps pi.res=pi.fn:=by kernel_rfl
theorem kO:az Tryz.prog G0 154 qR:=ah (aj ⟨au,ac,ap,ac,an⟩ Tryz.func154 rfl (by kernel_rfl))
theorem qQ:TOk qR pi:=ay (E:=ajR) (ET:=asX) (EnvT.ofX (ax al) am ar aI aq) asW rfl
def ali:Env:=(eZ [(154,qR),(156,q9)] [274])
def avf:Hints:=(hZ [] [])
def qT:PFn:=aC (runF Tryz.prog ali avf Tryz.f171)
def aCk:TH:={ loops:=[],ro:=[2,3] }
def zcm (a0:(Int×Int×Unit)) (a1:(Int×Int×Unit)):Option Int :=
(zbu a0.1 a1.1).bind fun r1 =>
(zbu a0.2.1 a1.2.1).bind fun r2 =>
(zdn ([r1,r2]:List Int)).bind fun r3 =>
 some r3
def nf:TFn:={ ps:=(.cons tT16 (.cons tT16 .unit)),res:=(.int .i64),fn:=fun v=>zcm v.1 v.2.1 }
def ave:TEnv:={ pure:=[(154,pi),(156,pp)],look:=[],glob:=G0T,ty:=[(3,(.int .i64))],raw:=[],fresh:=[] }
theorem avd:runY Tryz.prog ali avf ave aCk Tryz.f171 nf.ps nf.res=nf.fn:=by kernel_rfl
theorem ju:az Tryz.prog G0 171 qT:=ah (aj ⟨au,(ai kO (ai kU ac)),ap,ac,an⟩ Tryz.func171 rfl (by kernel_rfl))
theorem nO:TOk qT nf:=ay (E:=ali) (ET:=ave) (EnvT.ofX (ax (ae qQ (ae qZ al))) am ar aI aq) avd rfl
def aj3:Env:=(eZ [(171,qT)] [274])
def atl:Hints:=(hZ [] [])
def aj2:PFn:=aC (runF Tryz.prog aj3 atl Tryz.f193)
def aBO:TH:={ loops:=[],ro:=[2,3] }
def zdh (a0:vV4) (a1:(Int×Int×Unit)):Option Int :=
(zcm a0.1 a1).bind fun r1 =>
 some r1
def aaP:TFn:={ ps:=(.cons tT18 (.cons tT16 .unit)),res:=(.int .i64),fn:=fun v=>zdh v.1 v.2.1 }
def atk:TEnv:=(vZ [(171,nf)])
theorem atj:runY Tryz.prog aj3 atl atk aBO Tryz.f193 aaP.ps aaP.res=aaP.fn:=by kernel_rfl
theorem aj1:az Tryz.prog G0 193 aj2:=ah (aj ⟨au,(ai ju ac),ap,ac,an⟩ Tryz.func193 rfl (by kernel_rfl))
theorem ati:TOk aj2 aaP:=ay (E:=aj3) (ET:=atk) (EnvT.ofX (ax (ae nO al)) am ar aI aq) atj rfl
def aos:Env:=(eZ [(193,aj2)] [274])
def azJ:Hints:=(hZ [(3,[0,2,4,8,9,10])] [])
def aor:PFn:=aC (runF Tryz.prog aos azJ Tryz.f192)
def aDp:TH:={ joins:=[(8,{ keep:=[(4,(.bx 0 0)),(9,(.int .i64))],mem:=[.same] })],loops:=[(3,{ keep:=[(4,(.bx 0 0)),(9,(.int .i64)),(10,(.int .i64))],mem:=[.same] })],ro:=[4] }
def re (a0:List vV4) (a1:(Int×Int×Unit)) (y3:(Int×Int×Unit)):Option ((Int×Int×Unit)⊕((Int×Unit)⊕(Int×Bool×Unit))) :=
 cond (decide (y3.1<y3.2.1)) (
(shrT .u64 (IntKind.wrap .u64 (IntKind.wrap .i64 (y3.1+y3.2.1))) 1).bind fun t1 =>
(atI a0 (IntKind.wrap .i64 t1)).bind fun x2 =>
(zdh x2 a1).bind fun r3 =>
 cond (decide (r3<0)) (
 some (.inl ((IntKind.wrap .i64 ((IntKind.wrap .i64 t1)+1)),y3.2.1,()))) (
 some (.inl (y3.1,(IntKind.wrap .i64 t1),())))) (
 some (.inr (.inl (y3.1,()))))
def zaf (a0:List vV4) (a1:(Int×Int×Unit)) (a2:Unit):Option (Int×Bool×Unit) :=
(aK (re a0 a1) (0,(a0.length:Int),()):Option ((Int×Unit)⊕(Int×Bool×Unit))).bind (aZ fun v4 =>
 cond (decide (v4.1<(a0.length:Int))) ((atI a0 v4.1).bind fun x5 =>
(zdh x5 a1).bind fun r6 =>
 some (v4.1,(decide (r6=0)),())) (some (v4.1,false,())))
def acn:TFn:={ ps:=(.cons (.sl tT18) (.cons tT16 (.cons (.fn 193) .unit))),res:=(.tup (.cons (.int .i64) (.cons .bool .unit))),fn:=fun v=>zaf v.1 v.2.1 v.2.2.1 }
def azI:TEnv:=(vZ [(193,aaP)])
theorem azH:runY Tryz.prog aos azJ azI aDp Tryz.f192 acn.ps acn.res=acn.fn:=by kernel_rfl
theorem aoq:az Tryz.prog G0 192 aor:=ah (aj ⟨au,(ai aj1 ac),ap,ac,an⟩ Tryz.func192 rfl (by kernel_rfl))
theorem azG:TOk aor acn:=ay (E:=aos) (ET:=azI) (EnvT.ofX (ax (ae ati al)) am ar aI aq) azH rfl
def aiA:Env:=(eZ [(192,aor)] [274])
def aq3:Hints:=(hZ [] [])
def aag:PFn:=aC (runF Tryz.prog aiA aq3 Tryz.f114)
def aBe:TH:={ loops:=[],ro:=[3] }
def zeo (a0:List vV4) (a1:(Int×Int×Unit)):Option Int :=
(zaf a0 a1 ()).bind fun r1 =>
 cond (!r1.2.1) (
 some (-1)) (
 some r1.1)
def tN:TFn:={ ps:=(.cons (.sl tT18) (.cons tT16 .unit)),res:=(.int .i64),fn:=fun v=>zeo v.1 v.2.1 }
def aq2:TEnv:=(vZ [(192,acn)])
theorem aq1:runY Tryz.prog aiA aq3 aq2 aBe Tryz.f114 tN.ps tN.res=tN.fn:=by kernel_rfl
theorem tO:az Tryz.prog G0 114 aag:=ah (aj ⟨au,(ai aoq ac),ap,ac,an⟩ Tryz.func114 rfl (by kernel_rfl))
theorem aaf:TOk aag tN:=ay (E:=aiA) (ET:=aq2) (EnvT.ofX (ax (ae azG al)) am ar aI aq) aq1 rfl
def akE:Env:=(eZ [(171,qT)] [274])
def auj:Hints:=(hZ [] [])
def akD:PFn:=aC (runF Tryz.prog akE auj Tryz.f237)
def aB3:TH:={ loops:=[],ro:=[2,3] }
def zd2 (a0:vV4) (a1:(Int×Int×Unit)):Option Int :=
(zcm a0.1 a1).bind fun r1 =>
 some r1
def aa2:TFn:={ ps:=(.cons tT18 (.cons tT16 .unit)),res:=(.int .i64),fn:=fun v=>zd2 v.1 v.2.1 }
def aui:TEnv:=(vZ [(171,nf)])
theorem auh:runY Tryz.prog akE auj aui aB3 Tryz.f237 aa2.ps aa2.res=aa2.fn:=by kernel_rfl
theorem akC:az Tryz.prog G0 237 akD:=ah (aj ⟨au,(ai ju ac),ap,ac,an⟩ Tryz.func237 rfl (by kernel_rfl))
theorem aug:TOk akD aa2:=ay (E:=akE) (ET:=aui) (EnvT.ofX (ax (ae nO al)) am ar aI aq) auh rfl
def aoK:Go.Shelf.Ren:=⟨fun | 41=>181 | n=>n,fun | 22=>22 | 23=>78 | 4=>4 | n=>n,fun | n=>n⟩
theorem afO:Go.Proofs.SlLaysE0.n41 Tryz.prog aoK:={
 mixed:=by kernel_rfl
 f41:=⟨Tryz.f181.name,by decide,Tryz.func181.trans (congrArg some (by kernel_rfl))⟩
 t4:=Tryz.underlying4
 a4:=Tryz.isAgg4
 z4:=Tryz.sizeOf4
 v4:=Tryz.zeroValue4
 t22:=Tryz.underlying22
 a22:=Tryz.isAgg22
 z22:=Tryz.sizeOf22
 v22:=Tryz.zeroValue22 }
def aoM:SFn:=j8 6 78
theorem aoL:bn Tryz.prog G0 181 aoM:=mK afO rfl rfl (dS (P:=Tryz.prog) (te:=78) (M:=6) (by kernel_rfl) (by kernel_rfl) (by kernel_rfl) (by kernel_rfl) (by kernel_rfl) (by kernel_rfl) (by kernel_rfl) (by kernel_rfl)) ⟨Tryz.f181,Tryz.func181,rfl,by kernel_rfl⟩
def za7 (a0:List vV4):Option (List vV4):=dv a0
def az8:TNew:=mM 78 tT18
theorem az7:TNewOk aoM az8:=mL rfl rfl rfl
def aoN:Go.Shelf.Ren:=⟨fun | 22=>238 | 29=>295 | 30=>296 | n=>n,fun | 24=>22 | 9=>78 | 0=>0 | 3=>3 | 4=>4 | n=>n,fun | n=>n⟩
theorem afP:InsL Tryz.prog aoN:={
 mixed:=by kernel_rfl
 f22:=⟨Tryz.f238.name,by decide,Tryz.func238.trans (congrArg some (by kernel_rfl))⟩
 f29:=⟨Tryz.f295.name,by decide,by kernel_rfl,by kernel_rfl,Tryz.func295.trans (congrArg some (by kernel_rfl))⟩
 t0:=Tryz.underlying0
 a0:=Tryz.isAgg0
 z0:=Tryz.sizeOf0
 v0:=Tryz.zeroValue0
 t3:=Tryz.underlying3
 a3:=Tryz.isAgg3
 z3:=Tryz.sizeOf3
 v3:=Tryz.zeroValue3
 t4:=Tryz.underlying4
 a4:=Tryz.isAgg4
 z4:=Tryz.sizeOf4
 v4:=Tryz.zeroValue4
 t24:=Tryz.underlying22
 a24:=Tryz.isAgg22
 z24:=Tryz.sizeOf22
 v24:=Tryz.zeroValue22 }
def aoP:SFn:=dE 6 78
theorem aoO:bn Tryz.prog G0 238 aoP:=gN afP rfl rfl rfl (dS (P:=Tryz.prog) (te:=78) (M:=6) (by kernel_rfl) (by kernel_rfl) (by kernel_rfl) (by kernel_rfl) (by kernel_rfl) (by kernel_rfl) (by kernel_rfl) (by kernel_rfl)) true Tryz.isAgg78 ⟨Tryz.f238,Tryz.func238,rfl,by kernel_rfl⟩
def za6 (a1:Int) (a2:List vV4) (w0:List vV4):Option (Unit×List vV4×Unit):=(insT w0 a1 a2).map fun l=>((),(l,()))
def aAa:TRaw:=insR false 78 tT18
theorem az9:TRawOk aoP aAa:=qk rfl rfl rfl rfl (by decide)
def aoo:Env:=(eZ [(237,akD)] [274])
def azF:Hints:=(hZ [(3,[0,2,4,8,9,10])] [])
def aon:PFn:=aC (runF Tryz.prog aoo azF Tryz.f192)
def aDo:TH:={ joins:=[(8,{ keep:=[(4,(.bx 0 0)),(9,(.int .i64))],mem:=[.same] })],loops:=[(3,{ keep:=[(4,(.bx 0 0)),(9,(.int .i64)),(10,(.int .i64))],mem:=[.same] })],ro:=[4] }
def rd (a0:List vV4) (a1:(Int×Int×Unit)) (y3:(Int×Int×Unit)):Option ((Int×Int×Unit)⊕((Int×Unit)⊕(Int×Bool×Unit))) :=
 cond (decide (y3.1<y3.2.1)) (
(shrT .u64 (IntKind.wrap .u64 (IntKind.wrap .i64 (y3.1+y3.2.1))) 1).bind fun t1 =>
(atI a0 (IntKind.wrap .i64 t1)).bind fun x2 =>
(zd2 x2 a1).bind fun r3 =>
 cond (decide (r3<0)) (
 some (.inl ((IntKind.wrap .i64 ((IntKind.wrap .i64 t1)+1)),y3.2.1,()))) (
 some (.inl (y3.1,(IntKind.wrap .i64 t1),())))) (
 some (.inr (.inl (y3.1,()))))
def zag (a0:List vV4) (a1:(Int×Int×Unit)) (a2:Unit):Option (Int×Bool×Unit) :=
(aK (rd a0 a1) (0,(a0.length:Int),()):Option ((Int×Unit)⊕(Int×Bool×Unit))).bind (aZ fun v4 =>
 cond (decide (v4.1<(a0.length:Int))) ((atI a0 v4.1).bind fun x5 =>
(zd2 x5 a1).bind fun r6 =>
 some (v4.1,(decide (r6=0)),())) (some (v4.1,false,())))
def acm:TFn:={ ps:=(.cons (.sl tT18) (.cons tT16 (.cons (.fn 237) .unit))),res:=(.tup (.cons (.int .i64) (.cons .bool .unit))),fn:=fun v=>zag v.1 v.2.1 v.2.2.1 }
def azE:TEnv:=(vZ [(237,aa2)])
theorem azD:runY Tryz.prog aoo azF azE aDo Tryz.f192 acm.ps acm.res=acm.fn:=by kernel_rfl
theorem aom:az Tryz.prog G0 192 aon:=ah (aj ⟨au,(ai akC ac),ap,ac,an⟩ Tryz.func192 rfl (by kernel_rfl))
theorem azC:TOk aon acm:=ay (E:=aoo) (ET:=azE) (EnvT.ofX (ax (ae aug al)) am ar aI aq) azD rfl
def ajc:Env:={ pure:=[(192,aon)],raw:=[(181,aoM),(238,aoP)],glob:=G0,same:=[274],look:=[],ext:=[] }
def ar1:Hints:={ seqs:=[],loops:=[],own:=[19],frz:=[(4,[3])] }
def ajb:PFn:=aC (runF Tryz.prog ajc ar1 Tryz.f169)
def aBt:TH:=yZ
def ze2 (a0:List vV4) (a1:vV4):Option (List vV4) :=
(zag a0 a1.1 ()).bind fun r1 =>
 cond r1.2.1 (
 some a0) (
(za7 a0).bind fun n2 =>
(za6 r1.1 ([a1]:List vV4) n2).bind fun q3 =>
 some q3.2.1)
def aav:TFn:={ ps:=(.cons (.sl tT18) (.cons tT18 .unit)),res:=(.sl tT18),fn:=fun v=>ze2 v.1 v.2.1 }
def ar0:TEnv:={ pure:=[(192,acm)],look:=[],glob:=G0T,ty:=[(78,tT18)],raw:=[(238,aAa)],fresh:=[(181,az8)] }
theorem arZ:runY Tryz.prog ajc ar1 ar0 aBt Tryz.f169 aav.ps aav.res=aav.fn:=by kernel_rfl
theorem aja:az Tryz.prog G0 169 ajb:=ah (aj ⟨au,(ai aom ac),(aU aoL (aU aoO ap)),ac,an⟩ Tryz.func169 rfl (by kernel_rfl))
theorem arY:TOk ajb aav:=ay (E:=ajc) (ET:=ar0) (EnvT.ofX (ax (ae azC al)) am (gb (be az9 rfl rfl ar) rfl) aI (gg az7 rfl rfl rfl aq)) arZ rfl
def aks:Env:=(eZ [] [274])
def at3:Hints:=(hZ [] [])
def pk:PFn:=aC (runF Tryz.prog aks at3 Tryz.f173)
def aBZ:TH:={ loops:=[],ro:=[1] }
def zd6 (a0:(Int×Int×Unit)):Option Bool :=
 cond (decide (a0.1≥0)) (cond (decide (a0.1<16)) (cond (decide (a0.2.1≥1)) (some (decide (a0.2.1≤1048576))) (some false)) (some false)) (some false)
def kS:TFn:={ ps:=(.cons tT16 .unit),res:=.bool,fn:=fun v=>zd6 v.1 }
def at2:TEnv:=(vZ [])
theorem at1:runY Tryz.prog aks at3 at2 aBZ Tryz.f173 kS.ps kS.res=kS.fn:=by kernel_rfl
theorem ii:az Tryz.prog G0 173 pk:=ah (aj ⟨au,ac,ap,ac,an⟩ Tryz.func173 rfl (by kernel_rfl))
theorem kR:TOk pk kS:=ay (E:=aks) (ET:=at2) (EnvT.ofX (ax al) am ar aI aq) at1 rfl
def aic:Env:=(eZ [(173,pk)] [274])
def aqo:Hints:=(hZ [] [])
def aib:PFn:=aC (runF Tryz.prog aic aqo Tryz.f194)
def aA3:TH:={ loops:=[],ro:=[3] }
def zez (a0:List Int) (a1:(Int×Int×Unit)):Option Bool :=
(zd6 a1).bind fun r1 =>
 cond r1 ((inI 16 a1.1).bind fun i2 =>
(a0[i2]?).bind fun x3 =>
 some (decide (a1.2.1≤x3))) (some false)
def zV:TFn:={ ps:=(.cons (.arr 16 (.int .i64)) (.cons tT16 .unit)),res:=.bool,fn:=fun v=>zez v.1 v.2.1 }
def aqn:TEnv:=(vZ [(173,kS)])
theorem aqm:runY Tryz.prog aic aqo aqn aA3 Tryz.f194 zV.ps zV.res=zV.fn:=by kernel_rfl
theorem aia:az Tryz.prog G0 194 aib:=ah (aj ⟨au,(ai ii ac),ap,ac,an⟩ Tryz.func194 rfl (by kernel_rfl))
theorem aql:TOk aib zV:=ay (E:=aic) (ET:=aqn) (EnvT.ofX (ax (ae kR al)) am ar aI aq) aqm rfl
def aot:Env:=(eZ [(171,qT)] [274])
def azM:Hints:=(hZ [(3,[0,2,4,8,9,10])] [])
def afJ:PFn:=aC (runF Tryz.prog aot azM Tryz.f195)
def aDq:TH:={ joins:=[(8,{ keep:=[(4,(.bx 0 0)),(9,(.int .i64))],mem:=[.same] })],loops:=[(3,{ keep:=[(4,(.bx 0 0)),(9,(.int .i64)),(10,(.int .i64))],mem:=[.same] })],ro:=[4] }
def wB (a0:List (Int×Int×Unit)) (a1:(Int×Int×Unit)) (y3:(Int×Int×Unit)):Option ((Int×Int×Unit)⊕((Int×Unit)⊕(Int×Bool×Unit))) :=
 cond (decide (y3.1<y3.2.1)) (
(shrT .u64 (IntKind.wrap .u64 (IntKind.wrap .i64 (y3.1+y3.2.1))) 1).bind fun t1 =>
(atI a0 (IntKind.wrap .i64 t1)).bind fun x2 =>
(zcm x2 a1).bind fun r3 =>
 cond (decide (r3<0)) (
 some (.inl ((IntKind.wrap .i64 ((IntKind.wrap .i64 t1)+1)),y3.2.1,()))) (
 some (.inl (y3.1,(IntKind.wrap .i64 t1),())))) (
 some (.inr (.inl (y3.1,()))))
def zae (a0:List (Int×Int×Unit)) (a1:(Int×Int×Unit)) (a2:Unit):Option (Int×Bool×Unit) :=
(aK (wB a0 a1) (0,(a0.length:Int),()):Option ((Int×Unit)⊕(Int×Bool×Unit))).bind (aZ fun v4 =>
 cond (decide (v4.1<(a0.length:Int))) ((atI a0 v4.1).bind fun x5 =>
(zcm x5 a1).bind fun r6 =>
 some (v4.1,(decide (r6=0)),())) (some (v4.1,false,())))
def yl:TFn:={ ps:=(.cons (.sl tT16) (.cons tT16 (.cons (.fn 171) .unit))),res:=(.tup (.cons (.int .i64) (.cons .bool .unit))),fn:=fun v=>zae v.1 v.2.1 v.2.2.1 }
def azL:TEnv:=(vZ [(171,nf)])
theorem azK:runY Tryz.prog aot azM azL aDq Tryz.f195 yl.ps yl.res=yl.fn:=by kernel_rfl
theorem aco:az Tryz.prog G0 195 afJ:=ah (aj ⟨au,(ai ju ac),ap,ac,an⟩ Tryz.func195 rfl (by kernel_rfl))
theorem ahD:TOk afJ yl:=ay (E:=aot) (ET:=azL) (EnvT.ofX (ax (ae nO al)) am ar aI aq) azK rfl
def aip:Env:=(eZ [(194,aib),(195,afJ)] [274])
def aqN:Hints:=(hZ [] [])
def aab:PFn:=aC (runF Tryz.prog aip aqN Tryz.f115)
def aBa:TH:={ loops:=[],ro:=[2,3] }
def zes (a0:vV6) (a1:(Int×Int×Unit)):Option Bool :=
(zez a0.1 a1).bind fun r1 =>
 cond r1 (
 some true) (
(zae a0.2.1 a1 ()).bind fun r2 =>
 some r2.2.1)
def tL:TFn:={ ps:=(.cons tT23 (.cons tT16 .unit)),res:=.bool,fn:=fun v=>zes v.1 v.2.1 }
def aqM:TEnv:=(vZ [(194,zV),(195,yl)])
theorem aqL:runY Tryz.prog aip aqN aqM aBa Tryz.f115 tL.ps tL.res=tL.fn:=by kernel_rfl
theorem tM:az Tryz.prog G0 115 aab:=ah (aj ⟨au,(ai aia (ai aco ac)),ap,ac,an⟩ Tryz.func115 rfl (by kernel_rfl))
theorem aaa:TOk aab tL:=ay (E:=aip) (ET:=aqM) (EnvT.ofX (ax (ae aql (ae ahD al))) am ar aI aq) aqL rfl
def aoG:Go.Shelf.Ren:=⟨fun | 41=>180 | n=>n,fun | 22=>64 | 23=>72 | 4=>4 | n=>n,fun | n=>n⟩
theorem afK:Go.Proofs.SlLaysE0.n41 Tryz.prog aoG:={
 mixed:=by kernel_rfl
 f41:=⟨Tryz.f180.name,by decide,Tryz.func180.trans (congrArg some (by kernel_rfl))⟩
 t4:=Tryz.underlying4
 a4:=Tryz.isAgg4
 z4:=Tryz.sizeOf4
 v4:=Tryz.zeroValue4
 t22:=Tryz.underlying64
 a22:=Tryz.isAgg64
 z22:=Tryz.sizeOf64
 v22:=Tryz.zeroValue64 }
def afL:SFn:=j8 2 72
theorem act:bn Tryz.prog G0 180 afL:=mK afK rfl rfl (dS (P:=Tryz.prog) (te:=72) (M:=2) (by kernel_rfl) (by kernel_rfl) (by kernel_rfl) (by kernel_rfl) (by kernel_rfl) (by kernel_rfl) (by kernel_rfl) (by kernel_rfl)) ⟨Tryz.f180,Tryz.func180,rfl,by kernel_rfl⟩
def za9 (a0:List (Int×Int×Unit)):Option (List (Int×Int×Unit)):=dv a0
def aoH:TNew:=mM 72 tT16
theorem ahE:TNewOk afL aoH:=mL rfl rfl rfl
def aoQ:Go.Shelf.Ren:=⟨fun | 22=>239 | 29=>297 | 30=>298 | n=>n,fun | 24=>64 | 9=>72 | 0=>0 | 3=>3 | 4=>4 | n=>n,fun | n=>n⟩
theorem afQ:InsL Tryz.prog aoQ:={
 mixed:=by kernel_rfl
 f22:=⟨Tryz.f239.name,by decide,Tryz.func239.trans (congrArg some (by kernel_rfl))⟩
 f29:=⟨Tryz.f297.name,by decide,by kernel_rfl,by kernel_rfl,Tryz.func297.trans (congrArg some (by kernel_rfl))⟩
 t0:=Tryz.underlying0
 a0:=Tryz.isAgg0
 z0:=Tryz.sizeOf0
 v0:=Tryz.zeroValue0
 t3:=Tryz.underlying3
 a3:=Tryz.isAgg3
 z3:=Tryz.sizeOf3
 v3:=Tryz.zeroValue3
 t4:=Tryz.underlying4
 a4:=Tryz.isAgg4
 z4:=Tryz.sizeOf4
 v4:=Tryz.zeroValue4
 t24:=Tryz.underlying64
 a24:=Tryz.isAgg64
 z24:=Tryz.sizeOf64
 v24:=Tryz.zeroValue64 }
def aoS:SFn:=dE 2 72
theorem aoR:bn Tryz.prog G0 239 aoS:=gN afQ rfl rfl rfl (dS (P:=Tryz.prog) (te:=72) (M:=2) (by kernel_rfl) (by kernel_rfl) (by kernel_rfl) (by kernel_rfl) (by kernel_rfl) (by kernel_rfl) (by kernel_rfl) (by kernel_rfl)) true Tryz.isAgg72 ⟨Tryz.f239,Tryz.func239,rfl,by kernel_rfl⟩
def za5 (a1:Int) (a2:List (Int×Int×Unit)) (w0:List (Int×Int×Unit)):Option (Unit×List (Int×Int×Unit)×Unit):=(insT w0 a1 a2).map fun l=>((),(l,()))
def aDw:TRaw:=insR false 72 tT16
theorem aAb:TRawOk aoS aDw:=qk rfl rfl rfl rfl (by decide)
def aiO:Env:=(eZ [] [274])
def ars:Hints:=(hZ [(3,[4,5,10,11,12])] [])
def aiN:PFn:=aC (runF Tryz.prog aiO ars Tryz.f188)
def aBk:TH:={ loops:=[(3,{ keep:=[(4,(.bx 1 0)),(5,(.bx 2 0)),(12,(.int .i64))],mem:=[.same,.box 66 tT26,.box 66 (.agg (.cons (.arr 16 (.int .i64)) (.cons (.own 4) .unit))),.gone,.row true 72 tT16] })],ro:=[2] }
def vP (a1:List (Int×Int×Unit)) (y3:(Int×vV11×vV11×List (Int×Int×Unit)×Unit)):Option ((Int×vV11×vV11×List (Int×Int×Unit)×Unit)⊕vV6) :=
 cond (decide (y3.1<(a1.length:Int))) (
(atI a1 y3.1).bind fun x1 =>
(inI 16 x1.1).bind fun i2 =>
(y3.2.2.1.1[i2]?).bind fun x3 =>
 cond (decide (x1.2.1≤x3)) (
 some (.inl ((IntKind.wrap .i64 (y3.1+1)),y3.2.1,y3.2.2.1,y3.2.2.2.1,()))) (
(inI 16 x1.1).bind fun i4 =>
(y3.2.2.1.1[i4]?).bind fun x5 =>
 cond (decide (x1.2.1=(IntKind.wrap .i64 (x5+1)))) (
(inI 16 x1.1).bind fun i6 =>
(y3.2.2.1.1[i6]?).bind fun x7 =>
 some (.inl ((IntKind.wrap .i64 (y3.1+1)),y3.2.1,((y3.2.2.1.1.set i6 x1.2.1),y3.2.2.1.2.1,()),y3.2.2.2.1,()))) (
 cond (decide ((y3.2.2.2.1.length:Int)=0)) ((bY (y3.2.2.2.1.length+([x1]:List (Int×Int×Unit)).length)).bind fun u8 =>
 some (.inl ((IntKind.wrap .i64 (y3.1+1)),y3.2.1,(y3.2.2.1.1,(),()),(y3.2.2.2.1++([x1]:List (Int×Int×Unit))),()))) ((inI y3.2.2.2.1.length (IntKind.wrap .i64 ((y3.2.2.2.1.length:Int)-1))).bind fun i9 =>
(y3.2.2.2.1[i9]?).bind fun x10 =>
 cond (!(eqV tT16 x10 x1)) (
(bY (y3.2.2.2.1.length+([x1]:List (Int×Int×Unit)).length)).bind fun u11 =>
 some (.inl ((IntKind.wrap .i64 (y3.1+1)),y3.2.1,(y3.2.2.1.1,(),()),(y3.2.2.2.1++([x1]:List (Int×Int×Unit))),()))) (
 some (.inl ((IntKind.wrap .i64 (y3.1+1)),y3.2.1,y3.2.2.1,y3.2.2.2.1,()))))))) (
 some (.inr (y3.2.2.1.1,y3.2.2.2.1,())))
def zei (a0:List Int) (a1:List (Int×Int×Unit)):Option vV6 :=
 aK (vP a1) (0,([0,0,0,0,0,0,0,0,0,0,0,0,0,0,0,0],(),()),(a0,(),()),[],())
def aam:TFn:={ ps:=(.cons (.arr 16 (.int .i64)) (.cons (.sl tT16) .unit)),res:=tT23,fn:=fun v=>zei v.1 v.2.1 }
def arq:TEnv:={ pure:=[],look:=[],glob:=G0T,ty:=[(72,tT16)],raw:=[],fresh:=[] }
theorem arp:runY Tryz.prog aiO ars arq aBk Tryz.f188 aam.ps aam.res=aam.fn:=by kernel_rfl
theorem aiM:az Tryz.prog G0 188 aiN:=ah (aj ⟨au,ac,ap,ac,an⟩ Tryz.func188 rfl (by kernel_rfl))
theorem aro:TOk aiN aam:=ay (E:=aiO) (ET:=arq) (EnvT.ofX (ax al) am ar aI aq) arp rfl
def anq:SFn:=iW aoS
theorem anp:bn Tryz.prog G0 239 anq:=iw aoR
def zaz (a1:Int) (a2:List (Int×Int×Unit)) (w0:List (Int×Int×Unit)):Option (List (Int×Int×Unit)×Unit):=(za5 a1 a2 w0).map fun q=>(q.2.1,())
def ayy:TRaw:={ ps:=(.cons (.own 0) (.cons (.int .i64) (.cons (.sl tT16) .unit))),ins:=[.row false 72 tT16],res:=(.sl tT16),outs:=[.gone],fn:=fun v w=>zaz v.2.1 v.2.2.1 w.1 }
theorem ayx:TRawOk anq ayy:=agQ aAb
def aio:Env:={ pure:=[(115,aab),(173,pk),(188,aiN),(195,afJ)],raw:=[(180,afL),(239,anq)],glob:=G0,same:=[274],look:=[],ext:=[] }
def aqK:Hints:={ seqs:=[],loops:=[],own:=[24,26,29],frz:=[(4,[2,3])] }
def ain:PFn:=aC (runF Tryz.prog aio aqK Tryz.f170)
def aA9:TH:=yZ
def zet (a0:vV6) (a1:(Int×Int×Unit)):Option vV6 :=
(zd6 a1).bind fun r1 =>
 cond (!r1) (some a0) ((zes a0 a1).bind fun r2 =>
 cond r2 (
 some a0) (
(zae a0.2.1 a1 ()).bind fun r3 =>
(za9 a0.2.1).bind fun n4 =>
(zaz r3.1 ([a1]:List (Int×Int×Unit)) n4).bind fun q5 =>
(zei a0.1 q5.1).bind fun r6 =>
 some r6))
def z8:TFn:={ ps:=(.cons tT23 (.cons tT16 .unit)),res:=tT23,fn:=fun v=>zet v.1 v.2.1 }
def aqJ:TEnv:={ pure:=[(115,tL),(173,kS),(188,aam),(195,yl)],look:=[],glob:=G0T,ty:=[(72,tT16)],raw:=[(239,ayy)],fresh:=[(180,aoH)] }
theorem aqI:runY Tryz.prog aio aqK aqJ aA9 Tryz.f170 z8.ps z8.res=z8.fn:=by kernel_rfl
theorem aim:az Tryz.prog G0 170 ain:=ah (aj ⟨au,(ai tM (ai ii (ai aiM (ai aco ac)))),(aU act (aU anp ap)),ac,an⟩ Tryz.func170 rfl (by kernel_rfl))
theorem aqH:TOk ain z8:=ay (E:=aio) (ET:=aqJ) (EnvT.ofX (ax (ae aaa (ae kR (ae aro (ae ahD al))))) am (gb (be ayx rfl rfl ar) rfl) aI (gg ahE rfl rfl rfl aq)) aqI rfl
def ai6:Env:=(eZ [(114,aag),(169,ajb),(170,ain)] [274])
def arT:Hints:=(hZ [] [])
def ae5:PFn:=aC (runF Tryz.prog ai6 arT Tryz.f97)
def aBr:TH:={ loops:=[],ro:=[3] }
def zeb (a0:vV0) (a1:vV4):Option vV0 :=
(zeo a0.1 a1.1).bind fun r1 =>
 cond (decide (r1≥0)) (
 some a0) (
(ze2 a0.1 a1).bind fun r2 =>
(zet a0.2.2.1 a1.1).bind fun r3 =>
 some (r2,a0.2.1,r3,a0.2.2.2.1,a0.2.2.2.2.1,()))
def xY:TFn:={ ps:=(.cons tT14 (.cons tT18 .unit)),res:=tT14,fn:=fun v=>zeb v.1 v.2.1 }
def arS:TEnv:=(vZ [(114,tN),(169,aav),(170,z8)])
theorem arR:runY Tryz.prog ai6 arT arS aBr Tryz.f97 xY.ps xY.res=xY.fn:=by kernel_rfl
theorem aat:az Tryz.prog G0 97 ae5:=ah (aj ⟨au,(ai tO (ai aja (ai aim ac))),ap,ac,an⟩ Tryz.func97 rfl (by kernel_rfl))
theorem ahl:TOk ae5 xY:=ay (E:=ai6) (ET:=arS) (EnvT.ofX (ax (ae aaf (ae arY (ae aqH al)))) am ar aI aq) arR rfl
def ano:Env:=(eZ [(171,qT)] [274])
def ayw:Hints:=(hZ [] [])
def aca:PFn:=aC (runF Tryz.prog ano ayw Tryz.f242)
def aDb:TH:={ loops:=[],ro:=[2,3] }
def zb0 (a0:vV3) (a1:vV3):Option Int :=
(zcm a0.1 a1.1).bind fun r1 =>
 some r1
def uj:TFn:={ ps:=(.cons tT19 (.cons tT19 .unit)),res:=(.int .i64),fn:=fun v=>zb0 v.1 v.2.1 }
def ayv:TEnv:=(vZ [(171,nf)])
theorem ayu:runY Tryz.prog ano ayw ayv aDb Tryz.f242 uj.ps uj.res=uj.fn:=by kernel_rfl
theorem un:az Tryz.prog G0 242 aca:=ah (aj ⟨au,(ai ju ac),ap,ac,an⟩ Tryz.func242 rfl (by kernel_rfl))
theorem ab9:TOk aca uj:=ay (E:=ano) (ET:=ayv) (EnvT.ofX (ax (ae nO al)) am ar aI aq) ayu rfl
def aow:Env:=(eZ [(242,aca)] [274])
def azQ:Hints:=(hZ [(3,[0,2,4,8,9,10])] [])
def aov:PFn:=aC (runF Tryz.prog aow azQ Tryz.f284)
def aDr:TH:={ joins:=[(8,{ keep:=[(4,(.bx 0 0)),(9,(.int .i64))],mem:=[.same] })],loops:=[(3,{ keep:=[(4,(.bx 0 0)),(9,(.int .i64)),(10,(.int .i64))],mem:=[.same] })],ro:=[4] }
def nR (a0:List vV3) (a1:vV3) (y3:(Int×Int×Unit)):Option ((Int×Int×Unit)⊕((Int×Unit)⊕(Int×Bool×Unit))) :=
 cond (decide (y3.1<y3.2.1)) (
(shrT .u64 (IntKind.wrap .u64 (IntKind.wrap .i64 (y3.1+y3.2.1))) 1).bind fun t1 =>
(atI a0 (IntKind.wrap .i64 t1)).bind fun x2 =>
(zb0 x2 a1).bind fun r3 =>
 cond (decide (r3<0)) (
 some (.inl ((IntKind.wrap .i64 ((IntKind.wrap .i64 t1)+1)),y3.2.1,()))) (
 some (.inl (y3.1,(IntKind.wrap .i64 t1),())))) (
 some (.inr (.inl (y3.1,()))))
def zad (a0:List vV3) (a1:vV3) (a2:Unit):Option (Int×Bool×Unit) :=
(aK (nR a0 a1) (0,(a0.length:Int),()):Option ((Int×Unit)⊕(Int×Bool×Unit))).bind (aZ fun v4 =>
 cond (decide (v4.1<(a0.length:Int))) ((atI a0 v4.1).bind fun x5 =>
(zb0 x5 a1).bind fun r6 =>
 some (v4.1,(decide (r6=0)),())) (some (v4.1,false,())))
def acp:TFn:={ ps:=(.cons (.sl tT19) (.cons tT19 (.cons (.fn 242) .unit))),res:=(.tup (.cons (.int .i64) (.cons .bool .unit))),fn:=fun v=>zad v.1 v.2.1 v.2.2.1 }
def azP:TEnv:=(vZ [(242,uj)])
theorem azO:runY Tryz.prog aow azQ azP aDr Tryz.f284 acp.ps acp.res=acp.fn:=by kernel_rfl
theorem aou:az Tryz.prog G0 284 aov:=ah (aj ⟨au,(ai un ac),ap,ac,an⟩ Tryz.func284 rfl (by kernel_rfl))
theorem azN:TOk aov acp:=ay (E:=aow) (ET:=azP) (EnvT.ofX (ax (ae ab9 al)) am ar aI aq) azO rfl
def aiw:Env:=(eZ [(284,aov)] [274])
def aqW:Hints:=(hZ [] [])
def aiv:PFn:=aC (runF Tryz.prog aiw aqW Tryz.f217)
def aBc:TH:={ loops:=[],ro:=[3] }
def zeq (a0:List vV3) (a1:(Int×Int×Unit)):Option (Int×Bool×Unit) :=
(zad a0 (a1,0,()) ()).bind fun r1 =>
 some (r1.1,r1.2.1,())
def aad:TFn:={ ps:=(.cons (.sl tT19) (.cons tT16 .unit)),res:=(.tup (.cons (.int .i64) (.cons .bool .unit))),fn:=fun v=>zeq v.1 v.2.1 }
def aqV:TEnv:=(vZ [(284,acp)])
theorem aqU:runY Tryz.prog aiw aqW aqV aBc Tryz.f217 aad.ps aad.res=aad.fn:=by kernel_rfl
theorem aiu:az Tryz.prog G0 217 aiv:=ah (aj ⟨au,(ai aou ac),ap,ac,an⟩ Tryz.func217 rfl (by kernel_rfl))
theorem aqT:TOk aiv aad:=ay (E:=aiw) (ET:=aqV) (EnvT.ofX (ax (ae azN al)) am ar aI aq) aqU rfl
def akl:Env:=(eZ [(217,aiv)] [274])
def atR:Hints:=(hZ [] [])
def afb:PFn:=aC (runF Tryz.prog akl atR Tryz.f145)
def aBW:TH:={ loops:=[],ro:=[3] }
def zd9 (a0:List vV3) (a1:(Int×Int×Unit)):Option Int :=
(zeq a0 a1).bind fun r1 =>
 cond r1.2.1 (
(atI a0 r1.1).bind fun x2 =>
 some x2.2.1) (
 some 0)
def yc:TFn:={ ps:=(.cons (.sl tT19) (.cons tT16 .unit)),res:=(.int .i64),fn:=fun v=>zd9 v.1 v.2.1 }
def atQ:TEnv:=(vZ [(217,aad)])
theorem atP:runY Tryz.prog akl atR atQ aBW Tryz.f145 yc.ps yc.res=yc.fn:=by kernel_rfl
theorem aaW:az Tryz.prog G0 145 afb:=ah (aj ⟨au,(ai aiu ac),ap,ac,an⟩ Tryz.func145 rfl (by kernel_rfl))
theorem ahp:TOk afb yc:=ay (E:=akl) (ET:=atQ) (EnvT.ofX (ax (ae aqT al)) am ar aI aq) atP rfl
def ajS:Env:=(eZ [(145,afb)] [274])
def as3:Hints:=(hZ [] [])
def aaK:PFn:=aC (runF Tryz.prog ajS as3 Tryz.f75)
def aBJ:TH:={ loops:=[],ro:=[3] }
def zdm (a0:List vV3) (a1:(Int×Int×Unit)):Option Bool :=
(zd9 a0 a1).bind fun r1 =>
(remT r1 2).bind fun t2 =>
 some (decide (t2=0))
def tP:TFn:={ ps:=(.cons (.sl tT19) (.cons tT16 .unit)),res:=.bool,fn:=fun v=>zdm v.1 v.2.1 }
def as0:TEnv:=(vZ [(145,yc)])
theorem asZ:runY Tryz.prog ajS as3 as0 aBJ Tryz.f75 tP.ps tP.res=tP.fn:=by kernel_rfl
theorem tQ:az Tryz.prog G0 75 aaK:=ah (aj ⟨au,(ai aaW ac),ap,ac,an⟩ Tryz.func75 rfl (by kernel_rfl))
theorem aaJ:TOk aaK tP:=ay (E:=ajS) (ET:=as0) (EnvT.ofX (ax (ae ahp al)) am ar aI aq) asZ rfl
def alz:Env:=(eZ [(145,afb),(173,pk)] [274])
def avE:Hints:=(hZ [] [])
def abm:PFn:=aC (runF Tryz.prog alz avE Tryz.f102)
def aCq:TH:={ loops:=[],ro:=[3] }
def zcg (a0:List vV3) (a1:(Int×Int×Unit)):Option (vV3×Int×Unit) :=
(zd9 a0 a1).bind fun r1 =>
(zd6 a1).bind fun r2 =>
 cond (!r2) (
 some (((0,0,()),0,()),2,())) (
 cond (decide (r1≥64)) (
 some (((0,0,()),0,()),14,())) (
 some ((a1,(IntKind.wrap .i64 (r1+1)),()),0,())))
def tT:TFn:={ ps:=(.cons (.sl tT19) (.cons tT16 .unit)),res:=(.tup (.cons tT19 tT22)),fn:=fun v=>zcg v.1 v.2.1 }
def avD:TEnv:=(vZ [(145,yc),(173,kS)])
theorem avC:runY Tryz.prog alz avE avD aCq Tryz.f102 tT.ps tT.res=tT.fn:=by kernel_rfl
theorem tU:az Tryz.prog G0 102 abm:=ah (aj ⟨au,(ai aaW (ai ii ac)),ap,ac,an⟩ Tryz.func102 rfl (by kernel_rfl))
theorem abl:TOk abm tT:=ay (E:=alz) (ET:=avD) (EnvT.ofX (ax (ae ahp (ae kR al))) am ar aI aq) avC rfl
def aiH:Env:=(eZ [(102,abm),(115,aab)] [274])
def arf:Hints:=(hZ [] [])
def aiG:PFn:=aC (runF Tryz.prog aiH arf Tryz.f100)
def aBh:TH:={ loops:=[],ro:=[2,3] }
def zel (a0:vV0) (a1:(Int×Int×Unit)):Option Int :=
(zes a0.2.2.2.1 a1).bind fun r1 =>
 cond r1 (
 some 13) (
(zcg a0.2.1 a1).bind fun r2 =>
 some r2.2.1)
def aaj:TFn:={ ps:=(.cons tT14 (.cons tT16 .unit)),res:=(.int .i64),fn:=fun v=>zel v.1 v.2.1 }
def ard:TEnv:=(vZ [(102,tT),(115,tL)])
theorem arc:runY Tryz.prog aiH arf ard aBh Tryz.f100 aaj.ps aaj.res=aaj.fn:=by kernel_rfl
theorem aiF:az Tryz.prog G0 100 aiG:=ah (aj ⟨au,(ai tU (ai tM ac)),ap,ac,an⟩ Tryz.func100 rfl (by kernel_rfl))
theorem arb:TOk aiG aaj:=ay (E:=aiH) (ET:=ard) (EnvT.ofX (ax (ae abl (ae aaa al))) am ar aI aq) arc rfl
def akN:Env:=(eZ [(75,aaK),(100,aiG),(114,aag),(115,aab)] [274])
def auw:Hints:=(hZ [] [])
def akM:PFn:=aC (runF Tryz.prog akN auw Tryz.f46)
def aB6:TH:={ loops:=[],ro:=[3,4] }
def zcz (a0:vV0) (a1:(Int×Int×Unit)) (a2:Bool):Option Int :=
(zeo a0.1 a1).bind fun r1 =>
 cond (decide (r1<0)) (
 some 12) (
(zes a0.2.2.2.1 a1).bind fun r2 =>
 cond r2 (
 some 13) (
(zdm a0.2.1 a1).bind fun r3 =>
 cond (r3==a2) (
 some 11) (
(zel a0 a1).bind fun r4 =>
 some r4)))
def aa5:TFn:={ ps:=(.cons tT14 (.cons tT16 (.cons .bool .unit))),res:=(.int .i64),fn:=fun v=>zcz v.1 v.2.1 v.2.2.1 }
def auv:TEnv:=(vZ [(75,tP),(100,aaj),(114,tN),(115,tL)])
theorem auu:runY Tryz.prog akN auw auv aB6 Tryz.f46 aa5.ps aa5.res=aa5.fn:=by kernel_rfl
theorem akL:az Tryz.prog G0 46 akM:=ah (aj ⟨au,(ai tQ (ai aiF (ai tO (ai tM ac)))),ap,ac,an⟩ Tryz.func46 rfl (by kernel_rfl))
theorem aut:TOk akM aa5:=ay (E:=akN) (ET:=auv) (EnvT.ofX (ax (ae aaJ (ae arb (ae aaf (ae aaa al))))) am ar aI aq) auu rfl
def ajW:Env:=(eZ [(242,aca)] [274])
def ata:Hints:=(hZ [(2,[0,1,5])] [34,38,42,57,68])
def ajV:PFn:=aC (runF Tryz.prog ajW ata Tryz.f179)
def aBL:TH:={ joins:=[(3,{ keep:=[(5,(.own 0))],mem:=[.row true 82 tT19] }),(10,{ keep:=[(5,(.own 0)),(6,(.int .i64))],mem:=[.row true 82 tT19] })],loops:=[(2,{ keep:=[(0,(.sl tT19)),(1,(.sl tT19)),(5,(.own 0))],mem:=[.row true 82 tT19] })],ro:=[] }
def fT (y2:(List vV3×List vV3×List vV3×Unit)):Option ((List vV3×List vV3×List vV3×Unit)⊕List vV3) :=
(cond (decide ((y2.1.length:Int)>0)) (some (.inl (y2.2.2.1,()))) (cond (decide ((y2.2.1.length:Int)>0)) (
 some (.inl (y2.2.2.1,()))) (
 some (.inr (.inr y2.2.2.1)))):Option ((List vV3×Unit)⊕((List vV3×List vV3×List vV3×Unit)⊕List vV3))).bind (aZ fun v1 =>
(cond (decide ((y2.1.length:Int)=0)) (
 some (.inl (1,v1.1,()))) (
 cond (decide ((y2.2.1.length:Int)>0)) (
(atI y2.1 0).bind fun x2 =>
(atI y2.2.1 0).bind fun x3 =>
(zb0 x2 x3).bind fun r4 =>
 some (.inl (r4,v1.1,()))) (
 some (.inl ((-1),v1.1,())))):Option ((Int×List vV3×Unit)⊕((List vV3×List vV3×List vV3×Unit)⊕List vV3))).bind (aZ fun v5 =>
 cond (decide (v5.1<0)) (
(atI y2.1 0).bind fun x6 =>
(bY (v5.2.1.length+([x6]:List vV3).length)).bind fun u7 =>
(subI y2.1 1 (y2.1.length:Int)).bind fun s8 =>
 some (.inl (s8,y2.2.1,(v5.2.1++([x6]:List vV3)),()))) (
 cond (decide (v5.1>0)) (
(atI y2.2.1 0).bind fun x9 =>
(bY (v5.2.1.length+([x9]:List vV3).length)).bind fun u10 =>
(subI y2.2.1 1 (y2.2.1.length:Int)).bind fun s11 =>
 some (.inl (y2.1,s11,(v5.2.1++([x9]:List vV3)),()))) (
(atI y2.1 0).bind fun x12 =>
(atI y2.1 0).bind fun x13 =>
(atI y2.2.1 0).bind fun x14 =>
(bY (v5.2.1.length+([(x12.1,(max x13.2.1 x14.2.1),())]:List vV3).length)).bind fun u15 =>
(subI y2.1 1 (y2.1.length:Int)).bind fun s16 =>
(subI y2.2.1 1 (y2.2.1.length:Int)).bind fun s17 =>
 some (.inl (s16,s17,(v5.2.1++([(x12.1,(max x13.2.1 x14.2.1),())]:List vV3)),()))))))
def zdk (a0:List vV3) (a1:List vV3):Option (List vV3) :=
 aK (fT) (a0,a1,[],())
def aaM:TFn:={ ps:=(.cons (.sl tT19) (.cons (.sl tT19) .unit)),res:=(.sl tT19),fn:=fun v=>zdk v.1 v.2.1 }
def as9:TEnv:={ pure:=[(242,uj)],look:=[],glob:=G0T,ty:=[(82,tT19)],raw:=[],fresh:=[] }
theorem as8:runY Tryz.prog ajW ata as9 aBL Tryz.f179 aaM.ps aaM.res=aaM.fn:=by kernel_rfl
theorem ajU:az Tryz.prog G0 179 ajV:=ah (aj ⟨au,(ai un ac),ap,ac,an⟩ Tryz.func179 rfl (by kernel_rfl))
theorem as7:TOk ajV aaM:=ay (E:=ajW) (ET:=as9) (EnvT.ofX (ax (ae ab9 al)) am ar aI aq) as8 rfl
def al3:Env:=(eZ [(179,ajV)] [274])
def awm:Hints:=(hZ [] [])
def afk:PFn:=aC (runF Tryz.prog al3 awm Tryz.f104)
def aCC:TH:=yZ
def zc3 (a0:vV0) (a1:List vV3):Option vV0 :=
(zdk a0.2.1 a1).bind fun r1 =>
 some (a0.1,r1,a0.2.2.1,a0.2.2.2.1,a0.2.2.2.2.1,())
def yh:TFn:={ ps:=(.cons tT14 (.cons (.sl tT19) .unit)),res:=tT14,fn:=fun v=>zc3 v.1 v.2.1 }
def awl:TEnv:=(vZ [(179,aaM)])
theorem awk:runY Tryz.prog al3 awm awl aCC Tryz.f104 yh.ps yh.res=yh.fn:=by kernel_rfl
theorem abB:az Tryz.prog G0 104 afk:=ah (aj ⟨au,(ai ajU ac),ap,ac,an⟩ Tryz.func104 rfl (by kernel_rfl))
theorem ahw:TOk afk yh:=ay (E:=al3) (ET:=awl) (EnvT.ofX (ax (ae as7 al)) am ar aI aq) awk rfl
def ann:Env:=(eZ [(102,abm),(104,afk)] [274])
def ayt:Hints:=(hZ [] [])
def anm:PFn:=aC (runF Tryz.prog ann ayt Tryz.f130)
def aDa:TH:={ loops:=[],ro:=[2,3] }
def zb1 (a0:vV0) (a1:(Int×Int×Unit)):Option (vV0×Int×Unit) :=
(zcg a0.2.1 a1).bind fun r1 =>
 cond (!decide (r1.2.1=0)) (
 some (([],[],([0,0,0,0,0,0,0,0,0,0,0,0,0,0,0,0],[],()),([0,0,0,0,0,0,0,0,0,0,0,0,0,0,0,0],[],()),[[],[],[],[],[],[],[],[]],()),r1.2.1,())) (
(zc3 a0 ([r1.1]:List vV3)).bind fun r2 =>
 some (r2,0,()))
def ab8:TFn:={ ps:=(.cons tT14 (.cons tT16 .unit)),res:=(.tup (.cons tT14 tT22)),fn:=fun v=>zb1 v.1 v.2.1 }
def ays:TEnv:={ pure:=[(102,tT),(104,yh)],look:=[],glob:=G0T,ty:=[(82,tT19)],raw:=[],fresh:=[] }
theorem ayr:runY Tryz.prog ann ayt ays aDa Tryz.f130 ab8.ps ab8.res=ab8.fn:=by kernel_rfl
theorem anl:az Tryz.prog G0 130 anm:=ah (aj ⟨au,(ai tU (ai abB ac)),ap,ac,an⟩ Tryz.func130 rfl (by kernel_rfl))
theorem ayq:TOk anm ab8:=ay (E:=ann) (ET:=ays) (EnvT.ofX (ax (ae abl (ae ahw al))) am ar aI aq) ayr rfl
def am6:Env:=(eZ [(75,aaK)] [274])
def ax5:Hints:=(hZ [(3,[1,5,13,14,15]),(7,[1,5,13,14,15,25,26,27]),(10,[1,5,13,14,15,25,26,27,32,33,34])] [])
def am5:SFn:=runF Tryz.prog am6 ax5 Tryz.f74
def aC4:TH:={ loops:=[(3,{ keep:=[(5,(.mp 0)),(15,(.int .i64))],mem:=[.map tT19 .bool] }),(7,{ keep:=[(5,(.mp 0)),(27,(.int .i64))],mem:=[.map tT19 .bool,.gone] }),(10,{ keep:=[(5,(.mp 0)),(34,(.int .i64))],mem:=[.map tT19 .bool,.gone,.gone] })],ro:=[] }
def px (y7:vV13) (x3:vV1) (y10:vV13):Option (vV13⊕(vV13⊕(vV13⊕(List (vV3×Bool))))) :=
 cond (decide (y10.1<(x3.2.2.2.2.1.length:Int))) (
(atI x3.2.2.2.2.1 y10.1).bind fun x4 =>
 some (.inl ((IntKind.wrap .i64 (y10.1+1)),(putK tT19 x4 true y10.2.1),()))) (
 some (.inr (.inl ((IntKind.wrap .i64 (y7.1+1)),y10.2.1,()))))
def wx (y3:vV13) (x1:vV4) (y7:vV13):Option (vV13⊕(vV13⊕(List (vV3×Bool)))) :=
 cond (decide (y7.1<(x1.2.2.2.2.1.length:Int))) (
(atI x1.2.2.2.2.1 y7.1).bind fun x3 =>
 aK (px y7 x3) (0,y7.2.1,())) (
 some (.inr (.inl ((IntKind.wrap .i64 (y3.1+1)),y7.2.1,()))))
def wy (a0:List vV4) (a1:List vV3) (y3:vV13):Option (vV13⊕(List (vV3×Bool))) :=
 cond (decide (y3.1<(a0.length:Int))) (
(atI a0 y3.1).bind fun x1 =>
(zdm a1 x1.1).bind fun r2 =>
 cond (!r2) (
 some (.inl ((IntKind.wrap .i64 (y3.1+1)),y3.2.1,()))) (
 aK (wx y3 x1) (0,y3.2.1,()))) (
 some (.inr y3.2.1))
def zb8 (a0:List vV4) (a1:List vV3):Option (List (vV3×Bool)) :=
 aK (wy a0 a1) (0,[],())
def afz:TNew:={ ps:=(.cons (.sl tT18) (.cons (.sl tT19) .unit)),e:=143,t:=(.sl (.cons tT19 .bool)),fn:=fun v=>zb8 v.1 v.2.1,mp:=true }
def ax4:TEnv:={ pure:=[(75,tP)],look:=[],glob:=G0T,ty:=[(4,.bool),(146,tT19)],raw:=[],fresh:=[] }
theorem ax3:aAC Tryz.prog am6 ax5 ax4 aC4 Tryz.f74 afz.ps tT19 .bool=afz.fn:=by kernel_rfl
theorem am4:bn Tryz.prog G0 74 am5:=aj ⟨au,(ai tQ ac),ap,ac,an⟩ Tryz.func74 rfl (by kernel_rfl)
theorem ax2:TNewOk am5 afz:=agv (E:=am6) (ET:=ax4) (EnvT.ofX (ax (ae aaJ al)) am ar aI aq) ax3
def ait:Env:={ pure:=[(75,aaK)],raw:=[(74,am5)],glob:=G0,same:=[274],look:=[],ext:=[] }
def aqS:Hints:=(hZ [(4,[1,5,6,15,16,17]),(8,[1,5,6,8,15,16,17,27,28,29])] [])
def ais:PFn:=aC (runF Tryz.prog ait aqS Tryz.f19)
def aBb:TH:={ loops:=[(4,{ keep:=[(5,(.mp 0)),(6,(.own 4)),(17,(.int .i64))],mem:=[.map tT19 .bool,.gone,.gone,.gone,.row true 148 tT25] }),(8,{ keep:=[(5,(.mp 0)),(6,(.own 4)),(8,(.bx 5 0)),(29,(.int .i64))],mem:=[.map tT19 .bool,.gone,.gone,.gone,.row true 148 tT25,.box 78 tT18] })],ro:=[] }
def vM (y4:(Int×List (vV3×Bool)×List vV9×Unit)) (x2:vV4) (y8:(Int×List (vV3×Bool)×List vV9×vV4×Unit)):Option ((Int×List (vV3×Bool)×List vV9×vV4×Unit)⊕((Int×List (vV3×Bool)×List vV9×Unit)⊕List vV9)) :=
 cond (decide (y8.1<(x2.2.2.2.2.1.length:Int))) (
(atI x2.2.2.2.2.1 y8.1).bind fun x4 =>
 cond (decide (x4.1=1)) (cond (!((getK tT19 false (y8.2.2.2.1.1,y8.1,()) y8.2.1).1)) (
(bY (y8.2.2.1.length+([((y8.2.2.2.1.1,y8.1,()),x4,y8.2.2.2.1.2.2.1,())]:List vV9).length)).bind fun u5 =>
 some (.inl ((IntKind.wrap .i64 (y8.1+1)),y8.2.1,(y8.2.2.1++([((y8.2.2.2.1.1,y8.1,()),x4,y8.2.2.2.1.2.2.1,())]:List vV9)),y8.2.2.2.1,()))) (
 some (.inl ((IntKind.wrap .i64 (y8.1+1)),y8.2.1,y8.2.2.1,y8.2.2.2.1,())))) (cond (decide (x4.1=2)) (cond (!((getK tT19 false (y8.2.2.2.1.1,y8.1,()) y8.2.1).1)) (
(bY (y8.2.2.1.length+([((y8.2.2.2.1.1,y8.1,()),x4,y8.2.2.2.1.2.2.1,())]:List vV9).length)).bind fun u6 =>
 some (.inl ((IntKind.wrap .i64 (y8.1+1)),y8.2.1,(y8.2.2.1++([((y8.2.2.2.1.1,y8.1,()),x4,y8.2.2.2.1.2.2.1,())]:List vV9)),y8.2.2.2.1,()))) (
 some (.inl ((IntKind.wrap .i64 (y8.1+1)),y8.2.1,y8.2.2.1,y8.2.2.2.1,())))) (cond (decide (x4.1=3)) (cond (!((getK tT19 false (y8.2.2.2.1.1,y8.1,()) y8.2.1).1)) (
(bY (y8.2.2.1.length+([((y8.2.2.2.1.1,y8.1,()),x4,y8.2.2.2.1.2.2.1,())]:List vV9).length)).bind fun u7 =>
 some (.inl ((IntKind.wrap .i64 (y8.1+1)),y8.2.1,(y8.2.2.1++([((y8.2.2.2.1.1,y8.1,()),x4,y8.2.2.2.1.2.2.1,())]:List vV9)),y8.2.2.2.1,()))) (
 some (.inl ((IntKind.wrap .i64 (y8.1+1)),y8.2.1,y8.2.2.1,y8.2.2.2.1,())))) (some (.inl ((IntKind.wrap .i64 (y8.1+1)),y8.2.1,y8.2.2.1,y8.2.2.2.1,())))))) (
 some (.inr (.inl ((IntKind.wrap .i64 (y4.1+1)),y8.2.1,y8.2.2.1,()))))
def vN (a0:List vV4) (a1:List vV3) (y4:(Int×List (vV3×Bool)×List vV9×Unit)):Option ((Int×List (vV3×Bool)×List vV9×Unit)⊕List vV9) :=
 cond (decide (y4.1<(a0.length:Int))) (
(atI a0 y4.1).bind fun x2 =>
(zdm a1 x2.1).bind fun r3 =>
 cond (!r3) (
 some (.inl ((IntKind.wrap .i64 (y4.1+1)),y4.2.1,y4.2.2.1,()))) (
 aK (vM y4 x2) (0,y4.2.1,y4.2.2.1,x2,()))) (
 some (.inr y4.2.2.1))
def zer (a0:List vV4) (a1:List vV3):Option (List vV9) :=
(zb8 a0 a1).bind fun n1 =>
 aK (vN a0 a1) (0,n1,[],())
def aac:TFn:={ ps:=(.cons (.sl tT18) (.cons (.sl tT19) .unit)),res:=(.sl tT25),fn:=fun v=>zer v.1 v.2.1 }
def aqR:TEnv:={ pure:=[(75,tP)],look:=[],glob:=G0T,ty:=[(148,tT25)],raw:=[],fresh:=[(74,afz)] }
theorem aqQ:runY Tryz.prog ait aqS aqR aBb Tryz.f19 aac.ps aac.res=aac.fn:=by kernel_rfl
theorem air:az Tryz.prog G0 19 ais:=ah (aj ⟨au,(ai tQ ac),(aU am4 ap),ac,an⟩ Tryz.func19 rfl (by kernel_rfl))
theorem aqP:TOk ais aac:=ay (E:=ait) (ET:=aqR) (EnvT.ofX (ax (ae aaJ al)) am (gb ar rfl) aI (gg ax2 rfl rfl rfl aq)) aqQ rfl
def al5:Env:=(eZ [(19,ais)] [274])
def aws:Hints:=(hZ [] [])
def afm:PFn:=aC (runF Tryz.prog al5 aws Tryz.f50)
def aCE:TH:={ loops:=[],ro:=[1] }
def zc1 (a0:vV0):Option (List vV9) :=
(zer a0.1 a0.2.1).bind fun r1 =>
 some r1
def yj:TFn:={ ps:=(.cons tT14 .unit),res:=(.sl tT25),fn:=fun v=>zc1 v.1 }
def awr:TEnv:=(vZ [(19,aac)])
theorem awq:runY Tryz.prog al5 aws awr aCE Tryz.f50 yj.ps yj.res=yj.fn:=by kernel_rfl
theorem abD:az Tryz.prog G0 50 afm:=ah (aj ⟨au,(ai air ac),ap,ac,an⟩ Tryz.func50 rfl (by kernel_rfl))
theorem ahy:TOk afm yj:=ay (E:=al5) (ET:=awr) (EnvT.ofX (ax (ae aqP al)) am ar aI aq) awq rfl
def am2:Go.Shelf.Ren:=⟨fun | 41=>72 | n=>n,fun | 22=>24 | 23=>9 | 4=>4 | n=>n,fun | n=>n⟩
theorem afw:Go.Proofs.SlLaysE0.n41 Tryz.prog am2:={
 mixed:=by kernel_rfl
 f41:=⟨Tryz.f72.name,by decide,Tryz.func72.trans (congrArg some (by kernel_rfl))⟩
 t4:=Tryz.underlying4
 a4:=Tryz.isAgg4
 z4:=Tryz.sizeOf4
 v4:=Tryz.zeroValue4
 t22:=Tryz.underlying24
 a22:=Tryz.isAgg24
 z22:=Tryz.sizeOf24
 v22:=Tryz.zeroValue24 }
def abY:PFn:=(hP 1)
theorem ui:az Tryz.prog G0 72 abY:=clone_lays afw 1 ⟨Tryz.f72,Tryz.func72,rfl,by kernel_rfl⟩ (by kernel_rfl) (by kernel_rfl) (by kernel_rfl) (by kernel_rfl) (by kernel_rfl) (by decide) (fun w=>Tryz.sizeOf9 w)
def zba (a0:List (List UInt8)):Option (List (List UInt8)):=dv a0
def afx:TFn:=d9 .str
theorem abX:TOk abY afx:=gn rfl rfl rfl
def aig:Env:=(eZ [] [274])
def aqw:Hints:=(hZ [] [])
def ae0:PFn:=aC (runF Tryz.prog aig aqw Tryz.f124)
def aA5:TH:={ joins:=[(6,{ keep:=[(6,.bool)],mem:=[] })],loops:=[],ro:=[] }
def zex (a0:Int):Option Int :=
 cond (decide (a0=1)) (
 some 1) (
(cond (decide (a0=2)) (
 some (.inl ((decide (a0=2)),()))) (
 some (.inl ((decide (a0=4)),()))):Option ((Bool×Unit)⊕Int)).bind (aZ fun v1 =>
 cond v1.1 (
 some 2) (
 cond (decide (a0=3)) (
 some 3) (
 some 0))))
def xT:TFn:={ ps:=tT22,res:=(.int .i64),fn:=fun v=>zex v.1 }
def aqv:TEnv:=(vZ [])
theorem aqu:runY Tryz.prog aig aqw aqv aA5 Tryz.f124 xT.ps xT.res=xT.fn:=by kernel_rfl
theorem zX:az Tryz.prog G0 124 ae0:=ah (aj ⟨au,ac,ap,ac,an⟩ Tryz.func124 rfl (by kernel_rfl))
theorem ahg:TOk ae0 xT:=ay (E:=aig) (ET:=aqv) (EnvT.ofX (ax al) am ar aI aq) aqu rfl
def amt:Env:=(eZ [] [274])
def aw5:Hints:=(hZ [] [])
def afq:PFn:=aC (runF Tryz.prog amt aw5 Tryz.f330)
def aCO:TH:=yZ
def zbq (a0:List UInt8):Option Bool :=
 some (!decide (a0=a0))
def abL:TFn:={ ps:=(.cons .str .unit),res:=.bool,fn:=fun v=>zbq v.1 }
def aw4:TEnv:=(vZ [])
theorem aw3:runY Tryz.prog amt aw5 aw4 aCO Tryz.f330 abL.ps abL.res=abL.fn:=by kernel_rfl
theorem ams:az Tryz.prog G0 330 afq:=ah (aj ⟨au,ac,ap,ac,an⟩ Tryz.func330 rfl (by kernel_rfl))
theorem aw2:TOk afq abL:=ay (E:=amt) (ET:=aw4) (EnvT.ofX (ax al) am ar aI aq) aw3 rfl
def amy:Env:=(eZ [(330,afq)] [274])
def axd:Hints:=(hZ [] [])
def afs:PFn:=aC (runF Tryz.prog amy axd Tryz.f287)
def aCQ:TH:=yZ
def zbo (a0:List UInt8) (a1:List UInt8):Option Int :=
(zbq a0).bind fun r1 =>
(zbq a1).bind fun r2 =>
 cond r1 (
 cond r2 (
 some 0) (
 some (-1))) (
 cond r2 (
 some 1) (
 cond (Op.bytesLess a0 a1) (
 some (-1)) (
 cond (!(Op.bytesLess a0 a1||decide (a0=a1))) (
 some 1) (
 some 0))))
def abN:TFn:={ ps:=(.cons .str (.cons .str .unit)),res:=(.int .i64),fn:=fun v=>zbo v.1 v.2.1 }
def axc:TEnv:=(vZ [(330,abL)])
theorem axb:runY Tryz.prog amy axd axc aCQ Tryz.f287 abN.ps abN.res=abN.fn:=by kernel_rfl
theorem amx:az Tryz.prog G0 287 afs:=ah (aj ⟨au,(ai ams ac),ap,ac,an⟩ Tryz.func287 rfl (by kernel_rfl))
theorem axa:TOk afs abN:=ay (E:=amy) (ET:=axc) (EnvT.ofX (ax (ae aw2 al)) am ar aI aq) axb rfl
def aoJ:Env:=(eZ [(287,afs)] [274])
def az6:Hints:=(hZ [(2,[0,1,9,10,11])] [])
def afN:PFn:=aC (runF Tryz.prog aoJ az6 Tryz.f225)
def aDv:TH:={ joins:=[(11,{ keep:=[],mem:=[] })],loops:=[(2,{ keep:=[(11,(.int .i64))],mem:=[] })],ro:=[] }
def iD (a0:List (List UInt8)) (a1:List (List UInt8)) (y2:(Int×Unit)):Option ((Int×Unit)⊕(Unit⊕Int)) :=
 cond (decide (y2.1<(a0.length:Int))) (
(atI a0 y2.1).bind fun x1 =>
 cond (decide (y2.1≥(a1.length:Int))) (
 some (.inr (.inr 1))) (
(atI a1 y2.1).bind fun x2 =>
(zbo x1 x2).bind fun r3 =>
 cond (!decide (r3=0)) (
 some (.inr (.inr r3))) (
 some (.inl ((IntKind.wrap .i64 (y2.1+1)),()))))) (
 some (.inr (.inl ())))
def za8 (a0:List (List UInt8)) (a1:List (List UInt8)):Option Int :=
(aK (iD a0 a1) (0,()):Option (Unit⊕Int)).bind (aZ fun v4 =>
 cond (decide ((a0.length:Int)<(a1.length:Int))) (
 some (-1)) (
 some 0))
def acu:TFn:={ ps:=(.cons (.sl .str) (.cons (.sl .str) .unit)),res:=(.int .i64),fn:=fun v=>za8 v.1 v.2.1 }
def az5:TEnv:=(vZ [(287,abN)])
theorem az4:runY Tryz.prog aoJ az6 az5 aDv Tryz.f225 acu.ps acu.res=acu.fn:=by kernel_rfl
theorem aoI:az Tryz.prog G0 225 afN:=ah (aj ⟨au,(ai amx ac),ap,ac,an⟩ Tryz.func225 rfl (by kernel_rfl))
theorem az3:TOk afN acu:=ay (E:=aoJ) (ET:=az5) (EnvT.ofX (ax (ae axa al)) am ar aI aq) az4 rfl
def alB:Env:=(eZ [(225,afN)] [274])
def avH:Hints:=(hZ [] [])
def abp:PFn:=aC (runF Tryz.prog alB avH Tryz.f155)
def aCr:TH:=yZ
def zce (a0:List (List UInt8)) (a1:List (List UInt8)):Option Int :=
(za8 a0 a1).bind fun r1 =>
 some r1
def yf:TFn:={ ps:=(.cons (.sl .str) (.cons (.sl .str) .unit)),res:=(.int .i64),fn:=fun v=>zce v.1 v.2.1 }
def avG:TEnv:=(vZ [(225,acu)])
theorem avF:runY Tryz.prog alB avH avG aCr Tryz.f155 yf.ps yf.res=yf.fn:=by kernel_rfl
theorem abo:az Tryz.prog G0 155 abp:=ah (aj ⟨au,(ai aoI ac),ap,ac,an⟩ Tryz.func155 rfl (by kernel_rfl))
theorem aht:TOk abp yf:=ay (E:=alB) (ET:=avG) (EnvT.ofX (ax (ae az3 al)) am ar aI aq) avF rfl
def alJ:Env:=(eZ [(154,qR),(155,abp),(156,q9)] [274])
def avS:Hints:=(hZ [] [])
def abt:PFn:=aC (runF Tryz.prog alJ avS Tryz.f126)
def aCu:TH:={ loops:=[],ro:=[2,3] }
def zcb (a0:vV7) (a1:vV7):Option Int :=
(zce a0.1 a1.1).bind fun r1 =>
(zbu a0.2.1 a1.2.1).bind fun r2 =>
(zdn ([r1,r2]:List Int)).bind fun r3 =>
 some r3
def abs:TFn:={ ps:=(.cons tT28 (.cons tT28 .unit)),res:=(.int .i64),fn:=fun v=>zcb v.1 v.2.1 }
def avR:TEnv:={ pure:=[(154,pi),(155,yf),(156,pp)],look:=[],glob:=G0T,ty:=[(3,(.int .i64))],raw:=[],fresh:=[] }
theorem avQ:runY Tryz.prog alJ avS avR aCu Tryz.f126 abs.ps abs.res=abs.fn:=by kernel_rfl
theorem alI:az Tryz.prog G0 126 abt:=ah (aj ⟨au,(ai kO (ai abo (ai kU ac))),ap,ac,an⟩ Tryz.func126 rfl (by kernel_rfl))
theorem ahu:TOk abt abs:=ay (E:=alJ) (ET:=avR) (EnvT.ofX (ax (ae qQ (ae aht (ae qZ al)))) am ar aI aq) avQ rfl
theorem afB : @az ⟨True⟩ Tryz.prog G0 226 afC:=by
 letI:Drawn:=⟨True⟩;exact ah (aj ⟨au,ac,ap,ac,an⟩ Tryz.func226 rfl (by kernel_rfl))
theorem wr : @az ⟨True⟩ Tryz.prog G0 156 q9:=by
 letI:Drawn:=⟨True⟩;exact ah (aj ⟨au,(ai afB ac),ap,ac,an⟩ Tryz.func156 rfl (by kernel_rfl))
theorem vW : @az ⟨True⟩ Tryz.prog G0 154 qR:=by
 letI:Drawn:=⟨True⟩;exact ah (aj ⟨au,ac,ap,ac,an⟩ Tryz.func154 rfl (by kernel_rfl))
theorem afp : @az ⟨True⟩ Tryz.prog G0 330 afq:=by
 letI:Drawn:=⟨True⟩;exact ah (aj ⟨au,ac,ap,ac,an⟩ Tryz.func330 rfl (by kernel_rfl))
theorem afr : @az ⟨True⟩ Tryz.prog G0 287 afs:=by
 letI:Drawn:=⟨True⟩;exact ah (aj ⟨au,(ai afp ac),ap,ac,an⟩ Tryz.func287 rfl (by kernel_rfl))
theorem afM : @az ⟨True⟩ Tryz.prog G0 225 afN:=by
 letI:Drawn:=⟨True⟩;exact ah (aj ⟨au,(ai afr ac),ap,ac,an⟩ Tryz.func225 rfl (by kernel_rfl))
theorem afh : @az ⟨True⟩ Tryz.prog G0 155 abp:=by
 letI:Drawn:=⟨True⟩;exact ah (aj ⟨au,(ai afM ac),ap,ac,an⟩ Tryz.func155 rfl (by kernel_rfl))
theorem afi : @az ⟨True⟩ Tryz.prog G0 126 abt:=by
 letI:Drawn:=⟨True⟩;exact ah (aj ⟨au,(ai vW (ai afh (ai wr ac))),ap,ac,an⟩ Tryz.func126 rfl (by kernel_rfl))
def anX:Go.Shelf.Ren:=⟨fun | 6=>125 | 14=>200 | 15=>201 | 20=>260 | 21=>261 | 22=>262 | 23=>263 | 24=>264 | 25=>265 | 26=>266 | 27=>267 | 28=>268 | 29=>269 | 46=>315 | 47=>316 | 48=>317 | 49=>318 | 50=>319 | 57=>351 | n=>n,fun | 0=>0 | 3=>3 | 4=>4 | 5=>5 | 9=>9 | 22=>104 | 24=>109 | 25=>199 | 39=>230 | 45=>314 | 46=>315 | 50=>161 | 53=>321 | 55=>323 | 66=>354 | 70=>358 | 76=>378 | 77=>283 | n=>n,fun | n=>n⟩
theorem afH:Go.Proofs.SlLaysF0.n6 Tryz.prog anX:={
 mixed:=by kernel_rfl
 f6:=⟨Tryz.f125.name,by decide,Tryz.func125.trans (congrArg some (by kernel_rfl))⟩
 f14:=⟨Tryz.f200.name,by decide,Tryz.func200.trans (congrArg some (by kernel_rfl))⟩
 f15:=Tryz.func201.trans (congrArg some (by kernel_rfl))
 f20:=⟨Tryz.f260.name,by decide,Tryz.func260.trans (congrArg some (by kernel_rfl))⟩
 f21:=⟨Tryz.f261.name,by decide,Tryz.func261.trans (congrArg some (by kernel_rfl))⟩
 f22:=⟨Tryz.f262.name,by decide,Tryz.func262.trans (congrArg some (by kernel_rfl))⟩
 f23:=⟨Tryz.f263.name,by decide,Tryz.func263.trans (congrArg some (by kernel_rfl))⟩
 f24:=⟨Tryz.f264.name,by decide,Tryz.func264.trans (congrArg some (by kernel_rfl))⟩
 f25:=⟨Tryz.f265.name,by decide,Tryz.func265.trans (congrArg some (by kernel_rfl))⟩
 f26:=⟨Tryz.f266.name,by decide,Tryz.func266.trans (congrArg some (by kernel_rfl))⟩
 f27:=⟨Tryz.f267.name,by decide,Tryz.func267.trans (congrArg some (by kernel_rfl))⟩
 f28:=Tryz.func268.trans (congrArg some (by kernel_rfl))
 f29:=Tryz.func269.trans (congrArg some (by kernel_rfl))
 f46:=⟨Tryz.f315.name,by decide,Tryz.func315.trans (congrArg some (by kernel_rfl))⟩
 f47:=Tryz.func316.trans (congrArg some (by kernel_rfl))
 f48:=Tryz.func317.trans (congrArg some (by kernel_rfl))
 f49:=⟨Tryz.f318.name,by decide,Tryz.func318.trans (congrArg some (by kernel_rfl))⟩
 f50:=⟨Tryz.f319.name,by decide,Tryz.func319.trans (congrArg some (by kernel_rfl))⟩
 f57:=⟨Tryz.f351.name,by decide,Tryz.func351.trans (congrArg some (by kernel_rfl))⟩
 t0:=Tryz.underlying0
 a0:=Tryz.isAgg0
 z0:=Tryz.sizeOf0
 v0:=Tryz.zeroValue0
 t3:=Tryz.underlying3
 a3:=Tryz.isAgg3
 z3:=Tryz.sizeOf3
 v3:=Tryz.zeroValue3
 t4:=Tryz.underlying4
 a4:=Tryz.isAgg4
 z4:=Tryz.sizeOf4
 v4:=Tryz.zeroValue4
 t5:=Tryz.underlying5
 a5:=Tryz.isAgg5
 z5:=Tryz.sizeOf5
 v5:=Tryz.zeroValue5
 t9:=Tryz.underlying9
 a9:=Tryz.isAgg9
 z9:=Tryz.sizeOf9
 v9:=Tryz.zeroValue9
 t22:=Tryz.underlying104
 a22:=Tryz.isAgg104
 z22:=Tryz.sizeOf104
 v22:=Tryz.zeroValue104
 t25:=Tryz.underlying199
 a25:=Tryz.isAgg199
 z25:=Tryz.sizeOf199
 v25:=Tryz.zeroValue199
 t39:=Tryz.underlying230
 a39:=Tryz.isAgg230
 z39:=Tryz.sizeOf230
 v39:=Tryz.zeroValue230
 t45:=Tryz.underlying314
 a45:=Tryz.isAgg314
 z45:=Tryz.sizeOf314
 v45:=Tryz.zeroValue314
 t46:=Tryz.underlying315
 a46:=Tryz.isAgg315
 z46:=Tryz.sizeOf315
 v46:=Tryz.zeroValue315
 t50:=Tryz.underlying161
 a50:=Tryz.isAgg161
 z50:=Tryz.sizeOf161
 v50:=Tryz.zeroValue161
 t53:=Tryz.underlying321
 a53:=Tryz.isAgg321
 z53:=Tryz.sizeOf321
 v53:=Tryz.zeroValue321
 t55:=Tryz.underlying323
 a55:=Tryz.isAgg323
 z55:=Tryz.sizeOf323
 v55:=Tryz.zeroValue323
 t66:=Tryz.underlying354
 a66:=Tryz.isAgg354
 z66:=Tryz.sizeOf354
 v66:=Tryz.zeroValue354
 t70:=Tryz.underlying358
 a70:=Tryz.isAgg358
 z70:=Tryz.sizeOf358
 v70:=Tryz.zeroValue358
 t76:=Tryz.underlying378
 a76:=Tryz.isAgg378
 z76:=Tryz.sizeOf378
 v76:=Tryz.zeroValue378
 t77:=Tryz.underlying283
 a77:=Tryz.isAgg283
 z77:=Tryz.sizeOf283
 v77:=Tryz.zeroValue283 }
def anZ:SFn:=pJ abt 126 2 109
theorem anY:bn Tryz.prog G0 125 anZ:=lr (M:=2) (g:=126) afH (by decide) (fun w=>Tryz.isAgg109 w) (fun w=>Tryz.sizeOf109 w) afi ⟨Tryz.f125,Tryz.func125,rfl,by kernel_rfl⟩
def zao (w0:List vV7):Option (Unit×List vV7×Unit):=(ni (fun x y=>zcb x y) w0).map fun l=>((),(l,()))
def aza:TRaw:=acL false 126 109 tT28 (fun x y=>zcb x y)
theorem ay9:TRawOk anZ aza:=wK rfl rfl rfl rfl ahu
def ank:Env:=(eZ [(126,abt)] [274])
def ayp:Hints:=(hZ [] [])
def anj:PFn:=aC (runF Tryz.prog ank ayp Tryz.f128)
def aC9:TH:={ loops:=[],ro:=[2,3] }
def zb2 (a0:vV7) (a1:vV7):Option Bool :=
(zcb a0 a1).bind fun r1 =>
 some (decide (r1=0))
def ab7:TFn:={ ps:=(.cons tT28 (.cons tT28 .unit)),res:=.bool,fn:=fun v=>zb2 v.1 v.2.1 }
def ayo:TEnv:=(vZ [(126,abs)])
theorem ayn:runY Tryz.prog ank ayp ayo aC9 Tryz.f128 ab7.ps ab7.res=ab7.fn:=by kernel_rfl
theorem ani:az Tryz.prog G0 128 anj:=ah (aj ⟨au,(ai alI ac),ap,ac,an⟩ Tryz.func128 rfl (by kernel_rfl))
theorem aym:TOk anj ab7:=ay (E:=ank) (ET:=ayo) (EnvT.ofX (ax (ae ahu al)) am ar aI aq) ayn rfl
def aof:Env:=(eZ [(128,anj)] [274])
def azt:Hints:=(hZ [(4,[0,1,5]),(9,[0,1,5,6,7])] [])
def aoe:SFn:=iW (runF Tryz.prog aof azt Tryz.f127)
def aDl:TH:={ joins:=[(14,{ keep:=[(0,(.own 0)),(5,(.int .i64))],mem:=[.row false 109 tT28] })],loops:=[(4,{ keep:=[(0,(.own 0)),(5,(.int .i64))],mem:=[.row false 109 tT28] }),(9,{ keep:=[(0,(.own 0)),(5,(.int .i64)),(6,(.vw 0)),(7,(.int .i64))],mem:=[.row false 109 tT28] })],ro:=[] }
def nQ (y9:(Int×(Nat×Nat)×Int×List vV7×Unit)):Option ((Int×(Nat×Nat)×Int×List vV7×Unit)⊕((Int×List vV7×Unit)⊕((Int×List vV7×Unit)⊕(List vV7)))) :=
 cond (decide (y9.2.2.1<(y9.2.1.2:Int))) (
 cond y9.2.2.2.1.isEmpty (none) ((inI y9.2.1.2 y9.2.2.1).bind fun i7 =>
(y9.2.2.2.1[(y9.2.1.1+i7)]?).bind fun x8 =>
 cond y9.2.2.2.1.isEmpty (none) ((inI y9.2.1.2 (IntKind.wrap .i64 (y9.2.2.1-1))).bind fun i9 =>
(y9.2.2.2.1[(y9.2.1.1+i9)]?).bind fun x10 =>
(zb2 x8 x10).bind fun r11 =>
 cond (!r11) (
 cond y9.2.2.2.1.isEmpty (none) ((inI y9.2.1.2 y9.2.2.1).bind fun i12 =>
(y9.2.2.2.1[(y9.2.1.1+i12)]?).bind fun x13 =>
(inI y9.2.2.2.1.length y9.1).bind fun i14 =>
(y9.2.2.2.1[i14]?).bind fun x15 =>
 some (.inl ((IntKind.wrap .i64 (y9.1+1)),y9.2.1,(IntKind.wrap .i64 (y9.2.2.1+1)),(y9.2.2.2.1.set i14 x13),())))) (
 some (.inl (y9.1,y9.2.1,(IntKind.wrap .i64 (y9.2.2.1+1)),y9.2.2.2.1,())))))) (
 some (.inr (.inl (y9.1,y9.2.2.2.1,()))))
def kW (y4:(Int×List vV7×Unit)):Option ((Int×List vV7×Unit)⊕(List vV7)) :=
 cond (decide (y4.1<(y4.2.1.length:Int))) (
(inI y4.2.1.length y4.1).bind fun i1 =>
(y4.2.1[i1]?).bind fun x2 =>
(inI y4.2.1.length (IntKind.wrap .i64 (y4.1-1))).bind fun i3 =>
(y4.2.1[i3]?).bind fun x4 =>
(zb2 x2 x4).bind fun r5 =>
 cond r5 (
 cond y4.2.1.isEmpty (none) ((lf (y4.2.1.length) y4.1 (y4.2.1.length:Int)).bind fun p6 =>
(aK (nQ) (y4.1,p6,1,y4.2.1,()):Option ((Int×List vV7×Unit)⊕((Int×List vV7×Unit)⊕(List vV7)))).bind (aZ fun v16 =>
 cond v16.2.1.isEmpty (none) ((lf (v16.2.1.length) v16.1 (v16.2.1.length:Int)).bind fun p17 =>
 cond v16.2.1.isEmpty (none) ((if p17.1+p17.2≤v16.2.1.length then some () else none).bind fun u18 =>
 cond (v16.2.1.take p17.1++List.replicate p17.2 ([],0,())++v16.2.1.drop (p17.1+p17.2)).isEmpty (none) ((lf ((v16.2.1.take p17.1++List.replicate p17.2 ([],0,())++v16.2.1.drop (p17.1+p17.2)).length) 0 v16.1).bind fun p19 =>
(cond (v16.2.1.take p17.1++List.replicate p17.2 ([],0,())++v16.2.1.drop (p17.1+p17.2)).isEmpty none (if p19.1+p19.2≤(v16.2.1.take p17.1++List.replicate p17.2 ([],0,())++v16.2.1.drop (p17.1+p17.2)).length then some (((v16.2.1.take p17.1++List.replicate p17.2 ([],0,())++v16.2.1.drop (p17.1+p17.2)).drop p19.1).take p19.2) else none)).map .inr)))))) (
 some (.inl ((IntKind.wrap .i64 (y4.1+1)),y4.2.1,())))) (
 some (.inr y4.2.1))
def aoc (w0:List vV7):Option (List vV7) :=
 cond (decide ((w0.length:Int)<2)) (
 some w0) (
 aK (kW) (1,w0,()))
def zaj (w0:List vV7):Option (List vV7×Unit):=(aoc w0).map fun l=>(l,())
def azs:TRaw:={ ps:=(.cons (.own 0) (.cons (.fn 128) .unit)),ins:=[.row false 109 tT28],res:=(.sl tT28),outs:=[.gone],fn:=fun v w=>zaj w.1 }
def azr:TEnv:=(vZ [(128,ab7)])
theorem azq:agR Tryz.prog aof azt azr aDl Tryz.f127 (.cons (.own 0) (.cons (.fn 128) .unit)) false 109 tT28=fun _ w=>aoc w:=by kernel_rfl
theorem aod:bn Tryz.prog G0 127 aoe:=iw (aj ⟨au,(ai ani ac),ap,ac,an⟩ Tryz.func127 rfl (by kernel_rfl))
theorem azp:TRawOk aoe azs:=xj (E:=aof) (ET:=azr) (EnvT.ofX (ax (ae aym al)) am ar aI aq) azq
def alT:Env:={ pure:=[(72,abY),(124,ae0)],raw:=[(125,anZ),(127,aoe)],glob:=G0,same:=[274],look:=[],ext:=[] }
def av7:Hints:=(hZ [(3,[3,6,7,8])] [])
def alS:PFn:=aC (runF Tryz.prog alT av7 Tryz.f55)
def aCy:TH:={ joins:=[(7,{ keep:=[(3,(.own 1))],mem:=[.gone,.row true 109 tT28] })],loops:=[(3,{ keep:=[(3,(.own 1)),(8,(.int .i64))],mem:=[.gone,.row true 109 tT28] })],ro:=[] }
def wn (a0:List vV9) (y3:(Int×List vV7×Unit)):Option ((Int×List vV7×Unit)⊕((List vV7×Unit)⊕List vV7)) :=
 cond (decide (y3.1<(a0.length:Int))) (
(atI a0 y3.1).bind fun x1 =>
(zba x1.2.1.2.1).bind fun r2 =>
(zex x1.2.1.1).bind fun r3 =>
(bY (y3.2.1.length+([(r2,r3,())]:List vV7).length)).bind fun u4 =>
 some (.inl ((IntKind.wrap .i64 (y3.1+1)),(y3.2.1++([(r2,r3,())]:List vV7)),()))) (
 some (.inr (.inl (y3.2.1,()))))
def zc7 (a0:List vV9):Option (List vV7) :=
(aK (wn a0) (0,[],()):Option ((List vV7×Unit)⊕List vV7)).bind (aZ fun v5 =>
(zao v5.1).bind fun q6 =>
(zaj q6.2.1).bind fun q7 =>
 some q7.1)
def abx:TFn:={ ps:=(.cons (.sl tT25) .unit),res:=(.sl tT28),fn:=fun v=>zc7 v.1 }
def av6:TEnv:={ pure:=[(72,afx),(124,xT)],look:=[],glob:=G0T,ty:=[(109,tT28)],raw:=[(125,aza),(127,azs)],fresh:=[] }
theorem av5:runY Tryz.prog alT av7 av6 aCy Tryz.f55 abx.ps abx.res=abx.fn:=by kernel_rfl
theorem alR:az Tryz.prog G0 55 alS:=ah (aj ⟨au,(ai ui (ai zX ac)),(aU anY (aU aod ap)),ac,an⟩ Tryz.func55 rfl (by kernel_rfl))
theorem av4:TOk alS abx:=ay (E:=alT) (ET:=av6) (EnvT.ofX (ax (ae abX (ae ahg al))) am (be ay9 rfl rfl (be azp rfl rfl ar)) aI aq) av5 rfl
def am1:Env:=(eZ [] [274])
def axY:Hints:=(hZ [(4,[0,1,12,13])] [])
def am0:PFn:=aC (runF Tryz.prog am1 axY Tryz.f196)
def aC2:TH:={ loops:=[(4,{ keep:=[(13,(.int .i64))],mem:=[] })],ro:=[] }
def ww (a0:List (List UInt8)) (a1:List (List UInt8)) (y4:(Int×Unit)):Option ((Int×Unit)⊕Bool) :=
 cond (decide (y4.1<(a0.length:Int))) (
(atI a0 y4.1).bind fun x1 =>
(atI a1 y4.1).bind fun x2 =>
 cond (!decide (x1=x2)) (
 some (.inr false)) (
 some (.inl ((IntKind.wrap .i64 (y4.1+1)),())))) (
 some (.inr true))
def zbb (a0:List (List UInt8)) (a1:List (List UInt8)):Option Bool :=
 cond (!decide ((a0.length:Int)=(a1.length:Int))) (
 some false) (
 aK (ww a0 a1) (0,()))
def abW:TFn:={ ps:=(.cons (.sl .str) (.cons (.sl .str) .unit)),res:=.bool,fn:=fun v=>zbb v.1 v.2.1 }
def axX:TEnv:=(vZ [])
theorem axW:runY Tryz.prog am1 axY axX aC2 Tryz.f196 abW.ps abW.res=abW.fn:=by kernel_rfl
theorem amZ:az Tryz.prog G0 196 am0:=ah (aj ⟨au,ac,ap,ac,an⟩ Tryz.func196 rfl (by kernel_rfl))
theorem axV:TOk am0 abW:=ay (E:=am1) (ET:=axX) (EnvT.ofX (ax al) am ar aI aq) axW rfl
def aiL:Env:=(eZ [(196,am0)] [274])
def arn:Hints:=(hZ [] [])
def ae3:PFn:=aC (runF Tryz.prog aiL arn Tryz.f160)
def aBj:TH:=yZ
def zej (a0:List (List UInt8)) (a1:List (List UInt8)):Option Bool :=
(zbb a0 a1).bind fun r1 =>
 some r1
def xW:TFn:={ ps:=(.cons (.sl .str) (.cons (.sl .str) .unit)),res:=.bool,fn:=fun v=>zej v.1 v.2.1 }
def arm:TEnv:=(vZ [(196,abW)])
theorem arl:runY Tryz.prog aiL arn arm aBj Tryz.f160 xW.ps xW.res=xW.fn:=by kernel_rfl
theorem aal:az Tryz.prog G0 160 ae3:=ah (aj ⟨au,(ai amZ ac),ap,ac,an⟩ Tryz.func160 rfl (by kernel_rfl))
theorem ahj:TOk ae3 xW:=ay (E:=aiL) (ET:=arm) (EnvT.ofX (ax (ae axV al)) am ar aI aq) arl rfl
def aii:Env:=(eZ [(124,ae0),(160,ae3)] [274])
def aqC:Hints:=(hZ [(3,[1,2,7,10,11,12])] [])
def z6:PFn:=aC (runF Tryz.prog aii aqC Tryz.f229)
def aA7:TH:={ loops:=[(3,{ keep:=[(7,(.own 1)),(12,(.int .i64))],mem:=[.gone,.row true 148 tT25] })],ro:=[] }
def vK (a0:List vV9) (a1:List (List UInt8)) (a2:Int) (y3:(Int×List vV9×Unit)):Option ((Int×List vV9×Unit)⊕List vV9) :=
 cond (decide (y3.1<(a0.length:Int))) (
(atI a0 y3.1).bind fun x1 =>
(zex x1.2.1.1).bind fun r2 =>
 cond (decide (r2=a2)) ((zej x1.2.1.2.1 a1).bind fun r3 =>
 cond r3 (
(bY (y3.2.1.length+([x1]:List vV9).length)).bind fun u4 =>
 some (.inl ((IntKind.wrap .i64 (y3.1+1)),(y3.2.1++([x1]:List vV9)),()))) (
 some (.inl ((IntKind.wrap .i64 (y3.1+1)),y3.2.1,())))) (some (.inl ((IntKind.wrap .i64 (y3.1+1)),y3.2.1,())))) (
 some (.inr y3.2.1))
def zev (a0:List vV9) (a1:List (List UInt8)) (a2:Int):Option (List vV9) :=
 aK (vK a0 a1 a2) (0,[],())
def tJ:TFn:={ ps:=(.cons (.sl tT25) (.cons (.sl .str) tT22)),res:=(.sl tT25),fn:=fun v=>zev v.1 v.2.1 v.2.2.1 }
def aqB:TEnv:={ pure:=[(124,xT),(160,xW)],look:=[],glob:=G0T,ty:=[(148,tT25)],raw:=[],fresh:=[] }
theorem aqA:runY Tryz.prog aii aqC aqB aA7 Tryz.f229 tJ.ps tJ.res=tJ.fn:=by kernel_rfl
theorem tK:az Tryz.prog G0 229 z6:=ah (aj ⟨au,(ai zX (ai aal ac)),ap,ac,an⟩ Tryz.func229 rfl (by kernel_rfl))
theorem zZ:TOk z6 tJ:=ay (E:=aii) (ET:=aqB) (EnvT.ofX (ax (ae ahg (ae ahj al))) am ar aI aq) aqA rfl
def afo:PFn:=cmpF
theorem amr:az Tryz.prog G0 291 afo:=tl ⟨Tryz.f291,Tryz.func291,rfl,by kernel_rfl⟩ Tryz.strings_Compare
def zbr (a0:List UInt8) (a1:List UInt8):Option Int:=cmpT a0 a1
def aw1:TFn:=aey
theorem aw0:TOk afo aw1:=ap5
def anf:Env:=(eZ [(154,qR),(156,q9),(291,afo)] [274])
def ayh:Hints:=(hZ [] [])
def ab5:PFn:=aC (runF Tryz.prog anf ayh Tryz.f231)
def aC7:TH:={ loops:=[],ro:=[2,3] }
def zb4 (a0:vV5) (a1:vV5):Option Int :=
(zbu a0.1 a1.1).bind fun r1 =>
(zbu a0.2.1 a1.2.1).bind fun r2 =>
(zbr a0.2.2.1 a1.2.2.1).bind fun r3 =>
(zdn ([r1,r2,r3]:List Int)).bind fun r4 =>
 some r4
def ab4:TFn:={ ps:=(.cons tT20 (.cons tT20 .unit)),res:=(.int .i64),fn:=fun v=>zb4 v.1 v.2.1 }
def ayg:TEnv:={ pure:=[(154,pi),(156,pp),(291,aw1)],look:=[],glob:=G0T,ty:=[(3,(.int .i64))],raw:=[],fresh:=[] }
theorem ayf:runY Tryz.prog anf ayh ayg aC7 Tryz.f231 ab4.ps ab4.res=ab4.fn:=by kernel_rfl
theorem ane:az Tryz.prog G0 231 ab5:=ah (aj ⟨au,(ai kO (ai kU (ai amr ac))),ap,ac,an⟩ Tryz.func231 rfl (by kernel_rfl))
theorem ahC:TOk ab5 ab4:=ay (E:=anf) (ET:=ayg) (EnvT.ofX (ax (ae qQ (ae qZ (ae aw0 al)))) am ar aI aq) ayf rfl
theorem afn : @az ⟨True⟩ Tryz.prog G0 291 afo:=by
 letI:Drawn:=⟨True⟩;exact tl ⟨Tryz.f291,Tryz.func291,rfl,by kernel_rfl⟩ Tryz.strings_Compare
theorem afA : @az ⟨True⟩ Tryz.prog G0 231 ab5:=by
 letI:Drawn:=⟨True⟩;exact ah (aj ⟨au,(ai vW (ai wr (ai afn ac))),ap,ac,an⟩ Tryz.func231 rfl (by kernel_rfl))
def an0:Go.Shelf.Ren:=⟨fun | 6=>230 | 14=>290 | 15=>201 | 20=>332 | 21=>333 | 22=>334 | 23=>335 | 24=>336 | 25=>337 | 26=>338 | 27=>339 | 28=>268 | 29=>269 | 46=>359 | 47=>316 | 48=>317 | 49=>360 | 50=>361 | 57=>374 | n=>n,fun | 0=>0 | 3=>3 | 4=>4 | 5=>5 | 9=>9 | 22=>123 | 24=>132 | 25=>296 | 39=>230 | 45=>314 | 46=>315 | 50=>161 | 53=>321 | 55=>323 | 66=>354 | 70=>358 | 76=>378 | 77=>283 | n=>n,fun | n=>n⟩
theorem afI:Go.Proofs.SlLaysF0.n6 Tryz.prog an0:={
 mixed:=by kernel_rfl
 f6:=⟨Tryz.f230.name,by decide,Tryz.func230.trans (congrArg some (by kernel_rfl))⟩
 f14:=⟨Tryz.f290.name,by decide,Tryz.func290.trans (congrArg some (by kernel_rfl))⟩
 f15:=Tryz.func201.trans (congrArg some (by kernel_rfl))
 f20:=⟨Tryz.f332.name,by decide,Tryz.func332.trans (congrArg some (by kernel_rfl))⟩
 f21:=⟨Tryz.f333.name,by decide,Tryz.func333.trans (congrArg some (by kernel_rfl))⟩
 f22:=⟨Tryz.f334.name,by decide,Tryz.func334.trans (congrArg some (by kernel_rfl))⟩
 f23:=⟨Tryz.f335.name,by decide,Tryz.func335.trans (congrArg some (by kernel_rfl))⟩
 f24:=⟨Tryz.f336.name,by decide,Tryz.func336.trans (congrArg some (by kernel_rfl))⟩
 f25:=⟨Tryz.f337.name,by decide,Tryz.func337.trans (congrArg some (by kernel_rfl))⟩
 f26:=⟨Tryz.f338.name,by decide,Tryz.func338.trans (congrArg some (by kernel_rfl))⟩
 f27:=⟨Tryz.f339.name,by decide,Tryz.func339.trans (congrArg some (by kernel_rfl))⟩
 f28:=Tryz.func268.trans (congrArg some (by kernel_rfl))
 f29:=Tryz.func269.trans (congrArg some (by kernel_rfl))
 f46:=⟨Tryz.f359.name,by decide,Tryz.func359.trans (congrArg some (by kernel_rfl))⟩
 f47:=Tryz.func316.trans (congrArg some (by kernel_rfl))
 f48:=Tryz.func317.trans (congrArg some (by kernel_rfl))
 f49:=⟨Tryz.f360.name,by decide,Tryz.func360.trans (congrArg some (by kernel_rfl))⟩
 f50:=⟨Tryz.f361.name,by decide,Tryz.func361.trans (congrArg some (by kernel_rfl))⟩
 f57:=⟨Tryz.f374.name,by decide,Tryz.func374.trans (congrArg some (by kernel_rfl))⟩
 t0:=Tryz.underlying0
 a0:=Tryz.isAgg0
 z0:=Tryz.sizeOf0
 v0:=Tryz.zeroValue0
 t3:=Tryz.underlying3
 a3:=Tryz.isAgg3
 z3:=Tryz.sizeOf3
 v3:=Tryz.zeroValue3
 t4:=Tryz.underlying4
 a4:=Tryz.isAgg4
 z4:=Tryz.sizeOf4
 v4:=Tryz.zeroValue4
 t5:=Tryz.underlying5
 a5:=Tryz.isAgg5
 z5:=Tryz.sizeOf5
 v5:=Tryz.zeroValue5
 t9:=Tryz.underlying9
 a9:=Tryz.isAgg9
 z9:=Tryz.sizeOf9
 v9:=Tryz.zeroValue9
 t22:=Tryz.underlying123
 a22:=Tryz.isAgg123
 z22:=Tryz.sizeOf123
 v22:=Tryz.zeroValue123
 t25:=Tryz.underlying296
 a25:=Tryz.isAgg296
 z25:=Tryz.sizeOf296
 v25:=Tryz.zeroValue296
 t39:=Tryz.underlying230
 a39:=Tryz.isAgg230
 z39:=Tryz.sizeOf230
 v39:=Tryz.zeroValue230
 t45:=Tryz.underlying314
 a45:=Tryz.isAgg314
 z45:=Tryz.sizeOf314
 v45:=Tryz.zeroValue314
 t46:=Tryz.underlying315
 a46:=Tryz.isAgg315
 z46:=Tryz.sizeOf315
 v46:=Tryz.zeroValue315
 t50:=Tryz.underlying161
 a50:=Tryz.isAgg161
 z50:=Tryz.sizeOf161
 v50:=Tryz.zeroValue161
 t53:=Tryz.underlying321
 a53:=Tryz.isAgg321
 z53:=Tryz.sizeOf321
 v53:=Tryz.zeroValue321
 t55:=Tryz.underlying323
 a55:=Tryz.isAgg323
 z55:=Tryz.sizeOf323
 v55:=Tryz.zeroValue323
 t66:=Tryz.underlying354
 a66:=Tryz.isAgg354
 z66:=Tryz.sizeOf354
 v66:=Tryz.zeroValue354
 t70:=Tryz.underlying358
 a70:=Tryz.isAgg358
 z70:=Tryz.sizeOf358
 v70:=Tryz.zeroValue358
 t76:=Tryz.underlying378
 a76:=Tryz.isAgg378
 z76:=Tryz.sizeOf378
 v76:=Tryz.zeroValue378
 t77:=Tryz.underlying283
 a77:=Tryz.isAgg283
 z77:=Tryz.sizeOf283
 v77:=Tryz.zeroValue283 }
def an2:SFn:=pJ ab5 231 3 132
theorem an1:bn Tryz.prog G0 230 an2:=lr (M:=3) (g:=231) afI (by decide) (fun w=>Tryz.isAgg132 w) (fun w=>Tryz.sizeOf132 w) afA ⟨Tryz.f230,Tryz.func230,rfl,by kernel_rfl⟩
def zan (w0:List vV5):Option (Unit×List vV5×Unit):=(ni (fun x y=>zb4 x y) w0).map fun l=>((),(l,()))
def azc:TRaw:=acL false 231 132 tT20 (fun x y=>zb4 x y)
theorem azb:TRawOk an2 azc:=wK rfl rfl rfl rfl ahC
def anx:Env:=(eZ [] [274])
def ayF:Hints:=(hZ [(4,[0,3]),(9,[0,3,4,5])] [])
def anw:SFn:=iW (runF Tryz.prog anx ayF Tryz.f232)
def aDc:TH:={ joins:=[(14,{ keep:=[(0,(.own 0)),(3,(.int .i64))],mem:=[.row false 132 tT20] })],loops:=[(4,{ keep:=[(0,(.own 0)),(3,(.int .i64))],mem:=[.row false 132 tT20] }),(9,{ keep:=[(0,(.own 0)),(3,(.int .i64)),(4,(.vw 0)),(5,(.int .i64))],mem:=[.row false 132 tT20] })],ro:=[] }
def nP (y9:(Int×(Nat×Nat)×Int×List vV5×Unit)):Option ((Int×(Nat×Nat)×Int×List vV5×Unit)⊕((Int×List vV5×Unit)⊕((Int×List vV5×Unit)⊕(List vV5)))) :=
 cond (decide (y9.2.2.1<(y9.2.1.2:Int))) (
 cond y9.2.2.2.1.isEmpty (none) ((inI y9.2.1.2 y9.2.2.1).bind fun i6 =>
(y9.2.2.2.1[(y9.2.1.1+i6)]?).bind fun x7 =>
 cond y9.2.2.2.1.isEmpty (none) ((inI y9.2.1.2 (IntKind.wrap .i64 (y9.2.2.1-1))).bind fun i8 =>
(y9.2.2.2.1[(y9.2.1.1+i8)]?).bind fun x9 =>
 cond (!(eqV tT20 x7 x9)) (
 cond y9.2.2.2.1.isEmpty (none) ((inI y9.2.1.2 y9.2.2.1).bind fun i10 =>
(y9.2.2.2.1[(y9.2.1.1+i10)]?).bind fun x11 =>
(inI y9.2.2.2.1.length y9.1).bind fun i12 =>
(y9.2.2.2.1[i12]?).bind fun x13 =>
 some (.inl ((IntKind.wrap .i64 (y9.1+1)),y9.2.1,(IntKind.wrap .i64 (y9.2.2.1+1)),(y9.2.2.2.1.set i12 x11),())))) (
 some (.inl (y9.1,y9.2.1,(IntKind.wrap .i64 (y9.2.2.1+1)),y9.2.2.2.1,())))))) (
 some (.inr (.inl (y9.1,y9.2.2.2.1,()))))
def kV (y4:(Int×List vV5×Unit)):Option ((Int×List vV5×Unit)⊕(List vV5)) :=
 cond (decide (y4.1<(y4.2.1.length:Int))) (
(inI y4.2.1.length y4.1).bind fun i1 =>
(y4.2.1[i1]?).bind fun x2 =>
(inI y4.2.1.length (IntKind.wrap .i64 (y4.1-1))).bind fun i3 =>
(y4.2.1[i3]?).bind fun x4 =>
 cond (eqV tT20 x2 x4) (
 cond y4.2.1.isEmpty (none) ((lf (y4.2.1.length) y4.1 (y4.2.1.length:Int)).bind fun p5 =>
(aK (nP) (y4.1,p5,1,y4.2.1,()):Option ((Int×List vV5×Unit)⊕((Int×List vV5×Unit)⊕(List vV5)))).bind (aZ fun v14 =>
 cond v14.2.1.isEmpty (none) ((lf (v14.2.1.length) v14.1 (v14.2.1.length:Int)).bind fun p15 =>
 cond v14.2.1.isEmpty (none) ((if p15.1+p15.2≤v14.2.1.length then some () else none).bind fun u16 =>
 cond (v14.2.1.take p15.1++List.replicate p15.2 (0,0,[],())++v14.2.1.drop (p15.1+p15.2)).isEmpty (none) ((lf ((v14.2.1.take p15.1++List.replicate p15.2 (0,0,[],())++v14.2.1.drop (p15.1+p15.2)).length) 0 v14.1).bind fun p17 =>
(cond (v14.2.1.take p15.1++List.replicate p15.2 (0,0,[],())++v14.2.1.drop (p15.1+p15.2)).isEmpty none (if p17.1+p17.2≤(v14.2.1.take p15.1++List.replicate p15.2 (0,0,[],())++v14.2.1.drop (p15.1+p15.2)).length then some (((v14.2.1.take p15.1++List.replicate p15.2 (0,0,[],())++v14.2.1.drop (p15.1+p15.2)).drop p17.1).take p17.2) else none)).map .inr)))))) (
 some (.inl ((IntKind.wrap .i64 (y4.1+1)),y4.2.1,())))) (
 some (.inr y4.2.1))
def anu (w0:List vV5):Option (List vV5) :=
 cond (decide ((w0.length:Int)<2)) (
 some w0) (
 aK (kV) (1,w0,()))
def zax (w0:List vV5):Option (List vV5×Unit):=(anu w0).map fun l=>(l,())
def ayE:TRaw:={ ps:=(.cons (.own 0) .unit),ins:=[.row false 132 tT20],res:=(.sl tT20),outs:=[.gone],fn:=fun v w=>zax w.1 }
def ayD:TEnv:=(vZ [])
theorem ayC:agR Tryz.prog anx ayF ayD aDc Tryz.f232 (.cons (.own 0) .unit) false 132 tT20=fun _ w=>anu w:=by kernel_rfl
theorem anv:bn Tryz.prog G0 232 anw:=iw (aj ⟨au,ac,ap,ac,an⟩ Tryz.func232 rfl (by kernel_rfl))
theorem ayB:TRawOk anw ayE:=xj (E:=anx) (ET:=ayD) (EnvT.ofX (ax al) am ar aI aq) ayC
def ajl:Env:={ pure:=[(229,z6)],raw:=[(230,an2),(232,anw)],glob:=G0,same:=[274],look:=[],ext:=[] }
def asd:Hints:=(hZ [(3,[5,10,11,12])] [])
def ajk:PFn:=aC (runF Tryz.prog ajl asd Tryz.f163)
def aBw:TH:={ joins:=[(7,{ keep:=[(5,(.own 1))],mem:=[.gone,.row true 132 tT20] })],loops:=[(3,{ keep:=[(5,(.own 1)),(12,(.int .i64))],mem:=[.gone,.row true 132 tT20] })],ro:=[] }
def vS (r1:List vV9) (y3:(Int×List vV5×Unit)):Option ((Int×List vV5×Unit)⊕((List vV5×Unit)⊕List vV5)) :=
 cond (decide (y3.1<(r1.length:Int))) (
(atI r1 y3.1).bind fun x2 =>
(bY (y3.2.1.length+([x2.2.1.2.2.1]:List vV5).length)).bind fun u3 =>
 some (.inl ((IntKind.wrap .i64 (y3.1+1)),(y3.2.1++([x2.2.1.2.2.1]:List vV5)),()))) (
 some (.inr (.inl (y3.2.1,()))))
def zdz (a0:List vV9) (a1:List (List UInt8)):Option (List vV5) :=
((zev a0 a1 1).bind fun r1 =>
 aK (vS r1) (0,[],()):Option ((List vV5×Unit)⊕List vV5)).bind (aZ fun v4 =>
(zan v4.1).bind fun q5 =>
(zax q5.2.1).bind fun q6 =>
 some q6.1)
def aay:TFn:={ ps:=(.cons (.sl tT25) (.cons (.sl .str) .unit)),res:=(.sl tT20),fn:=fun v=>zdz v.1 v.2.1 }
def asc:TEnv:={ pure:=[(229,tJ)],look:=[],glob:=G0T,ty:=[(132,tT20)],raw:=[(230,azc),(232,ayE)],fresh:=[] }
theorem asb:runY Tryz.prog ajl asd asc aBw Tryz.f163 aay.ps aay.res=aay.fn:=by kernel_rfl
theorem ajj:az Tryz.prog G0 163 ajk:=ah (aj ⟨au,(ai tK ac),(aU an1 (aU anv ap)),ac,an⟩ Tryz.func163 rfl (by kernel_rfl))
theorem asa:TOk ajk aay:=ay (E:=ajl) (ET:=asc) (EnvT.ofX (ax (ae zZ al)) am (be azb rfl rfl (be ayB rfl rfl ar)) aI aq) asb rfl
def anr:Go.Shelf.Ren:=⟨fun | 22=>234 | 29=>292 | 30=>293 | n=>n,fun | 24=>123 | 9=>132 | 0=>0 | 3=>3 | 4=>4 | n=>n,fun | n=>n⟩
theorem afD:InsL Tryz.prog anr:={
 mixed:=by kernel_rfl
 f22:=⟨Tryz.f234.name,by decide,Tryz.func234.trans (congrArg some (by kernel_rfl))⟩
 f29:=⟨Tryz.f292.name,by decide,by kernel_rfl,by kernel_rfl,Tryz.func292.trans (congrArg some (by kernel_rfl))⟩
 t0:=Tryz.underlying0
 a0:=Tryz.isAgg0
 z0:=Tryz.sizeOf0
 v0:=Tryz.zeroValue0
 t3:=Tryz.underlying3
 a3:=Tryz.isAgg3
 z3:=Tryz.sizeOf3
 v3:=Tryz.zeroValue3
 t4:=Tryz.underlying4
 a4:=Tryz.isAgg4
 z4:=Tryz.sizeOf4
 v4:=Tryz.zeroValue4
 t24:=Tryz.underlying123
 a24:=Tryz.isAgg123
 z24:=Tryz.sizeOf123
 v24:=Tryz.zeroValue123 }
def ant:SFn:=dE 3 132
theorem ans:bn Tryz.prog G0 234 ant:=gN afD rfl rfl rfl (dS (P:=Tryz.prog) (te:=132) (M:=3) (by kernel_rfl) (by kernel_rfl) (by kernel_rfl) (by kernel_rfl) (by kernel_rfl) (by kernel_rfl) (by kernel_rfl) (by kernel_rfl)) true Tryz.isAgg132 ⟨Tryz.f234,Tryz.func234,rfl,by kernel_rfl⟩
def zay (a1:Int) (a2:List vV5) (w0:List vV5):Option (Unit×List vV5×Unit):=(insT w0 a1 a2).map fun l=>((),(l,()))
def ayA:TRaw:=insR false 132 tT20
theorem ayz:TRawOk ant ayA:=qk rfl rfl rfl rfl (by decide)
def aoz:Env:=(eZ [(231,ab5)] [274])
def azU:Hints:=(hZ [(3,[0,2,4,8,9,10])] [])
def aoy:PFn:=aC (runF Tryz.prog aoz azU Tryz.f233)
def aDs:TH:={ joins:=[(8,{ keep:=[(4,(.bx 0 0)),(9,(.int .i64))],mem:=[.same] })],loops:=[(3,{ keep:=[(4,(.bx 0 0)),(9,(.int .i64)),(10,(.int .i64))],mem:=[.same] })],ro:=[4] }
def nS (a0:List vV5) (a1:vV5) (y3:(Int×Int×Unit)):Option ((Int×Int×Unit)⊕((Int×Unit)⊕(Int×Bool×Unit))) :=
 cond (decide (y3.1<y3.2.1)) (
(shrT .u64 (IntKind.wrap .u64 (IntKind.wrap .i64 (y3.1+y3.2.1))) 1).bind fun t1 =>
(atI a0 (IntKind.wrap .i64 t1)).bind fun x2 =>
(zb4 x2 a1).bind fun r3 =>
 cond (decide (r3<0)) (
 some (.inl ((IntKind.wrap .i64 ((IntKind.wrap .i64 t1)+1)),y3.2.1,()))) (
 some (.inl (y3.1,(IntKind.wrap .i64 t1),())))) (
 some (.inr (.inl (y3.1,()))))
def zac (a0:List vV5) (a1:vV5) (a2:Unit):Option (Int×Bool×Unit) :=
(aK (nS a0 a1) (0,(a0.length:Int),()):Option ((Int×Unit)⊕(Int×Bool×Unit))).bind (aZ fun v4 =>
 cond (decide (v4.1<(a0.length:Int))) ((atI a0 v4.1).bind fun x5 =>
(zb4 x5 a1).bind fun r6 =>
 some (v4.1,(decide (r6=0)),())) (some (v4.1,false,())))
def acq:TFn:={ ps:=(.cons (.sl tT20) (.cons tT20 (.cons (.fn 231) .unit))),res:=(.tup (.cons (.int .i64) (.cons .bool .unit))),fn:=fun v=>zac v.1 v.2.1 v.2.2.1 }
def azT:TEnv:=(vZ [(231,ab4)])
theorem azS:runY Tryz.prog aoz azU azT aDs Tryz.f233 acq.ps acq.res=acq.fn:=by kernel_rfl
theorem aox:az Tryz.prog G0 233 aoy:=ah (aj ⟨au,(ai ane ac),ap,ac,an⟩ Tryz.func233 rfl (by kernel_rfl))
theorem azR:TOk aoy acq:=ay (E:=aoz) (ET:=azT) (EnvT.ofX (ax (ae ahC al)) am ar aI aq) azS rfl
def ajK:Env:={ pure:=[(229,z6)],raw:=[(234,ant)],glob:=G0,same:=[274],look:=[(233,aoy)],ext:=[] }
def asN:Hints:=(hZ [(3,[5,12,13,14])] [])
def ajJ:PFn:=aC (runF Tryz.prog ajK asN Tryz.f164)
def aBF:TH:={ loops:=[(3,{ keep:=[(5,(.own 1)),(14,(.int .i64))],mem:=[.gone,.row false 132 tT20] })],ro:=[] }
def vU (r1:List vV9) (y3:(Int×List vV5×Unit)):Option ((Int×List vV5×Unit)⊕List vV5) :=
 cond (decide (y3.1<(r1.length:Int))) (
(atI r1 y3.1).bind fun x2 =>
(zac y3.2.1 x2.2.1.2.2.1 ()).bind fun r3 =>
 cond (!r3.2.1) (
(zay r3.1 ([x2.2.1.2.2.1]:List vV5) y3.2.1).bind fun q4 =>
 some (.inl ((IntKind.wrap .i64 (y3.1+1)),q4.2.1,()))) (
 some (.inl ((IntKind.wrap .i64 (y3.1+1)),y3.2.1,())))) (
 some (.inr y3.2.1))
def zdq (a0:List vV9) (a1:List (List UInt8)):Option (List vV5) :=
(zev a0 a1 2).bind fun r1 =>
 aK (vU r1) (0,[],())
def aaG:TFn:={ ps:=(.cons (.sl tT25) (.cons (.sl .str) .unit)),res:=(.sl tT20),fn:=fun v=>zdq v.1 v.2.1 }
def asM:TEnv:={ pure:=[(229,tJ)],look:=[(233,acq)],glob:=G0T,ty:=[(132,tT20)],raw:=[(234,ayA)],fresh:=[] }
theorem asL:runY Tryz.prog ajK asN asM aBF Tryz.f164 aaG.ps aaG.res=aaG.fn:=by kernel_rfl
theorem ajI:az Tryz.prog G0 164 ajJ:=ah (aj ⟨au,(ai tK ac),(aU ans ap),(ai aox ac),an⟩ Tryz.func164 rfl (by kernel_rfl))
theorem asK:TOk ajJ aaG:=ay (E:=ajK) (ET:=asM) (EnvT.ofX (ax (ae zZ al)) (gK azR rfl am) (be ayz rfl rfl ar) aI aq) asL rfl
def aiZ:Env:=(eZ [(229,z6)] [274])
def arH:Hints:=(hZ [(3,[5,10,11,12])] [])
def aiY:PFn:=aC (runF Tryz.prog aiZ arH Tryz.f165)
def aBo:TH:={ loops:=[(3,{ keep:=[(5,(.int .i64)),(12,(.int .i64))],mem:=[] })],ro:=[] }
def vQ (r1:List vV9) (y3:(Int×Int×Unit)):Option ((Int×Int×Unit)⊕Int) :=
 cond (decide (y3.2.1<(r1.length:Int))) (
(atI r1 y3.2.1).bind fun x2 =>
 some (.inl ((IntKind.wrap .i64 (y3.1+x2.2.1.2.2.2.1)),(IntKind.wrap .i64 (y3.2.1+1)),()))) (
 some (.inr y3.1))
def zee (a0:List vV9) (a1:List (List UInt8)):Option Int :=
(zev a0 a1 3).bind fun r1 =>
 aK (vQ r1) (0,0,())
def aaq:TFn:={ ps:=(.cons (.sl tT25) (.cons (.sl .str) .unit)),res:=(.int .i64),fn:=fun v=>zee v.1 v.2.1 }
def arG:TEnv:=(vZ [(229,tJ)])
theorem arF:runY Tryz.prog aiZ arH arG aBo Tryz.f165 aaq.ps aaq.res=aaq.fn:=by kernel_rfl
theorem aiX:az Tryz.prog G0 165 aiY:=ah (aj ⟨au,(ai tK ac),ap,ac,an⟩ Tryz.func165 rfl (by kernel_rfl))
theorem arE:TOk aiY aaq:=ay (E:=aiZ) (ET:=arG) (EnvT.ofX (ax (ae zZ al)) am ar aI aq) arF rfl
def aji:Env:=(eZ [(72,abY),(163,ajk),(164,ajJ),(165,aiY)] [274])
def ar9:Hints:=(hZ [] [])
def ajh:PFn:=aC (runF Tryz.prog aji ar9 Tryz.f94)
def aBv:TH:=yZ
def ze0 (a0:List vV9) (a1:List (List UInt8)) (a2:Int):Option vV2 :=
(zba a1).bind fun r1 =>
 cond (decide (a2=1)) (
(zdz a0 a1).bind fun r2 =>
 some (r1,a2,r2,0,())) (
 cond (decide (a2=2)) (
(zdq a0 a1).bind fun r3 =>
 some (r1,a2,r3,0,())) (
 cond (decide (a2=3)) (
(zee a0 a1).bind fun r4 =>
 some (r1,a2,[],r4,())) (
 some (r1,a2,[],0,()))))
def aax:TFn:={ ps:=(.cons (.sl tT25) (.cons (.sl .str) tT22)),res:=tT17,fn:=fun v=>ze0 v.1 v.2.1 v.2.2.1 }
def ar8:TEnv:=(vZ [(72,afx),(163,aay),(164,aaG),(165,aaq)])
theorem ar7:runY Tryz.prog aji ar9 ar8 aBv Tryz.f94 aax.ps aax.res=aax.fn:=by kernel_rfl
theorem ajg:az Tryz.prog G0 94 ajh:=ah (aj ⟨au,(ai ui (ai ajj (ai ajI (ai aiX ac)))),ap,ac,an⟩ Tryz.func94 rfl (by kernel_rfl))
theorem ar6:TOk ajh aax:=ay (E:=aji) (ET:=ar8) (EnvT.ofX (ax (ae abX (ae asa (ae asK (ae arE al))))) am ar aI aq) ar7 rfl
def aih:Env:=(eZ [(55,alS),(94,ajh)] [274])
def aqz:Hints:=(hZ [(3,[0,3,7,8,9])] [])
def ae1:PFn:=aC (runF Tryz.prog aih aqz Tryz.f68)
def aA6:TH:={ loops:=[(3,{ keep:=[(3,(.own 1)),(9,(.int .i64))],mem:=[.gone,.row true 125 tT17] })],ro:=[] }
def vJ (a0:List vV9) (r1:List vV7) (y3:(Int×List vV2×Unit)):Option ((Int×List vV2×Unit)⊕List vV2) :=
 cond (decide (y3.1<(r1.length:Int))) (
(atI r1 y3.1).bind fun x2 =>
(ze0 a0 x2.1 x2.2.1).bind fun r3 =>
(bY (y3.2.1.length+([r3]:List vV2).length)).bind fun u4 =>
 some (.inl ((IntKind.wrap .i64 (y3.1+1)),(y3.2.1++([r3]:List vV2)),()))) (
 some (.inr y3.2.1))
def zew (a0:List vV9):Option (List vV2) :=
(zc7 a0).bind fun r1 =>
 aK (vJ a0 r1) (0,[],())
def xU:TFn:={ ps:=(.cons (.sl tT25) .unit),res:=(.sl tT17),fn:=fun v=>zew v.1 }
def aqy:TEnv:={ pure:=[(55,abx),(94,aax)],look:=[],glob:=G0T,ty:=[(125,tT17)],raw:=[],fresh:=[] }
theorem aqx:runY Tryz.prog aih aqz aqy aA6 Tryz.f68 xU.ps xU.res=xU.fn:=by kernel_rfl
theorem zY:az Tryz.prog G0 68 ae1:=ah (aj ⟨au,(ai alR (ai ajg ac)),ap,ac,an⟩ Tryz.func68 rfl (by kernel_rfl))
theorem ahh:TOk ae1 xU:=ay (E:=aih) (ET:=aqy) (EnvT.ofX (ax (ae av4 (ae ar6 al))) am ar aI aq) aqx rfl
def amj:Env:=(eZ [(154,qR),(155,abp),(156,q9)] [274])
def awO:Hints:=(hZ [] [])
def abJ:PFn:=aC (runF Tryz.prog amj awO Tryz.f86)
def aCK:TH:={ loops:=[],ro:=[2,3] }
def zbv (a0:vV2) (a1:vV2):Option Int :=
(zce a0.1 a1.1).bind fun r1 =>
(zbu a0.2.1 a1.2.1).bind fun r2 =>
(zdn ([r1,r2]:List Int)).bind fun r3 =>
 some r3
def tW:TFn:={ ps:=(.cons tT17 (.cons tT17 .unit)),res:=(.int .i64),fn:=fun v=>zbv v.1 v.2.1 }
def awN:TEnv:={ pure:=[(154,pi),(155,yf),(156,pp)],look:=[],glob:=G0T,ty:=[(3,(.int .i64))],raw:=[],fresh:=[] }
theorem awM:runY Tryz.prog amj awO awN aCK Tryz.f86 tW.ps tW.res=tW.fn:=by kernel_rfl
theorem tX:az Tryz.prog G0 86 abJ:=ah (aj ⟨au,(ai kO (ai abo (ai kU ac))),ap,ac,an⟩ Tryz.func86 rfl (by kernel_rfl))
theorem abI:TOk abJ tW:=ay (E:=amj) (ET:=awN) (EnvT.ofX (ax (ae qQ (ae aht (ae qZ al)))) am ar aI aq) awM rfl
def ao5:Go.Shelf.Ren:=⟨fun | 41=>159 | n=>n,fun | 22=>123 | 23=>132 | 4=>4 | n=>n,fun | n=>n⟩
theorem afU:Go.Proofs.SlLaysE0.n41 Tryz.prog ao5:={
 mixed:=by kernel_rfl
 f41:=⟨Tryz.f159.name,by decide,Tryz.func159.trans (congrArg some (by kernel_rfl))⟩
 t4:=Tryz.underlying4
 a4:=Tryz.isAgg4
 z4:=Tryz.sizeOf4
 v4:=Tryz.zeroValue4
 t22:=Tryz.underlying123
 a22:=Tryz.isAgg123
 z22:=Tryz.sizeOf123
 v22:=Tryz.zeroValue123 }
def ao7:PFn:=(hP 3)
theorem ao6:az Tryz.prog G0 159 ao7:=clone_lays afU 3 ⟨Tryz.f159,Tryz.func159,rfl,by kernel_rfl⟩ (by kernel_rfl) (by kernel_rfl) (by kernel_rfl) (by kernel_rfl) (by kernel_rfl) (by decide) (fun w=>Tryz.sizeOf132 w)
def za0 (a0:List vV5):Option (List vV5):=dv a0
def aAn:TFn:=d9 tT20
theorem aAm:TOk ao7 aAn:=gn rfl rfl rfl
def am3:Env:=(eZ [(72,abY),(159,ao7)] [274])
def ax1:Hints:=(hZ [] [])
def afy:PFn:=aC (runF Tryz.prog am3 ax1 Tryz.f89)
def aC3:TH:=yZ
def zb9 (a0:vV2):Option vV2 :=
(zba a0.1).bind fun r1 =>
(za0 a0.2.2.1).bind fun r2 =>
 some (r1,a0.2.1,r2,a0.2.2.2.1,())
def yk:TFn:={ ps:=(.cons tT17 .unit),res:=tT17,fn:=fun v=>zb9 v.1 }
def ax0:TEnv:=(vZ [(72,afx),(159,aAn)])
theorem axZ:runY Tryz.prog am3 ax1 ax0 aC3 Tryz.f89 yk.ps yk.res=yk.fn:=by kernel_rfl
theorem abZ:az Tryz.prog G0 89 afy:=ah (aj ⟨au,(ai ui (ai ao6 ac)),ap,ac,an⟩ Tryz.func89 rfl (by kernel_rfl))
theorem ahA:TOk afy yk:=ay (E:=am3) (ET:=ax0) (EnvT.ofX (ax (ae abX (ae aAm al))) am ar aI aq) axZ rfl
def ao4:Env:=(eZ [] [274])
def aAl:Hints:=(hZ [(4,[0,1,12,13])] [])
def ao3:PFn:=aC (runF Tryz.prog ao4 aAl Tryz.f161)
def aDx:TH:={ loops:=[(4,{ keep:=[(13,(.int .i64))],mem:=[] })],ro:=[] }
def wC (a0:List vV5) (a1:List vV5) (y4:(Int×Unit)):Option ((Int×Unit)⊕Bool) :=
 cond (decide (y4.1<(a0.length:Int))) (
(atI a0 y4.1).bind fun x1 =>
(atI a1 y4.1).bind fun x2 =>
 cond (!(eqV tT20 x1 x2)) (
 some (.inr false)) (
 some (.inl ((IntKind.wrap .i64 (y4.1+1)),())))) (
 some (.inr true))
def za1 (a0:List vV5) (a1:List vV5):Option Bool :=
 cond (!decide ((a0.length:Int)=(a1.length:Int))) (
 some false) (
 aK (wC a0 a1) (0,()))
def acv:TFn:={ ps:=(.cons (.sl tT20) (.cons (.sl tT20) .unit)),res:=.bool,fn:=fun v=>za1 v.1 v.2.1 }
def aAk:TEnv:=(vZ [])
theorem aAj:runY Tryz.prog ao4 aAl aAk aDx Tryz.f161 acv.ps acv.res=acv.fn:=by kernel_rfl
theorem ao2:az Tryz.prog G0 161 ao3:=ah (aj ⟨au,ac,ap,ac,an⟩ Tryz.func161 rfl (by kernel_rfl))
theorem aAi:TOk ao3 acv:=ay (E:=ao4) (ET:=aAk) (EnvT.ofX (ax al) am ar aI aq) aAj rfl
def ako:Env:=(eZ [(160,ae3),(161,ao3)] [274])
def atV:Hints:=(hZ [] [])
def akn:PFn:=aC (runF Tryz.prog ako atV Tryz.f92)
def aBX:TH:={ loops:=[],cuts:=[(1,[(12,{ keep:=[(2,(.bx 0 0)),(3,(.bx 1 0)),(16,.bool)],mem:=[.same,.same] })])],ro:=[2,3],news:=[] }
def zd8 (a0:vV2) (a1:vV2):Option Bool :=
(cond (decide (a0.2.1=a1.2.1)) (some ((decide (a0.2.2.2.1=a1.2.2.2.1)),())) (some (false,())):Option (Bool×Unit)).bind fun v1 =>
 cond v1.1 ((zej a0.1 a1.1).bind fun r2 =>
 cond r2 ((za1 a0.2.2.1 a1.2.2.1).bind fun r3 =>
 some r3) (some false)) (some false)
def aaX:TFn:={ ps:=(.cons tT17 (.cons tT17 .unit)),res:=.bool,fn:=fun v=>zd8 v.1 v.2.1 }
def atU:TEnv:=(vZ [(160,xW),(161,acv)])
theorem atT:runY Tryz.prog ako atV atU aBX Tryz.f92 aaX.ps aaX.res=aaX.fn:=by kernel_rfl
theorem akm:az Tryz.prog G0 92 akn:=ah (aj ⟨au,(ai aal (ai ao2 ac)),ap,ac,an⟩ Tryz.func92 rfl (by kernel_rfl))
theorem atS:TOk akn aaX:=ay (E:=ako) (ET:=atU) (EnvT.ofX (ax (ae ahj (ae aAi al))) am ar aI aq) atT rfl
def aoF:Env:=(eZ [(92,akn)] [274])
def az2:Hints:=(hZ [(4,[1,2,15,16,17])] [])
def aoE:PFn:=aC (runF Tryz.prog aoF az2 Tryz.f91)
def aDu:TH:={ loops:=[(4,{ keep:=[(17,(.int .i64))],mem:=[] })],ro:=[] }
def kX (a0:List vV2) (a1:List vV2) (y4:(Int×Unit)):Option ((Int×Unit)⊕Bool) :=
 cond (decide (y4.1<(a0.length:Int))) (
(atI a0 y4.1).bind fun x1 =>
(atI a1 y4.1).bind fun x2 =>
(zd8 x1 x2).bind fun r3 =>
 cond (!r3) (
 some (.inr false)) (
 some (.inl ((IntKind.wrap .i64 (y4.1+1)),())))) (
 some (.inr true))
def zaa (a0:List vV2) (a1:List vV2) (a2:Unit):Option Bool :=
 cond (!decide ((a0.length:Int)=(a1.length:Int))) (
 some false) (
 aK (kX a0 a1) (0,()))
def acs:TFn:={ ps:=(.cons (.sl tT17) (.cons (.sl tT17) (.cons (.fn 92) .unit))),res:=.bool,fn:=fun v=>zaa v.1 v.2.1 v.2.2.1 }
def az1:TEnv:=(vZ [(92,aaX)])
theorem az0:runY Tryz.prog aoF az2 az1 aDu Tryz.f91 acs.ps acs.res=acs.fn:=by kernel_rfl
theorem aoD:az Tryz.prog G0 91 aoE:=ah (aj ⟨au,(ai akm ac),ap,ac,an⟩ Tryz.func91 rfl (by kernel_rfl))
theorem azZ:TOk aoE acs:=ay (E:=aoF) (ET:=az1) (EnvT.ofX (ax (ae atS al)) am ar aI aq) az0 rfl
def aiE:Env:=(eZ [(91,aoE)] [274])
def ara:Hints:=(hZ [] [])
def ae2:PFn:=aC (runF Tryz.prog aiE ara Tryz.f31)
def aBg:TH:=yZ
def zem (a0:List vV2) (a1:List vV2):Option Bool :=
(zaa a0 a1 ()).bind fun r1 =>
 some r1
def xV:TFn:={ ps:=(.cons (.sl tT17) (.cons (.sl tT17) .unit)),res:=.bool,fn:=fun v=>zem v.1 v.2.1 }
def aq9:TEnv:=(vZ [(91,acs)])
theorem aq8:runY Tryz.prog aiE ara aq9 aBg Tryz.f31 xV.ps xV.res=xV.fn:=by kernel_rfl
theorem aai:az Tryz.prog G0 31 ae2:=ah (aj ⟨au,(ai aoD ac),ap,ac,an⟩ Tryz.func31 rfl (by kernel_rfl))
theorem ahi:TOk ae2 xV:=ay (E:=aiE) (ET:=aq9) (EnvT.ofX (ax (ae azZ al)) am ar aI aq) aq8 rfl
def akZ:Env:=(eZ [(31,ae2)] [274])
def auP:Hints:=(hZ [] [])
def afe:PFn:=aC (runF Tryz.prog akZ auP Tryz.f87)
def aCb:TH:={ loops:=[],ro:=[2,3] }
def zcu (a0:vV2) (a1:vV2):Option Bool :=
(zem ([a0]:List vV2) ([a1]:List vV2)).bind fun r1 =>
 some r1
def yd:TFn:={ ps:=(.cons tT17 (.cons tT17 .unit)),res:=.bool,fn:=fun v=>zcu v.1 v.2.1 }
def auO:TEnv:={ pure:=[(31,xV)],look:=[],glob:=G0T,ty:=[(125,tT17)],raw:=[],fresh:=[] }
theorem auN:runY Tryz.prog akZ auP auO aCb Tryz.f87 yd.ps yd.res=yd.fn:=by kernel_rfl
theorem aa9:az Tryz.prog G0 87 afe:=ah (aj ⟨au,(ai aai ac),ap,ac,an⟩ Tryz.func87 rfl (by kernel_rfl))
theorem ahq:TOk afe yd:=ay (E:=akZ) (ET:=auO) (EnvT.ofX (ax (ae ahi al)) am ar aI aq) auN rfl
def alP:Env:=(eZ [(86,abJ),(87,afe),(89,afy)] [274])
def av0:Hints:=(hZ [(2,[0,1,5])] [41,45,60,73])
def alO:PFn:=aC (runF Tryz.prog alP av0 Tryz.f76)
def aCw:TH:={ joins:=[(3,{ keep:=[(5,(.own 0))],mem:=[.row true 127 tT21] }),(11,{ keep:=[(5,(.own 0)),(6,(.int .i64))],mem:=[.row true 127 tT21] }),(10,{ keep:=[(5,(.own 0))],mem:=[.row true 127 tT21] })],loops:=[(2,{ keep:=[(0,(.sl tT17)),(1,(.sl tT17)),(5,(.own 0))],mem:=[.row true 127 tT21] })],ro:=[] }
def iC (y2:(List vV2×List vV2×List vV8×Unit)):Option ((List vV2×List vV2×List vV8×Unit)⊕List vV8) :=
(cond (decide ((y2.1.length:Int)>0)) (some (.inl (y2.2.2.1,()))) (cond (decide ((y2.2.1.length:Int)>0)) (
 some (.inl (y2.2.2.1,()))) (
 some (.inr (.inr y2.2.2.1)))):Option ((List vV8×Unit)⊕((List vV2×List vV2×List vV8×Unit)⊕List vV8))).bind (aZ fun v1 =>
(cond (decide ((y2.2.1.length:Int)=0)) (
 some (.inl ((-1),v1.1,()))) (
 cond (decide ((y2.1.length:Int)>0)) (
(atI y2.1 0).bind fun x2 =>
(atI y2.2.1 0).bind fun x3 =>
(zbv x2 x3).bind fun r4 =>
 some (.inl (r4,v1.1,()))) (
 some (.inl (1,v1.1,())))):Option ((Int×List vV8×Unit)⊕((List vV2×List vV2×List vV8×Unit)⊕List vV8))).bind (aZ fun v5 =>
 cond (decide (v5.1<0)) (
(atI y2.1 0).bind fun x6 =>
(zb9 x6).bind fun r7 =>
(bY (v5.2.1.length+([(2,r7,([],0,[],0,()),())]:List vV8).length)).bind fun u8 =>
(subI y2.1 1 (y2.1.length:Int)).bind fun s9 =>
 some (.inl (s9,y2.2.1,(v5.2.1++([(2,r7,([],0,[],0,()),())]:List vV8)),()))) (
 cond (decide (v5.1>0)) (
(atI y2.2.1 0).bind fun x10 =>
(zb9 x10).bind fun r11 =>
(bY (v5.2.1.length+([(1,([],0,[],0,()),r11,())]:List vV8).length)).bind fun u12 =>
(subI y2.2.1 1 (y2.2.1.length:Int)).bind fun s13 =>
 some (.inl (y2.1,s13,(v5.2.1++([(1,([],0,[],0,()),r11,())]:List vV8)),()))) (
((atI y2.1 0).bind fun x14 =>
(atI y2.2.1 0).bind fun x15 =>
(zcu x14 x15).bind fun r16 =>
 cond (!r16) (
(atI y2.1 0).bind fun x17 =>
(zb9 x17).bind fun r18 =>
(atI y2.2.1 0).bind fun x19 =>
(zb9 x19).bind fun r20 =>
(bY (v5.2.1.length+([(3,r18,r20,())]:List vV8).length)).bind fun u21 =>
 some (.inl ((v5.2.1++([(3,r18,r20,())]:List vV8)),()))) (
 some (.inl (v5.2.1,()))):Option ((List vV8×Unit)⊕((List vV2×List vV2×List vV8×Unit)⊕List vV8))).bind (aZ fun v22 =>
(subI y2.1 1 (y2.1.length:Int)).bind fun s23 =>
(subI y2.2.1 1 (y2.2.1.length:Int)).bind fun s24 =>
 some (.inl (s23,s24,v22.1,())))))))
def zc9 (a0:List vV2) (a1:List vV2):Option (List vV8) :=
 aK (iC) (a0,a1,[],())
def abv:TFn:={ ps:=(.cons (.sl tT17) (.cons (.sl tT17) .unit)),res:=(.sl tT21),fn:=fun v=>zc9 v.1 v.2.1 }
def avZ:TEnv:={ pure:=[(86,tW),(87,yd),(89,yk)],look:=[],glob:=G0T,ty:=[(127,tT21)],raw:=[],fresh:=[] }
theorem avY:runY Tryz.prog alP av0 avZ aCw Tryz.f76 abv.ps abv.res=abv.fn:=by kernel_rfl
theorem alN:az Tryz.prog G0 76 alO:=ah (aj ⟨au,(ai tX (ai aa9 (ai abZ ac))),ap,ac,an⟩ Tryz.func76 rfl (by kernel_rfl))
theorem avX:TOk alO abv:=ay (E:=alP) (ET:=avZ) (EnvT.ofX (ax (ae abI (ae ahq (ae ahA al)))) am ar aI aq) avY rfl
def aj0:Env:=(eZ [(46,akM),(50,afm),(68,ae1),(76,alO),(130,anm)] [274])
def ath:Hints:=(hZ [] [])
def ae9:PFn:=aC (runF Tryz.prog aj0 ath Tryz.f59)
def aBN:TH:={ loops:=[],ro:=[3,4] }
def zdi (a0:vV0) (a1:(Int×Int×Unit)) (a2:Bool):Option (List vV8×Int×Unit) :=
(zcz a0 a1 a2).bind fun r1 =>
 cond (!decide (r1=0)) (
 some ([],r1,())) (
(zb1 a0 a1).bind fun r2 =>
 cond (!decide (r2.2.1=0)) (
 some ([],r2.2.1,())) (
(zc1 a0).bind fun r3 =>
(zew r3).bind fun r4 =>
(zc1 r2.1).bind fun r5 =>
(zew r5).bind fun r6 =>
(zc9 r4 r6).bind fun r7 =>
 some (r7,0,())))
def ya:TFn:={ ps:=(.cons tT14 (.cons tT16 (.cons .bool .unit))),res:=(.tup (.cons (.sl tT21) tT22)),fn:=fun v=>zdi v.1 v.2.1 v.2.2.1 }
def atg:TEnv:=(vZ [(46,aa5),(50,yj),(68,xU),(76,abv),(130,ab8)])
theorem atf:runY Tryz.prog aj0 ath atg aBN Tryz.f59 ya.ps ya.res=ya.fn:=by kernel_rfl
theorem aaO:az Tryz.prog G0 59 ae9:=ah (aj ⟨au,(ai akL (ai abD (ai zY (ai alN (ai anl ac))))),ap,ac,an⟩ Tryz.func59 rfl (by kernel_rfl))
theorem ahn:TOk ae9 ya:=ay (E:=aj0) (ET:=atg) (EnvT.ofX (ax (ae aut (ae ahy (ae ahh (ae avX (ae ayq al)))))) am ar aI aq) atf rfl
def aCg:Env:=(eZ [] [274])
def aCf:Hints:=(hZ [] [])
def ak8:PFn:=aC (runF Tryz.prog aCg aCf Tryz.f275)
theorem ak7:az Tryz.prog G0 275 ak8:=ah (aj ⟨au,ac,ap,ac,an⟩ Tryz.func275 rfl (by kernel_rfl))
def amV:Env:=(eZ [] [274])
def axQ:Hints:=(hZ [] [6,9,11,19])
def abV:SFn:=runF Tryz.prog amV axQ Tryz.f209
def aC0:TH:=yZ
def zbd (w0:vV12) (w1:List Int):Option (Unit×vV12×List Int×Unit) :=
 cond (!w0.1) (
 some ((),(true,w0.2.1,()),w1,())) (
 cond (!w0.1) (
 none) (
 some ((),w0,w1,())))
def pw:TRaw:={ ps:=(.cons (.bx 0 0) .unit),ins:=[.box 216 tT27,.row true 5 (.int .u8)],res:=(.tup .unit),outs:=[.box 216 tT27,.row true 5 (.int .u8)],fn:=fun v w=>zbd w.1 w.2.1 }
def axP:TEnv:=(vZ [])
theorem axO:rawY Tryz.prog amV axQ axP aC0 [(0,0)] Tryz.f209 pw.ps pw.ins pw.res pw.outs=pw.fn:=by kernel_rfl
theorem ug:bn Tryz.prog G0 209 abV:=aj ⟨au,ac,ap,ac,an⟩ Tryz.func209 rfl (by kernel_rfl)
theorem abU:TRawOk abV pw:=ip (E:=amV) (ET:=axP) (EnvT.ofX (ax al) am ar aI aq) axO
def amU:Env:={ pure:=[],raw:=[(209,abV)],glob:=G0,same:=[274],look:=[],ext:=[] }
def axN:Hints:=(hZ [] [])
def afv:SFn:=runF Tryz.prog amU axN Tryz.f323
def aCZ:TH:=yZ
def zbe (a1:Int) (w0:vV12) (w1:List Int):Option (Bool×vV12×List Int×Unit) :=
(zbd w0 w1).bind fun q1 =>
(bY (q1.2.2.1.length+([a1]:List Int).length)).bind fun u2 =>
 some (false,(q1.2.1.1,(),()),(q1.2.2.1++([a1]:List Int)),())
def rc:TRaw:={ ps:=(.cons (.bx 0 0) (.cons (.int .u8) .unit)),ins:=[.box 216 tT27,.row true 5 (.int .u8)],res:=.err,outs:=[.box 216 tT27,.row true 5 (.int .u8)],fn:=fun v w=>zbe v.2.1 w.1 w.2.1 }
def axM:TEnv:={ pure:=[],look:=[],glob:=G0T,ty:=[(5,(.int .u8))],raw:=[(209,pw)],fresh:=[] }
theorem axL:rawY Tryz.prog amU axN axM aCZ [(0,0)] Tryz.f323 rc.ps rc.ins rc.res rc.outs=rc.fn:=by kernel_rfl
theorem abT:bn Tryz.prog G0 323 afv:=aj ⟨au,ac,(aU ug ap),ac,an⟩ Tryz.func323 rfl (by kernel_rfl)
theorem ahz:TRawOk afv rc:=ip (E:=amU) (ET:=axM) (EnvT.ofX (ax al) am (be abU rfl rfl ar) aI aq) axL
def amO:Env:=(eZ [] [274])
def axE:Hints:=(hZ [] [])
def amN:SFn:=runF Tryz.prog amO axE Tryz.f369
def aCX:TH:={ joins:=[(7,{ keep:=[(0,(.own 0)),(25,.bool)],mem:=[.row true 5 (.int .u8)] })],loops:=[],cuts:=[(6,[(6,{ keep:=[(0,(.own 0)),(33,.bool)],mem:=[.row true 5 (.int .u8)] })])],ro:=[],news:=[] }
def zbh (a1:Int) (w0:List Int):Option (Unit×List Int×Unit) :=
 cond (decide ((IntKind.wrap .u32 a1)≤2047)) (
(shrT .i32 a1 6).bind fun t1 =>
(bY (w0.length+([(IntKind.wrap .u8 ((BitVec.ofInt (IntKind.bits .u8) 192 ||| BitVec.ofInt (IntKind.bits .u8) (IntKind.wrap .u8 t1)).toNat)),(IntKind.wrap .u8 ((BitVec.ofInt (IntKind.bits .u8) 128 ||| BitVec.ofInt (IntKind.bits .u8) (IntKind.wrap .u8 ((BitVec.ofInt (IntKind.bits .u8) (IntKind.wrap .u8 a1) &&& BitVec.ofInt (IntKind.bits .u8) 63).toNat))).toNat))]:List Int).length)).bind fun u2 =>
 some ((),(w0++([(IntKind.wrap .u8 ((BitVec.ofInt (IntKind.bits .u8) 192 ||| BitVec.ofInt (IntKind.bits .u8) (IntKind.wrap .u8 t1)).toNat)),(IntKind.wrap .u8 ((BitVec.ofInt (IntKind.bits .u8) 128 ||| BitVec.ofInt (IntKind.bits .u8) (IntKind.wrap .u8 ((BitVec.ofInt (IntKind.bits .u8) (IntKind.wrap .u8 a1) &&& BitVec.ofInt (IntKind.bits .u8) 63).toNat))).toNat))]:List Int)),())) (
(cond (decide ((IntKind.wrap .u32 a1)<55296)) (
 some (.inl ((decide ((IntKind.wrap .u32 a1)<55296)),w0,()))) (
(cond (decide (57343<(IntKind.wrap .u32 a1))) (some ((decide ((IntKind.wrap .u32 a1)≤65535)),w0,())) (some (false,w0,())):Option (Bool×List Int×Unit)).bind fun v3 =>
 some (.inl (v3.1,v3.2.1,()))):Option ((Bool×List Int×Unit)⊕(Unit×List Int×Unit))).bind (aZ fun v4 =>
 cond v4.1 (
(shrT .i32 a1 12).bind fun t5 =>
(shrT .i32 a1 6).bind fun t6 =>
(bY (v4.2.1.length+([(IntKind.wrap .u8 ((BitVec.ofInt (IntKind.bits .u8) 224 ||| BitVec.ofInt (IntKind.bits .u8) (IntKind.wrap .u8 t5)).toNat)),(IntKind.wrap .u8 ((BitVec.ofInt (IntKind.bits .u8) 128 ||| BitVec.ofInt (IntKind.bits .u8) (IntKind.wrap .u8 ((BitVec.ofInt (IntKind.bits .u8) (IntKind.wrap .u8 t6) &&& BitVec.ofInt (IntKind.bits .u8) 63).toNat))).toNat)),(IntKind.wrap .u8 ((BitVec.ofInt (IntKind.bits .u8) 128 ||| BitVec.ofInt (IntKind.bits .u8) (IntKind.wrap .u8 ((BitVec.ofInt (IntKind.bits .u8) (IntKind.wrap .u8 a1) &&& BitVec.ofInt (IntKind.bits .u8) 63).toNat))).toNat))]:List Int).length)).bind fun u7 =>
 some ((),(v4.2.1++([(IntKind.wrap .u8 ((BitVec.ofInt (IntKind.bits .u8) 224 ||| BitVec.ofInt (IntKind.bits .u8) (IntKind.wrap .u8 t5)).toNat)),(IntKind.wrap .u8 ((BitVec.ofInt (IntKind.bits .u8) 128 ||| BitVec.ofInt (IntKind.bits .u8) (IntKind.wrap .u8 ((BitVec.ofInt (IntKind.bits .u8) (IntKind.wrap .u8 t6) &&& BitVec.ofInt (IntKind.bits .u8) 63).toNat))).toNat)),(IntKind.wrap .u8 ((BitVec.ofInt (IntKind.bits .u8) 128 ||| BitVec.ofInt (IntKind.bits .u8) (IntKind.wrap .u8 ((BitVec.ofInt (IntKind.bits .u8) (IntKind.wrap .u8 a1) &&& BitVec.ofInt (IntKind.bits .u8) 63).toNat))).toNat))]:List Int)),())) (
 cond (decide ((IntKind.wrap .u32 a1)>65535)) (cond (decide ((IntKind.wrap .u32 a1)≤1114111)) (
(shrT .i32 a1 18).bind fun t8 =>
(shrT .i32 a1 12).bind fun t9 =>
(shrT .i32 a1 6).bind fun t10 =>
(bY (v4.2.1.length+([(IntKind.wrap .u8 ((BitVec.ofInt (IntKind.bits .u8) 240 ||| BitVec.ofInt (IntKind.bits .u8) (IntKind.wrap .u8 t8)).toNat)),(IntKind.wrap .u8 ((BitVec.ofInt (IntKind.bits .u8) 128 ||| BitVec.ofInt (IntKind.bits .u8) (IntKind.wrap .u8 ((BitVec.ofInt (IntKind.bits .u8) (IntKind.wrap .u8 t9) &&& BitVec.ofInt (IntKind.bits .u8) 63).toNat))).toNat)),(IntKind.wrap .u8 ((BitVec.ofInt (IntKind.bits .u8) 128 ||| BitVec.ofInt (IntKind.bits .u8) (IntKind.wrap .u8 ((BitVec.ofInt (IntKind.bits .u8) (IntKind.wrap .u8 t10) &&& BitVec.ofInt (IntKind.bits .u8) 63).toNat))).toNat)),(IntKind.wrap .u8 ((BitVec.ofInt (IntKind.bits .u8) 128 ||| BitVec.ofInt (IntKind.bits .u8) (IntKind.wrap .u8 ((BitVec.ofInt (IntKind.bits .u8) (IntKind.wrap .u8 a1) &&& BitVec.ofInt (IntKind.bits .u8) 63).toNat))).toNat))]:List Int).length)).bind fun u11 =>
 some ((),(v4.2.1++([(IntKind.wrap .u8 ((BitVec.ofInt (IntKind.bits .u8) 240 ||| BitVec.ofInt (IntKind.bits .u8) (IntKind.wrap .u8 t8)).toNat)),(IntKind.wrap .u8 ((BitVec.ofInt (IntKind.bits .u8) 128 ||| BitVec.ofInt (IntKind.bits .u8) (IntKind.wrap .u8 ((BitVec.ofInt (IntKind.bits .u8) (IntKind.wrap .u8 t9) &&& BitVec.ofInt (IntKind.bits .u8) 63).toNat))).toNat)),(IntKind.wrap .u8 ((BitVec.ofInt (IntKind.bits .u8) 128 ||| BitVec.ofInt (IntKind.bits .u8) (IntKind.wrap .u8 ((BitVec.ofInt (IntKind.bits .u8) (IntKind.wrap .u8 t10) &&& BitVec.ofInt (IntKind.bits .u8) 63).toNat))).toNat)),(IntKind.wrap .u8 ((BitVec.ofInt (IntKind.bits .u8) 128 ||| BitVec.ofInt (IntKind.bits .u8) (IntKind.wrap .u8 ((BitVec.ofInt (IntKind.bits .u8) (IntKind.wrap .u8 a1) &&& BitVec.ofInt (IntKind.bits .u8) 63).toNat))).toNat))]:List Int)),())) (
(bY (v4.2.1.length+([239,191,189]:List Int).length)).bind fun u12 =>
 some ((),(v4.2.1++([239,191,189]:List Int)),()))) ((bY (v4.2.1.length+([239,191,189]:List Int).length)).bind fun u13 =>
 some ((),(v4.2.1++([239,191,189]:List Int)),())))))
def ud:TRaw:={ ps:=(.cons (.own 0) (.cons (.int .i32) .unit)),ins:=[.row true 5 (.int .u8)],res:=(.own 0),outs:=[.row true 5 (.int .u8)],fn:=fun v w=>zbh v.2.1 w.1 }
def axD:TEnv:={ pure:=[],look:=[],glob:=G0T,ty:=[(5,(.int .u8))],raw:=[],fresh:=[] }
theorem axC:rawY Tryz.prog amO axE axD aCX [] Tryz.f369 ud.ps ud.ins ud.res ud.outs=ud.fn:=by kernel_rfl
theorem amM:bn Tryz.prog G0 369 amN:=aj ⟨au,ac,ap,ac,an⟩ Tryz.func369 rfl (by kernel_rfl)
theorem axB:TRawOk amN ud:=ip (E:=amO) (ET:=axD) (EnvT.ofX (ax al) am ar aI aq) axC
def amq:Env:={ pure:=[],raw:=[(369,amN)],glob:=G0,same:=[274],look:=[],ext:=[] }
def awZ:Hints:=(hZ [] [])
def amp:SFn:=runF Tryz.prog amq awZ Tryz.f353
def aCN:TH:=yZ
def zbs (a1:Int) (w0:List Int):Option (Unit×List Int×Unit) :=
 cond (decide ((IntKind.wrap .u32 a1)≤127)) (
(bY (w0.length+([(IntKind.wrap .u8 a1)]:List Int).length)).bind fun u1 =>
 some ((),(w0++([(IntKind.wrap .u8 a1)]:List Int)),())) (
(zbh a1 w0).bind fun q2 =>
 some (q2.1,q2.2.1,()))
def tY:TRaw:={ ps:=(.cons (.own 0) (.cons (.int .i32) .unit)),ins:=[.row true 5 (.int .u8)],res:=(.own 0),outs:=[.row true 5 (.int .u8)],fn:=fun v w=>zbs v.2.1 w.1 }
def awY:TEnv:={ pure:=[],look:=[],glob:=G0T,ty:=[(5,(.int .u8))],raw:=[(369,ud)],fresh:=[] }
theorem awX:rawY Tryz.prog amq awZ awY aCN [] Tryz.f353 tY.ps tY.ins tY.res tY.outs=tY.fn:=by kernel_rfl
theorem amo:bn Tryz.prog G0 353 amp:=aj ⟨au,ac,(aU amM ap),ac,an⟩ Tryz.func353 rfl (by kernel_rfl)
theorem awW:TRawOk amp tY:=ip (E:=amq) (ET:=awY) (EnvT.ofX (ax al) am (be axB rfl rfl ar) aI aq) awX
def amT:Env:={ pure:=[],raw:=[(209,abV),(353,amp)],glob:=G0,same:=[274],look:=[],ext:=[] }
def axK:Hints:=(hZ [] [])
def amS:SFn:=runF Tryz.prog amT axK Tryz.f324
def aCY:TH:=yZ
def zbf (a1:Int) (w0:vV12) (w1:List Int):Option ((Int×Bool×Unit)×vV12×List Int×Unit) :=
(zbd w0 w1).bind fun q1 =>
(zbs a1 q1.2.2.1).bind fun q2 =>
 some (((IntKind.wrap .i64 ((q2.2.1.length:Int)-(q1.2.2.1.length:Int))),false,()),(q1.2.1.1,q2.1,()),q2.2.1,())
def uf:TRaw:={ ps:=(.cons (.bx 0 0) (.cons (.int .i32) .unit)),ins:=[.box 216 tT27,.row true 5 (.int .u8)],res:=(.tup (.cons (.int .i64) (.cons .err .unit))),outs:=[.box 216 tT27,.row true 5 (.int .u8)],fn:=fun v w=>zbf v.2.1 w.1 w.2.1 }
def axJ:TEnv:={ pure:=[],look:=[],glob:=G0T,ty:=[],raw:=[(209,pw),(353,tY)],fresh:=[] }
theorem axI:rawY Tryz.prog amT axK axJ aCY [(0,0)] Tryz.f324 uf.ps uf.ins uf.res uf.outs=uf.fn:=by kernel_rfl
theorem amR:bn Tryz.prog G0 324 amS:=aj ⟨au,ac,(aU ug (aU amo ap)),ac,an⟩ Tryz.func324 rfl (by kernel_rfl)
theorem axH:TRawOk amS uf:=ip (E:=amT) (ET:=axJ) (EnvT.ofX (ax al) am (be abU rfl rfl (be awW rfl rfl ar)) aI aq) axI
def amI:Env:=(eZ [] [274])
def axw:Hints:=(hZ [] [])
def abR:SFn:=runF Tryz.prog amI axw Tryz.f140
def aCV:TH:=yZ
def zbj (w0:vV12) (w1:List Int):Option (List UInt8×vV12×Unit) :=
 cond w1.isEmpty ((aiq (w1.length:Int)).bind fun u1 =>
 some ([],w0,())) ((rf 0 w1.length (w1.length:Int)).bind fun u2 =>
 some ((w1.map fun n=>UInt8.ofNat n.toNat),w0,()))
def pr:TRaw:={ ps:=(.cons (.bx 0 0) .unit),ins:=[.box 216 tT27,.row true 5 (.int .u8)],res:=.str,outs:=[.box 216 tT27,.gone],fn:=fun v w=>zbj w.1 w.2.1 }
def axv:TEnv:=(vZ [])
theorem axu:rawY Tryz.prog amI axw axv aCV [(0,0)] Tryz.f140 pr.ps pr.ins pr.res pr.outs=pr.fn:=by kernel_rfl
theorem t7:bn Tryz.prog G0 140 abR:=aj ⟨au,ac,ap,ac,an⟩ Tryz.func140 rfl (by kernel_rfl)
theorem abQ:TRawOk abR pr:=ip (E:=amI) (ET:=axv) (EnvT.ofX (ax al) am ar aI aq) axu
def akV:Env:={ pure:=[],raw:=[(140,abR),(323,afv),(324,amS)],glob:=G0,same:=[274],look:=[],ext:=[] }
def auI:Hints:=(hZ [(4,[3,8])] [])
def afd:PFn:=aC (runF Tryz.prog akV auI Tryz.f276)
def aB9:TH:={ loops:=[(4,{ keep:=[(3,(.bx 1 0)),(8,(.it 2))],mem:=[.row true 5 (.int .u8),.box 216 tT29,.iter] })],cuts:=[],ro:=[],news:=[(3,(tT29,[(5,(.int .u8))]))] }
def nJ (a0:List UInt8) (y4:(List Int×vV12×Nat×Unit)):Option ((List Int×vV12×Nat×Unit)⊕List UInt8) :=
 cond (decide (y4.2.2.1<a0.length)) (cond (decide (((Utf8.decode ⟨a0.toArray⟩ y4.2.2.1).1:Int)=34)) ((zbe 92 (y4.2.1.1,(),()) y4.1).bind fun q2 =>
(zbf ((Utf8.decode ⟨a0.toArray⟩ y4.2.2.1).1:Int) (q2.2.1.1,(),()) q2.2.2.1).bind fun q3 =>
 some (.inl (q3.2.2.1,q3.2.1,(y4.2.2.1+(Utf8.decode ⟨a0.toArray⟩ y4.2.2.1).2),()))) (cond (decide (((Utf8.decode ⟨a0.toArray⟩ y4.2.2.1).1:Int)=92)) (
(zbe 92 (y4.2.1.1,(),()) y4.1).bind fun q4 =>
(zbf ((Utf8.decode ⟨a0.toArray⟩ y4.2.2.1).1:Int) (q4.2.1.1,(),()) q4.2.2.1).bind fun q5 =>
 some (.inl (q5.2.2.1,q5.2.1,(y4.2.2.1+(Utf8.decode ⟨a0.toArray⟩ y4.2.2.1).2),()))) (
(zbf ((Utf8.decode ⟨a0.toArray⟩ y4.2.2.1).1:Int) (y4.2.1.1,(),()) y4.1).bind fun q6 =>
 some (.inl (q6.2.2.1,q6.2.1,(y4.2.2.1+(Utf8.decode ⟨a0.toArray⟩ y4.2.2.1).2),()))))) (((zbe 34 (y4.2.1.1,(),()) y4.1).bind fun q7 =>
(zbj (q7.2.1.1,(),()) q7.2.2.1).bind fun q8 =>
 some q8.1).map .inr)
def zcw (a0:List UInt8):Option (List UInt8) :=
(zbe 34 (false,(),()) []).bind fun q1 =>
 aK (nJ a0) (q1.2.2.1,q1.2.1,0,())
def afc:TFn:={ ps:=(.cons .str .unit),res:=.str,fn:=fun v=>zcw v.1 }
def auH:TEnv:={ pure:=[],look:=[],glob:=G0T,ty:=[],raw:=[(140,pr),(323,rc),(324,uf)],fresh:=[] }
theorem auG:runY Tryz.prog akV auI auH aB9 Tryz.f276 afc.ps afc.res=afc.fn:=by kernel_rfl
theorem akU:az Tryz.prog G0 276 afd:=ah (aj ⟨au,ac,(aU t7 (aU abT (aU amR ap))),ac,an⟩ Tryz.func276 rfl (by kernel_rfl))
theorem auF:TOk afd afc:=ay (E:=akV) (ET:=auH) (EnvT.ofX (ax al) am (be abQ rfl rfl (be ahz rfl rfl (be axH rfl rfl ar))) aI aq) auG rfl
def amL:Env:=(eZ [] [274])
def axA:Hints:=(hZ [] [])
def amK:PFn:=aC (runF Tryz.prog amL axA Tryz.f325)
def aCW:TH:=yZ
def zbi (a0:Bool):Option (List UInt8) :=
 cond a0 (
 some [116,114,117,101]) (
 some [102,97,108,115,101])
def abS:TFn:={ ps:=(.cons .bool .unit),res:=.str,fn:=fun v=>zbi v.1 }
def axz:TEnv:=(vZ [])
theorem axy:runY Tryz.prog amL axA axz aCW Tryz.f325 abS.ps abS.res=abS.fn:=by kernel_rfl
theorem amJ:az Tryz.prog G0 325 amK:=ah (aj ⟨au,ac,ap,ac,an⟩ Tryz.func325 rfl (by kernel_rfl))
theorem axx:TOk amK abS:=ay (E:=amL) (ET:=axz) (EnvT.ofX (ax al) am ar aI aq) axy rfl
def amA:Env:=(eZ [(325,amK)] [274])
def axh:Hints:=(hZ [] [])
def afu:PFn:=aC (runF Tryz.prog amA axh Tryz.f277)
def aCR:TH:=yZ
def zbn (a0:Bool):Option (List UInt8) :=
(zbi a0).bind fun r1 =>
 some r1
def aft:TFn:={ ps:=(.cons .bool .unit),res:=.str,fn:=fun v=>zbn v.1 }
def axg:TEnv:=(vZ [(325,abS)])
theorem axf:runY Tryz.prog amA axh axg aCR Tryz.f277 aft.ps aft.res=aft.fn:=by kernel_rfl
theorem amz:az Tryz.prog G0 277 afu:=ah (aj ⟨au,(ai amJ ac),ap,ac,an⟩ Tryz.func277 rfl (by kernel_rfl))
theorem axe:TOk afu aft:=ay (E:=amA) (ET:=axg) (EnvT.ofX (ax (ae axx al)) am ar aI aq) axf rfl
def ab1:PFn:=agL
theorem ab0:az Tryz.prog G0 213 ab1:=zi (g:=3) ⟨Tryz.f213,Tryz.func213,rfl,by kernel_rfl⟩ (by kernel_rfl) (by kernel_rfl) Tryz.strconv_Itoa
def zb7 (a0:Int):Option (List UInt8):=itoa a0
def ax6:TFn:=xa
theorem ahB:TOk ab1 ax6:=apF
def aBB:Env:=(eZ [(275,ak8),(276,afd),(277,afu),(213,ab1)] [274])
def asx:Hints:=(hZ [] [])
def ae7:PFn:=aC (runF Tryz.prog aBB asx Tryz.f210)
theorem ajy:az Tryz.prog G0 210 ae7:=ah (aj ⟨au,(ai ak7 (ai akU (ai amz (ai ab0 ac)))),ap,ac,an⟩ Tryz.func210 rfl (by kernel_rfl))
def cd (Fq Fb Fs:PFn):PFn:=aC (runF Tryz.prog (eZ [(275,ak8),(276,Fq),(277,Fb),(213,Fs)] [274]) asx Tryz.f210)
theorem lg:ae7=cd afd afu ab1:=rfl
theorem rt (Fq Fb Fs:PFn) (n:Int) (s:List UInt8):cd Fq Fb Fs [.agg [.int .i64 2,.int .i64 n,.str s]]=((Fq [.str s]).bind fun t=>some (t,[AReg.row 132 3 [.agg [.int .i64 2,.int .i64 n,.str s]]])).bind fun p=>bR p.2 p.1:=by kernel_rfl
theorem rr (Fq Fb Fs:PFn) (n:Int) (s:List UInt8):cd Fq Fb Fs [.agg [.int .i64 3,.int .i64 n,.str s]]=((Fb [.bool (n==1)]).bind fun t=>some (t,[AReg.row 132 3 [.agg [.int .i64 3,.int .i64 n,.str s]]])).bind fun p=>bR p.2 p.1:=by kernel_rfl
theorem rv (Fq Fb Fs:PFn) (n:Int) (s:List UInt8):cd Fq Fb Fs [.agg [.int .i64 (Int.ofNat 0),.int .i64 n,.str s]]=((Fs [.int .i64 n]).bind fun t=>some (t,[AReg.row 132 3 [.agg [.int .i64 (Int.ofNat 0),.int .i64 n,.str s]]])).bind fun p=>bR p.2 p.1:=by kernel_rfl
theorem ru (Fq Fb Fs:PFn) (n:Int) (s:List UInt8):cd Fq Fb Fs [.agg [.int .i64 (Int.ofNat 1),.int .i64 n,.str s]]=((Fs [.int .i64 n]).bind fun t=>some (t,[AReg.row 132 3 [.agg [.int .i64 (Int.ofNat 1),.int .i64 n,.str s]]])).bind fun p=>bR p.2 p.1:=by kernel_rfl
theorem rq (Fq Fb Fs:PFn) (k:Nat) (n:Int) (s:List UInt8):cd Fq Fb Fs [.agg [.int .i64 (Int.ofNat (k+4)),.int .i64 n,.str s]]=((Fs [.int .i64 n]).bind fun t=>some (t,[AReg.row 132 3 [.agg [.int .i64 (Int.ofNat (k+4)),.int .i64 n,.str s]]])).bind fun p=>bR p.2 p.1:=by kernel_rfl
theorem rn (Fq Fb Fs:PFn) (k:Nat) (n:Int) (s:List UInt8):cd Fq Fb Fs [.agg [.int .i64 (Int.negSucc k),.int .i64 n,.str s]]=((Fs [.int .i64 n]).bind fun t=>some (t,[AReg.row 132 3 [.agg [.int .i64 (Int.negSucc k),.int .i64 n,.str s]]])).bind fun p=>bR p.2 p.1:=by kernel_rfl
theorem rk (Fq Fb Fs:PFn) (k n:Int) (s:List UInt8) (h2:k≠2) (h3:k≠3):cd Fq Fb Fs [.agg [.int .i64 k,.int .i64 n,.str s]]=((Fs [.int .i64 n]).bind fun t=>some (t,[AReg.row 132 3 [.agg [.int .i64 k,.int .i64 n,.str s]]])).bind fun p=>bR p.2 p.1:=by
 match k,h2,h3 with
 | .ofNat 0,_,_=>exact rv Fq Fb Fs n s
 | .ofNat 1,_,_=>exact ru Fq Fb Fs n s
 | .ofNat 2,h,_=>exact absurd rfl h
 | .ofNat 3,_,h=>exact absurd rfl h
 | .ofNat (k+4),_,_=>exact rq Fq Fb Fs k n s
 | .negSucc k,_,_=>exact rn Fq Fb Fs k n s
def zdu (a0:Int×Int×List UInt8×Unit):Option (List UInt8):=if a0.1=2 then zcw a0.2.2.1 else if a0.1=3 then zbn (a0.2.1==1) else zb7 a0.2.1
def ae6:TFn:={ ps:=.cons tT20 .unit,res:=.str,fn:=fun v=>zdu v.1 }
theorem asw:TOk ae7 ae6:=⟨rfl,rfl,rfl,fun v r xs hr hps=>by
 obtain ⟨⟨k,n,s,⟨⟩⟩,⟨⟩⟩:=v;simp only[R,ae6] at hps;obtain ⟨l1,l2,rfl,⟨cs,rfl,a1,a2,rfl,rfl,a3,a4,rfl,rfl,a5,a6,rfl,rfl,rfl⟩,rfl⟩:=hps;rw[lg];simp only[ae6,zdu] at hr
 have done:∀ {o:Option AVal}{t:List UInt8}{st:aA},o=some (.str t)→((o.bind fun t=>some (t,st)).bind fun p=>bR p.2 p.1)=some (.str t):=fun h=>by rw[h]; rfl
 simp only[qBR,qBC,qAT]
 split at hr
 · rename_i h; subst h;obtain ⟨a,h1,h2⟩:=auF.run (s,()) r [.str s] hr ⟨[.str s],[],rfl,rfl,rfl⟩;have h2:=ahf h2; subst h2;exact ⟨_,(rt _ _ _ n s).trans (done h1),rfl⟩
 · split at hr
   · rename_i h; subst h;obtain ⟨a,h1,h2⟩:=axe.run ((n==1),()) r [.bool (n==1)] hr ⟨[.bool (n==1)],[],rfl,rfl,rfl⟩;have h2:=ahf h2; subst h2;exact ⟨_,(rr _ _ _ n s).trans (done h1),rfl⟩
   · rename_i h g;obtain ⟨a,h1,h2⟩:=ahB.run (n,()) r [.int .i64 n] hr ⟨[.int .i64 n],[],rfl,rfl,rfl⟩;have h2:=ahf h2; subst h2;exact ⟨_,(rk _ _ _ k n s h g).trans (done h1),rfl⟩⟩
def afg:PFn:=adV
theorem abn:az Tryz.prog G0 211 afg:=zh ⟨Tryz.f211,Tryz.func211,rfl,by kernel_rfl⟩ Tryz.strings_Join_none Tryz.strings_Join
def zcf (a0:List (List UInt8)) (a1:List UInt8):Option (List UInt8):=agJ a0 a1
def alA:TFn:=qg
theorem ahs:TOk afg alA:=agI
def ajN:Env:={ pure:=[],raw:=[(140,abR),(323,afv)],glob:=G0,same:=[274],look:=[],ext:=[] }
def asR:Hints:=(hZ [(3,[0,3,6,7])] [])
def ajM:PFn:=aC (runF Tryz.prog ajN asR Tryz.f279)
def aBG:TH:={ joins:=[(7,{ keep:=[(3,(.bx 1 0))],mem:=[.row true 5 (.int .u8),.box 216 tT29] })],loops:=[(3,{ keep:=[(3,(.bx 1 0)),(7,(.int .i64))],mem:=[.row true 5 (.int .u8),.box 216 tT29] })],cuts:=[],ro:=[],news:=[(3,(tT29,[(5,(.int .u8))]))] }
def nI (a0:List UInt8) (y3:(Int×List Int×vV12×Unit)):Option ((Int×List Int×vV12×Unit)⊕List UInt8) :=
 cond (decide (y3.1<(a0.length:Int))) (
((atI a0 y3.1).bind fun b1 =>
 cond (decide ((b1.toNat:Int)=47)) ((zbe 92 (y3.2.2.1.1,(),()) y3.2.1).bind fun q2 =>
 some (.inl (q2.2.2.1,q2.2.1,()))) ((atI a0 y3.1).bind fun b3 =>
 cond (decide ((b3.toNat:Int)=92)) (
(zbe 92 (y3.2.2.1.1,(),()) y3.2.1).bind fun q4 =>
 some (.inl (q4.2.2.1,q4.2.1,()))) (
 some (.inl (y3.2.1,y3.2.2.1,())))):Option ((List Int×vV12×Unit)⊕((Int×List Int×vV12×Unit)⊕List UInt8))).bind (aZ fun v5 =>
(atI a0 y3.1).bind fun b6 =>
(zbe (b6.toNat:Int) (v5.2.1.1,(),()) v5.1).bind fun q7 =>
 some (.inl ((IntKind.wrap .i64 (y3.1+1)),q7.2.2.1,q7.2.1,())))) (
((zbj (y3.2.2.1.1,(),()) y3.2.1).bind fun q8 =>
 some q8.1).map .inr)
def zdp (a0:List UInt8):Option (List UInt8) :=
 aK (nI a0) (0,[],(false,(),()),())
def aaH:TFn:={ ps:=(.cons .str .unit),res:=.str,fn:=fun v=>zdp v.1 }
def asQ:TEnv:={ pure:=[],look:=[],glob:=G0T,ty:=[],raw:=[(140,pr),(323,rc)],fresh:=[] }
theorem asP:runY Tryz.prog ajN asR asQ aBG Tryz.f279 aaH.ps aaH.res=aaH.fn:=by kernel_rfl
theorem ajL:az Tryz.prog G0 279 ajM:=ah (aj ⟨au,ac,(aU t7 (aU abT ap)),ac,an⟩ Tryz.func279 rfl (by kernel_rfl))
theorem asO:TOk ajM aaH:=ay (E:=ajN) (ET:=asQ) (EnvT.ofX (ax al) am (be abQ rfl rfl (be ahz rfl rfl ar)) aI aq) asP rfl
def aky:Env:={ pure:=[(279,ajM)],raw:=[],glob:=G0,same:=[274],look:=[(211,afg)],ext:=[] }
def aub:Hints:=(hZ [(3,[3,6,7,8])] [])
def akx:PFn:=aC (runF Tryz.prog aky aub Tryz.f212)
def aB1:TH:={ loops:=[(3,{ keep:=[(3,(.own 0)),(8,(.int .i64))],mem:=[.row true 9 .str] })],ro:=[] }
def wd (a0:List (List UInt8)) (y3:(Int×List (List UInt8)×Unit)):Option ((Int×List (List UInt8)×Unit)⊕List UInt8) :=
 cond (decide (y3.1<(a0.length:Int))) (
(atI a0 y3.1).bind fun x1 =>
(zdp x1).bind fun r2 =>
(bY (y3.2.1.length+([r2]:List (List UInt8)).length)).bind fun u3 =>
 some (.inl ((IntKind.wrap .i64 (y3.1+1)),(y3.2.1++([r2]:List (List UInt8))),()))) (
((zcf y3.2.1 [47]).bind fun r4 =>
 some r4).map .inr)
def zd4 (a0:List (List UInt8)):Option (List UInt8) :=
 aK (wd a0) (0,[],())
def aa0:TFn:={ ps:=(.cons (.sl .str) .unit),res:=.str,fn:=fun v=>zd4 v.1 }
def aua:TEnv:={ pure:=[(279,aaH)],look:=[(211,alA)],glob:=G0T,ty:=[(9,.str)],raw:=[],fresh:=[] }
theorem at9:runY Tryz.prog aky aub aua aB1 Tryz.f212 aa0.ps aa0.res=aa0.fn:=by kernel_rfl
theorem akw:az Tryz.prog G0 212 akx:=ah (aj ⟨au,(ai ajL ac),ap,(ai abn ac),an⟩ Tryz.func212 rfl (by kernel_rfl))
theorem at8:TOk akx aa0:=ay (E:=aky) (ET:=aua) (EnvT.ofX (ax (ae asO al)) (gK ahs rfl am) ar aI aq) at9 rfl
def ai5:Env:={ pure:=[(210,ae7),(212,akx),(213,ab1)],raw:=[],glob:=G0,same:=[274],look:=[(211,afg)],ext:=[] }
def arQ:Hints:=(hZ [(3,[1,3,8,9,10])] [])
def ai4:PFn:=aC (runF Tryz.prog ai5 arQ Tryz.f139)
def aBq:TH:={ joins:=[(7,{ keep:=[(1,(.bx 0 0)),(3,(.own 2))],mem:=[.same,.gone,.row true 9 .str] })],loops:=[(3,{ keep:=[(1,(.bx 0 0)),(3,(.own 2)),(10,(.int .i64))],mem:=[.same,.gone,.row true 9 .str] })],ro:=[1] }
def vR (a0:vV2) (y3:(Int×List (List UInt8)×Unit)):Option ((Int×List (List UInt8)×Unit)⊕((List (List UInt8)×Unit)⊕List UInt8)) :=
 cond (decide (y3.1<(a0.2.2.1.length:Int))) (
(atI a0.2.2.1 y3.1).bind fun x1 =>
(zdu x1).bind fun r2 =>
(bY (y3.2.1.length+([r2]:List (List UInt8)).length)).bind fun u3 =>
 some (.inl ((IntKind.wrap .i64 (y3.1+1)),(y3.2.1++([r2]:List (List UInt8))),()))) (
 some (.inr (.inl (y3.2.1,()))))
def zec (a0:vV2):Option (List UInt8) :=
(aK (vR a0) (0,[],()):Option ((List (List UInt8)×Unit)⊕List UInt8)).bind (aZ fun v4 =>
(zcf v4.1 [32]).bind fun r5 =>
 cond (decide (a0.2.1=1)) (
(zd4 a0.1).bind fun r6 =>
(catT r6 [32,61,32]).bind fun s7 =>
(catT s7 r5).bind fun s8 =>
 some s8) (
 cond (decide (a0.2.1=2)) (
(zd4 a0.1).bind fun r9 =>
(catT r9 [32,58,32]).bind fun s10 =>
(catT s10 r5).bind fun s11 =>
 some s11) (
(zd4 a0.1).bind fun r12 =>
(catT r12 [32,35,32]).bind fun s13 =>
(zb7 a0.2.2.2.1).bind fun r14 =>
(catT s13 r14).bind fun s15 =>
 some s15)))
def aas:TFn:={ ps:=(.cons tT17 .unit),res:=.str,fn:=fun v=>zec v.1 }
def arP:TEnv:={ pure:=[(210,ae6),(212,aa0),(213,ax6)],look:=[(211,alA)],glob:=G0T,ty:=[(9,.str)],raw:=[],fresh:=[] }
theorem arO:runY Tryz.prog ai5 arQ arP aBq Tryz.f139 aas.ps aas.res=aas.fn:=by kernel_rfl
theorem ai3:az Tryz.prog G0 139 ai4:=ah (aj ⟨au,(ai ajy (ai akw (ai ab0 ac))),ap,(ai abn ac),an⟩ Tryz.func139 rfl (by kernel_rfl))
theorem arN:TOk ai4 aas:=ay (E:=ai5) (ET:=arP) (EnvT.ofX (ax (ae asw (ae at8 (ae ahB al)))) (gK ahs rfl am) ar aI aq) arO rfl
def amY:Env:={ pure:=[],raw:=[(209,abV)],glob:=G0,same:=[274],look:=[],ext:=[] }
def axU:Hints:=(hZ [] [])
def amX:SFn:=runF Tryz.prog amY axU Tryz.f138
def aC1:TH:=yZ
def zbc (a1:List UInt8) (w0:vV12) (w1:List Int):Option ((Int×Bool×Unit)×vV12×List Int×Unit) :=
(zbd w0 w1).bind fun q1 =>
(bY (q1.2.2.1.length+(a1.map fun b=>(b.toNat:Int)).length)).bind fun u2 =>
 some (((a1.length:Int),false,()),(q1.2.1.1,(),()),(q1.2.2.1++(a1.map fun b=>(b.toNat:Int))),())
def uh:TRaw:={ ps:=(.cons (.bx 0 0) (.cons .str .unit)),ins:=[.box 216 tT27,.row true 5 (.int .u8)],res:=(.tup (.cons (.int .i64) (.cons .err .unit))),outs:=[.box 216 tT27,.row true 5 (.int .u8)],fn:=fun v w=>zbc v.2.1 w.1 w.2.1 }
def axT:TEnv:={ pure:=[],look:=[],glob:=G0T,ty:=[(5,(.int .u8))],raw:=[(209,pw)],fresh:=[] }
theorem axS:rawY Tryz.prog amY axU axT aC1 [(0,0)] Tryz.f138 uh.ps uh.ins uh.res uh.outs=uh.fn:=by kernel_rfl
theorem amW:bn Tryz.prog G0 138 amX:=aj ⟨au,ac,(aU ug ap),ac,an⟩ Tryz.func138 rfl (by kernel_rfl)
theorem axR:TRawOk amX uh:=ip (E:=amY) (ET:=axT) (EnvT.ofX (ax al) am (be abU rfl rfl ar) aI aq) axS
def alQ:Env:={ pure:=[(139,ai4)],raw:=[(138,amX),(140,abR)],glob:=G0,same:=[274],look:=[],ext:=[] }
def av3:Hints:=(hZ [(3,[3,6,7,8])] [])
def afj:PFn:=aC (runF Tryz.prog alQ av3 Tryz.f69)
def aCx:TH:={ joins:=[(7,{ keep:=[(3,(.bx 1 0)),(5,(.bx 2 0))],mem:=[.row true 5 (.int .u8),.box 216 tT29,.box 127 tT21] })],loops:=[(3,{ keep:=[(3,(.bx 1 0)),(8,(.int .i64))],mem:=[.row true 5 (.int .u8),.box 216 tT29] })],cuts:=[],ro:=[],news:=[(3,(tT29,[(5,(.int .u8))]))] }
def wm (a0:List vV8) (y3:(Int×List Int×vV12×Unit)):Option ((Int×List Int×vV12×Unit)⊕List UInt8) :=
 cond (decide (y3.1<(a0.length:Int))) (
(atI a0 y3.1).bind fun x1 =>
(cond (!decide (x1.1=1)) (
(zec x1.2.1).bind fun r2 =>
(catT [45,32] r2).bind fun s3 =>
(catT s3 [10]).bind fun s4 =>
(zbc s4 (y3.2.2.1.1,(),()) y3.2.1).bind fun q5 =>
 some (.inl (q5.2.2.1,q5.2.1,x1,()))) (
 some (.inl (y3.2.1,y3.2.2.1,x1,()))):Option ((List Int×vV12×vV8×Unit)⊕((Int×List Int×vV12×Unit)⊕List UInt8))).bind (aZ fun v6 =>
 cond (!decide (v6.2.2.1.1=2)) (
(zec v6.2.2.1.2.2.1).bind fun r7 =>
(catT [43,32] r7).bind fun s8 =>
(catT s8 [10]).bind fun s9 =>
(zbc s9 (v6.2.1.1,(),()) v6.1).bind fun q10 =>
 some (.inl ((IntKind.wrap .i64 (y3.1+1)),q10.2.2.1,q10.2.1,()))) (
 some (.inl ((IntKind.wrap .i64 (y3.1+1)),v6.1,v6.2.1,()))))) (
((zbj (y3.2.2.1.1,(),()) y3.2.1).bind fun q11 =>
 some q11.1).map .inr)
def zc8 (a0:List vV8):Option (List UInt8) :=
 aK (wm a0) (0,[],(false,(),()),())
def yg:TFn:={ ps:=(.cons (.sl tT21) .unit),res:=.str,fn:=fun v=>zc8 v.1 }
def av2:TEnv:={ pure:=[(139,aas)],look:=[],glob:=G0T,ty:=[],raw:=[(138,uh),(140,pr)],fresh:=[] }
theorem av1:runY Tryz.prog alQ av3 av2 aCx Tryz.f69 yg.ps yg.res=yg.fn:=by kernel_rfl
theorem abw:az Tryz.prog G0 69 afj:=ah (aj ⟨au,(ai ai3 ac),(aU amW (aU t7 ap)),ac,an⟩ Tryz.func69 rfl (by kernel_rfl))
theorem ahv:TOk afj yg:=ay (E:=alQ) (ET:=av2) (EnvT.ofX (ax (ae arN al)) am (be axR rfl rfl (be abQ rfl rfl ar)) aI aq) av1 rfl
def amc:Env:=(eZ [(114,aag)] [274])
def awD:Hints:=(hZ [(6,[2,3,6,26,27,28]),(9,[2,3,6,26,27,28,33,34,35]),(16,[3,6,11,45,46,47])] [])
def amb:PFn:=aC (runF Tryz.prog amc awD Tryz.f53)
def aCH:TH:={ joins:=[(14,{ keep:=[(2,(.bx 0 0)),(3,(.bx 1 0)),(6,(.mp 2))],mem:=[.same,.same,.map tT16 .bool] })],loops:=[(6,{ keep:=[(2,(.bx 0 0)),(3,(.bx 1 0)),(6,(.mp 2)),(28,(.int .i64))],mem:=[.same,.same,.map tT16 .bool] }),(9,{ keep:=[(2,(.bx 0 0)),(3,(.bx 1 0)),(6,(.mp 2)),(35,(.int .i64))],mem:=[.same,.same,.map tT16 .bool,.gone] }),(16,{ keep:=[(3,(.bx 1 0)),(6,(.mp 2)),(11,(.own 4)),(47,(.int .i64))],mem:=[.same,.same,.map tT16 .bool,.gone,.row true 72 tT16] })],ro:=[2,3] }
def wq (y6:(Int×List ((Int×Int×Unit)×Bool)×Unit)) (x3:vV1) (y9:(Int×List ((Int×Int×Unit)×Bool)×Unit)):Option ((Int×List ((Int×Int×Unit)×Bool)×Unit)⊕((Int×List ((Int×Int×Unit)×Bool)×Unit)⊕((List ((Int×Int×Unit)×Bool)×Unit)⊕List (Int×Int×Unit)))) :=
 cond (decide (y9.1<(x3.2.2.2.2.1.length:Int))) (
(atI x3.2.2.2.2.1 y9.1).bind fun x4 =>
 some (.inl ((IntKind.wrap .i64 (y9.1+1)),(putK tT16 x4.1 true y9.2.1),()))) (
 some (.inr (.inl ((IntKind.wrap .i64 (y6.1+1)),y9.2.1,()))))
def qY (x2:vV4) (y6:(Int×List ((Int×Int×Unit)×Bool)×Unit)):Option ((Int×List ((Int×Int×Unit)×Bool)×Unit)⊕((List ((Int×Int×Unit)×Bool)×Unit)⊕List (Int×Int×Unit))) :=
 cond (decide (y6.1<(x2.2.2.2.2.1.length:Int))) (
(atI x2.2.2.2.2.1 y6.1).bind fun x3 =>
 aK (wq y6 x3) (0,y6.2.1,())) (
 some (.inr (.inl (y6.2.1,()))))
def po (a0:vV0) (a1:(Int×Int×Unit)) (y16:(Int×List ((Int×Int×Unit)×Bool)×List (Int×Int×Unit)×Unit)):Option ((Int×List ((Int×Int×Unit)×Bool)×List (Int×Int×Unit)×Unit)⊕List (Int×Int×Unit)) :=
 cond (decide (y16.1<(a0.1.length:Int))) (
(atI a0.1 y16.1).bind fun x6 =>
 cond ((getK tT16 false x6.1 y16.2.1).1) (cond (!(eqV tT16 x6.1 a1)) (
(bY (y16.2.2.1.length+([x6.1]:List (Int×Int×Unit)).length)).bind fun u7 =>
 some (.inl ((IntKind.wrap .i64 (y16.1+1)),y16.2.1,(y16.2.2.1++([x6.1]:List (Int×Int×Unit))),()))) (
 some (.inl ((IntKind.wrap .i64 (y16.1+1)),y16.2.1,y16.2.2.1,())))) (some (.inl ((IntKind.wrap .i64 (y16.1+1)),y16.2.1,y16.2.2.1,())))) (
 some (.inr y16.2.2.1))
def zby (a0:vV0) (a1:(Int×Int×Unit)):Option (List (Int×Int×Unit)) :=
(zeo a0.1 a1).bind fun r1 =>
 cond (decide (r1<0)) (
 some []) (
((atI a0.1 r1).bind fun x2 =>
 aK (qY x2) (0,[],()):Option ((List ((Int×Int×Unit)×Bool)×Unit)⊕List (Int×Int×Unit))).bind (aZ fun v5 =>
 aK (po a0 a1) (0,v5.1,[],())))
def abF:TFn:={ ps:=(.cons tT14 (.cons tT16 .unit)),res:=(.sl tT16),fn:=fun v=>zby v.1 v.2.1 }
def awC:TEnv:={ pure:=[(114,tN)],look:=[],glob:=G0T,ty:=[(4,.bool),(72,tT16)],raw:=[],fresh:=[] }
theorem awB:runY Tryz.prog amc awD awC aCH Tryz.f53 abF.ps abF.res=abF.fn:=by kernel_rfl
theorem ama:az Tryz.prog G0 53 amb:=ah (aj ⟨au,(ai tO ac),ap,ac,an⟩ Tryz.func53 rfl (by kernel_rfl))
theorem awA:TOk amb abF:=ay (E:=amc) (ET:=awC) (EnvT.ofX (ax (ae aaf al)) am ar aI aq) awB rfl
def amH:Env:=(eZ [] [274])
def axt:Hints:=(hZ [] [])
def amG:PFn:=aC (runF Tryz.prog amH axt Tryz.f123)
def aCU:TH:={ loops:=[],ro:=[2] }
def zbk (a0:vV3) (a1:(Int×Int×Unit)):Option Bool :=
 some (eqV tT16 a0.1 a1)
def abP:TFn:={ ps:=(.cons tT19 (.cons (.rp tT16 0) .unit)),res:=.bool,fn:=fun v=>zbk v.1 v.2.1 }
def axs:TEnv:=(vZ [])
theorem axr:runY Tryz.prog amH axt axs aCU Tryz.f123 abP.ps abP.res=abP.fn:=by kernel_rfl
theorem amF:az Tryz.prog G0 123 amG:=ah (aj ⟨au,ac,ap,ac,an⟩ Tryz.func123 rfl (by kernel_rfl))
theorem axq:TOk amG abP:=ay (E:=amH) (ET:=axs) (EnvT.ofX (ax al) am ar aI aq) axr rfl
def aoi:Env:=(eZ [(123,amG)] [274])
def azx:Hints:=(hZ [(2,[0,1,7,8])] [])
def aoh:PFn:=aC (runF Tryz.prog aoi azx Tryz.f199)
def aDm:TH:={ loops:=[(2,{ keep:=[(8,(.int .i64))],mem:=[] })],ro:=[] }
def wA (a0:List vV3) (a1:((Int×Int×Unit)×Unit)) (y2:(Int×Unit)):Option ((Int×Unit)⊕Int) :=
 cond (decide (y2.1<(a0.length:Int))) (
(atI a0 y2.1).bind fun x1 =>
(zbk x1 a1.1).bind fun r2 =>
 cond r2 (
 some (.inr y2.1)) (
 some (.inl ((IntKind.wrap .i64 (y2.1+1)),())))) (
 some (.inr (-1)))
def zai (a0:List vV3) (a1:((Int×Int×Unit)×Unit)):Option Int :=
 aK (wA a0 a1) (0,())
def ack:TFn:={ ps:=(.cons (.sl tT19) (.cons (.cl 123 (.cons (.rp tT16 0) .unit)) .unit)),res:=(.int .i64),fn:=fun v=>zai v.1 v.2.1 }
def azw:TEnv:=(vZ [(123,abP)])
theorem azv:runY Tryz.prog aoi azx azw aDm Tryz.f199 ack.ps ack.res=ack.fn:=by kernel_rfl
theorem aog:az Tryz.prog G0 199 aoh:=ah (aj ⟨au,(ai amF ac),ap,ac,an⟩ Tryz.func199 rfl (by kernel_rfl))
theorem azu:TOk aoh ack:=ay (E:=aoi) (ET:=azw) (EnvT.ofX (ax (ae axq al)) am ar aI aq) azv rfl
def aol:Env:=(eZ [(199,aoh)] [274])
def azB:Hints:=(hZ [] [])
def aok:PFn:=aC (runF Tryz.prog aol azB Tryz.f122)
def aDn:TH:=yZ
def zah (a0:List vV3) (a1:((Int×Int×Unit)×Unit)):Option Bool :=
(zai a0 a1).bind fun r1 =>
 some (decide (r1≥0))
def acl:TFn:={ ps:=(.cons (.sl tT19) (.cons (.cl 123 (.cons (.rp tT16 0) .unit)) .unit)),res:=.bool,fn:=fun v=>zah v.1 v.2.1 }
def azA:TEnv:=(vZ [(199,ack)])
theorem azz:runY Tryz.prog aol azB azA aDn Tryz.f122 acl.ps acl.res=acl.fn:=by kernel_rfl
theorem aoj:az Tryz.prog G0 122 aok:=ah (aj ⟨au,(ai aog ac),ap,ac,an⟩ Tryz.func122 rfl (by kernel_rfl))
theorem azy:TOk aok acl:=ay (E:=aol) (ET:=azA) (EnvT.ofX (ax (ae azu al)) am ar aI aq) azz rfl
def amw:Env:=(eZ [(122,aok)] [274])
def aw9:Hints:=(hZ [] [])
def amv:PFn:=aC (runF Tryz.prog amw aw9 Tryz.f121)
def aCP:TH:={ loops:=[],ro:=[2] }
def zbp (a0:vV1) (a1:(Int×Int×Unit)):Option Bool :=
(zah a0.2.2.2.2.1 (a1,())).bind fun r1 =>
 some r1
def abM:TFn:={ ps:=(.cons tT15 (.cons (.rp tT16 0) .unit)),res:=.bool,fn:=fun v=>zbp v.1 v.2.1 }
def aw8:TEnv:=(vZ [(122,acl)])
theorem aw7:runY Tryz.prog amw aw9 aw8 aCP Tryz.f121 abM.ps abM.res=abM.fn:=by kernel_rfl
theorem amu:az Tryz.prog G0 121 amv:=ah (aj ⟨au,(ai aoj ac),ap,ac,an⟩ Tryz.func121 rfl (by kernel_rfl))
theorem aw6:TOk amv abM:=ay (E:=amw) (ET:=aw8) (EnvT.ofX (ax (ae azy al)) am ar aI aq) aw7 rfl
def anW:Env:=(eZ [(121,amv)] [274])
def ay8:Hints:=(hZ [(2,[0,1,7,8])] [])
def anV:PFn:=aC (runF Tryz.prog anW ay8 Tryz.f198)
def aDh:TH:={ loops:=[(2,{ keep:=[(8,(.int .i64))],mem:=[] })],ro:=[] }
def wz (a0:List vV1) (a1:((Int×Int×Unit)×Unit)) (y2:(Int×Unit)):Option ((Int×Unit)⊕Int) :=
 cond (decide (y2.1<(a0.length:Int))) (
(atI a0 y2.1).bind fun x1 =>
(zbp x1 a1.1).bind fun r2 =>
 cond r2 (
 some (.inr y2.1)) (
 some (.inl ((IntKind.wrap .i64 (y2.1+1)),())))) (
 some (.inr (-1)))
def zap (a0:List vV1) (a1:((Int×Int×Unit)×Unit)):Option Int :=
 aK (wz a0 a1) (0,())
def acg:TFn:={ ps:=(.cons (.sl tT15) (.cons (.cl 121 (.cons (.rp tT16 0) .unit)) .unit)),res:=(.int .i64),fn:=fun v=>zap v.1 v.2.1 }
def ay7:TEnv:=(vZ [(121,abM)])
theorem ay6:runY Tryz.prog anW ay8 ay7 aDh Tryz.f198 acg.ps acg.res=acg.fn:=by kernel_rfl
theorem anU:az Tryz.prog G0 198 anV:=ah (aj ⟨au,(ai amu ac),ap,ac,an⟩ Tryz.func198 rfl (by kernel_rfl))
theorem ay5:TOk anV acg:=ay (E:=anW) (ET:=ay7) (EnvT.ofX (ax (ae aw6 al)) am ar aI aq) ay6 rfl
def aob:Env:=(eZ [(198,anV)] [274])
def azo:Hints:=(hZ [] [])
def aoa:PFn:=aC (runF Tryz.prog aob azo Tryz.f120)
def aDk:TH:=yZ
def zak (a0:List vV1) (a1:((Int×Int×Unit)×Unit)):Option Bool :=
(zap a0 a1).bind fun r1 =>
 some (decide (r1≥0))
def acj:TFn:={ ps:=(.cons (.sl tT15) (.cons (.cl 121 (.cons (.rp tT16 0) .unit)) .unit)),res:=.bool,fn:=fun v=>zak v.1 v.2.1 }
def azn:TEnv:=(vZ [(198,acg)])
theorem azm:runY Tryz.prog aob azo azn aDk Tryz.f120 acj.ps acj.res=acj.fn:=by kernel_rfl
theorem an9:az Tryz.prog G0 120 aoa:=ah (aj ⟨au,(ai anU ac),ap,ac,an⟩ Tryz.func120 rfl (by kernel_rfl))
theorem azl:TOk aoa acj:=ay (E:=aob) (ET:=azn) (EnvT.ofX (ax (ae ay5 al)) am ar aI aq) azm rfl
def amn:Env:=(eZ [(120,aoa)] [274])
def awV:Hints:={ seqs:=[],loops:=[(3,[3,5,9,10,11])],own:=[],frz:=[(1,[3])] }
def amm:PFn:=aC (runF Tryz.prog amn awV Tryz.f54)
def aCM:TH:={ loops:=[(3,{ keep:=[(5,(.own 3)),(11,(.int .i64))],mem:=[.same,.gone,.gone,.row true 72 tT16] })],ro:=[2] }
def wu (a0:vV0) (a1:(Int×Int×Unit)) (y3:(Int×List (Int×Int×Unit)×Unit)):Option ((Int×List (Int×Int×Unit)×Unit)⊕List (Int×Int×Unit)) :=
 cond (decide (y3.1<(a0.1.length:Int))) (
(atI a0.1 y3.1).bind fun x1 =>
 cond (!(eqV tT16 x1.1 a1)) ((zak x1.2.2.2.2.1 (a1,())).bind fun r2 =>
 cond r2 (
(bY (y3.2.1.length+([x1.1]:List (Int×Int×Unit)).length)).bind fun u3 =>
 some (.inl ((IntKind.wrap .i64 (y3.1+1)),(y3.2.1++([x1.1]:List (Int×Int×Unit))),()))) (
 some (.inl ((IntKind.wrap .i64 (y3.1+1)),y3.2.1,())))) (some (.inl ((IntKind.wrap .i64 (y3.1+1)),y3.2.1,())))) (
 some (.inr y3.2.1))
def zbt (a0:vV0) (a1:(Int×Int×Unit)):Option (List (Int×Int×Unit)) :=
 aK (wu a0 a1) (0,[],())
def abK:TFn:={ ps:=(.cons tT14 (.cons tT16 .unit)),res:=(.sl tT16),fn:=fun v=>zbt v.1 v.2.1 }
def awU:TEnv:={ pure:=[(120,acj)],look:=[],glob:=G0T,ty:=[(72,tT16)],raw:=[],fresh:=[] }
theorem awT:runY Tryz.prog amn awV awU aCM Tryz.f54 abK.ps abK.res=abK.fn:=by kernel_rfl
theorem aml:az Tryz.prog G0 54 amm:=ah (aj ⟨au,(ai an9 ac),ap,ac,an⟩ Tryz.func54 rfl (by kernel_rfl))
theorem awS:TOk amm abK:=ay (E:=amn) (ET:=awU) (EnvT.ofX (ax (ae azl al)) am ar aI aq) awT rfl
def alW:Env:=(eZ [(53,amb),(54,amm),(59,ae9),(69,afj),(97,ae5),(119,aiT)] [274])
def awb:Hints:=(hZ [] [])
def alV:PFn:=aC (runF Tryz.prog alW awb Tryz.f51)
def aCz:TH:={ loops:=[],cuts:=[(3,[(7,{ keep:=[(1,(.bx 0 0)),(24,.bool)],mem:=[.box 69 tT14] })])],ro:=[],news:=[] }
def zc6:Option Bool :=
(zeg 1 1 []).bind fun r1 =>
(zeb ([],[],([0,0,0,0,0,0,0,0,0,0,0,0,0,0,0,0],[],()),([0,0,0,0,0,0,0,0,0,0,0,0,0,0,0,0],[],()),[[],[],[],[],[],[],[],[]],()) r1).bind fun r2 =>
(zeg 2 2 ([((0,1,()),0,())]:List vV3)).bind fun r3 =>
(zeb r2 r3).bind fun r4 =>
(zdi r4 (0,2,()) false).bind fun r5 =>
(cond (decide (r5.2.1=0)) ((zc8 r5.1).bind fun r6 =>
 some ((decide (r6=[45,32,97,32,61,32,50,10,43,32,97,32,61,32,49,10])),r4,())) (some (false,r4,())):Option (Bool×vV0×Unit)).bind fun v7 =>
 cond v7.1 ((zby v7.2.1 (0,2,())).bind fun r8 =>
 cond (decide ((r8.length:Int)=1)) ((zbt v7.2.1 (0,1,())).bind fun r9 =>
 some (decide ((r9.length:Int)=1))) (some false)) (some false)
def aby:TFn:={ ps:=.unit,res:=.bool,fn:=fun v=>zc6  }
def awa:TEnv:={ pure:=[(53,abF),(54,abK),(59,ya),(69,yg),(97,xY),(119,aao)],look:=[],glob:=G0T,ty:=[(146,tT19)],raw:=[],fresh:=[] }
theorem av9:runY Tryz.prog alW awb awa aCz Tryz.f51 aby.ps aby.res=aby.fn:=by kernel_rfl
theorem alU:az Tryz.prog G0 51 alV:=ah (aj ⟨au,(ai ama (ai aml (ai aaO (ai abw (ai aat (ai aiS ac)))))),ap,ac,an⟩ Tryz.func51 rfl (by kernel_rfl))
theorem av8:TOk alV aby:=ay (E:=alW) (ET:=awa) (EnvT.ofX (ax (ae awA (ae awS (ae ahn (ae ahv (ae ahl (ae arx al))))))) am ar aI aq) av9 rfl
def ajf:Env:=(eZ [] [274])
def ar5:Hints:=(hZ [] [])
def aje:PFn:=aC (runF Tryz.prog ajf ar5 Tryz.f240)
def aBu:TH:={ loops:=[],cuts:=[(1,[(9,{ keep:=[(1,(.bx 0 0)),(11,.bool)],mem:=[.same] })])],ro:=[1],news:=[] }
def ze1 (a0:vV1):Option Bool :=
(cond (decide (a0.1=0)) (some ((decide ((a0.2.1.length:Int)=0)),())) (some (false,())):Option (Bool×Unit)).bind fun v1 =>
 cond v1.1 (cond (eqV tT20 a0.2.2.1 (0,0,[],())) (cond (decide (a0.2.2.2.1=0)) (some (decide ((a0.2.2.2.2.1.length:Int)=0))) (some false)) (some false)) (some false)
def aaw:TFn:={ ps:=(.cons tT15 .unit),res:=.bool,fn:=fun v=>ze1 v.1 }
def ar4:TEnv:=(vZ [])
theorem ar3:runY Tryz.prog ajf ar5 ar4 aBu Tryz.f240 aaw.ps aaw.res=aaw.fn:=by kernel_rfl
theorem ajd:az Tryz.prog G0 240 aje:=ah (aj ⟨au,ac,ap,ac,an⟩ Tryz.func240 rfl (by kernel_rfl))
theorem ar2:TOk aje aaw:=ay (E:=ajf) (ET:=ar4) (EnvT.ofX (ax al) am ar aI aq) ar3 rfl
def amQ:PFn:=qy
theorem amP:az Tryz.prog G0 375 amQ:=td (g3:=0) (g4:=1) ⟨Tryz.f375,Tryz.func375,rfl,by kernel_rfl⟩ (by kernel_rfl) (by kernel_rfl) (fun s w hT=>Tryz.utf8_DecodeRuneInString s w hT)
def zbg (a0:List UInt8):Option (Int×Int×Unit):=aer a0
def axG:TFn:=mF
theorem axF:TOk amQ axG:=zG
def aj4:Env:=(eZ [(375,amQ)] [274])
def atp:Hints:=(hZ [(3,[0,4,10])] [])
def afa:PFn:=aC (runF Tryz.prog aj4 atp Tryz.f366)
def aBP:TH:={ joins:=[(9,{ keep:=[(4,(.own 1)),(10,(.it 0))],mem:=[.iter,.row true 21 (.int .i32)] })],loops:=[(3,{ keep:=[(4,(.own 1)),(10,(.it 0))],mem:=[.iter,.row true 21 (.int .i32)] })],ro:=[] }
def atm (a0:List UInt8) (y3:(Nat×List Int×Unit)):Option ((Nat×List Int×Unit)⊕(List Int×Bool×Unit)) :=
 cond (decide (y3.1<a0.length)) ((cond (decide (((Utf8.decode ⟨a0.toArray⟩ y3.1).1:Int)=65533)) (
(subI a0 (y3.1:Int) (a0.length:Int)).bind fun s1 =>
(zbg s1).bind fun r2 =>
 cond (decide (r2.2.1≤1)) (
 some (.inr (.inr ([],false,())))) (
 some (.inl ((y3.1+(Utf8.decode ⟨a0.toArray⟩ y3.1).2),y3.2.1,())))) (
 some (.inl ((y3.1+(Utf8.decode ⟨a0.toArray⟩ y3.1).2),y3.2.1,()))):Option ((Nat×List Int×Unit)⊕((Nat×List Int×Unit)⊕(List Int×Bool×Unit)))).bind (aZ fun v3 =>
(bY (v3.2.1.length+([((Utf8.decode ⟨a0.toArray⟩ y3.1).1:Int)]:List Int).length)).bind fun u4 =>
 some (.inl (v3.1,(v3.2.1++([((Utf8.decode ⟨a0.toArray⟩ y3.1).1:Int)]:List Int)),())))) (some (.inr (y3.2.1,true,())))
def zdg (a0:List UInt8):Option (List Int×Bool×Unit) :=
 aK (atm a0) (0,[],())
def yb:TFn:={ ps:=(.cons .str .unit),res:=(.tup (.cons (.sl (.int .i32)) (.cons .bool .unit))),fn:=fun v=>zdg v.1 }
def ato:TEnv:={ pure:=[(375,axG)],look:=[],glob:=G0T,ty:=[(21,(.int .i32))],raw:=[],fresh:=[] }
theorem atn:runY Tryz.prog aj4 atp ato aBP Tryz.f366 yb.ps yb.res=yb.fn:=by kernel_rfl
theorem aaQ:az Tryz.prog G0 366 afa:=ah (aj ⟨au,(ai amP ac),ap,ac,an⟩ Tryz.func366 rfl (by kernel_rfl))
theorem aho:TOk afa yb:=ay (E:=aj4) (ET:=ato) (EnvT.ofX (ax (ae axF al)) am ar aI aq) atn rfl
def aiD:Env:=(eZ [] [274])
def aq7:Hints:=(hZ [] [])
def aiC:PFn:=aC (runF Tryz.prog aiD aq7 Tryz.f367)
def aBf:TH:=yZ
def zen (a0:Int):Option Bool :=
 cond (decide (a0<32)) (
 cond (decide (a0<32)) (
 some false) (
 some (!decide (a0=65533)))) (
 cond (decide (a0≥127)) (cond (decide (a0<160)) (
 some false) (
 some (!decide (a0=65533)))) (some (!decide (a0=65533))))
def aah:TFn:={ ps:=(.cons (.int .i32) .unit),res:=.bool,fn:=fun v=>zen v.1 }
def aq6:TEnv:=(vZ [])
theorem aq5:runY Tryz.prog aiD aq7 aq6 aBf Tryz.f367 aah.ps aah.res=aah.fn:=by kernel_rfl
theorem aiB:az Tryz.prog G0 367 aiC:=ah (aj ⟨au,ac,ap,ac,an⟩ Tryz.func367 rfl (by kernel_rfl))
theorem aq4:TOk aiC aah:=ay (E:=aiD) (ET:=aq6) (EnvT.ofX (ax al) am ar aI aq) aq5 rfl
def ajx:Env:=(eZ [(366,afa),(367,aiC)] [274])
def asv:Hints:=(hZ [(5,[24,25,26])] [])
def ajw:PFn:=aC (runF Tryz.prog ajx asv Tryz.f345)
def aBA:TH:={ loops:=[(5,{ keep:=[(26,(.int .i64))],mem:=[] })],ro:=[] }
def ass (r1:(List Int×Bool×Unit)) (y5:(Int×Unit)):Option ((Int×Unit)⊕Bool) :=
 cond (decide (y5.1<(r1.1.length:Int))) (
(atI r1.1 y5.1).bind fun x2 =>
(zen x2).bind fun r3 =>
 cond (!r3) (
 some (.inr false)) (
 some (.inl ((IntKind.wrap .i64 (y5.1+1)),())))) (
 some (.inr true))
def zdv (a0:List UInt8):Option Bool :=
(zdg a0).bind fun r1 =>
 cond (!r1.2.1) (some false) (cond (decide ((r1.1.length:Int)=0)) (some false) (cond (decide ((r1.1.length:Int)>24)) (
 some false) (
 aK (ass r1) (0,()))))
def aaC:TFn:={ ps:=(.cons .str .unit),res:=.bool,fn:=fun v=>zdv v.1 }
def asu:TEnv:=(vZ [(366,yb),(367,aah)])
theorem ast:runY Tryz.prog ajx asv asu aBA Tryz.f345 aaC.ps aaC.res=aaC.fn:=by kernel_rfl
theorem ajv:az Tryz.prog G0 345 ajw:=ah (aj ⟨au,(ai aaQ (ai aiB ac)),ap,ac,an⟩ Tryz.func345 rfl (by kernel_rfl))
theorem asr:TOk ajw aaC:=ay (E:=ajx) (ET:=asu) (EnvT.ofX (ax (ae aho (ae aq4 al))) am ar aI aq) ast rfl
def am9:Env:=(eZ [(345,ajw)] [274])
def aya:Hints:=(hZ [] [])
def am8:PFn:=aC (runF Tryz.prog am9 aya Tryz.f344)
def aC5:TH:=yZ
def zb6 (a0:List UInt8):Option Bool :=
(zdv a0).bind fun r1 =>
 some (!r1)
def ab2:TFn:={ ps:=(.cons .str .unit),res:=.bool,fn:=fun v=>zb6 v.1 }
def ax9:TEnv:=(vZ [(345,aaC)])
theorem ax8:runY Tryz.prog am9 aya ax9 aC5 Tryz.f344 ab2.ps ab2.res=ab2.fn:=by kernel_rfl
theorem am7:az Tryz.prog G0 344 am8:=ah (aj ⟨au,(ai ajv ac),ap,ac,an⟩ Tryz.func344 rfl (by kernel_rfl))
theorem ax7:TOk am8 ab2:=ay (E:=am9) (ET:=ax9) (EnvT.ofX (ax (ae asr al)) am ar aI aq) ax8 rfl
def anK:Env:=(eZ [(344,am8)] [274])
def ayQ:Hints:=(hZ [(2,[0,1,7,8])] [])
def anJ:PFn:=aC (runF Tryz.prog anK ayQ Tryz.f214)
def aDd:TH:={ loops:=[(2,{ keep:=[(8,(.int .i64))],mem:=[] })],ro:=[] }
def ayN (a0:List (List UInt8)) (y2:(Int×Unit)):Option ((Int×Unit)⊕Int) :=
 cond (decide (y2.1<(a0.length:Int))) (
(atI a0 y2.1).bind fun x1 =>
(zb6 x1).bind fun r2 =>
 cond r2 (
 some (.inr y2.1)) (
 some (.inl ((IntKind.wrap .i64 (y2.1+1)),())))) (
 some (.inr (-1)))
def zat (a0:List (List UInt8)) (a1:Unit):Option Int :=
 aK (ayN a0) (0,())
def acb:TFn:={ ps:=(.cons (.sl .str) (.cons (.fn 344) .unit)),res:=(.int .i64),fn:=fun v=>zat v.1 v.2.1 }
def ayP:TEnv:=(vZ [(344,ab2)])
theorem ayO:runY Tryz.prog anK ayQ ayP aDd Tryz.f214 acb.ps acb.res=acb.fn:=by kernel_rfl
theorem anI:az Tryz.prog G0 214 anJ:=ah (aj ⟨au,(ai am7 ac),ap,ac,an⟩ Tryz.func214 rfl (by kernel_rfl))
theorem ayM:TOk anJ acb:=ay (E:=anK) (ET:=ayP) (EnvT.ofX (ax (ae ax7 al)) am ar aI aq) ayO rfl
def anN:Env:=(eZ [(214,anJ)] [274])
def ayU:Hints:=(hZ [] [])
def anM:PFn:=aC (runF Tryz.prog anN ayU Tryz.f141)
def aDe:TH:=yZ
def zas (a0:List (List UInt8)) (a1:Unit):Option Bool :=
(zat a0 a1).bind fun r1 =>
 some (decide (r1≥0))
def acd:TFn:={ ps:=(.cons (.sl .str) (.cons (.fn 344) .unit)),res:=.bool,fn:=fun v=>zas v.1 v.2.1 }
def ayT:TEnv:=(vZ [(214,acb)])
theorem ayS:runY Tryz.prog anN ayU ayT aDe Tryz.f141 acd.ps acd.res=acd.fn:=by kernel_rfl
theorem anL:az Tryz.prog G0 141 anM:=ah (aj ⟨au,(ai anI ac),ap,ac,an⟩ Tryz.func141 rfl (by kernel_rfl))
theorem ayR:TOk anM acd:=ay (E:=anN) (ET:=ayT) (EnvT.ofX (ax (ae ayM al)) am ar aI aq) ayS rfl
def ajB:Env:=(eZ [(141,anM)] [274])
def asB:Hints:=(hZ [] [])
def ajA:PFn:=aC (runF Tryz.prog ajB asB Tryz.f299)
def aBC:TH:=yZ
def zdt (a0:List (List UInt8)):Option Int :=
 cond (decide ((a0.length:Int)=0)) (
 some 8) (
 cond (decide ((a0.length:Int)>8)) (
 some 9) (
(zas a0 ()).bind fun r1 =>
 cond r1 (
 some 8) (
 some 0)))
def aaD:TFn:={ ps:=(.cons (.sl .str) .unit),res:=(.int .i64),fn:=fun v=>zdt v.1 }
def asA:TEnv:=(vZ [(141,acd)])
theorem asz:runY Tryz.prog ajB asB asA aBC Tryz.f299 aaD.ps aaD.res=aaD.fn:=by kernel_rfl
theorem ajz:az Tryz.prog G0 299 ajA:=ah (aj ⟨au,(ai anL ac),ap,ac,an⟩ Tryz.func299 rfl (by kernel_rfl))
theorem asy:TOk ajA aaD:=ay (E:=ajB) (ET:=asA) (EnvT.ofX (ax (ae ayR al)) am ar aI aq) asz rfl
def alb:Env:=(eZ [(366,afa)] [274])
def au4:Hints:=(hZ [] [])
def ala:PFn:=aC (runF Tryz.prog alb au4 Tryz.f346)
def aCh:TH:={ loops:=[],ro:=[1] }
def zcp (a0:vV5):Option Bool :=
 cond (decide (a0.1=1)) (
 cond (decide (a0.2.2.1=[])) (cond (decide (a0.2.1≥(-2147483647))) (some (decide (a0.2.1≤2147483647))) (some false)) (some false)) (
 cond (decide (a0.1=2)) (
(zdg a0.2.2.1).bind fun r1 =>
 cond r1.2.1 (cond (decide (a0.2.1=0)) (some (decide ((a0.2.2.1.length:Int)≤64))) (some false)) (some false)) (
 cond (decide (a0.1=3)) (
 cond (decide (a0.2.2.1=[])) (cond (decide (a0.2.1=0)) (some true) (some (decide (a0.2.1=1)))) (some false)) (
 some false)))
def abd:TFn:={ ps:=(.cons tT20 .unit),res:=.bool,fn:=fun v=>zcp v.1 }
def au3:TEnv:=(vZ [(366,yb)])
theorem au2:runY Tryz.prog alb au4 au3 aCh Tryz.f346 abd.ps abd.res=abd.fn:=by kernel_rfl
theorem ak9:az Tryz.prog G0 346 ala:=ah (aj ⟨au,(ai aaQ ac),ap,ac,an⟩ Tryz.func346 rfl (by kernel_rfl))
theorem au1:TOk ala abd:=ay (E:=alb) (ET:=au3) (EnvT.ofX (ax (ae aho al)) am ar aI aq) au2 rfl
def akr:Env:=(eZ [(346,ala)] [274])
def atZ:Hints:=(hZ [] [])
def akq:PFn:=aC (runF Tryz.prog akr atZ Tryz.f300)
def aBY:TH:={ loops:=[],ro:=[1] }
def zd7 (a0:vV1):Option Bool :=
 cond (decide (a0.1=3)) (some (eqV tT20 a0.2.2.1 (0,0,[],()))) (cond (decide (a0.1=5)) (
 some (eqV tT20 a0.2.2.1 (0,0,[],()))) (
(zcp a0.2.2.1).bind fun r1 =>
 some r1))
def aaY:TFn:={ ps:=(.cons tT15 .unit),res:=.bool,fn:=fun v=>zd7 v.1 }
def atY:TEnv:=(vZ [(346,abd)])
theorem atX:runY Tryz.prog akr atZ atY aBY Tryz.f300 aaY.ps aaY.res=aaY.fn:=by kernel_rfl
theorem akp:az Tryz.prog G0 300 akq:=ah (aj ⟨au,(ai ak9 ac),ap,ac,an⟩ Tryz.func300 rfl (by kernel_rfl))
theorem atW:TOk akq aaY:=ay (E:=akr) (ET:=atY) (EnvT.ofX (ax (ae au1 al)) am ar aI aq) atX rfl
def akB:Env:=(eZ [] [274])
def auf:Hints:=(hZ [] [])
def akA:PFn:=aC (runF Tryz.prog akB auf Tryz.f301)
def aB2:TH:={ loops:=[],ro:=[1] }
def zd3 (a0:vV1):Option Bool :=
 cond (decide (a0.1=3)) (
 cond (!decide (a0.2.2.2.1=0)) (cond (decide (a0.2.2.2.1≥(-2147483647))) (some (decide (a0.2.2.2.1≤2147483647))) (some false)) (some false)) (
 some (decide (a0.2.2.2.1=0)))
def aa1:TFn:={ ps:=(.cons tT15 .unit),res:=.bool,fn:=fun v=>zd3 v.1 }
def aue:TEnv:=(vZ [])
theorem aud:runY Tryz.prog akB auf aue aB2 Tryz.f301 aa1.ps aa1.res=aa1.fn:=by kernel_rfl
theorem akz:az Tryz.prog G0 301 akA:=ah (aj ⟨au,ac,ap,ac,an⟩ Tryz.func301 rfl (by kernel_rfl))
theorem auc:TOk akA aa1:=ay (E:=akB) (ET:=aue) (EnvT.ofX (ax al) am ar aI aq) aud rfl
def ail:Env:=(eZ [(154,qR),(156,q9),(171,qT)] [274])
def aqG:Hints:=(hZ [] [])
def aik:PFn:=aC (runF Tryz.prog ail aqG Tryz.f347)
def aA8:TH:={ loops:=[],ro:=[2,3] }
def zeu (a0:vV3) (a1:vV3):Option Int :=
(zcm a0.1 a1.1).bind fun r1 =>
(zbu a0.2.1 a1.2.1).bind fun r2 =>
(zdn ([r1,r2]:List Int)).bind fun r3 =>
 some r3
def z7:TFn:={ ps:=(.cons tT19 (.cons tT19 .unit)),res:=(.int .i64),fn:=fun v=>zeu v.1 v.2.1 }
def aqF:TEnv:={ pure:=[(154,pi),(156,pp),(171,nf)],look:=[],glob:=G0T,ty:=[(3,(.int .i64))],raw:=[],fresh:=[] }
theorem aqE:runY Tryz.prog ail aqG aqF aA8 Tryz.f347 z7.ps z7.res=z7.fn:=by kernel_rfl
theorem aij:az Tryz.prog G0 347 aik:=ah (aj ⟨au,(ai kO (ai kU (ai ju ac))),ap,ac,an⟩ Tryz.func347 rfl (by kernel_rfl))
theorem aqD:TOk aik z7:=ay (E:=ail) (ET:=aqF) (EnvT.ofX (ax (ae qQ (ae qZ (ae nO al)))) am ar aI aq) aqE rfl
def aif:Env:=(eZ [(173,pk),(347,aik)] [274])
def aqt:Hints:=(hZ [(2,[0,5,6,7])] [])
def aie:PFn:=aC (runF Tryz.prog aif aqt Tryz.f302)
def aA4:TH:={ loops:=[(2,{ keep:=[(7,(.int .i64))],mem:=[] })],cuts:=[(4,[(9,{ keep:=[(4,(.bx 0 0)),(20,.bool)],mem:=[.box 146 tT19] }),(5,{ keep:=[(4,(.bx 0 0)),(25,.bool)],mem:=[.box 146 tT19] })])],ro:=[],news:=[] }
def aqq (a0:List vV3) (y2:(Int×Unit)):Option ((Int×Unit)⊕Bool) :=
 cond (decide (y2.1<(a0.length:Int))) (
(atI a0 y2.1).bind fun x1 =>
((zd6 x1.1).bind fun r2 =>
 cond (!r2) (some (true,x1,())) (some ((decide (x1.2.1<0)),x1,())):Option (Bool×vV3×Unit)).bind fun v3 =>
(cond v3.1 (some (true,v3.2.1,())) (some ((decide (v3.2.1.2.1≥16)),v3.2.1,())):Option (Bool×vV3×Unit)).bind fun v4 =>
 cond v4.1 (some (.inr false)) (cond (decide (y2.1>0)) ((atI a0 (IntKind.wrap .i64 (y2.1-1))).bind fun x5 =>
(zeu x5 v4.2.1).bind fun r6 =>
 cond (decide (r6≥0)) (
 some (.inr false)) (
 some (.inl ((IntKind.wrap .i64 (y2.1+1)),())))) (some (.inl ((IntKind.wrap .i64 (y2.1+1)),()))))) (
 some (.inr true))
def zey (a0:List vV3):Option Bool :=
 aK (aqq a0) (0,())
def zW:TFn:={ ps:=(.cons (.sl tT19) .unit),res:=.bool,fn:=fun v=>zey v.1 }
def aqs:TEnv:=(vZ [(173,kS),(347,z7)])
theorem aqr:runY Tryz.prog aif aqt aqs aA4 Tryz.f302 zW.ps zW.res=zW.fn:=by kernel_rfl
theorem aid:az Tryz.prog G0 302 aie:=ah (aj ⟨au,(ai ii (ai aij ac)),ap,ac,an⟩ Tryz.func302 rfl (by kernel_rfl))
theorem aqp:TOk aie zW:=ay (E:=aif) (ET:=aqs) (EnvT.ofX (ax (ae kR (ae aqD al))) am ar aI aq) aqr rfl
def aiz:Env:=(eZ [(299,ajA),(300,akq),(301,akA),(302,aie)] [274])
def aq0:Hints:=(hZ [] [])
def aiy:PFn:=aC (runF Tryz.prog aiz aq0 Tryz.f241)
def aBd:TH:={ joins:=[(10,{ keep:=[(1,(.bx 0 0)),(32,.bool)],mem:=[.same] })],loops:=[],cuts:=[(6,[(8,{ keep:=[(1,(.bx 0 0)),(26,.bool)],mem:=[.same] }),(5,{ keep:=[(1,(.bx 0 0)),(31,.bool)],mem:=[.same] })]),(9,[(8,{ keep:=[(1,(.bx 0 0)),(46,.bool)],mem:=[.same] })])],ro:=[1],news:=[] }
def zep (a0:vV1):Option Int :=
 cond (decide (a0.1<1)) (some 18) (cond (decide (a0.1>5)) (
 some 18) (
(zdt a0.2.1).bind fun r1 =>
 cond (!decide (r1=0)) (
 some r1) (
(cond (decide (a0.1=1)) (some (true,())) (some ((decide (a0.1=4)),())):Option (Bool×Unit)).bind fun v2 =>
(cond v2.1 (some (true,())) (some ((decide (a0.1=5)),())):Option (Bool×Unit)).bind fun v3 =>
((zd7 a0).bind fun r4 =>
 cond (!r4) (
 some (.inl ((!r4),()))) (
(zd3 a0).bind fun r5 =>
 cond (!r5) (
 some (.inl ((!r5),()))) (
(cond (!v3.1) (some ((decide ((a0.2.2.2.2.1.length:Int)>0)),())) (some (false,())):Option (Bool×Unit)).bind fun v6 =>
 some (.inl (v6.1,())))):Option ((Bool×Unit)⊕Int)).bind (aZ fun v7 =>
 cond v7.1 (
 some 2) (
 cond (decide ((a0.2.2.2.2.1.length:Int)>256)) (
 some 7) (
(zey a0.2.2.2.2.1).bind fun r8 =>
 cond (!r8) (
 some 2) (
 some 0)))))))
def aae:TFn:={ ps:=(.cons tT15 .unit),res:=(.int .i64),fn:=fun v=>zep v.1 }
def aqZ:TEnv:=(vZ [(299,aaD),(300,aaY),(301,aa1),(302,zW)])
theorem aqY:runY Tryz.prog aiz aq0 aqZ aBd Tryz.f241 aae.ps aae.res=aae.fn:=by kernel_rfl
theorem aix:az Tryz.prog G0 241 aiy:=ah (aj ⟨au,(ai ajz (ai akp (ai akz (ai aid ac)))),ap,ac,an⟩ Tryz.func241 rfl (by kernel_rfl))
theorem aqX:TOk aiy aae:=ay (E:=aiz) (ET:=aqZ) (EnvT.ofX (ax (ae asy (ae atW (ae auc (ae aqp al))))) am ar aI aq) aqY rfl
def aiW:Env:=(eZ [(173,pk),(240,aje),(241,aiy)] [274])
def arD:Hints:=(hZ [(10,[1,38,39,40])] [])
def ae4:PFn:=aC (runF Tryz.prog aiW arD Tryz.f174)
def aBn:TH:={ joins:=[(4,{ keep:=[(1,(.bx 0 0)),(6,.bool)],mem:=[.same] }),(13,{ keep:=[(1,(.bx 0 0)),(4,(.bx 1 0))],mem:=[.same,.box 135 tT15] })],loops:=[(10,{ keep:=[(1,(.bx 0 0)),(40,(.int .i64))],mem:=[.same] })],cuts:=[(3,[(8,{ keep:=[(1,(.bx 0 0)),(26,.bool)],mem:=[.same] })])],ro:=[1],news:=[] }
def aiV (a0:vV4) (y10:(Int×Unit)):Option ((Int×Unit)⊕Int) :=
 cond (decide (y10.1<(a0.2.2.2.2.1.length:Int))) (
(atI a0.2.2.2.2.1 y10.1).bind fun x4 =>
(cond a0.2.2.2.1 ((ze1 x4).bind fun r5 =>
 cond r5 (
 some (.inr (.inl ((IntKind.wrap .i64 (y10.1+1)),())))) (
 some (.inl (x4,())))) (some (.inl (x4,()))):Option ((vV1×Unit)⊕((Int×Unit)⊕Int))).bind (aZ fun v6 =>
(zep v6.1).bind fun r7 =>
 cond (!decide (r7=0)) (
 some (.inr r7)) (
 some (.inl ((IntKind.wrap .i64 (y10.1+1)),()))))) (
 some (.inr 0))
def zef (a0:vV4):Option Int :=
((zd6 a0.1).bind fun r1 =>
 cond (!r1) (
 some (.inl ((!r1),()))) (
 cond (decide (a0.2.1<0)) (some (.inl (true,()))) (cond (decide (a0.2.1≥8)) (
 some (.inl ((decide (a0.2.1≥8)),()))) (
(cond (decide (a0.2.2.1<1)) (some (true,())) (some ((decide (a0.2.2.1>1099511627776)),())):Option (Bool×Unit)).bind fun v2 =>
 some (.inl (v2.1,()))))):Option ((Bool×Unit)⊕Int)).bind (aZ fun v3 =>
 cond v3.1 (
 some 2) (
 cond (decide ((a0.2.2.2.2.1.length:Int)=0)) (
 some 11) (
 cond (decide ((a0.2.2.2.2.1.length:Int)>16)) (
 some 7) (
 aK (aiV a0) (0,())))))
def xX:TFn:={ ps:=(.cons tT18 .unit),res:=(.int .i64),fn:=fun v=>zef v.1 }
def arC:TEnv:=(vZ [(173,kS),(240,aaw),(241,aae)])
theorem arB:runY Tryz.prog aiW arD arC aBn Tryz.f174 xX.ps xX.res=xX.fn:=by kernel_rfl
theorem aap:az Tryz.prog G0 174 ae4:=ah (aj ⟨au,(ai ii (ai ajd (ai aix ac))),ap,ac,an⟩ Tryz.func174 rfl (by kernel_rfl))
theorem ahk:TOk ae4 xX:=ay (E:=aiW) (ET:=arC) (EnvT.ofX (ax (ae kR (ae ar2 (ae aqX al)))) am ar aI aq) arB rfl
def akY:Env:=(eZ [] [274])
def auM:Hints:=(hZ [] [])
def akX:PFn:=aC (runF Tryz.prog akY auM Tryz.f175)
def aCa:TH:=yZ
def zcv (a0:Int):Option Bool :=
 cond (decide (a0≥0)) (some (decide (a0<8))) (some false)
def aa8:TFn:={ ps:=tT22,res:=.bool,fn:=fun v=>zcv v.1 }
def auL:TEnv:=(vZ [])
theorem auK:runY Tryz.prog akY auM auL aCa Tryz.f175 aa8.ps aa8.res=aa8.fn:=by kernel_rfl
theorem akW:az Tryz.prog G0 175 akX:=ah (aj ⟨au,ac,ap,ac,an⟩ Tryz.func175 rfl (by kernel_rfl))
theorem auJ:TOk akX aa8:=ay (E:=akY) (ET:=auL) (EnvT.ofX (ax al) am ar aI aq) auK rfl
def al4:Env:=(eZ [(173,pk),(242,aca)] [274])
def awp:Hints:=(hZ [(2,[0,5,6,7])] [])
def afl:PFn:=aC (runF Tryz.prog al4 awp Tryz.f176)
def aCD:TH:={ loops:=[(2,{ keep:=[(7,(.int .i64))],mem:=[] })],cuts:=[(4,[(9,{ keep:=[(4,(.bx 0 0)),(20,.bool)],mem:=[.box 82 tT19] }),(5,{ keep:=[(4,(.bx 0 0)),(25,.bool)],mem:=[.box 82 tT19] })])],ro:=[],news:=[] }
def qW (a0:List vV3) (y2:(Int×Unit)):Option ((Int×Unit)⊕Bool) :=
 cond (decide (y2.1<(a0.length:Int))) (
(atI a0 y2.1).bind fun x1 =>
((zd6 x1.1).bind fun r2 =>
 cond (!r2) (some (true,x1,())) (some ((decide (x1.2.1<1)),x1,())):Option (Bool×vV3×Unit)).bind fun v3 =>
(cond v3.1 (some (true,v3.2.1,())) (some ((decide (v3.2.1.2.1>64)),v3.2.1,())):Option (Bool×vV3×Unit)).bind fun v4 =>
 cond v4.1 (some (.inr false)) (cond (decide (y2.1>0)) ((atI a0 (IntKind.wrap .i64 (y2.1-1))).bind fun x5 =>
(zb0 x5 v4.2.1).bind fun r6 =>
 cond (decide (r6≥0)) (
 some (.inr false)) (
 some (.inl ((IntKind.wrap .i64 (y2.1+1)),())))) (some (.inl ((IntKind.wrap .i64 (y2.1+1)),()))))) (
 some (.inr true))
def zc2 (a0:List vV3):Option Bool :=
 aK (qW a0) (0,())
def yi:TFn:={ ps:=(.cons (.sl tT19) .unit),res:=.bool,fn:=fun v=>zc2 v.1 }
def awo:TEnv:=(vZ [(173,kS),(242,uj)])
theorem awn:runY Tryz.prog al4 awp awo aCD Tryz.f176 yi.ps yi.res=yi.fn:=by kernel_rfl
theorem abC:az Tryz.prog G0 176 afl:=ah (aj ⟨au,(ai ii (ai un ac)),ap,ac,an⟩ Tryz.func176 rfl (by kernel_rfl))
theorem ahx:TOk afl yi:=ay (E:=al4) (ET:=awo) (EnvT.ofX (ax (ae kR (ae ab9 al))) am ar aI aq) awn rfl
def ami:Env:=(eZ [(174,ae4)] [274])
def awL:Hints:=(hZ [] [])
def amh:PFn:=aC (runF Tryz.prog ami awL Tryz.f243)
def aCJ:TH:={ loops:=[],ro:=[1] }
def zbw (a0:vV4):Option Bool :=
(zef a0).bind fun r1 =>
 some (!decide (r1=0))
def abH:TFn:={ ps:=(.cons tT18 .unit),res:=.bool,fn:=fun v=>zbw v.1 }
def awK:TEnv:=(vZ [(174,xX)])
theorem awJ:runY Tryz.prog ami awL awK aCJ Tryz.f243 abH.ps abH.res=abH.fn:=by kernel_rfl
theorem amg:az Tryz.prog G0 243 amh:=ah (aj ⟨au,(ai aap ac),ap,ac,an⟩ Tryz.func243 rfl (by kernel_rfl))
theorem awI:TOk amh abH:=ay (E:=ami) (ET:=awK) (EnvT.ofX (ax (ae ahk al)) am ar aI aq) awJ rfl
def amf:Env:=(eZ [(173,pk)] [274])
def awH:Hints:=(hZ [] [])
def ame:PFn:=aC (runF Tryz.prog amf awH Tryz.f244)
def aCI:TH:={ loops:=[],ro:=[1] }
def zbx (a0:(Int×Int×Unit)):Option Bool :=
(zd6 a0).bind fun r1 =>
 some (!r1)
def abG:TFn:={ ps:=(.cons tT16 .unit),res:=.bool,fn:=fun v=>zbx v.1 }
def awG:TEnv:=(vZ [(173,kS)])
theorem awF:runY Tryz.prog amf awH awG aCI Tryz.f244 abG.ps abG.res=abG.fn:=by kernel_rfl
theorem amd:az Tryz.prog G0 244 ame:=ah (aj ⟨au,(ai ii ac),ap,ac,an⟩ Tryz.func244 rfl (by kernel_rfl))
theorem awE:TOk ame abG:=ay (E:=amf) (ET:=awG) (EnvT.ofX (ax (ae kR al)) am ar aI aq) awF rfl
def ai2:Env:=(eZ [(171,qT)] [274])
def arM:Hints:=(hZ [(2,[0,5,6,7])] [])
def ai1:PFn:=aC (runF Tryz.prog ai2 arM Tryz.f245)
def aBp:TH:={ loops:=[(2,{ keep:=[(7,(.int .i64))],mem:=[] })],ro:=[] }
def arJ (a0:List vV4) (y2:(Int×Unit)):Option ((Int×Unit)⊕Bool) :=
 cond (decide (y2.1<(a0.length:Int))) (
(atI a0 y2.1).bind fun x1 =>
 cond (decide (y2.1>0)) ((atI a0 (IntKind.wrap .i64 (y2.1-1))).bind fun x2 =>
(zcm x2.1 x1.1).bind fun r3 =>
 cond (decide (r3≥0)) (
 some (.inr false)) (
 some (.inl ((IntKind.wrap .i64 (y2.1+1)),())))) (some (.inl ((IntKind.wrap .i64 (y2.1+1)),())))) (
 some (.inr true))
def zed (a0:List vV4):Option Bool :=
 aK (arJ a0) (0,())
def aar:TFn:={ ps:=(.cons (.sl tT18) .unit),res:=.bool,fn:=fun v=>zed v.1 }
def arL:TEnv:=(vZ [(171,nf)])
theorem arK:runY Tryz.prog ai2 arM arL aBp Tryz.f245 aar.ps aar.res=aar.fn:=by kernel_rfl
theorem ai0:az Tryz.prog G0 245 ai1:=ah (aj ⟨au,(ai ju ac),ap,ac,an⟩ Tryz.func245 rfl (by kernel_rfl))
theorem arI:TOk ai1 aar:=ay (E:=ai2) (ET:=arL) (EnvT.ofX (ax (ae nO al)) am ar aI aq) arK rfl
def anQ:Env:=(eZ [(243,amh)] [274])
def ayZ:Hints:=(hZ [(2,[0,1,7,8])] [])
def anP:PFn:=aC (runF Tryz.prog anQ ayZ Tryz.f303)
def aDf:TH:={ loops:=[(2,{ keep:=[(8,(.int .i64))],mem:=[] })],ro:=[] }
def ayW (a0:List vV4) (y2:(Int×Unit)):Option ((Int×Unit)⊕Int) :=
 cond (decide (y2.1<(a0.length:Int))) (
(atI a0 y2.1).bind fun x1 =>
(zbw x1).bind fun r2 =>
 cond r2 (
 some (.inr y2.1)) (
 some (.inl ((IntKind.wrap .i64 (y2.1+1)),())))) (
 some (.inr (-1)))
def zar (a0:List vV4) (a1:Unit):Option Int :=
 aK (ayW a0) (0,())
def ace:TFn:={ ps:=(.cons (.sl tT18) (.cons (.fn 243) .unit)),res:=(.int .i64),fn:=fun v=>zar v.1 v.2.1 }
def ayY:TEnv:=(vZ [(243,abH)])
theorem ayX:runY Tryz.prog anQ ayZ ayY aDf Tryz.f303 ace.ps ace.res=ace.fn:=by kernel_rfl
theorem anO:az Tryz.prog G0 303 anP:=ah (aj ⟨au,(ai amg ac),ap,ac,an⟩ Tryz.func303 rfl (by kernel_rfl))
theorem ayV:TOk anP ace:=ay (E:=anQ) (ET:=ayY) (EnvT.ofX (ax (ae awI al)) am ar aI aq) ayX rfl
def an5:Env:=(eZ [(303,anP)] [274])
def azg:Hints:=(hZ [] [])
def an4:PFn:=aC (runF Tryz.prog an5 azg Tryz.f246)
def aDi:TH:=yZ
def zam (a0:List vV4) (a1:Unit):Option Bool :=
(zar a0 a1).bind fun r1 =>
 some (decide (r1≥0))
def ach:TFn:={ ps:=(.cons (.sl tT18) (.cons (.fn 243) .unit)),res:=.bool,fn:=fun v=>zam v.1 v.2.1 }
def azf:TEnv:=(vZ [(303,ace)])
theorem aze:runY Tryz.prog an5 azg azf aDi Tryz.f246 ach.ps ach.res=ach.fn:=by kernel_rfl
theorem an3:az Tryz.prog G0 246 an4:=ah (aj ⟨au,(ai anO ac),ap,ac,an⟩ Tryz.func246 rfl (by kernel_rfl))
theorem azd:TOk an4 ach:=ay (E:=an5) (ET:=azf) (EnvT.ofX (ax (ae ayV al)) am ar aI aq) aze rfl
def anT:Env:=(eZ [(244,ame)] [274])
def ay4:Hints:=(hZ [(2,[0,1,7,8])] [])
def anS:PFn:=aC (runF Tryz.prog anT ay4 Tryz.f259)
def aDg:TH:={ loops:=[(2,{ keep:=[(8,(.int .i64))],mem:=[] })],ro:=[] }
def ay1 (a0:List (Int×Int×Unit)) (y2:(Int×Unit)):Option ((Int×Unit)⊕Int) :=
 cond (decide (y2.1<(a0.length:Int))) (
(atI a0 y2.1).bind fun x1 =>
(zbx x1).bind fun r2 =>
 cond r2 (
 some (.inr y2.1)) (
 some (.inl ((IntKind.wrap .i64 (y2.1+1)),())))) (
 some (.inr (-1)))
def zaq (a0:List (Int×Int×Unit)) (a1:Unit):Option Int :=
 aK (ay1 a0) (0,())
def acf:TFn:={ ps:=(.cons (.sl tT16) (.cons (.fn 244) .unit)),res:=(.int .i64),fn:=fun v=>zaq v.1 v.2.1 }
def ay3:TEnv:=(vZ [(244,abG)])
theorem ay2:runY Tryz.prog anT ay4 ay3 aDg Tryz.f259 acf.ps acf.res=acf.fn:=by kernel_rfl
theorem anR:az Tryz.prog G0 259 anS:=ah (aj ⟨au,(ai amd ac),ap,ac,an⟩ Tryz.func259 rfl (by kernel_rfl))
theorem ay0:TOk anS acf:=ay (E:=anT) (ET:=ay3) (EnvT.ofX (ax (ae awE al)) am ar aI aq) ay2 rfl
def an8:Env:=(eZ [(259,anS)] [274])
def azk:Hints:=(hZ [] [])
def an7:PFn:=aC (runF Tryz.prog an8 azk Tryz.f247)
def aDj:TH:=yZ
def zal (a0:List (Int×Int×Unit)) (a1:Unit):Option Bool :=
(zaq a0 a1).bind fun r1 =>
 some (decide (r1≥0))
def aci:TFn:={ ps:=(.cons (.sl tT16) (.cons (.fn 244) .unit)),res:=.bool,fn:=fun v=>zal v.1 v.2.1 }
def azj:TEnv:=(vZ [(259,acf)])
theorem azi:runY Tryz.prog an8 azk azj aDj Tryz.f247 aci.ps aci.res=aci.fn:=by kernel_rfl
theorem an6:az Tryz.prog G0 247 an7:=ah (aj ⟨au,(ai anR ac),ap,ac,an⟩ Tryz.func247 rfl (by kernel_rfl))
theorem azh:TOk an7 aci:=ay (E:=an8) (ET:=azj) (EnvT.ofX (ax (ae ay0 al)) am ar aI aq) azi rfl
def alE:Env:=(eZ [(176,afl),(245,ai1),(246,an4),(247,an7)] [274])
def avL:Hints:=(hZ [] [])
def alD:PFn:=aC (runF Tryz.prog alE avL Tryz.f177)
def aCs:TH:={ loops:=[],cuts:=[(3,[(9,{ keep:=[(1,(.bx 0 0)),(13,.bool)],mem:=[.same] }),(7,{ keep:=[(1,(.bx 0 0)),(20,.bool)],mem:=[.same] })])],ro:=[1],news:=[] }
def zcd (a0:(List vV4×List vV3×List (Int×Int×Unit)×Unit)):Option Bool :=
(cond (decide ((a0.1.length:Int)≤1000)) ((zed a0.1).bind fun r1 =>
 some (r1,())) (some (false,())):Option (Bool×Unit)).bind fun v2 =>
(cond v2.1 ((zam a0.1 ()).bind fun r3 =>
 some ((!r3),())) (some (false,())):Option (Bool×Unit)).bind fun v4 =>
 cond v4.1 ((zc2 a0.2.1).bind fun r5 =>
 cond r5 ((zal a0.2.2.1 ()).bind fun r6 =>
 some (!r6)) (some false)) (some false)
def abq:TFn:={ ps:=(.cons (.agg (.cons (.sl tT18) (.cons (.sl tT19) (.cons (.sl tT16) .unit)))) .unit),res:=.bool,fn:=fun v=>zcd v.1 }
def avK:TEnv:=(vZ [(176,yi),(245,aar),(246,ach),(247,aci)])
theorem avJ:runY Tryz.prog alE avL avK aCs Tryz.f177 abq.ps abq.res=abq.fn:=by kernel_rfl
theorem alC:az Tryz.prog G0 177 alD:=ah (aj ⟨au,(ai abC (ai ai0 (ai an3 (ai an6 ac)))),ap,ac,an⟩ Tryz.func177 rfl (by kernel_rfl))
theorem avI:TOk alD abq:=ay (E:=alE) (ET:=avK) (EnvT.ofX (ax (ae ahx (ae arI (ae azd (ae azh al))))) am ar aI aq) avJ rfl
def anc:Env:=(eZ [(174,ae4),(175,akX),(176,afl),(177,alD)] [274])
def aye:Hints:=(hZ [] [])
def anb:PFn:=aC (runF Tryz.prog anc aye Tryz.f103)
def aC6:TH:={ loops:=[],ro:=[1] }
def zb5 (a0:vV10):Option Bool :=
 cond (decide (a0.1=1)) (
(zef a0.2.1).bind fun r1 =>
 some (decide (r1=0))) (
 cond (decide (a0.1=2)) (
(zcv a0.2.2.1).bind fun r2 =>
 cond r2 ((zc2 ([a0.2.2.2.1]:List vV3)).bind fun r3 =>
 cond r3 (cond (decide (a0.2.2.2.2.1≥0)) (some (decide (a0.2.2.2.2.1≤2))) (some false)) (some false)) (some false)) (
 cond (decide (a0.1=3)) (
(zcd a0.2.2.2.2.2.1).bind fun r4 =>
 some r4) (
 cond (decide (a0.1=4)) (
 none) (
 some false))))
def ab3:TFn:={ ps:=(.cons tT24 .unit),res:=.bool,fn:=fun v=>zb5 v.1 }
def ayd:TEnv:={ pure:=[(174,xX),(175,aa8),(176,yi),(177,abq)],look:=[],glob:=G0T,ty:=[(82,tT19)],raw:=[],fresh:=[] }
theorem ayc:runY Tryz.prog anc aye ayd aC6 Tryz.f103 ab3.ps ab3.res=ab3.fn:=by kernel_rfl
theorem ana:az Tryz.prog G0 103 anb:=ah (aj ⟨au,(ai aap (ai akW (ai abC (ai alC ac)))),ap,ac,an⟩ Tryz.func103 rfl (by kernel_rfl))
theorem ayb:TOk anb ab3:=ay (E:=anc) (ET:=ayd) (EnvT.ofX (ax (ae ahk (ae auJ (ae ahx (ae avI al))))) am ar aI aq) ayc rfl
def ajH:Env:=(eZ [(102,abm),(103,anb)] [274])
def asJ:Hints:=(hZ [] [])
def ajG:PFn:=aC (runF Tryz.prog ajH asJ Tryz.f39)
def aBE:TH:={ loops:=[],ro:=[4,6] }
def zdr (a0:vV0) (a1:Int) (a2:(Int×Int×Unit)) (a3:Int):Option (vV10×Int×Unit) :=
(zcg a0.2.1 a2).bind fun r1 =>
 cond (!decide (r1.2.1=0)) (
 some ((0,((0,0,()),0,0,false,[],()),0,((0,0,()),0,()),0,([],[],[],()),([],[],([0,0,0,0,0,0,0,0,0,0,0,0,0,0,0,0],[],()),([0,0,0,0,0,0,0,0,0,0,0,0,0,0,0,0],[],()),[[],[],[],[],[],[],[],[]],()),()),r1.2.1,())) (
(zb5 (2,((0,0,()),0,0,false,[],()),a1,r1.1,a3,([],[],[],()),([],[],([0,0,0,0,0,0,0,0,0,0,0,0,0,0,0,0],[],()),([0,0,0,0,0,0,0,0,0,0,0,0,0,0,0,0],[],()),[[],[],[],[],[],[],[],[]],()),())).bind fun r2 =>
 cond (!r2) (
 some ((0,((0,0,()),0,0,false,[],()),0,((0,0,()),0,()),0,([],[],[],()),([],[],([0,0,0,0,0,0,0,0,0,0,0,0,0,0,0,0],[],()),([0,0,0,0,0,0,0,0,0,0,0,0,0,0,0,0],[],()),[[],[],[],[],[],[],[],[]],()),()),2,())) (
 some ((2,((0,0,()),0,0,false,[],()),a1,r1.1,a3,([],[],[],()),([],[],([0,0,0,0,0,0,0,0,0,0,0,0,0,0,0,0],[],()),([0,0,0,0,0,0,0,0,0,0,0,0,0,0,0,0],[],()),[[],[],[],[],[],[],[],[]],()),()),0,())))
def aaF:TFn:={ ps:=(.cons tT14 (.cons (.int .i64) (.cons tT16 tT22))),res:=(.tup (.cons tT24 tT22)),fn:=fun v=>zdr v.1 v.2.1 v.2.2.1 v.2.2.2.1 }
def asI:TEnv:=(vZ [(102,tT),(103,ab3)])
theorem asH:runY Tryz.prog ajH asJ asI aBE Tryz.f39 aaF.ps aaF.res=aaF.fn:=by kernel_rfl
theorem ajF:az Tryz.prog G0 39 ajG:=ah (aj ⟨au,(ai tU (ai ana ac)),ap,ac,an⟩ Tryz.func39 rfl (by kernel_rfl))
theorem asG:TOk ajG aaF:=ay (E:=ajH) (ET:=asI) (EnvT.ofX (ax (ae abl (ae ayb al))) am ar aI aq) asH rfl
def alp:Env:={ pure:=[],raw:=[(180,afL)],glob:=G0,same:=[274],look:=[],ext:=[] }
def avo:Hints:={ seqs:=[],loops:=[(6,[0,3,5])],own:=[14],frz:=[(3,[3])] }
def alo:PFn:=aC (runF Tryz.prog alp avo Tryz.f105)
def aCm:TH:={ loops:=[(6,{ keep:=[(3,(.bx 0 0)),(5,(.int .i64))],mem:=[.box 86 tT24] })],ro:=[] }
def avl (a0:List (Int×Int×Unit)) (y6:(Int×vV10×Unit)):Option ((Int×vV10×Unit)⊕List (Int×Int×Unit)) :=
 cond (decide (y6.1≥0)) (
(atI a0 y6.1).bind fun x3 =>
 cond (eqV tT16 x3 y6.2.1.2.2.2.1.1) (
(subI a0 0 y6.1).bind fun s4 =>
(za9 s4).bind fun n5 =>
 some (.inr n5)) (
 some (.inl ((IntKind.wrap .i64 (y6.1-1)),y6.2.1,())))) (
 some (.inr a0))
def zck (a0:List (Int×Int×Unit)) (a1:vV10):Option (List (Int×Int×Unit)) :=
 cond (decide (a1.2.2.2.2.1=1)) (
(za9 a0).bind fun n1 =>
(bY (n1.length+([a1.2.2.2.1.1]:List (Int×Int×Unit)).length)).bind fun u2 =>
 some (n1++([a1.2.2.2.1.1]:List (Int×Int×Unit)))) (
 cond (decide (a1.2.2.2.2.1=2)) (
 aK (avl a0) ((IntKind.wrap .i64 ((a0.length:Int)-1)),a1,())) (
 some a0))
def abh:TFn:={ ps:=(.cons (.sl tT16) (.cons tT24 .unit)),res:=(.sl tT16),fn:=fun v=>zck v.1 v.2.1 }
def avn:TEnv:={ pure:=[],look:=[],glob:=G0T,ty:=[(72,tT16)],raw:=[],fresh:=[(180,aoH)] }
theorem avm:runY Tryz.prog alp avo avn aCm Tryz.f105 abh.ps abh.res=abh.fn:=by kernel_rfl
theorem aln:az Tryz.prog G0 105 alo:=ah (aj ⟨au,ac,(aU act ap),ac,an⟩ Tryz.func105 rfl (by kernel_rfl))
theorem avk:TOk alo abh:=ay (E:=alp) (ET:=avn) (EnvT.ofX (ax al) am (gb ar rfl) aI (gg ahE rfl rfl rfl aq)) avm rfl
def aoT:Go.Shelf.Ren:=⟨fun | 41=>182 | n=>n,fun | 22=>39 | 23=>82 | 4=>4 | n=>n,fun | n=>n⟩
theorem afR:Go.Proofs.SlLaysE0.n41 Tryz.prog aoT:={
 mixed:=by kernel_rfl
 f41:=⟨Tryz.f182.name,by decide,Tryz.func182.trans (congrArg some (by kernel_rfl))⟩
 t4:=Tryz.underlying4
 a4:=Tryz.isAgg4
 z4:=Tryz.sizeOf4
 v4:=Tryz.zeroValue4
 t22:=Tryz.underlying39
 a22:=Tryz.isAgg39
 z22:=Tryz.sizeOf39
 v22:=Tryz.zeroValue39 }
def aoV:PFn:=(hP 3)
theorem aoU:az Tryz.prog G0 182 aoV:=clone_lays afR 3 ⟨Tryz.f182,Tryz.func182,rfl,by kernel_rfl⟩ (by kernel_rfl) (by kernel_rfl) (by kernel_rfl) (by kernel_rfl) (by kernel_rfl) (by decide) (fun w=>Tryz.sizeOf82 w)
def za4 (a0:List vV3):Option (List vV3):=dv a0
def aAd:TFn:=d9 tT19
theorem aAc:TOk aoV aAd:=gn rfl rfl rfl
def aoZ:Go.Shelf.Ren:=⟨fun | 41=>181 | n=>n,fun | 22=>22 | 23=>78 | 4=>4 | n=>n,fun | n=>n⟩
theorem afT:Go.Proofs.SlLaysE0.n41 Tryz.prog aoZ:={
 mixed:=by kernel_rfl
 f41:=⟨Tryz.f181.name,by decide,Tryz.func181.trans (congrArg some (by kernel_rfl))⟩
 t4:=Tryz.underlying4
 a4:=Tryz.isAgg4
 z4:=Tryz.sizeOf4
 v4:=Tryz.zeroValue4
 t22:=Tryz.underlying22
 a22:=Tryz.isAgg22
 z22:=Tryz.sizeOf22
 v22:=Tryz.zeroValue22 }
def ao1:PFn:=(hP 6)
theorem ao0:az Tryz.prog G0 181 ao1:=clone_lays afT 6 ⟨Tryz.f181,Tryz.func181,rfl,by kernel_rfl⟩ (by kernel_rfl) (by kernel_rfl) (by kernel_rfl) (by kernel_rfl) (by kernel_rfl) (by decide) (fun w=>Tryz.sizeOf78 w)
def za2 (a0:List vV4):Option (List vV4):=dv a0
def aAh:TFn:=d9 tT18
theorem aAg:TOk ao1 aAh:=gn rfl rfl rfl
def aoW:Go.Shelf.Ren:=⟨fun | 41=>180 | n=>n,fun | 22=>64 | 23=>72 | 4=>4 | n=>n,fun | n=>n⟩
theorem afS:Go.Proofs.SlLaysE0.n41 Tryz.prog aoW:={
 mixed:=by kernel_rfl
 f41:=⟨Tryz.f180.name,by decide,Tryz.func180.trans (congrArg some (by kernel_rfl))⟩
 t4:=Tryz.underlying4
 a4:=Tryz.isAgg4
 z4:=Tryz.sizeOf4
 v4:=Tryz.zeroValue4
 t22:=Tryz.underlying64
 a22:=Tryz.isAgg64
 z22:=Tryz.sizeOf64
 v22:=Tryz.zeroValue64 }
def aoY:PFn:=(hP 2)
theorem aoX:az Tryz.prog G0 180 aoY:=clone_lays afS 2 ⟨Tryz.f180,Tryz.func180,rfl,by kernel_rfl⟩ (by kernel_rfl) (by kernel_rfl) (by kernel_rfl) (by kernel_rfl) (by kernel_rfl) (by decide) (fun w=>Tryz.sizeOf72 w)
def za3 (a0:List (Int×Int×Unit)):Option (List (Int×Int×Unit)):=dv a0
def aAf:TFn:=d9 tT16
theorem aAe:TOk aoY aAf:=gn rfl rfl rfl
def alv:Env:=(eZ [(180,aoY),(181,ao1),(182,aoV)] [274])
def avx:Hints:=(hZ [(6,[1,2,26,27])] [])
def alu:PFn:=aC (runF Tryz.prog alv avx Tryz.f107)
def aCo:TH:={ loops:=[(6,{ keep:=[(1,(.bx 0 0)),(2,(.bx 1 0)),(27,(.int .i64))],mem:=[.box 69 tT14,.box 69 (.agg (.cons .nilsl (.cons .nilsl (.cons tT26 (.cons tT26 (.cons (.arr 8 .nilsl) .unit))))))] })],ro:=[] }
def avu (a0:vV0) (y6:(Int×vV0×(Unit×Unit×vV11×vV11×List Unit×Unit)×Unit)):Option ((Int×vV0×(Unit×Unit×vV11×vV11×List Unit×Unit)×Unit)⊕vV0) :=
 cond (decide (y6.1<8)) (
(atI a0.2.2.2.2.1 y6.1).bind fun x5 =>
(za3 x5).bind fun r6 =>
(inI 8 y6.1).bind fun i7 =>
(y6.2.1.2.2.2.2.1[i7]?).bind fun x8 =>
 some (.inl ((IntKind.wrap .i64 (y6.1+1)),(y6.2.1.1,y6.2.1.2.1,y6.2.1.2.2.1,y6.2.1.2.2.2.1,(y6.2.1.2.2.2.2.1.set i7 r6),()),y6.2.2.1,()))) (
 some (.inr y6.2.1))
def zci (a0:vV0):Option vV0 :=
(za2 a0.1).bind fun r1 =>
(za4 a0.2.1).bind fun r2 =>
(za3 a0.2.2.1.2.1).bind fun r3 =>
(za3 a0.2.2.2.1.2.1).bind fun r4 =>
 aK (avu a0) (0,(r1,r2,(a0.2.2.1.1,r3,()),(a0.2.2.2.1.1,r4,()),a0.2.2.2.2.1,()),((),(),([0,0,0,0,0,0,0,0,0,0,0,0,0,0,0,0],(),()),([0,0,0,0,0,0,0,0,0,0,0,0,0,0,0,0],(),()),[(),(),(),(),(),(),(),()],()),())
def abj:TFn:={ ps:=(.cons tT14 .unit),res:=tT14,fn:=fun v=>zci v.1 }
def avw:TEnv:=(vZ [(180,aAf),(181,aAh),(182,aAd)])
theorem avv:runY Tryz.prog alv avx avw aCo Tryz.f107 abj.ps abj.res=abj.fn:=by kernel_rfl
theorem alt:az Tryz.prog G0 107 alu:=ah (aj ⟨au,(ai aoX (ai ao0 (ai aoU ac))),ap,ac,an⟩ Tryz.func107 rfl (by kernel_rfl))
theorem avt:TOk alu abj:=ay (E:=alv) (ET:=avw) (EnvT.ofX (ax (ae aAe (ae aAg (ae aAc al)))) am ar aI aq) avv rfl
def ak2:Env:=(eZ [(97,ae5),(104,afk),(105,alo),(107,alu)] [274])
def auT:Hints:=(hZ [] [])
def ak1:PFn:=aC (runF Tryz.prog ak2 auT Tryz.f40)
def aCc:TH:={ loops:=[],ro:=[3] }
def zct (a0:vV0) (a1:vV10):Option vV0 :=
 cond (decide (a1.1=1)) (
(zeb a0 a1.2.1).bind fun r1 =>
(inI 8 a1.2.1.2.1).bind fun i2 =>
(r1.2.2.2.2.1[i2]?).bind fun x3 =>
 some (r1.1,r1.2.1,r1.2.2.1,r1.2.2.2.1,(r1.2.2.2.2.1.set i2 []),())) (
 cond (decide (a1.1=2)) (
(zc3 a0 ([a1.2.2.2.1]:List vV3)).bind fun r4 =>
(inI 8 a1.2.2.1).bind fun i5 =>
(r4.2.2.2.2.1[i5]?).bind fun x6 =>
(zck x6 a1).bind fun r7 =>
(inI 8 a1.2.2.1).bind fun i8 =>
(r4.2.2.2.2.1[i8]?).bind fun x9 =>
 some (r4.1,r4.2.1,r4.2.2.1,r4.2.2.2.1,(r4.2.2.2.2.1.set i8 r7),())) (
 cond (decide (a1.1=3)) (
 none) (
 cond (decide (a1.1=4)) (
(zci a1.2.2.2.2.2.2.1).bind fun r10 =>
 some r10) (
 some a0))))
def aba:TFn:={ ps:=(.cons tT14 (.cons tT24 .unit)),res:=tT14,fn:=fun v=>zct v.1 v.2.1 }
def auS:TEnv:={ pure:=[(97,xY),(104,yh),(105,abh),(107,abj)],look:=[],glob:=G0T,ty:=[(82,tT19)],raw:=[],fresh:=[] }
theorem auR:runY Tryz.prog ak2 auT auS aCc Tryz.f40 aba.ps aba.res=aba.fn:=by kernel_rfl
theorem ak0:az Tryz.prog G0 40 ak1:=ah (aj ⟨au,(ai aat (ai abB (ai aln (ai alt ac)))),ap,ac,an⟩ Tryz.func40 rfl (by kernel_rfl))
theorem auQ:TOk ak1 aba:=ay (E:=ak2) (ET:=auS) (EnvT.ofX (ax (ae ahl (ae ahw (ae avk (ae avt al))))) am ar aI aq) auR rfl
def anz:Go.Shelf.Ren:=⟨fun | 41=>81 | n=>n,fun | 22=>52 | 23=>125 | 4=>4 | n=>n,fun | n=>n⟩
theorem afE:Go.Proofs.SlLaysE0.n41 Tryz.prog anz:={
 mixed:=by kernel_rfl
 f41:=⟨Tryz.f81.name,by decide,Tryz.func81.trans (congrArg some (by kernel_rfl))⟩
 t4:=Tryz.underlying4
 a4:=Tryz.isAgg4
 z4:=Tryz.sizeOf4
 v4:=Tryz.zeroValue4
 t22:=Tryz.underlying52
 a22:=Tryz.isAgg52
 z22:=Tryz.sizeOf52
 v22:=Tryz.zeroValue52 }
def anB:SFn:=j8 4 125
theorem anA:bn Tryz.prog G0 81 anB:=mK afE rfl rfl (dS (P:=Tryz.prog) (te:=125) (M:=4) (by kernel_rfl) (by kernel_rfl) (by kernel_rfl) (by kernel_rfl) (by kernel_rfl) (by kernel_rfl) (by kernel_rfl) (by kernel_rfl)) ⟨Tryz.f81,Tryz.func81,rfl,by kernel_rfl⟩
def zaw (a0:List vV2):Option (List vV2):=dv a0
def ayH:TNew:=mM 125 tT17
theorem ayG:TNewOk anB ayH:=mL rfl rfl rfl
def amD:Env:=(eZ [] [274])
def axl:Hints:=(hZ [] [])
def amC:PFn:=aC (runF Tryz.prog amD axl Tryz.f85)
def aCS:TH:={ loops:=[],ro:=[1] }
def zbm (a0:vV8):Option vV2 :=
 cond (decide (a0.1=1)) (
 some a0.2.2.1) (
 some a0.2.1)
def abO:TFn:={ ps:=(.cons tT21 .unit),res:=tT17,fn:=fun v=>zbm v.1 }
def axk:TEnv:=(vZ [])
theorem axj:runY Tryz.prog amD axl axk aCS Tryz.f85 abO.ps abO.res=abO.fn:=by kernel_rfl
theorem amB:az Tryz.prog G0 85 amC:=ah (aj ⟨au,ac,ap,ac,an⟩ Tryz.func85 rfl (by kernel_rfl))
theorem axi:TOk amC abO:=ay (E:=amD) (ET:=axk) (EnvT.ofX (ax al) am ar aI aq) axj rfl
def anC:Go.Shelf.Ren:=⟨fun | 22=>88 | 29=>157 | 30=>158 | n=>n,fun | 24=>52 | 9=>125 | 0=>0 | 3=>3 | 4=>4 | n=>n,fun | n=>n⟩
theorem afF:InsL Tryz.prog anC:={
 mixed:=by kernel_rfl
 f22:=⟨Tryz.f88.name,by decide,Tryz.func88.trans (congrArg some (by kernel_rfl))⟩
 f29:=⟨Tryz.f157.name,by decide,by kernel_rfl,by kernel_rfl,Tryz.func157.trans (congrArg some (by kernel_rfl))⟩
 t0:=Tryz.underlying0
 a0:=Tryz.isAgg0
 z0:=Tryz.sizeOf0
 v0:=Tryz.zeroValue0
 t3:=Tryz.underlying3
 a3:=Tryz.isAgg3
 z3:=Tryz.sizeOf3
 v3:=Tryz.zeroValue3
 t4:=Tryz.underlying4
 a4:=Tryz.isAgg4
 z4:=Tryz.sizeOf4
 v4:=Tryz.zeroValue4
 t24:=Tryz.underlying52
 a24:=Tryz.isAgg52
 z24:=Tryz.sizeOf52
 v24:=Tryz.zeroValue52 }
def anE:SFn:=dE 4 125
theorem anD:bn Tryz.prog G0 88 anE:=gN afF rfl rfl rfl (dS (P:=Tryz.prog) (te:=125) (M:=4) (by kernel_rfl) (by kernel_rfl) (by kernel_rfl) (by kernel_rfl) (by kernel_rfl) (by kernel_rfl) (by kernel_rfl) (by kernel_rfl)) true Tryz.isAgg125 ⟨Tryz.f88,Tryz.func88,rfl,by kernel_rfl⟩
def zav (a1:Int) (a2:List vV2) (w0:List vV2):Option (Unit×List vV2×Unit):=(insT w0 a1 a2).map fun l=>((),(l,()))
def ayJ:TRaw:=insR false 125 tT17
theorem ayI:TRawOk anE ayJ:=qk rfl rfl rfl rfl (by decide)
def anF:Go.Shelf.Ren:=⟨fun | 45=>90 | n=>n,fun | 22=>52 | 23=>125 | 0=>0 | 3=>3 | 4=>4 | n=>n,fun | n=>n⟩
theorem afG:Go.Proofs.SlLaysE0.n45 Tryz.prog anF:={
 mixed:=by kernel_rfl
 f45:=⟨Tryz.f90.name,by decide,Tryz.func90.trans (congrArg some (by kernel_rfl))⟩
 t0:=Tryz.underlying0
 a0:=Tryz.isAgg0
 z0:=Tryz.sizeOf0
 v0:=Tryz.zeroValue0
 t3:=Tryz.underlying3
 a3:=Tryz.isAgg3
 z3:=Tryz.sizeOf3
 v3:=Tryz.zeroValue3
 t4:=Tryz.underlying4
 a4:=Tryz.isAgg4
 z4:=Tryz.sizeOf4
 v4:=Tryz.zeroValue4
 t22:=Tryz.underlying52
 a22:=Tryz.isAgg52
 z22:=Tryz.sizeOf52
 v22:=Tryz.zeroValue52 }
def anH:SFn:=ix 4 125
theorem anG:bn Tryz.prog G0 90 anH:=zD afG rfl rfl (dS (P:=Tryz.prog) (te:=125) (M:=4) (by kernel_rfl) (by kernel_rfl) (by kernel_rfl) (by kernel_rfl) (by kernel_rfl) (by kernel_rfl) (by kernel_rfl) (by kernel_rfl)) true Tryz.isAgg125 ⟨Tryz.f90,Tryz.func90,rfl,by kernel_rfl⟩
def zau (a1:Int) (a2:Int) (w0:List vV2):Option (Unit×List vV2×Unit):=(delT w0 a1 a2).map fun l=>((),(l,()))
def ayL:TRaw:=delR 125 tT17
theorem ayK:TRawOk anH ayL:=apZ rfl rfl rfl rfl (by decide)
def aoC:Env:=(eZ [(86,abJ)] [274])
def azY:Hints:=(hZ [(3,[0,2,4,8,9,10])] [])
def aoB:PFn:=aC (runF Tryz.prog aoC azY Tryz.f84)
def aDt:TH:={ joins:=[(8,{ keep:=[(4,(.bx 0 0)),(9,(.int .i64))],mem:=[.same] })],loops:=[(3,{ keep:=[(4,(.bx 0 0)),(9,(.int .i64)),(10,(.int .i64))],mem:=[.same] })],ro:=[4] }
def nT (a0:List vV2) (a1:vV2) (y3:(Int×Int×Unit)):Option ((Int×Int×Unit)⊕((Int×Unit)⊕(Int×Bool×Unit))) :=
 cond (decide (y3.1<y3.2.1)) (
(shrT .u64 (IntKind.wrap .u64 (IntKind.wrap .i64 (y3.1+y3.2.1))) 1).bind fun t1 =>
(atI a0 (IntKind.wrap .i64 t1)).bind fun x2 =>
(zbv x2 a1).bind fun r3 =>
 cond (decide (r3<0)) (
 some (.inl ((IntKind.wrap .i64 ((IntKind.wrap .i64 t1)+1)),y3.2.1,()))) (
 some (.inl (y3.1,(IntKind.wrap .i64 t1),())))) (
 some (.inr (.inl (y3.1,()))))
def zab (a0:List vV2) (a1:vV2) (a2:Unit):Option (Int×Bool×Unit) :=
(aK (nT a0 a1) (0,(a0.length:Int),()):Option ((Int×Unit)⊕(Int×Bool×Unit))).bind (aZ fun v4 =>
 cond (decide (v4.1<(a0.length:Int))) ((atI a0 v4.1).bind fun x5 =>
(zbv x5 a1).bind fun r6 =>
 some (v4.1,(decide (r6=0)),())) (some (v4.1,false,())))
def acr:TFn:={ ps:=(.cons (.sl tT17) (.cons tT17 (.cons (.fn 86) .unit))),res:=(.tup (.cons (.int .i64) (.cons .bool .unit))),fn:=fun v=>zab v.1 v.2.1 v.2.2.1 }
def azX:TEnv:=(vZ [(86,tW)])
theorem azW:runY Tryz.prog aoC azY azX aDt Tryz.f84 acr.ps acr.res=acr.fn:=by kernel_rfl
theorem aoA:az Tryz.prog G0 84 aoB:=ah (aj ⟨au,(ai tX ac),ap,ac,an⟩ Tryz.func84 rfl (by kernel_rfl))
theorem azV:TOk aoB acr:=ay (E:=aoC) (ET:=azX) (EnvT.ofX (ax (ae abI al)) am ar aI aq) azW rfl
def alH:Env:={ pure:=[(85,amC),(86,abJ),(87,afe),(89,afy)],raw:=[(81,anB),(88,anE),(90,anH)],glob:=G0,same:=[274],look:=[(84,aoB)],ext:=[] }
def avP:Hints:=(hZ [(3,[6,13,14,15])] [])
def alG:PFn:=aC (runF Tryz.prog alH avP Tryz.f30)
def aCt:TH:={ joins:=[(12,{ keep:=[(6,(.own 0)),(8,(.bx 1 0))],mem:=[.row false 125 tT17,.box 127 tT21] })],loops:=[(3,{ keep:=[(6,(.own 0)),(15,(.int .i64))],mem:=[.row false 125 tT17] })],ro:=[] }
def qU (a1:List vV8) (y3:(Int×List vV2×Unit)):Option ((Int×List vV2×Unit)⊕(List vV2×Int×Unit)) :=
 cond (decide (y3.1<(a1.length:Int))) (
(atI a1 y3.1).bind fun x2 =>
(zbm x2).bind fun r3 =>
(zab y3.2.1 r3 ()).bind fun r4 =>
(cond (decide (x2.1<1)) (some (.inr (.inr ([],18,())))) (cond (decide (x2.1>3)) (
 some (.inr (.inr ([],18,())))) (
 cond (!(r4.2.1==(!decide (x2.1=1)))) (some (.inr (.inr ([],12,())))) (cond r4.2.1 ((inI y3.2.1.length r4.1).bind fun i5 =>
(y3.2.1[i5]?).bind fun x6 =>
(zcu x6 x2.2.1).bind fun r7 =>
 cond (!r7) (
 some (.inr (.inr ([],12,())))) (
 cond (decide (x2.1=3)) ((zbv x2.2.1 x2.2.2.1).bind fun r8 =>
 cond (!decide (r8=0)) (
 some (.inr (.inr ([],2,())))) (
 some (.inl (y3.2.1,x2,())))) (some (.inl (y3.2.1,x2,()))))) (cond (decide (x2.1=3)) ((zbv x2.2.1 x2.2.2.1).bind fun r9 =>
 cond (!decide (r9=0)) (
 some (.inr (.inr ([],2,())))) (
 some (.inl (y3.2.1,x2,())))) (some (.inl (y3.2.1,x2,()))))))):Option ((List vV2×vV8×Unit)⊕((Int×List vV2×Unit)⊕(List vV2×Int×Unit)))).bind (aZ fun v10 =>
 cond (decide (v10.2.1.1=1)) (
(zb9 v10.2.1.2.2.1).bind fun r11 =>
(zav r4.1 ([r11]:List vV2) v10.1).bind fun q12 =>
 some (.inl ((IntKind.wrap .i64 (y3.1+1)),q12.2.1,()))) (
 cond (decide (v10.2.1.1=2)) (
(zau r4.1 (IntKind.wrap .i64 (r4.1+1)) v10.1).bind fun q13 =>
 some (.inl ((IntKind.wrap .i64 (y3.1+1)),q13.2.1,()))) (
(zb9 v10.2.1.2.2.1).bind fun r14 =>
(inI v10.1.length r4.1).bind fun i15 =>
(v10.1[i15]?).bind fun x16 =>
 some (.inl ((IntKind.wrap .i64 (y3.1+1)),(v10.1.set i15 r14),())))))) (
 some (.inr (y3.2.1,0,())))
def zcc (a0:List vV2) (a1:List vV8):Option (List vV2×Int×Unit) :=
(zaw a0).bind fun n1 =>
 aK (qU a1) (0,n1,())
def abr:TFn:={ ps:=(.cons (.sl tT17) (.cons (.sl tT21) .unit)),res:=(.tup (.cons (.sl tT17) tT22)),fn:=fun v=>zcc v.1 v.2.1 }
def avO:TEnv:={ pure:=[(85,abO),(86,tW),(87,yd),(89,yk)],look:=[(84,acr)],glob:=G0T,ty:=[(125,tT17)],raw:=[(88,ayJ),(90,ayL)],fresh:=[(81,ayH)] }
theorem avN:runY Tryz.prog alH avP avO aCt Tryz.f30 abr.ps abr.res=abr.fn:=by kernel_rfl
theorem alF:az Tryz.prog G0 30 alG:=ah (aj ⟨au,(ai amB (ai tX (ai aa9 (ai abZ ac)))),(aU anA (aU anD (aU anG ap))),(ai aoA ac),an⟩ Tryz.func30 rfl (by kernel_rfl))
theorem avM:TOk alG abr:=ay (E:=alH) (ET:=avO) (EnvT.ofX (ax (ae axi (ae abI (ae ahq (ae ahA al))))) (gK azV rfl am) (gb (be ayI rfl rfl (be ayK rfl rfl ar)) rfl) aI (gg ayG rfl rfl rfl aq)) avN rfl
def akd:Env:=(eZ [] [274])
def atB:Hints:=(hZ [(3,[3,6,7,8])] [])
def akc:PFn:=aC (runF Tryz.prog akd atB Tryz.f70)
def aBS:TH:={ joins:=[(11,{ keep:=[(3,(.own 1)),(5,(.bx 2 0))],mem:=[.gone,.row true 127 tT21,.box 127 tT21] })],loops:=[(3,{ keep:=[(3,(.own 1)),(8,(.int .i64))],mem:=[.gone,.row true 127 tT21] })],ro:=[] }
def vY (a0:List vV8) (y3:(Int×List vV8×Unit)):Option ((Int×List vV8×Unit)⊕List vV8) :=
 cond (decide (y3.1<(a0.length:Int))) (
(atI a0 y3.1).bind fun x1 =>
(cond (decide (x1.1=1)) (
 some (.inl (y3.2.1,(2,x1.2.2.1,x1.2.1,()),()))) (
 cond (decide (x1.1=2)) (
 some (.inl (y3.2.1,(1,x1.2.2.1,x1.2.1,()),()))) (
 some (.inl (y3.2.1,(x1.1,x1.2.2.1,x1.2.1,()),())))):Option ((List vV8×vV8×Unit)⊕((Int×List vV8×Unit)⊕List vV8))).bind (aZ fun v2 =>
(bY (v2.1.length+([v2.2.1]:List vV8).length)).bind fun u3 =>
 some (.inl ((IntKind.wrap .i64 (y3.1+1)),(v2.1++([v2.2.1]:List vV8)),())))) (
 some (.inr y3.2.1))
def zdd (a0:List vV8):Option (List vV8) :=
 aK (vY a0) (0,[],())
def aaT:TFn:={ ps:=(.cons (.sl tT21) .unit),res:=(.sl tT21),fn:=fun v=>zdd v.1 }
def atA:TEnv:={ pure:=[],look:=[],glob:=G0T,ty:=[(127,tT21)],raw:=[],fresh:=[] }
theorem atz:runY Tryz.prog akd atB atA aBS Tryz.f70 aaT.ps aaT.res=aaT.fn:=by kernel_rfl
theorem akb:az Tryz.prog G0 70 akc:=ah (aj ⟨au,ac,ap,ac,an⟩ Tryz.func70 rfl (by kernel_rfl))
theorem aty:TOk akc aaT:=ay (E:=akd) (ET:=atA) (EnvT.ofX (ax al) am ar aI aq) atz rfl
def amE:Env:=(eZ [(30,alG),(31,ae2),(33,akJ),(39,ajG),(40,ak1),(50,afm),(51,alV),(59,ae9),(68,ae1),(69,afj),(70,akc)] [274])
def axo:Hints:=(hZ [] [])
def axp:PFn:=aC (runF Tryz.prog amE axo Tryz.f13)
def aCT:TH:={ loops:=[],ro:=[3,4] }
def zbl (a0:vV0) (a1:(Int×Int×Unit)) (a2:Bool):Option Bool :=
(zd0 a0).bind fun r1 =>
 cond (!r1) (
(zc6).bind fun r2 =>
 some r2) (
(zdi a0 a1 a2).bind fun r3 =>
 cond (!decide (r3.2.1=0)) (
 cond (decide ((r3.1.length:Int)=0)) ((zc6).bind fun r4 =>
 some r4) (some false)) (
(zdr a0 0 a1 0).bind fun r5 =>
(zct a0 r5.1).bind fun r6 =>
(zc1 a0).bind fun r7 =>
(zew r7).bind fun r8 =>
(zcc r8 r3.1).bind fun r9 =>
 cond (!decide (r5.2.1=0)) (some false) (cond (!decide (r9.2.1=0)) (some false) ((zc1 r6).bind fun r10 =>
(zew r10).bind fun r11 =>
(zem r9.1 r11).bind fun r12 =>
 cond (!r12) (
 some false) (
(zdi r6 a1 (!a2)).bind fun r13 =>
 cond (!decide (r13.2.1=0)) (
 cond (decide (r13.2.1=14)) ((zc6).bind fun r14 =>
 some r14) (some false)) (
(zc8 r13.1).bind fun r15 =>
(zdd r3.1).bind fun r16 =>
(zc8 r16).bind fun r17 =>
 cond (decide (r15=r17)) (cond (decide ((r13.1.length:Int)=(r3.1.length:Int))) ((zc6).bind fun r18 =>
 some r18) (some false)) (some false)))))))
def tZ:TFn:={ ps:=(.cons tT14 (.cons tT16 (.cons .bool .unit))),res:=.bool,fn:=fun v=>zbl v.1 v.2.1 v.2.2.1 }
def axn:TEnv:=(vZ [(30,abr),(31,xV),(33,aa4),(39,aaF),(40,aba),(50,yj),(51,aby),(59,ya),(68,xU),(69,yg),(70,aaT)])
theorem axm:runY Tryz.prog amE axo axn aCT Tryz.f13 tZ.ps tZ.res=tZ.fn:=by kernel_rfl
theorem zbl_Fok:az Tryz.prog G0 13 axp:=ah (aj ⟨au,(ai alF (ai aai (ai akI (ai ajF (ai ak0 (ai abD (ai alU (ai aaO (ai zY (ai abw (ai akb ac))))))))))),ap,ac,an⟩ Tryz.func13 rfl (by kernel_rfl))
theorem zbl_ok:TOk axp tZ:=ay (E:=amE) (ET:=axn) (EnvT.ofX (ax (ae avM (ae ahi (ae aup (ae asG (ae auQ (ae ahy (ae av8 (ae ahn (ae ahh (ae ahv (ae aty al)))))))))))) am ar aI aq) axm rfl
end
end Go.Proofs.YtnbgkhdcidbkaaaGreatDoor.Y
