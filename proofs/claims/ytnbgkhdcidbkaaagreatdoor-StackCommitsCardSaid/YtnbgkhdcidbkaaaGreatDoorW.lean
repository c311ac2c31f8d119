import Derived.Test.YtnbgkhdcidbkaaaGreatDoorS
import Derived.Test.YtnbgkhdcidbkaaaGreatDoorT30
import GoSem.PinnedTables
set_option linter.unusedVariables false
set_option maxRecDepth 100000
namespace Go.Proofs.YtnbgkhdcidbkaaaGreatDoor.Y
open Go.EM Go.TY Go.Proofs
theorem zb.{u,v}{A:Type u}{B:Type v} (a:A) (f:A→Option B):(some a).bind f=f a:=rfl
theorem zg.{u}{A:Type u}{l:List A}{i:Nat} (h:i<l.length):l[i]? = some l[i]:=List.getElem?_eq_getElem h
theorem zl.{u}{A:Type u}{a:A}{l:List A}:(a::l).length=l.length+1:=rfl
theorem zf {p:Prop} [Decidable p] (h:¬p):decide p=false:=decide_eq_false h
theorem zn.{u}{c:Prop}{h:Decidable c} (hc:¬c) {A:Sort u}{t e:A}:ite c t e=e:=if_neg hc
theorem zp.{u}{c:Prop}{h:Decidable c} (hc:c) {A:Sort u}{t e:A}:ite c t e=t:=if_pos hc
theorem zm.{u}{A:Type u}{l:List A}{n:Nat} (h:n<l.length):l[n]∈l:=List.getElem_mem h
theorem zt {p:Prop} [Decidable p] (h:p):decide p=true:=decide_eq_true h
noncomputable section
def qZ:List Int:=Go.Pinned.utf8FirstZ.map fun (n:Nat)=>(n:Int)
def og:List (Int×Int×Unit):=[(128,191,()),(160,191,()),(128,159,()),(144,191,()),(128,143,()),(0,0,()),(0,0,()),(0,0,()),(0,0,()),(0,0,()),(0,0,()),(0,0,()),(0,0,()),(0,0,()),(0,0,()),(0,0,())]
def G0:List (Nat×AVal):=[(0,.rptr (qZ.map (AVal.int .u8))),(1,.rptr (og.flatMap fun p=>[AVal.int .u8 p.1,AVal.int .u8 p.2.1]))]
def G0T:List (Nat×TV):=[(0,⟨.rp (.arr 256 (.int .u8)) 0,qZ⟩),(1,⟨.rp (.arr 16 (.agg (.cons (.int .u8) (.cons (.int .u8) .unit)))) 0,og⟩)]
theorem aL:iI G0 G0T:=mg rfl rfl (xE (by kernel_rfl)) (mg rfl rfl (tt (by kernel_rfl)) xD)
theorem ay:∀ f,memN f [274]=true→Same Tryz.prog f:=by
 intro f h
 by_cases e274:f=274
 · subst e274; exact ⟨Tryz.f274,Tryz.func274,by kernel_rfl,by kernel_rfl,by kernel_rfl,by kernel_rfl⟩
 simp_all [memN]
def eZ (l:List (Nat×PFn)) (s:List Nat):Env:={ pure:=l,raw:=[],glob:=G0,same:=s,look:=[],ext:=[] }
def vZ (l:List (Nat×TFn)):TEnv:={ pure:=l,look:=[],glob:=G0T,ty:=[],raw:=[],fresh:=[] }
def hZ (l:List (Nat×List Nat)) (o:List Nat):Hints:={ seqs:=[],loops:=l,own:=o }
def yZ:TH:={ joins:=[],loops:=[],cuts:=[],ro:=[],news:=[] }
abbrev vV0:=(List ((Int×Int×Unit)×Int×Int×Bool×List (Int×List (List UInt8)×(Int×Int×List UInt8×Unit)×Int×List ((Int×Int×Unit)×Int×Unit)×Unit)×Unit)×List ((Int×Int×Unit)×Int×Unit)×(List Int×List (Int×Int×Unit)×Unit)×(List Int×List (Int×Int×Unit)×Unit)×List (List (Int×Int×Unit))×Unit)
abbrev vV1:=((Int×Int×Unit)×Int×Int×Bool×List (Int×List (List UInt8)×(Int×Int×List UInt8×Unit)×Int×List ((Int×Int×Unit)×Int×Unit)×Unit)×Unit)
abbrev vV2:=((Int×Int×Unit)×Int×Unit)
abbrev vV3:=(Int×List (List UInt8)×(Int×Int×List UInt8×Unit)×Int×List vV2×Unit)
abbrev vV4:=(List Int×List (Int×Int×Unit)×Unit)
abbrev vV5:=(Int×vV1×Int×vV2×Int×(List vV1×List vV2×List (Int×Int×Unit)×Unit)×vV0×Unit)
abbrev vV6:=(vV2×vV3×Int×Unit)
abbrev vV7:=(List Int×Unit×Unit)
abbrev vV8:=(Int×List (vV2×Bool)×Unit)
abbrev tT9:Ty:=(.agg (.cons (.agg (.cons (.int .i64) (.cons (.int .i64) .unit))) (.cons (.int .i64) (.cons (.int .i64) (.cons .bool (.cons (.sl (.agg (.cons (.int .i64) (.cons (.sl .str) (.cons (.agg (.cons (.int .i64) (.cons (.int .i64) (.cons .str .unit)))) (.cons (.int .i64) (.cons (.sl (.agg (.cons (.agg (.cons (.int .i64) (.cons (.int .i64) .unit))) (.cons (.int .i64) .unit)))) .unit))))))) .unit))))))
abbrev tT10:Ty:=(.agg (.cons (.sl tT9) (.cons (.sl (.agg (.cons (.agg (.cons (.int .i64) (.cons (.int .i64) .unit))) (.cons (.int .i64) .unit)))) (.cons (.agg (.cons (.arr 16 (.int .i64)) (.cons (.sl (.agg (.cons (.int .i64) (.cons (.int .i64) .unit)))) .unit))) (.cons (.agg (.cons (.arr 16 (.int .i64)) (.cons (.sl (.agg (.cons (.int .i64) (.cons (.int .i64) .unit)))) .unit))) (.cons (.arr 8 (.sl (.agg (.cons (.int .i64) (.cons (.int .i64) .unit))))) .unit))))))
abbrev tT11:Ty:=(.agg (.cons (.int .i64) (.cons (.int .i64) .unit)))
abbrev tT12:Ty:=(.agg (.cons tT11 (.cons (.int .i64) .unit)))
abbrev tT13:Ty:=(.agg (.cons (.int .i64) (.cons (.sl .str) (.cons (.agg (.cons (.int .i64) (.cons (.int .i64) (.cons .str .unit)))) (.cons (.int .i64) (.cons (.sl tT12) .unit))))))
abbrev tT14:Ty:=(.agg (.cons (.arr 16 (.int .i64)) (.cons (.sl tT11) .unit)))
abbrev tT15:Ty:=(.agg (.cons (.int .i64) (.cons tT9 (.cons (.int .i64) (.cons tT12 (.cons (.int .i64) (.cons (.agg (.cons (.sl tT9) (.cons (.sl tT12) (.cons (.sl tT11) .unit)))) (.cons tT10 .unit))))))))
abbrev tT16:Ty:=(.agg (.cons (.int .i64) (.cons (.int .i64) (.cons .str .unit))))
abbrev tT17:Ty:=(.agg (.cons (.arr 16 (.int .i64)) (.cons .nilsl .unit)))
abbrev tT18:Ty:=(.cons (.int .i64) .unit)
def aeX:Env:=(eZ [] [274])
def alT:Hints:=(hZ [(4,[0,3])] [])
def aeW:PFn:=aE (runF Tryz.prog aeX alT Tryz.f15)
def aob:TH:={ loops:=[(4,{ keep:=[(3,(.int .i64))],mem:=[] })],ro:=[] }
def qV (a0:List (List UInt8)) (y4:(Int×Unit)):Option ((Int×Unit)⊕Bool) :=
 cond (decide (y4.1<(a0.length:Int))) (
(atI a0 y4.1).bind fun x1 =>
 cond (decide ((x1.length:Int)>120)) (
 some (.inr false)) (
 some (.inl ((IntKind.wrap .i64 (y4.1+1)),())))) (
 some (.inr true))
def za5 (a0:List (List UInt8)):Option Bool :=
 cond (decide ((a0.length:Int)>12)) (
 some false) (
 aM (qV a0) (0,()))
def vU:TFn:={ ps:=(.cons (.sl .str) .unit),res:=.bool,fn:=fun v=>za5 v.1 }
def alS:TEnv:=(vZ [])
theorem alR:runY Tryz.prog aeX alT alS aob Tryz.f15 vU.ps vU.res=vU.fn:=by kernel_rfl
theorem aeV:aC Tryz.prog G0 15 aeW:=ah (ak ⟨ay,ae,ar,ae,aq⟩ Tryz.func15 rfl (by kernel_rfl))
theorem alQ:TOk aeW vU:=az (E:=aeX) (ET:=alS) (EnvT.ofX (ax al) am ap aL an) alR rfl
def aeU:Env:=(eZ [(15,aeW)] [274])
def alP:Hints:=(hZ [] [])
def aeT:PFn:=aE (runF Tryz.prog aeU alP Tryz.f108)
def aoa:TH:={ loops:=[],ro:=[1] }
def za6 (a0:vV3):Option Bool :=
(za5 a0.2.1).bind fun r1 =>
 cond r1 (cond (decide ((a0.2.2.1.2.2.1.length:Int)≤200)) (some (decide ((a0.2.2.2.2.1.length:Int)≤300))) (some false)) (some false)
def vT:TFn:={ ps:=(.cons tT13 .unit),res:=.bool,fn:=fun v=>za6 v.1 }
def alO:TEnv:=(vZ [(15,vU)])
theorem alN:runY Tryz.prog aeU alP alO aoa Tryz.f108 vT.ps vT.res=vT.fn:=by kernel_rfl
theorem aeS:aC Tryz.prog G0 108 aeT:=ah (ak ⟨ay,(ai aeV ae),ar,ae,aq⟩ Tryz.func108 rfl (by kernel_rfl))
theorem alM:TOk aeT vT:=az (E:=aeU) (ET:=alO) (EnvT.ofX (ax (ac alQ al)) am ap aL an) alN rfl
def acX:Env:=(eZ [(108,aeT)] [274])
def ai8:Hints:=(hZ [(4,[1,3])] [])
def yH:PFn:=aE (runF Tryz.prog acX ai8 Tryz.f41)
def anv:TH:={ loops:=[(4,{ keep:=[(1,(.bx 0 0)),(3,(.int .i64))],mem:=[.same] })],ro:=[1] }
def qL (a0:vV1) (y4:(Int×Unit)):Option ((Int×Unit)⊕Bool) :=
 cond (decide (y4.1<(a0.2.2.2.2.1.length:Int))) (
(atI a0.2.2.2.2.1 y4.1).bind fun x1 =>
(za6 x1).bind fun r2 =>
 cond (!r2) (
 some (.inr false)) (
 some (.inl ((IntKind.wrap .i64 (y4.1+1)),())))) (
 some (.inr true))
def zbi (a0:vV1):Option Bool :=
 cond (decide ((a0.2.2.2.2.1.length:Int)>20)) (
 some false) (
 aM (qL a0) (0,()))
def sG:TFn:={ ps:=(.cons tT9 .unit),res:=.bool,fn:=fun v=>zbi v.1 }
def ai7:TEnv:=(vZ [(108,vT)])
theorem ai6:runY Tryz.prog acX ai8 ai7 anv Tryz.f41 sG.ps sG.res=sG.fn:=by kernel_rfl
theorem uZ:aC Tryz.prog G0 41 yH:=ah (ak ⟨ay,(ai aeS ae),ar,ae,aq⟩ Tryz.func41 rfl (by kernel_rfl))
theorem aat:TOk yH sG:=az (E:=acX) (ET:=ai7) (EnvT.ofX (ax (ac alM al)) am ap aL an) ai6 rfl
def acS:Env:=(eZ [(41,yH)] [274])
def aiY:Hints:=(hZ [(4,[1,3]),(9,[1,4])] [])
def acR:PFn:=aE (runF Tryz.prog acS aiY Tryz.f95)
def ans:TH:={ joins:=[(8,{ keep:=[(1,(.bx 0 0))],mem:=[.box 69 tT10] })],loops:=[(4,{ keep:=[(1,(.bx 0 0)),(3,(.int .i64))],mem:=[.box 69 tT10] }),(9,{ keep:=[(1,(.bx 0 0)),(4,(.int .i64))],mem:=[.box 69 tT10] })],cuts:=[(1,[(10,{ keep:=[(1,(.bx 0 0)),(14,.bool)],mem:=[.box 69 tT10] })])],ro:=[],news:=[] }
def lk (y4:(Int×vV0×Unit)):Option ((Int×vV0×Unit)⊕((vV0×Unit)⊕Bool)) :=
 cond (decide (y4.1<(y4.2.1.1.length:Int))) (
(atI y4.2.1.1 y4.1).bind fun x2 =>
(zbi x2).bind fun r3 =>
 cond (!r3) (
 some (.inr (.inr false))) (
 some (.inl ((IntKind.wrap .i64 (y4.1+1)),y4.2.1,())))) (
 some (.inr (.inl (y4.2.1,()))))
def lj (y9:(Int×vV0×Unit)):Option ((Int×vV0×Unit)⊕Bool) :=
 cond (decide (y9.1<8)) (
(inI 8 y9.1).bind fun i5 =>
(y9.2.1.2.2.2.2.1[i5]?).bind fun x6 =>
 cond (decide ((x6.length:Int)>40)) (
 some (.inr false)) (
 some (.inl ((IntKind.wrap .i64 (y9.1+1)),y9.2.1,())))) (
 some (.inr true))
def zbl (a0:vV0):Option Bool :=
(cond (decide ((a0.1.length:Int)>20)) (some (true,a0,())) (some ((decide ((a0.2.1.length:Int)>100)),a0,())):Option (Bool×vV0×Unit)).bind fun v1 =>
 cond v1.1 (some false) (cond (decide ((v1.2.1.2.2.1.2.1.length:Int)>100)) (some false) (cond (decide ((v1.2.1.2.2.2.1.2.1.length:Int)>100)) (
 some false) (
(aM (lk) (0,v1.2.1,()):Option ((vV0×Unit)⊕Bool)).bind (bQ fun v4 =>
 aM (lj) (0,v4.1,())))))
def uW:TFn:={ ps:=(.cons tT10 .unit),res:=.bool,fn:=fun v=>zbl v.1 }
def aiX:TEnv:=(vZ [(41,sG)])
theorem aiW:runY Tryz.prog acS aiY aiX ans Tryz.f95 uW.ps uW.res=uW.fn:=by kernel_rfl
theorem acQ:aC Tryz.prog G0 95 acR:=ah (ak ⟨ay,(ai uZ ae),ar,ae,aq⟩ Tryz.func95 rfl (by kernel_rfl))
theorem aiV:TOk acR uW:=az (E:=acS) (ET:=aiX) (EnvT.ofX (ax (ac aat al)) am ap aL an) aiW rfl
def adl:Env:=(eZ [] [274])
def ajH:Hints:=(hZ [] [])
def yJ:PFn:=aE (runF Tryz.prog adl ajH Tryz.f172)
def anF:TH:=yZ
def zb9 (a0:Int) (a1:Int):Option Int :=
 cond (decide (a0<a1)) (
 some (-1)) (
 cond (decide (a0>a1)) (
 some 1) (
 some 0))
def sI:TFn:={ ps:=(.cons (.int .i64) tT18),res:=(.int .i64),fn:=fun v=>zb9 v.1 v.2.1 }
def ajG:TEnv:=(vZ [])
theorem ajF:runY Tryz.prog adl ajH ajG anF Tryz.f172 sI.ps sI.res=sI.fn:=by kernel_rfl
theorem vk:aC Tryz.prog G0 172 yJ:=ah (ak ⟨ay,ae,ar,ae,aq⟩ Tryz.func172 rfl (by kernel_rfl))
theorem aav:TOk yJ sI:=az (E:=adl) (ET:=ajG) (EnvT.ofX (ax al) am ap aL an) ajF rfl
def adJ:Env:=(eZ [(172,yJ)] [274])
def akj:Hints:=(hZ [] [])
def pF:PFn:=aE (runF Tryz.prog adJ akj Tryz.f101)
def anP:TH:={ loops:=[],ro:=[2,3] }
def zaz (a0:(Int×Int×Unit)) (a1:(Int×Int×Unit)):Option Int :=
 cond (!decide (a0.1=a1.1)) (
(zb9 a0.1 a1.1).bind fun r1 =>
 some r1) (
(zb9 a0.2.1 a1.2.1).bind fun r2 =>
 some r2)
def mQ:TFn:={ ps:=(.cons tT11 (.cons tT11 .unit)),res:=(.int .i64),fn:=fun v=>zaz v.1 v.2.1 }
def aki:TEnv:=(vZ [(172,sI)])
theorem akh:runY Tryz.prog adJ akj aki anP Tryz.f101 mQ.ps mQ.res=mQ.fn:=by kernel_rfl
theorem jx:aC Tryz.prog G0 101 pF:=ah (ak ⟨ay,(ai vk ae),ar,ae,aq⟩ Tryz.func101 rfl (by kernel_rfl))
theorem ob:TOk pF mQ:=az (E:=adJ) (ET:=aki) (EnvT.ofX (ax (ac aav al)) am ap aL an) akh rfl
def ade:Env:=(eZ [(101,pF)] [274])
def ajw:Hints:=(hZ [(2,[0,3])] [])
def adc:PFn:=aE (runF Tryz.prog ade ajw Tryz.f152)
def anC:TH:={ loops:=[(2,{ keep:=[(3,(.int .i64))],mem:=[] })],ro:=[] }
def qN (a0:List vV1) (y2:(Int×Unit)):Option ((Int×Unit)⊕Bool) :=
 cond (decide (y2.1<(a0.length:Int))) (
(atI a0 (IntKind.wrap .i64 (y2.1-1))).bind fun x1 =>
(atI a0 y2.1).bind fun x2 =>
(zaz x1.1 x2.1).bind fun r3 =>
 cond (!decide (r3=(-1))) (
 some (.inr false)) (
 some (.inl ((IntKind.wrap .i64 (y2.1+1)),())))) (
 some (.inr true))
def zbc (a0:List vV1):Option Bool :=
 aM (qN a0) (1,())
def vh:TFn:={ ps:=(.cons (.sl tT9) .unit),res:=.bool,fn:=fun v=>zbc v.1 }
def ajv:TEnv:=(vZ [(101,mQ)])
theorem aju:runY Tryz.prog ade ajw ajv anC Tryz.f152 vh.ps vh.res=vh.fn:=by kernel_rfl
theorem adb:aC Tryz.prog G0 152 adc:=ah (ak ⟨ay,(ai jx ae),ar,ae,aq⟩ Tryz.func152 rfl (by kernel_rfl))
theorem ajt:TOk adc vh:=az (E:=ade) (ET:=ajv) (EnvT.ofX (ax (ac ob al)) am ap aL an) aju rfl
def acO:Env:=(eZ [] [274])
def aiR:Hints:=(hZ [] [])
def mO:PFn:=aE (runF Tryz.prog acO aiR Tryz.f109)
def anq:TH:={ loops:=[],ro:=[1] }
def zbn (a0:(Int×Int×Unit)):Option Bool :=
 cond (decide (a0.1≥0)) (cond (decide (a0.1≤15)) (cond (decide (a0.2.1≥1)) (some (decide (a0.2.1≤1048576))) (some false)) (some false)) (some false)
def jw:TFn:={ ps:=(.cons tT11 .unit),res:=.bool,fn:=fun v=>zbn v.1 }
def aiQ:TEnv:=(vZ [])
theorem aiP:runY Tryz.prog acO aiR aiQ anq Tryz.f109 jw.ps jw.res=jw.fn:=by kernel_rfl
theorem gm:aC Tryz.prog G0 109 mO:=ah (ak ⟨ay,ae,ar,ae,aq⟩ Tryz.func109 rfl (by kernel_rfl))
theorem jv:TOk mO jw:=az (E:=acO) (ET:=aiQ) (EnvT.ofX (ax al) am ap aL an) aiP rfl
def abe:Env:=(eZ [(109,mO)] [274])
def agv:Hints:=(hZ [] [])
def abd:PFn:=aE (runF Tryz.prog abe agv Tryz.f224)
def amN:TH:={ loops:=[],ro:=[1] }
def zcs (a0:vV2):Option Bool :=
(zbn a0.1).bind fun r1 =>
 cond r1 (cond (decide (a0.2.1≥1)) (some (decide (a0.2.1≤64))) (some false)) (some false)
def t7:TFn:={ ps:=(.cons tT12 .unit),res:=.bool,fn:=fun v=>zcs v.1 }
def agu:TEnv:=(vZ [(109,jw)])
theorem agt:runY Tryz.prog abe agv agu amN Tryz.f224 t7.ps t7.res=t7.fn:=by kernel_rfl
theorem abc:aC Tryz.prog G0 224 abd:=ah (ak ⟨ay,(ai gm ae),ar,ae,aq⟩ Tryz.func224 rfl (by kernel_rfl))
theorem ags:TOk abd t7:=az (E:=abe) (ET:=agu) (EnvT.ofX (ax (ac jv al)) am ap aL an) agt rfl
def acV:Env:=(eZ [(101,pF),(224,abd)] [274])
def ai2:Hints:=(hZ [(2,[0,3])] [])
def acU:PFn:=aE (runF Tryz.prog acV ai2 Tryz.f153)
def ant:TH:={ loops:=[(2,{ keep:=[(3,(.int .i64))],mem:=[] })],ro:=[] }
def qK (a0:List vV2) (y2:(Int×Unit)):Option ((Int×Unit)⊕Bool) :=
 cond (decide (y2.1<(a0.length:Int))) (
(atI a0 y2.1).bind fun x1 =>
(zcs x1).bind fun r2 =>
 cond (!r2) (some (.inr false)) (cond (decide (y2.1>0)) ((atI a0 (IntKind.wrap .i64 (y2.1-1))).bind fun x3 =>
(atI a0 y2.1).bind fun x4 =>
(zaz x3.1 x4.1).bind fun r5 =>
 cond (!decide (r5=(-1))) (
 some (.inr false)) (
 some (.inl ((IntKind.wrap .i64 (y2.1+1)),())))) (some (.inl ((IntKind.wrap .i64 (y2.1+1)),()))))) (
 some (.inr true))
def zbk (a0:List vV2):Option Bool :=
 aM (qK a0) (0,())
def uX:TFn:={ ps:=(.cons (.sl tT12) .unit),res:=.bool,fn:=fun v=>zbk v.1 }
def ai1:TEnv:=(vZ [(101,mQ),(224,t7)])
theorem ai0:runY Tryz.prog acV ai2 ai1 ant Tryz.f153 uX.ps uX.res=uX.fn:=by kernel_rfl
theorem acT:aC Tryz.prog G0 153 acU:=ah (ak ⟨ay,(ai jx (ai abc ae)),ar,ae,aq⟩ Tryz.func153 rfl (by kernel_rfl))
theorem aiZ:TOk acU uX:=az (E:=acV) (ET:=ai1) (EnvT.ofX (ax (ac ob (ac ags al))) am ap aL an) ai0 rfl
def adh:Env:=(eZ [] [274])
def ajA:Hints:=(hZ [(2,[1,3])] [])
def adg:PFn:=aE (runF Tryz.prog adh ajA Tryz.f235)
def anD:TH:={ loops:=[(2,{ keep:=[(1,(.bx 0 0)),(3,(.int .i64))],mem:=[.box 63 (.arr 16 (.int .i64))] })],ro:=[] }
def qO (y2:(Int×List Int×Unit)):Option ((Int×List Int×Unit)⊕Bool) :=
 cond (decide (y2.1<16)) (
(inI 16 y2.1).bind fun i1 =>
(y2.2.1[i1]?).bind fun x2 =>
 cond (decide (x2<0)) (some (.inr false)) ((inI 16 y2.1).bind fun i3 =>
(y2.2.1[i3]?).bind fun x4 =>
 cond (decide (x4>1048576)) (
 some (.inr false)) (
 some (.inl ((IntKind.wrap .i64 (y2.1+1)),y2.2.1,()))))) (
 some (.inr true))
def zbb (a0:List Int):Option Bool :=
 aM (qO) (0,a0,())
def vi:TFn:={ ps:=(.cons (.arr 16 (.int .i64)) .unit),res:=.bool,fn:=fun v=>zbb v.1 }
def ajz:TEnv:=(vZ [])
theorem ajy:runY Tryz.prog adh ajA ajz anD Tryz.f235 vi.ps vi.res=vi.fn:=by kernel_rfl
theorem adf:aC Tryz.prog G0 235 adg:=ah (ak ⟨ay,ae,ar,ae,aq⟩ Tryz.func235 rfl (by kernel_rfl))
theorem ajx:TOk adg vi:=az (E:=adh) (ET:=ajz) (EnvT.ofX (ax al) am ap aL an) ajy rfl
def acK:Env:=(eZ [(101,pF),(109,mO),(235,adg)] [274])
def aiK:Hints:=(hZ [(4,[1,3])] [])
def acJ:PFn:=aE (runF Tryz.prog acK aiK Tryz.f166)
def ano:TH:={ loops:=[(4,{ keep:=[(1,(.bx 0 0)),(3,(.int .i64))],mem:=[.box 66 tT14] })],ro:=[] }
def qJ (y4:(Int×vV4×Unit)):Option ((Int×vV4×Unit)⊕Bool) :=
 cond (decide (y4.1<(y4.2.1.2.1.length:Int))) (
(atI y4.2.1.2.1 y4.1).bind fun x2 =>
(zbn x2).bind fun r3 =>
 cond (!r3) (some (.inr false)) ((inI 16 x2.1).bind fun i4 =>
(y4.2.1.1[i4]?).bind fun x5 =>
 cond (decide ((IntKind.wrap .i64 (x2.2.1-1))≤x5)) (
 some (.inr false)) (
 cond (decide (y4.1>0)) ((atI y4.2.1.2.1 (IntKind.wrap .i64 (y4.1-1))).bind fun x6 =>
(zaz x6 x2).bind fun r7 =>
 cond (!decide (r7=(-1))) (
 some (.inr false)) (
 some (.inl ((IntKind.wrap .i64 (y4.1+1)),y4.2.1,())))) (some (.inl ((IntKind.wrap .i64 (y4.1+1)),y4.2.1,())))))) (
 some (.inr true))
def zbp (a0:vV4):Option Bool :=
(zbb a0.1).bind fun r1 =>
 cond (!r1) (some false) (cond (decide ((a0.2.1.length:Int)>4096)) (
 some false) (
 aM (qJ) (0,a0,())))
def uT:TFn:={ ps:=(.cons tT14 .unit),res:=.bool,fn:=fun v=>zbp v.1 }
def aiJ:TEnv:=(vZ [(101,mQ),(109,jw),(235,vi)])
theorem aiI:runY Tryz.prog acK aiK aiJ ano Tryz.f166 uT.ps uT.res=uT.fn:=by kernel_rfl
theorem acI:aC Tryz.prog G0 166 acJ:=ah (ak ⟨ay,(ai jx (ai gm (ai adf ae))),ar,ae,aq⟩ Tryz.func166 rfl (by kernel_rfl))
theorem aiH:TOk acJ uT:=az (E:=acK) (ET:=aiJ) (EnvT.ofX (ax (ac ob (ac jv (ac ajx al)))) am ap aL an) aiI rfl
def aci:Env:=(eZ [] [274])
def ah7:Hints:=(hZ [(17,[0,4,5,6,7])] [])
def ach:PFn:=aE (runF Tryz.prog aci ah7 Tryz.f216)
def ane:TH:={ joins:=[(14,{ keep:=[(4,(.int .i64)),(5,(.int .i64)),(6,(.int .i64))],mem:=[] }),(9,{ keep:=[(18,.bool)],mem:=[] }),(22,{ keep:=[(4,(.int .i64))],mem:=[] }),(24,{ keep:=[],mem:=[] })],loops:=[(17,{ keep:=[(4,(.int .i64)),(7,(.int .i64))],mem:=[] })],ro:=[] }
def fk (a0:List UInt8) (v3:(Int×Int×Int×Unit)) (y17:(Int×Int×Unit)):Option ((Int×Int×Unit)⊕((Int×Unit)⊕(Int×Int×Unit))) :=
 cond (decide (y17.2.1<v3.2.1)) (
(atI a0 y17.2.1).bind fun b4 =>
 cond (decide ((b4.toNat:Int)<128)) (some (.inr (.inr (0,0,())))) ((atI a0 y17.2.1).bind fun b5 =>
 cond (decide ((b5.toNat:Int)>191)) (
 some (.inr (.inr (0,0,())))) (
(atI a0 y17.2.1).bind fun b6 =>
 some (.inl ((IntKind.wrap .i64 ((IntKind.wrap .i64 ((IntKind.wrap .i64 (64*y17.1))+(IntKind.wrap .i64 (b6.toNat:Int))))-128)),(IntKind.wrap .i64 (y17.2.1+1)),()))))) (
 some (.inr (.inl (y17.1,()))))
def zbz (a0:List UInt8):Option (Int×Int×Unit) :=
 cond (decide ((a0.length:Int)=0)) (
 some (0,0,())) (
(atI a0 0).bind fun b1 =>
(cond (decide ((IntKind.wrap .i64 (b1.toNat:Int))<128)) (
 some (.inr ((IntKind.wrap .i64 (b1.toNat:Int)),1,()))) (
(cond (decide ((IntKind.wrap .i64 (b1.toNat:Int))≥194)) (some (.inl ((decide ((IntKind.wrap .i64 (b1.toNat:Int))<224)),()))) (some (.inl (false,()))):Option ((Bool×Unit)⊕((Int×Int×Int×Unit)⊕(Int×Int×Unit)))).bind (bQ fun v2 =>
 cond v2.1 (
 some (.inl ((IntKind.wrap .i64 ((IntKind.wrap .i64 (b1.toNat:Int))-192)),2,128,()))) (
 cond (decide ((IntKind.wrap .i64 (b1.toNat:Int))≥224)) (cond (decide ((IntKind.wrap .i64 (b1.toNat:Int))<240)) (
 some (.inl ((IntKind.wrap .i64 ((IntKind.wrap .i64 (b1.toNat:Int))-224)),3,2048,()))) (
 cond (decide ((IntKind.wrap .i64 (b1.toNat:Int))≥240)) (cond (decide ((IntKind.wrap .i64 (b1.toNat:Int))<245)) (
 some (.inl ((IntKind.wrap .i64 ((IntKind.wrap .i64 (b1.toNat:Int))-240)),4,65536,()))) (
 some (.inr (0,0,())))) (some (.inr (0,0,()))))) (cond (decide ((IntKind.wrap .i64 (b1.toNat:Int))≥240)) (cond (decide ((IntKind.wrap .i64 (b1.toNat:Int))<245)) (
 some (.inl ((IntKind.wrap .i64 ((IntKind.wrap .i64 (b1.toNat:Int))-240)),4,65536,()))) (
 some (.inr (0,0,())))) (some (.inr (0,0,()))))))):Option ((Int×Int×Int×Unit)⊕(Int×Int×Unit))).bind (bQ fun v3 =>
 cond (decide ((a0.length:Int)<v3.2.1)) (
 some (0,0,())) (
(aM (fk a0 v3) (v3.1,1,()):Option ((Int×Unit)⊕(Int×Int×Unit))).bind (bQ fun v7 =>
(cond (decide (v7.1<v3.2.2.1)) (some (.inr (0,0,()))) (cond (decide (v7.1>1114111)) (some (.inr (0,0,()))) (cond (decide (v7.1≥55296)) (cond (decide (v7.1≤57343)) (
 some (.inr (0,0,()))) (
 some (.inl ()))) (some (.inl ())))):Option (Unit⊕(Int×Int×Unit))).bind (bQ fun v8 =>
 some (v7.1,v3.2.1,()))))))
def uK:TFn:={ ps:=(.cons .str .unit),res:=(.tup (.cons (.int .i64) tT18)),fn:=fun v=>zbz v.1 }
def ah6:TEnv:=(vZ [])
theorem ah5:runY Tryz.prog aci ah7 ah6 ane Tryz.f216 uK.ps uK.res=uK.fn:=by kernel_rfl
theorem acg:aC Tryz.prog G0 216 ach:=ah (ak ⟨ay,ae,ar,ae,aq⟩ Tryz.func216 rfl (by kernel_rfl))
theorem ah4:TOk ach uK:=az (E:=aci) (ET:=ah6) (EnvT.ofX (ax al) am ap aL an) ah5 rfl
def acW:Env:=(eZ [(216,ach)] [274])
def ai5:Hints:=(hZ [(3,[0,4,5])] [])
def yG:PFn:=aE (runF Tryz.prog acW ai5 Tryz.f144)
def anu:TH:={ loops:=[(3,{ keep:=[(4,(.own 0)),(5,(.int .i64))],mem:=[.row true 3 (.int .i64)] })],ro:=[] }
def lm (a0:List UInt8) (y3:(Int×List Int×Unit)):Option ((Int×List Int×Unit)⊕(List Int×Bool×Unit)) :=
 cond (decide (y3.1<(a0.length:Int))) (
(subI a0 y3.1 (a0.length:Int)).bind fun s1 =>
(zbz s1).bind fun r2 =>
 cond (decide (r2.2.1=0)) (
 some (.inr ([],false,()))) (
(dP (y3.2.1.length+([r2.1]:List Int).length)).bind fun u3 =>
 some (.inl ((IntKind.wrap .i64 (y3.1+r2.2.1)),(y3.2.1++([r2.1]:List Int)),())))) (
 some (.inr (y3.2.1,true,())))
def zbj (a0:List UInt8):Option (List Int×Bool×Unit) :=
 aM (lm a0) (0,[],())
def sF:TFn:={ ps:=(.cons .str .unit),res:=(.tup (.cons (.sl (.int .i64)) (.cons .bool .unit))),fn:=fun v=>zbj v.1 }
def ai4:TEnv:={ pure:=[(216,uK)],look:=[],glob:=G0T,ty:=[(3,(.int .i64))],raw:=[],fresh:=[] }
theorem ai3:runY Tryz.prog acW ai5 ai4 anu Tryz.f144 sF.ps sF.res=sF.fn:=by kernel_rfl
theorem uY:aC Tryz.prog G0 144 yG:=ah (ak ⟨ay,(ai acg ae),ar,ae,aq⟩ Tryz.func144 rfl (by kernel_rfl))
theorem aas:TOk yG sF:=az (E:=acW) (ET:=ai4) (EnvT.ofX (ax (ac ah4 al)) am ap aL an) ai3 rfl
def abz:Env:=(eZ [] [274])
def agZ:Hints:=(hZ [] [])
def aby:PFn:=aE (runF Tryz.prog abz agZ Tryz.f306)
def amV:TH:=yZ
def zck (a0:Int):Option Bool :=
 cond (decide (a0≥32)) (cond (decide (a0<127)) (some (!decide (a0=65533))) (cond (decide (a0>159)) (some (!decide (a0=65533))) (some false))) (some false)
def un:TFn:={ ps:=tT18,res:=.bool,fn:=fun v=>zck v.1 }
def agY:TEnv:=(vZ [])
theorem agX:runY Tryz.prog abz agZ agY amV Tryz.f306 un.ps un.res=un.fn:=by kernel_rfl
theorem abx:aC Tryz.prog G0 306 aby:=ah (ak ⟨ay,ae,ar,ae,aq⟩ Tryz.func306 rfl (by kernel_rfl))
theorem agW:TOk aby un:=az (E:=abz) (ET:=agY) (EnvT.ofX (ax al) am ap aL an) agX rfl
def ac7:Env:=(eZ [(144,yG),(306,aby)] [274])
def ajo:Hints:=(hZ [(3,[3,4,5])] [])
def ac6:PFn:=aE (runF Tryz.prog ac7 ajo Tryz.f253)
def anA:TH:={ joins:=[(7,{ keep:=[],mem:=[] })],loops:=[(3,{ keep:=[(5,(.int .i64))],mem:=[] })],ro:=[] }
def oa (r1:(List Int×Bool×Unit)) (y3:(Int×Unit)):Option ((Int×Unit)⊕(Unit⊕Bool)) :=
 cond (decide (y3.1<(r1.1.length:Int))) (
(atI r1.1 y3.1).bind fun x2 =>
(zck x2).bind fun r3 =>
 cond (!r3) (
 some (.inr (.inr false))) (
 some (.inl ((IntKind.wrap .i64 (y3.1+1)),())))) (
 some (.inr (.inl ())))
def zbe (a0:List UInt8):Option Bool :=
(zbj a0).bind fun r1 =>
(aM (oa r1) (0,()):Option (Unit⊕Bool)).bind (bQ fun v4 =>
 cond r1.2.1 (cond (decide ((r1.1.length:Int)≥1)) (some (decide ((r1.1.length:Int)≤24))) (some false)) (some false))
def vf:TFn:={ ps:=(.cons .str .unit),res:=.bool,fn:=fun v=>zbe v.1 }
def ajn:TEnv:=(vZ [(144,sF),(306,un)])
theorem ajm:runY Tryz.prog ac7 ajo ajn anA Tryz.f253 vf.ps vf.res=vf.fn:=by kernel_rfl
theorem ac5:aC Tryz.prog G0 253 ac6:=ah (ak ⟨ay,(ai uY (ai abx ae)),ar,ae,aq⟩ Tryz.func253 rfl (by kernel_rfl))
theorem ajl:TOk ac6 vf:=az (E:=ac7) (ET:=ajn) (EnvT.ofX (ax (ac aas (ac agW al))) am ap aL an) ajm rfl
def ae0:Env:=(eZ [(253,ac6)] [274])
def alX:Hints:=(hZ [(6,[0,3])] [])
def aeZ:PFn:=aE (runF Tryz.prog ae0 alX Tryz.f183)
def aoc:TH:={ loops:=[(6,{ keep:=[(3,(.int .i64))],mem:=[] })],ro:=[] }
def qW (a0:List (List UInt8)) (y6:(Int×Unit)):Option ((Int×Unit)⊕Int) :=
 cond (decide (y6.1<(a0.length:Int))) (
(atI a0 y6.1).bind fun x1 =>
(zbe x1).bind fun r2 =>
 cond (!r2) (
 some (.inr 8)) (
 some (.inl ((IntKind.wrap .i64 (y6.1+1)),())))) (
 some (.inr 0))
def za4 (a0:List (List UInt8)):Option Int :=
 cond (decide ((a0.length:Int)=0)) (
 some 8) (
 cond (decide ((a0.length:Int)>8)) (
 some 9) (
 aM (qW a0) (0,())))
def vV:TFn:={ ps:=(.cons (.sl .str) .unit),res:=(.int .i64),fn:=fun v=>za4 v.1 }
def alW:TEnv:=(vZ [(253,vf)])
theorem alV:runY Tryz.prog ae0 alX alW aoc Tryz.f183 vV.ps vV.res=vV.fn:=by kernel_rfl
theorem aeY:aC Tryz.prog G0 183 aeZ:=ah (ak ⟨ay,(ai ac5 ae),ar,ae,aq⟩ Tryz.func183 rfl (by kernel_rfl))
theorem alU:TOk aeZ vV:=az (E:=ae0) (ET:=alW) (EnvT.ofX (ax (ac ajl al)) am ap aL an) alV rfl
def acu:Env:=(eZ [(144,yG)] [274])
def ain:Hints:=(hZ [] [])
def act:PFn:=aE (runF Tryz.prog acu ain Tryz.f184)
def ani:TH:={ loops:=[],ro:=[1] }
def zbv (a0:(Int×Int×List UInt8×Unit)):Option Bool :=
 cond (decide (a0.1=1)) (
 cond (decide (a0.2.2.1=[])) (cond (decide (a0.2.1≥(-2147483647))) (some (decide (a0.2.1≤2147483647))) (some false)) (some false)) (
 cond (decide (a0.1=2)) (
(zbj a0.2.2.1).bind fun r1 =>
 cond (decide (a0.2.1=0)) (cond r1.2.1 (some (decide ((a0.2.2.1.length:Int)≤64))) (some false)) (some false)) (
 cond (decide (a0.1=3)) (cond (decide (a0.2.2.1=[])) (cond (decide (a0.2.1≥0)) (some (decide (a0.2.1≤1))) (some false)) (some false)) (some false)))
def uO:TFn:={ ps:=(.cons tT16 .unit),res:=.bool,fn:=fun v=>zbv v.1 }
def aim:TEnv:=(vZ [(144,sF)])
theorem ail:runY Tryz.prog acu ain aim ani Tryz.f184 uO.ps uO.res=uO.fn:=by kernel_rfl
theorem acs:aC Tryz.prog G0 184 act:=ah (ak ⟨ay,(ai uY ae),ar,ae,aq⟩ Tryz.func184 rfl (by kernel_rfl))
theorem aik:TOk act uO:=az (E:=acu) (ET:=aim) (EnvT.ofX (ax (ac aas al)) am ap aL an) ail rfl
def abN:Env:=(eZ [(101,pF),(172,yJ)] [274])
def ahn:Hints:=(hZ [] [])
def abM:PFn:=aE (runF Tryz.prog abN ahn Tryz.f254)
def am1:TH:={ loops:=[],ro:=[2,3] }
def zce (a0:vV2) (a1:vV2):Option Int :=
(zaz a0.1 a1.1).bind fun r1 =>
 cond (!decide (r1=0)) (
(zaz a0.1 a1.1).bind fun r2 =>
 some r2) (
(zb9 a0.2.1 a1.2.1).bind fun r3 =>
 some r3)
def uw:TFn:={ ps:=(.cons tT12 (.cons tT12 .unit)),res:=(.int .i64),fn:=fun v=>zce v.1 v.2.1 }
def ahm:TEnv:=(vZ [(101,mQ),(172,sI)])
theorem ahl:runY Tryz.prog abN ahn ahm am1 Tryz.f254 uw.ps uw.res=uw.fn:=by kernel_rfl
theorem abL:aC Tryz.prog G0 254 abM:=ah (ak ⟨ay,(ai jx (ai vk ae)),ar,ae,aq⟩ Tryz.func254 rfl (by kernel_rfl))
theorem ahk:TOk abM uw:=az (E:=abN) (ET:=ahm) (EnvT.ofX (ax (ac ob (ac aav al))) am ap aL an) ahl rfl
def abQ:Env:=(eZ [(109,mO),(254,abM)] [274])
def ahr:Hints:=(hZ [(2,[0,3])] [])
def abP:PFn:=aE (runF Tryz.prog abQ ahr Tryz.f185)
def am2:TH:={ loops:=[(2,{ keep:=[(3,(.int .i64))],mem:=[] })],ro:=[] }
def qF (a0:List vV2) (y2:(Int×Unit)):Option ((Int×Unit)⊕Bool) :=
 cond (decide (y2.1<(a0.length:Int))) (
(atI a0 y2.1).bind fun x1 =>
(zbn x1.1).bind fun r2 =>
 cond (!r2) (some (.inr false)) ((atI a0 y2.1).bind fun x3 =>
 cond (decide (x3.2.1<0)) (some (.inr false)) ((atI a0 y2.1).bind fun x4 =>
 cond (decide (x4.2.1>15)) (
 some (.inr false)) (
 cond (decide (y2.1>0)) ((atI a0 (IntKind.wrap .i64 (y2.1-1))).bind fun x5 =>
(atI a0 y2.1).bind fun x6 =>
(zce x5 x6).bind fun r7 =>
 cond (!decide (r7=(-1))) (
 some (.inr false)) (
 some (.inl ((IntKind.wrap .i64 (y2.1+1)),())))) (some (.inl ((IntKind.wrap .i64 (y2.1+1)),()))))))) (
 some (.inr true))
def zcd (a0:List vV2):Option Bool :=
 aM (qF a0) (0,())
def uz:TFn:={ ps:=(.cons (.sl tT12) .unit),res:=.bool,fn:=fun v=>zcd v.1 }
def ahq:TEnv:=(vZ [(109,jw),(254,uw)])
theorem ahp:runY Tryz.prog abQ ahr ahq am2 Tryz.f185 uz.ps uz.res=uz.fn:=by kernel_rfl
theorem abO:aC Tryz.prog G0 185 abP:=ah (ak ⟨ay,(ai gm (ai abL ae)),ar,ae,aq⟩ Tryz.func185 rfl (by kernel_rfl))
theorem aho:TOk abP uz:=az (E:=abQ) (ET:=ahq) (EnvT.ofX (ax (ac jv (ac ahk al))) am ap aL an) ahp rfl
def aeP:Env:=(eZ [(183,aeZ),(184,act),(185,abP)] [274])
def alF:Hints:=(hZ [] [])
def aeO:PFn:=aE (runF Tryz.prog aeP alF Tryz.f110)
def an7:TH:={ joins:=[(9,{ keep:=[(1,(.bx 0 0))],mem:=[.same,.gone] }),(11,{ keep:=[(1,(.bx 0 0))],mem:=[.same,.gone] }),(13,{ keep:=[(1,(.bx 0 0))],mem:=[.same,.gone] }),(15,{ keep:=[(1,(.bx 0 0))],mem:=[.same,.gone] })],loops:=[],cuts:=[(11,[(8,{ keep:=[(1,(.bx 0 0)),(55,.bool)],mem:=[.same,.gone] })])],ro:=[1],news:=[] }
def za9 (a0:vV3):Option Int :=
 cond (decide (a0.1<1)) (some 18) (cond (decide (a0.1>5)) (
 some 18) (
(za4 a0.2.1).bind fun r1 =>
 cond (!decide (r1=0)) (
 some r1) (
(cond (decide (a0.1=3)) (cond (!(eqV tT16 a0.2.2.1 (0,0,[],()))) (
 some (.inr 2)) (
 some (.inl ()))) (cond (decide (a0.1=5)) (cond (!(eqV tT16 a0.2.2.1 (0,0,[],()))) (
 some (.inr 2)) (
 some (.inl ()))) (some (.inl ()))):Option (Unit⊕Int)).bind (bQ fun v2 =>
(cond (!decide (a0.1=3)) (cond (!decide (a0.1=5)) ((zbv a0.2.2.1).bind fun r3 =>
 cond (!r3) (
 some (.inr 2)) (
 some (.inl ()))) (some (.inl ()))) (some (.inl ())):Option (Unit⊕Int)).bind (bQ fun v4 =>
((cond (!decide (a0.1=3)) (some ((!decide (a0.2.2.2.1=0)),())) (some (false,())):Option (Bool×Unit)).bind fun v5 =>
 cond v5.1 (some (.inr 2)) (cond (decide (a0.1=3)) (cond (decide (a0.2.2.2.1=0)) (some (.inr 2)) (cond (decide (a0.2.2.2.1>2147483647)) (some (.inr 2)) (cond (decide (a0.2.2.2.1<(-2147483647))) (
 some (.inr 2)) (
 some (.inl ()))))) (some (.inl ()))):Option (Unit⊕Int)).bind (bQ fun v6 =>
(cond (decide (a0.1=2)) (cond (decide ((a0.2.2.2.2.1.length:Int)>0)) (
 some (.inr 2)) (
 some (.inl ()))) (cond (decide (a0.1=3)) (cond (decide ((a0.2.2.2.2.1.length:Int)>0)) (
 some (.inr 2)) (
 some (.inl ()))) (some (.inl ()))):Option (Unit⊕Int)).bind (bQ fun v7 =>
 cond (decide ((a0.2.2.2.2.1.length:Int)>256)) (
 some 7) (
(zcd a0.2.2.2.2.1).bind fun r8 =>
 cond (!r8) (
 some 2) (
 some 0)))))))))
def vQ:TFn:={ ps:=(.cons tT13 .unit),res:=(.int .i64),fn:=fun v=>za9 v.1 }
def alE:TEnv:=(vZ [(183,vV),(184,uO),(185,uz)])
theorem alD:runY Tryz.prog aeP alF alE an7 Tryz.f110 vQ.ps vQ.res=vQ.fn:=by kernel_rfl
theorem aeN:aC Tryz.prog G0 110 aeO:=ah (ak ⟨ay,(ai aeY (ai acs (ai abO ae))),ar,ae,aq⟩ Tryz.func110 rfl (by kernel_rfl))
theorem alC:TOk aeO vQ:=az (E:=aeP) (ET:=alE) (EnvT.ofX (ax (ac alU (ac aik (ac aho al)))) am ap aL an) alD rfl
def acr:Env:=(eZ [] [274])
def aij:Hints:=(hZ [] [])
def acq:PFn:=aE (runF Tryz.prog acr aij Tryz.f111)
def anh:TH:={ loops:=[],cuts:=[(2,[(9,{ keep:=[(1,(.bx 0 0)),(3,(.bx 1 0)),(13,.bool)],mem:=[.same,.box 132 tT16] })])],ro:=[1],news:=[] }
def zbw (a0:vV3):Option Bool :=
(cond (decide (a0.1=0)) (some ((decide ((a0.2.1.length:Int)=0)),(0,0,[],()),())) (some (false,(0,0,[],()),())):Option (Bool×(Int×Int×List UInt8×Unit)×Unit)).bind fun v1 =>
 cond v1.1 (cond (eqV tT16 a0.2.2.1 v1.2.1) (cond (decide (a0.2.2.2.1=0)) (some (decide ((a0.2.2.2.2.1.length:Int)=0))) (some false)) (some false)) (some false)
def uN:TFn:={ ps:=(.cons tT13 .unit),res:=.bool,fn:=fun v=>zbw v.1 }
def aii:TEnv:=(vZ [])
theorem aih:runY Tryz.prog acr aij aii anh Tryz.f111 uN.ps uN.res=uN.fn:=by kernel_rfl
theorem acp:aC Tryz.prog G0 111 acq:=ah (ak ⟨ay,ae,ar,ae,aq⟩ Tryz.func111 rfl (by kernel_rfl))
theorem aig:TOk acq uN:=az (E:=acr) (ET:=aii) (EnvT.ofX (ax al) am ap aL an) aih rfl
def aeQ:Env:=(eZ [(109,mO),(110,aeO),(111,acq)] [274])
def alI:Hints:=(hZ [(8,[1,3])] [])
def yU:PFn:=aE (runF Tryz.prog aeQ alI Tryz.f42)
def an8:TH:={ loops:=[(8,{ keep:=[(1,(.bx 0 0)),(3,(.int .i64))],mem:=[.same] })],cuts:=[(1,[(9,{ keep:=[(1,(.bx 0 0)),(13,.bool)],mem:=[.same] })])],ro:=[1],news:=[] }
def oc (a0:vV1) (y8:(Int×Unit)):Option ((Int×Unit)⊕Int) :=
 cond (decide (y8.1<(a0.2.2.2.2.1.length:Int))) (
(atI a0.2.2.2.2.1 y8.1).bind fun x3 =>
(za9 x3).bind fun r4 =>
 cond (!decide (r4=0)) (cond a0.2.2.2.1 ((atI a0.2.2.2.2.1 y8.1).bind fun x5 =>
(zbw x5).bind fun r6 =>
 cond (!r6) (
 some (.inr r4)) (
 some (.inl ((IntKind.wrap .i64 (y8.1+1)),())))) (some (.inr r4))) (some (.inl ((IntKind.wrap .i64 (y8.1+1)),())))) (
 some (.inr 0))
def za8 (a0:vV1):Option Int :=
((zbn a0.1).bind fun r1 =>
 cond (!r1) (some (true,())) (some ((decide (a0.2.1<0)),())):Option (Bool×Unit)).bind fun v2 =>
 cond v2.1 (some 2) (cond (decide (a0.2.1>7)) (some 2) (cond (decide (a0.2.2.1<1)) (some 2) (cond (decide (a0.2.2.1>1099511627776)) (
 some 2) (
 cond (decide ((a0.2.2.2.2.1.length:Int)=0)) (
 some 11) (
 cond (decide ((a0.2.2.2.2.1.length:Int)>16)) (
 some 7) (
 aM (oc a0) (0,())))))))
def sL:TFn:={ ps:=(.cons tT9 .unit),res:=(.int .i64),fn:=fun v=>za8 v.1 }
def alH:TEnv:=(vZ [(109,jw),(110,vQ),(111,uN)])
theorem alG:runY Tryz.prog aeQ alI alH an8 Tryz.f42 sL.ps sL.res=sL.fn:=by kernel_rfl
theorem vR:aC Tryz.prog G0 42 yU:=ah (ak ⟨ay,(ai gm (ai aeN (ai acp ae))),ar,ae,aq⟩ Tryz.func42 rfl (by kernel_rfl))
theorem aaz:TOk yU sL:=az (E:=aeQ) (ET:=alH) (EnvT.ofX (ax (ac jv (ac alC (ac aig al)))) am ap aL an) alG rfl
def abC:Env:=(eZ [(109,mO)] [274])
def ag3:Hints:=(hZ [] [])
def abB:PFn:=aE (runF Tryz.prog abC ag3 Tryz.f320)
def amW:TH:={ loops:=[],ro:=[3] }
def zcj (a0:List Int) (a1:(Int×Int×Unit)):Option Bool :=
(zbn a1).bind fun r1 =>
 cond r1 ((inI 16 a1.1).bind fun i2 =>
(a0[i2]?).bind fun x3 =>
 some (decide (x3≥a1.2.1))) (some false)
def uo:TFn:={ ps:=(.cons (.arr 16 (.int .i64)) (.cons tT11 .unit)),res:=.bool,fn:=fun v=>zcj v.1 v.2.1 }
def ag2:TEnv:=(vZ [(109,jw)])
theorem ag1:runY Tryz.prog abC ag3 ag2 amW Tryz.f320 uo.ps uo.res=uo.fn:=by kernel_rfl
theorem abA:aC Tryz.prog G0 320 abB:=ah (ak ⟨ay,(ai gm ae),ar,ae,aq⟩ Tryz.func320 rfl (by kernel_rfl))
theorem ag0:TOk abB uo:=az (E:=abC) (ET:=ag2) (EnvT.ofX (ax (ac jv al)) am ap aL an) ag1 rfl
def abk:Env:=(eZ [(320,abB)] [274])
def agD:Hints:=(hZ [(4,[2,3,5])] [])
def abj:PFn:=aE (runF Tryz.prog abk agD Tryz.f270)
def amP:TH:={ loops:=[(4,{ keep:=[(2,(.bx 0 0)),(3,(.bx 1 0)),(5,(.int .i64))],mem:=[.same,.same] })],ro:=[2,3] }
def qC (a0:vV4) (a1:(Int×Int×Unit)) (y4:(Int×Unit)):Option ((Int×Unit)⊕Bool) :=
 cond (decide (y4.1<(a0.2.1.length:Int))) (
(atI a0.2.1 y4.1).bind fun x2 =>
 cond (eqV tT11 x2 a1) (
 some (.inr true)) (
 some (.inl ((IntKind.wrap .i64 (y4.1+1)),())))) (
 some (.inr false))
def zcq (a0:vV4) (a1:(Int×Int×Unit)):Option Bool :=
(zcj a0.1 a1).bind fun r1 =>
 cond r1 (
 some true) (
 aM (qC a0 a1) (0,()))
def ud:TFn:={ ps:=(.cons tT14 (.cons tT11 .unit)),res:=.bool,fn:=fun v=>zcq v.1 v.2.1 }
def agC:TEnv:=(vZ [(320,uo)])
theorem agB:runY Tryz.prog abk agD agC amP Tryz.f270 ud.ps ud.res=ud.fn:=by kernel_rfl
theorem abi:aC Tryz.prog G0 270 abj:=ah (ak ⟨ay,(ai abA ae),ar,ae,aq⟩ Tryz.func270 rfl (by kernel_rfl))
theorem agA:TOk abj ud:=az (E:=abk) (ET:=agC) (EnvT.ofX (ax (ac ag0 al)) am ap aL an) agB rfl
def ae6:Env:=(eZ [] [274])
def al5:Hints:=(hZ [(3,[1,2,3,4])] [])
def ae5:PFn:=aE (runF Tryz.prog ae6 al5 Tryz.f294)
def aoe:TH:={ loops:=[(3,{ keep:=[(1,(.bx 0 0)),(2,(.bx 1 0)),(3,(.bx 2 0)),(4,(.int .i64))],mem:=[.same,.box 66 tT17,.box 66 (.agg (.cons (.arr 16 (.int .i64)) (.cons (.own 4) .unit))),.gone,.row true 72 tT11] })],ro:=[1] }
def qX (a0:vV4) (y3:(Int×vV7×vV7×List (Int×Int×Unit)×Unit)):Option ((Int×vV7×vV7×List (Int×Int×Unit)×Unit)⊕vV4) :=
 cond (decide (y3.1<(a0.2.1.length:Int))) (
(atI a0.2.1 y3.1).bind fun x1 =>
(inI 16 x1.1).bind fun i2 =>
(y3.2.2.1.1[i2]?).bind fun x3 =>
 cond (decide (x1.2.1=(IntKind.wrap .i64 (x3+1)))) (
(inI 16 x1.1).bind fun i4 =>
(y3.2.2.1.1[i4]?).bind fun x5 =>
 some (.inl ((IntKind.wrap .i64 (y3.1+1)),y3.2.1,((y3.2.2.1.1.set i4 x1.2.1),y3.2.2.1.2.1,()),y3.2.2.2.1,()))) (
(inI 16 x1.1).bind fun i6 =>
(y3.2.2.1.1[i6]?).bind fun x7 =>
 cond (decide (x1.2.1>x7)) (
(dP (y3.2.2.2.1.length+([x1]:List (Int×Int×Unit)).length)).bind fun u8 =>
 some (.inl ((IntKind.wrap .i64 (y3.1+1)),y3.2.1,(y3.2.2.1.1,(),()),(y3.2.2.2.1++([x1]:List (Int×Int×Unit))),()))) (
 some (.inl ((IntKind.wrap .i64 (y3.1+1)),y3.2.1,y3.2.2.1,y3.2.2.2.1,()))))) (
 some (.inr (y3.2.2.1.1,y3.2.2.2.1,())))
def za2 (a0:vV4):Option vV4 :=
 aM (qX a0) (0,([0,0,0,0,0,0,0,0,0,0,0,0,0,0,0,0],(),()),(a0.1,(),()),[],())
def vX:TFn:={ ps:=(.cons tT14 .unit),res:=tT14,fn:=fun v=>za2 v.1 }
def al4:TEnv:={ pure:=[],look:=[],glob:=G0T,ty:=[(72,tT11)],raw:=[],fresh:=[] }
theorem al3:runY Tryz.prog ae6 al5 al4 aoe Tryz.f294 vX.ps vX.res=vX.fn:=by kernel_rfl
theorem ae4:aC Tryz.prog G0 294 ae5:=ah (ak ⟨ay,ae,ar,ae,aq⟩ Tryz.func294 rfl (by kernel_rfl))
theorem al2:TOk ae5 vX:=az (E:=ae6) (ET:=al4) (EnvT.ofX (ax al) am ap aL an) al3 rfl
def abt:Env:=(eZ [(101,pF),(109,mO),(270,abj),(294,ae5)] [274])
def agR:Hints:=(hZ [(6,[2,3,4,5,6,7])] [56])
def abs:PFn:=aE (runF Tryz.prog abt agR Tryz.f236)
def amT:TH:={ joins:=[(12,{ keep:=[(2,(.bx 0 0)),(3,(.bx 1 0)),(4,(.bx 2 0)),(5,(.own 3)),(6,.bool)],mem:=[.same,.same,.box 66 tT17,.row true 72 tT11] }),(11,{ keep:=[(2,(.bx 0 0)),(3,(.bx 1 0)),(4,(.bx 2 0)),(5,(.own 3)),(6,.bool)],mem:=[.same,.same,.box 66 tT17,.row true 72 tT11] }),(14,{ keep:=[(2,(.bx 0 0)),(4,(.bx 2 0)),(5,(.own 3))],mem:=[.same,.same,.box 66 tT17,.row true 72 tT11] })],loops:=[(6,{ keep:=[(2,(.bx 0 0)),(3,(.bx 1 0)),(4,(.bx 2 0)),(5,(.own 3)),(6,.bool),(7,(.int .i64))],mem:=[.same,.same,.box 66 tT17,.row true 72 tT11] })],ro:=[2,3] }
def qE (a0:vV4) (a1:(Int×Int×Unit)) (y6:(Bool×Int×vV7×List (Int×Int×Unit)×Unit)):Option ((Bool×Int×vV7×List (Int×Int×Unit)×Unit)⊕((Bool×vV7×List (Int×Int×Unit)×Unit)⊕vV4)) :=
 cond (decide (y6.2.1<(a0.2.1.length:Int))) (
(cond (!y6.1) ((atI a0.2.1 y6.2.1).bind fun x3 =>
(zaz a1 x3).bind fun r4 =>
 cond (decide (r4<0)) (
(dP (y6.2.2.2.1.length+([a1]:List (Int×Int×Unit)).length)).bind fun u5 =>
 some (.inl (true,y6.2.2.1,(y6.2.2.2.1++([a1]:List (Int×Int×Unit))),()))) (
 some (.inl (y6.1,y6.2.2.1,y6.2.2.2.1,())))) (some (.inl (y6.1,y6.2.2.1,y6.2.2.2.1,()))):Option ((Bool×vV7×List (Int×Int×Unit)×Unit)⊕((Bool×Int×vV7×List (Int×Int×Unit)×Unit)⊕((Bool×vV7×List (Int×Int×Unit)×Unit)⊕vV4)))).bind (bQ fun v6 =>
(atI a0.2.1 y6.2.1).bind fun x7 =>
(dP (v6.2.2.1.length+([x7]:List (Int×Int×Unit)).length)).bind fun u8 =>
 some (.inl (v6.1,(IntKind.wrap .i64 (y6.2.1+1)),v6.2.1,(v6.2.2.1++([x7]:List (Int×Int×Unit))),())))) (
 some (.inr (.inl (y6.1,y6.2.2.1,y6.2.2.2.1,()))))
def zcm (a0:vV4) (a1:(Int×Int×Unit)):Option vV4 :=
(zbn a1).bind fun r1 =>
 cond (!r1) (some a0) ((zcq a0 a1).bind fun r2 =>
 cond r2 (
 some a0) (
(aM (qE a0 a1) (false,0,([0,0,0,0,0,0,0,0,0,0,0,0,0,0,0,0],(),()),[],()):Option ((Bool×vV7×List (Int×Int×Unit)×Unit)⊕vV4)).bind (bQ fun v9 =>
(cond (!v9.1) (
(dP (v9.2.2.1.length+([a1]:List (Int×Int×Unit)).length)).bind fun u10 =>
 some (.inl (v9.2.1,(v9.2.2.1++([a1]:List (Int×Int×Unit))),()))) (
 some (.inl (v9.2.1,v9.2.2.1,()))):Option ((vV7×List (Int×Int×Unit)×Unit)⊕vV4)).bind (bQ fun v11 =>
(za2 (a0.1,v11.2.1,())).bind fun r12 =>
 some r12))))
def ui:TFn:={ ps:=(.cons tT14 (.cons tT11 .unit)),res:=tT14,fn:=fun v=>zcm v.1 v.2.1 }
def agQ:TEnv:={ pure:=[(101,mQ),(109,jw),(270,ud),(294,vX)],look:=[],glob:=G0T,ty:=[(72,tT11)],raw:=[],fresh:=[] }
theorem agP:runY Tryz.prog abt agR agQ amT Tryz.f236 ui.ps ui.res=ui.fn:=by kernel_rfl
theorem abr:aC Tryz.prog G0 236 abs:=ah (ak ⟨ay,(ai jx (ai gm (ai abi (ai ae4 ae)))),ar,ae,aq⟩ Tryz.func236 rfl (by kernel_rfl))
theorem agO:TOk abs ui:=az (E:=abt) (ET:=agQ) (EnvT.ofX (ax (ac ob (ac jv (ac agA (ac al2 al))))) am ap aL an) agP rfl
def acy:Env:=(eZ [(236,abs)] [274])
def aiu:Hints:=(hZ [(3,[0,2,3,4])] [])
def acx:PFn:=aE (runF Tryz.prog acy aiu Tryz.f168)
def ank:TH:={ loops:=[(3,{ keep:=[(2,(.bx 0 0)),(3,(.bx 1 0)),(4,(.int .i64))],mem:=[.box 66 tT17,.box 66 tT14] })],ro:=[] }
def qI (a0:List vV1) (y3:(Int×vV7×vV4×Unit)):Option ((Int×vV7×vV4×Unit)⊕vV4) :=
 cond (decide (y3.1<(a0.length:Int))) (
(atI a0 y3.1).bind fun x1 =>
(zcm y3.2.2.1 x1.1).bind fun r2 =>
 some (.inl ((IntKind.wrap .i64 (y3.1+1)),y3.2.1,r2,()))) (
 some (.inr y3.2.2.1))
def zbt (a0:List vV1):Option vV4 :=
 aM (qI a0) (0,([0,0,0,0,0,0,0,0,0,0,0,0,0,0,0,0],(),()),([0,0,0,0,0,0,0,0,0,0,0,0,0,0,0,0],[],()),())
def uP:TFn:={ ps:=(.cons (.sl tT9) .unit),res:=tT14,fn:=fun v=>zbt v.1 }
def ait:TEnv:=(vZ [(236,ui)])
theorem ais:runY Tryz.prog acy aiu ait ank Tryz.f168 uP.ps uP.res=uP.fn:=by kernel_rfl
theorem acw:aC Tryz.prog G0 168 acx:=ah (ak ⟨ay,(ai abr ae),ar,ae,aq⟩ Tryz.func168 rfl (by kernel_rfl))
theorem air:TOk acx uP:=az (E:=acy) (ET:=ait) (EnvT.ofX (ax (ac agO al)) am ap aL an) ais rfl
def abU:Env:=(eZ [] [274])
def ahy:Hints:=(hZ [(4,[0,1,5])] [])
def abT:PFn:=aE (runF Tryz.prog abU ahy Tryz.f65)
def am4:TH:={ loops:=[(4,{ keep:=[(5,(.int .i64))],mem:=[] })],ro:=[] }
def qH (a0:List (Int×Int×Unit)) (a1:List (Int×Int×Unit)) (y4:(Int×Unit)):Option ((Int×Unit)⊕Bool) :=
 cond (decide (y4.1<(a0.length:Int))) (
(atI a0 y4.1).bind fun x1 =>
(atI a1 y4.1).bind fun x2 =>
 cond (!(eqV tT11 x1 x2)) (
 some (.inr false)) (
 some (.inl ((IntKind.wrap .i64 (y4.1+1)),())))) (
 some (.inr true))
def zcb (a0:List (Int×Int×Unit)) (a1:List (Int×Int×Unit)):Option Bool :=
 cond (!decide ((a0.length:Int)=(a1.length:Int))) (
 some false) (
 aM (qH a0 a1) (0,()))
def uB:TFn:={ ps:=(.cons (.sl tT11) (.cons (.sl tT11) .unit)),res:=.bool,fn:=fun v=>zcb v.1 v.2.1 }
def ahx:TEnv:=(vZ [])
theorem ahw:runY Tryz.prog abU ahy ahx am4 Tryz.f65 uB.ps uB.res=uB.fn:=by kernel_rfl
theorem abS:aC Tryz.prog G0 65 abT:=ah (ak ⟨ay,ae,ar,ae,aq⟩ Tryz.func65 rfl (by kernel_rfl))
theorem ahv:TOk abT uB:=az (E:=abU) (ET:=ahx) (EnvT.ofX (ax al) am ap aL an) ahw rfl
def ads:Env:=(eZ [(65,abT)] [274])
def ajS:Hints:=(hZ [] [])
def adr:PFn:=aE (runF Tryz.prog ads ajS Tryz.f167)
def anI:TH:={ loops:=[],ro:=[2,3] }
def zb6 (a0:vV4) (a1:vV4):Option Bool :=
 cond (eqV (.arr 16 (.int .i64)) a0.1 a1.1) ((zcb a0.2.1 a1.2.1).bind fun r1 =>
 some r1) (some false)
def vo:TFn:={ ps:=(.cons tT14 (.cons tT14 .unit)),res:=.bool,fn:=fun v=>zb6 v.1 v.2.1 }
def ajR:TEnv:=(vZ [(65,uB)])
theorem ajQ:runY Tryz.prog ads ajS ajR anI Tryz.f167 vo.ps vo.res=vo.fn:=by kernel_rfl
theorem adq:aC Tryz.prog G0 167 adr:=ah (ak ⟨ay,(ai abS ae),ar,ae,aq⟩ Tryz.func167 rfl (by kernel_rfl))
theorem ajP:TOk adr vo:=az (E:=ads) (ET:=ajR) (EnvT.ofX (ax (ac ahv al)) am ap aL an) ajQ rfl
def ac3:Env:=(eZ [(42,yU),(109,mO),(152,adc),(153,acU),(166,acJ),(167,adr),(168,acx)] [274])
def ajh:Hints:=(hZ [(4,[1,3]),(9,[1,4]),(14,[1,4,5])] [])
def ac2:PFn:=aE (runF Tryz.prog ac3 ajh Tryz.f96)
def anx:TH:={ joins:=[(8,{ keep:=[(1,(.bx 0 0))],mem:=[.box 69 tT10] }),(18,{ keep:=[(1,(.bx 0 0))],mem:=[.box 69 tT10] })],loops:=[(4,{ keep:=[(1,(.bx 0 0)),(3,(.int .i64))],mem:=[.box 69 tT10] }),(9,{ keep:=[(1,(.bx 0 0)),(4,(.int .i64))],mem:=[.box 69 tT10] }),(14,{ keep:=[(1,(.bx 0 0)),(5,(.int .i64))],mem:=[.box 69 tT10] })],ro:=[] }
def qM (y4:(Int×vV0×Unit)):Option ((Int×vV0×Unit)⊕((vV0×Unit)⊕Bool)) :=
 cond (decide (y4.1<(y4.2.1.1.length:Int))) (
(atI y4.2.1.1 y4.1).bind fun x4 =>
(za8 x4).bind fun r5 =>
 cond (!decide (r5=0)) (
 some (.inr (.inr false))) (
 some (.inl ((IntKind.wrap .i64 (y4.1+1)),y4.2.1,())))) (
 some (.inr (.inl (y4.2.1,()))))
def mP (y9:(Int×vV0×Unit)) (y14:(Int×vV0×Unit)):Option ((Int×vV0×Unit)⊕((Int×vV0×Unit)⊕((vV0×Unit)⊕Bool))) :=
(inI 8 y9.1).bind fun i9 =>
(y14.2.1.2.2.2.2.1[i9]?).bind fun x10 =>
 cond (decide (y14.1<(x10.length:Int))) (
(inI 8 y9.1).bind fun i11 =>
(y14.2.1.2.2.2.2.1[i11]?).bind fun x12 =>
(atI x12 y14.1).bind fun x13 =>
(zbn x13).bind fun r14 =>
 cond (!r14) (
 some (.inr (.inr (.inr false)))) (
 some (.inl ((IntKind.wrap .i64 (y14.1+1)),y14.2.1,())))) (
 some (.inr (.inl ((IntKind.wrap .i64 (y9.1+1)),y14.2.1,()))))
def lq (y9:(Int×vV0×Unit)):Option ((Int×vV0×Unit)⊕((vV0×Unit)⊕Bool)) :=
 cond (decide (y9.1<8)) (
(inI 8 y9.1).bind fun i7 =>
(y9.2.1.2.2.2.2.1[i7]?).bind fun x8 =>
 cond (decide ((x8.length:Int)>1000)) (
 some (.inr (.inr false))) (
 aM (mP y9) (0,y9.2.1,()))) (
 some (.inr (.inl (y9.2.1,()))))
def zbg (a0:vV0):Option Bool :=
 cond (decide ((a0.1.length:Int)>1000)) (some false) ((zbc a0.1).bind fun r1 =>
 cond (!r1) (some false) ((zbk a0.2.1).bind fun r2 =>
 cond (!r2) (some false) ((zbp a0.2.2.2.1).bind fun r3 =>
 cond (!r3) (
 some false) (
(aM (qM) (0,a0,()):Option ((vV0×Unit)⊕Bool)).bind (bQ fun v6 =>
(aM (lq) (0,v6.1,()):Option ((vV0×Unit)⊕Bool)).bind (bQ fun v15 =>
(zbp v15.1.2.2.1).bind fun r16 =>
 cond r16 ((zbt v15.1.1).bind fun r17 =>
(zb6 v15.1.2.2.1 r17).bind fun r18 =>
 some r18) (some false)))))))
def vd:TFn:={ ps:=(.cons tT10 .unit),res:=.bool,fn:=fun v=>zbg v.1 }
def ajg:TEnv:=(vZ [(42,sL),(109,jw),(152,vh),(153,uX),(166,uT),(167,vo),(168,uP)])
theorem ajf:runY Tryz.prog ac3 ajh ajg anx Tryz.f96 vd.ps vd.res=vd.fn:=by kernel_rfl
theorem ac1:aC Tryz.prog G0 96 ac2:=ah (ak ⟨ay,(ai vR (ai gm (ai adb (ai acT (ai acI (ai adq (ai acw ae))))))),ar,ae,aq⟩ Tryz.func96 rfl (by kernel_rfl))
theorem aje:TOk ac2 vd:=az (E:=ac3) (ET:=ajg) (EnvT.ofX (ax (ac aaz (ac jv (ac ajt (ac aiZ (ac aiH (ac ajP (ac air al)))))))) am ap aL an) ajf rfl
def adI:Env:=(eZ [(95,acR),(96,ac2)] [274])
def akg:Hints:=(hZ [] [])
def adH:PFn:=aE (runF Tryz.prog adI akg Tryz.f33)
def anO:TH:={ loops:=[],ro:=[1] }
def zb0 (a0:vV0):Option Bool :=
(zbl a0).bind fun r1 =>
 cond r1 ((zbg a0).bind fun r2 =>
 some r2) (some false)
def vx:TFn:={ ps:=(.cons tT10 .unit),res:=.bool,fn:=fun v=>zb0 v.1 }
def akf:TEnv:=(vZ [(95,uW),(96,vd)])
theorem ake:runY Tryz.prog adI akg akf anO Tryz.f33 vx.ps vx.res=vx.fn:=by kernel_rfl
theorem adG:aC Tryz.prog G0 33 adH:=ah (ak ⟨ay,(ai acQ (ai ac1 ae)),ar,ae,aq⟩ Tryz.func33 rfl (by kernel_rfl))
theorem akd:TOk adH vx:=az (E:=adI) (ET:=akf) (EnvT.ofX (ax (ac aiV (ac aje al))) am ap aL an) ake rfl
def abw:Env:=(eZ [] [274])
def agV:Hints:=(hZ [] [])
def abv:PFn:=aE (runF Tryz.prog abw agV Tryz.f98)
def amU:TH:=yZ
def zcl (a0:Int):Option vV1 :=
 some ((0,a0,()),1,a0,false,([(3,([[97]]:List (List UInt8)),(0,0,[],()),1,[],())]:List vV3),())
def uj:TFn:={ ps:=tT18,res:=tT9,fn:=fun v=>zcl v.1 }
def agU:TEnv:={ pure:=[],look:=[],glob:=G0T,ty:=[(9,.str),(135,tT13)],raw:=[],fresh:=[] }
theorem agT:runY Tryz.prog abw agV agU amU Tryz.f98 uj.ps uj.res=uj.fn:=by kernel_rfl
theorem abu:aC Tryz.prog G0 98 abv:=ah (ak ⟨ay,ae,ar,ae,aq⟩ Tryz.func98 rfl (by kernel_rfl))
theorem agS:TOk abv uj:=az (E:=abw) (ET:=agU) (EnvT.ofX (ax al) am ap aL an) agT rfl
def adM:Env:=(eZ [] [274])
def akn:Hints:=(hZ [] [])
def adL:PFn:=aE (runF Tryz.prog adM akn Tryz.f226)
def anQ:TH:=yZ
def zay (a0:Int):Option Bool :=
 some (!decide (a0=a0))
def vy:TFn:={ ps:=tT18,res:=.bool,fn:=fun v=>zay v.1 }
def akm:TEnv:=(vZ [])
theorem akl:runY Tryz.prog adM akn akm anQ Tryz.f226 vy.ps vy.res=vy.fn:=by kernel_rfl
theorem adK:aC Tryz.prog G0 226 adL:=ah (ak ⟨ay,ae,ar,ae,aq⟩ Tryz.func226 rfl (by kernel_rfl))
theorem akk:TOk adL vy:=az (E:=adM) (ET:=akm) (EnvT.ofX (ax al) am ap aL an) akl rfl
def adU:Env:=(eZ [(226,adL)] [274])
def akB:Hints:=(hZ [] [])
def vE:PFn:=aE (runF Tryz.prog adU akB Tryz.f156)
def anU:TH:=yZ
def zau (a0:Int) (a1:Int):Option Int :=
(zay a0).bind fun r1 =>
(zay a1).bind fun r2 =>
 cond r1 (
 cond r2 (
 some 0) (
 some (-1))) (
 cond r2 (
 some 1) (
 cond (decide (a0<a1)) (
 some (-1)) (
 cond (decide (a0>a1)) (
 some 1) (
 some 0))))
def pI:TFn:={ ps:=(.cons (.int .i64) tT18),res:=(.int .i64),fn:=fun v=>zau v.1 v.2.1 }
def akA:TEnv:=(vZ [(226,vy)])
theorem akz:runY Tryz.prog adU akB akA anU Tryz.f156 pI.ps pI.res=pI.fn:=by kernel_rfl
theorem pJ:aC Tryz.prog G0 156 vE:=ah (ak ⟨ay,(ai adK ae),ar,ae,aq⟩ Tryz.func156 rfl (by kernel_rfl))
theorem vD:TOk vE pI:=az (E:=adU) (ET:=akA) (EnvT.ofX (ax (ac akk al)) am ap aL an) akz rfl
def adC:Env:=(eZ [] [274])
def aj8:Hints:=(hZ [(3,[3,6,7,8])] [])
def vu:PFn:=aE (runF Tryz.prog adC aj8 Tryz.f154)
def anM:TH:={ loops:=[(3,{ keep:=[(8,(.int .i64))],mem:=[] })],ro:=[] }
def iJ (a0:List Int) (y3:(Int×Unit)):Option ((Int×Unit)⊕Int) :=
 cond (decide (y3.1<(a0.length:Int))) (
(atI a0 y3.1).bind fun x1 =>
 cond (!decide (x1=0)) (
 some (.inr x1)) (
 some (.inl ((IntKind.wrap .i64 (y3.1+1)),())))) (
 some (.inr 0))
def zb2 (a0:List Int):Option Int :=
 aM (iJ a0) (0,())
def pD:TFn:={ ps:=(.cons (.sl (.int .i64)) .unit),res:=(.int .i64),fn:=fun v=>zb2 v.1 }
def aj7:TEnv:=(vZ [])
theorem aj6:runY Tryz.prog adC aj8 aj7 anM Tryz.f154 pD.ps pD.res=pD.fn:=by kernel_rfl
theorem pE:aC Tryz.prog G0 154 vu:=ah (ak ⟨ay,ae,ar,ae,aq⟩ Tryz.func154 rfl (by kernel_rfl))
theorem vt:TOk vu pD:=az (E:=adC) (ET:=aj7) (EnvT.ofX (ax al) am ap aL an) aj6 rfl
def acv:Env:=(eZ [(154,vu),(156,vE)] [274])
def aiq:Hints:=(hZ [] [])
def mN:PFn:=aE (runF Tryz.prog acv aiq Tryz.f171)
def anj:TH:={ loops:=[],ro:=[2,3] }
def zbu (a0:(Int×Int×Unit)) (a1:(Int×Int×Unit)):Option Int :=
(zau a0.1 a1.1).bind fun r1 =>
(zau a0.2.1 a1.2.1).bind fun r2 =>
(zb2 ([r1,r2]:List Int)).bind fun r3 =>
 some r3
def ju:TFn:={ ps:=(.cons tT11 (.cons tT11 .unit)),res:=(.int .i64),fn:=fun v=>zbu v.1 v.2.1 }
def aip:TEnv:={ pure:=[(154,pD),(156,pI)],look:=[],glob:=G0T,ty:=[(3,(.int .i64))],raw:=[],fresh:=[] }
theorem aio:runY Tryz.prog acv aiq aip anj Tryz.f171 ju.ps ju.res=ju.fn:=by kernel_rfl
theorem gl:aC Tryz.prog G0 171 mN:=ah (ak ⟨ay,(ai pE (ai pJ ae)),ar,ae,aq⟩ Tryz.func171 rfl (by kernel_rfl))
theorem jt:TOk mN ju:=az (E:=acv) (ET:=aip) (EnvT.ofX (ax (ac vt (ac vD al))) am ap aL an) aio rfl
def aco:Env:=(eZ [(171,mN)] [274])
def aif:Hints:=(hZ [] [])
def acn:PFn:=aE (runF Tryz.prog aco aif Tryz.f193)
def ang:TH:={ loops:=[],ro:=[2,3] }
def zbx (a0:vV1) (a1:(Int×Int×Unit)):Option Int :=
(zbu a0.1 a1).bind fun r1 =>
 some r1
def uM:TFn:={ ps:=(.cons tT9 (.cons tT11 .unit)),res:=(.int .i64),fn:=fun v=>zbx v.1 v.2.1 }
def aie:TEnv:=(vZ [(171,ju)])
theorem aid:runY Tryz.prog aco aif aie ang Tryz.f193 uM.ps uM.res=uM.fn:=by kernel_rfl
theorem acm:aC Tryz.prog G0 193 acn:=ah (ak ⟨ay,(ai gl ae),ar,ae,aq⟩ Tryz.func193 rfl (by kernel_rfl))
theorem aic:TOk acn uM:=az (E:=aco) (ET:=aie) (EnvT.ofX (ax (ac jt al)) am ap aL an) aid rfl
def aeI:Env:=(eZ [(193,acn)] [274])
def alu:Hints:=(hZ [(3,[0,2,4,8,9,10])] [])
def aeH:PFn:=aE (runF Tryz.prog aeI alu Tryz.f192)
def an4:TH:={ joins:=[(8,{ keep:=[(4,(.bx 0 0)),(9,(.int .i64))],mem:=[.same] })],loops:=[(3,{ keep:=[(4,(.bx 0 0)),(9,(.int .i64)),(10,(.int .i64))],mem:=[.same] })],ro:=[4] }
def qT (a0:List vV1) (a1:(Int×Int×Unit)) (y3:(Int×Int×Unit)):Option ((Int×Int×Unit)⊕((Int×Unit)⊕(Int×Bool×Unit))) :=
 cond (decide (y3.1<y3.2.1)) (
(shrT .u64 (IntKind.wrap .u64 (IntKind.wrap .i64 (y3.1+y3.2.1))) 1).bind fun t1 =>
(atI a0 (IntKind.wrap .i64 t1)).bind fun x2 =>
(zbx x2 a1).bind fun r3 =>
 cond (decide (r3<0)) (
 some (.inl ((IntKind.wrap .i64 ((IntKind.wrap .i64 t1)+1)),y3.2.1,()))) (
 some (.inl (y3.1,(IntKind.wrap .i64 t1),())))) (
 some (.inr (.inl (y3.1,()))))
def zac (a0:List vV1) (a1:(Int×Int×Unit)) (a2:Unit):Option (Int×Bool×Unit) :=
(aM (qT a0 a1) (0,(a0.length:Int),()):Option ((Int×Unit)⊕(Int×Bool×Unit))).bind (bQ fun v4 =>
 cond (decide (v4.1<(a0.length:Int))) ((atI a0 v4.1).bind fun x5 =>
(zbx x5 a1).bind fun r6 =>
 some (v4.1,(decide (r6=0)),())) (some (v4.1,false,())))
def vN:TFn:={ ps:=(.cons (.sl tT9) (.cons tT11 (.cons (.fn 193) .unit))),res:=(.tup (.cons (.int .i64) (.cons .bool .unit))),fn:=fun v=>zac v.1 v.2.1 v.2.2.1 }
def alt:TEnv:=(vZ [(193,uM)])
theorem als:runY Tryz.prog aeI alu alt an4 Tryz.f192 vN.ps vN.res=vN.fn:=by kernel_rfl
theorem aeG:aC Tryz.prog G0 192 aeH:=ah (ak ⟨ay,(ai acm ae),ar,ae,aq⟩ Tryz.func192 rfl (by kernel_rfl))
theorem alr:TOk aeH vN:=az (E:=aeI) (ET:=alt) (EnvT.ofX (ax (ac aic al)) am ap aL an) als rfl
def acb:Env:=(eZ [(192,aeH)] [274])
def ahZ:Hints:=(hZ [] [])
def aca:PFn:=aE (runF Tryz.prog acb ahZ Tryz.f114)
def anb:TH:={ loops:=[],ro:=[3] }
def zc1 (a0:List vV1) (a1:(Int×Int×Unit)):Option Int :=
(zac a0 a1 ()).bind fun r1 =>
 cond (!r1.2.1) (
 some (-1)) (
 some r1.1)
def uI:TFn:={ ps:=(.cons (.sl tT9) (.cons tT11 .unit)),res:=(.int .i64),fn:=fun v=>zc1 v.1 v.2.1 }
def ahY:TEnv:=(vZ [(192,vN)])
theorem ahX:runY Tryz.prog acb ahZ ahY anb Tryz.f114 uI.ps uI.res=uI.fn:=by kernel_rfl
theorem ab9:aC Tryz.prog G0 114 aca:=ah (ak ⟨ay,(ai aeG ae),ar,ae,aq⟩ Tryz.func114 rfl (by kernel_rfl))
theorem ahW:TOk aca uI:=az (E:=acb) (ET:=ahY) (EnvT.ofX (ax (ac alr al)) am ap aL an) ahX rfl
def abb:Env:=(eZ [(171,mN)] [274])
def agr:Hints:=(hZ [] [])
def aba:PFn:=aE (runF Tryz.prog abb agr Tryz.f237)
def amM:TH:={ loops:=[],ro:=[2,3] }
def zct (a0:vV1) (a1:(Int×Int×Unit)):Option Int :=
(zbu a0.1 a1).bind fun r1 =>
 some r1
def tZ:TFn:={ ps:=(.cons tT9 (.cons tT11 .unit)),res:=(.int .i64),fn:=fun v=>zct v.1 v.2.1 }
def agq:TEnv:=(vZ [(171,ju)])
theorem agp:runY Tryz.prog abb agr agq amM Tryz.f237 tZ.ps tZ.res=tZ.fn:=by kernel_rfl
theorem aa9:aC Tryz.prog G0 237 aba:=ah (ak ⟨ay,(ai gl ae),ar,ae,aq⟩ Tryz.func237 rfl (by kernel_rfl))
theorem ago:TOk aba tZ:=az (E:=abb) (ET:=agq) (EnvT.ofX (ax (ac jt al)) am ap aL an) agp rfl
def ad0:Go.Shelf.Ren:=⟨fun | 41=>181 | n=>n,fun | 22=>22 | 23=>78 | 4=>4 | n=>n,fun | n=>n⟩
theorem yN:Go.Proofs.SlLaysE0.n41 Tryz.prog ad0:={
 mixed:=by kernel_rfl
 f41:=⟨Tryz.f181.name,by decide,Tryz.func181.trans (congrArg some (by kernel_rfl))⟩
 t4:=Tryz.underlying4
 a4:=Tryz.isAgg4
 z4:=Tryz.sizeOf4
 v4:=Tryz.zeroValue4
 t22:=Tryz.underlying22
 a22:=Tryz.isAgg22
 z22:=Tryz.sizeOf22
 v22:=Tryz.zeroValue22 }
def ad2:SFn:=kF 6 78
theorem ad1:cX Tryz.prog G0 181 ad2:=pn yN rfl rfl (gS (P:=Tryz.prog) (te:=78) (M:=6) (by kernel_rfl) (by kernel_rfl) (by kernel_rfl) (by kernel_rfl) (by kernel_rfl) (by kernel_rfl) (by kernel_rfl) (by kernel_rfl)) ⟨Tryz.f181,Tryz.func181,rfl,by kernel_rfl⟩
def zaq (a0:List vV1):Option (List vV1):=eH a0
def akJ:TNew:=mr 78 tT9
theorem akI:TNewOk ad2 akJ:=pr rfl rfl rfl
def ad3:Go.Shelf.Ren:=⟨fun | 22=>238 | 29=>295 | 30=>296 | n=>n,fun | 24=>22 | 9=>78 | 0=>0 | 3=>3 | 4=>4 | n=>n,fun | n=>n⟩
theorem yO:InsL Tryz.prog ad3:={
 mixed:=by kernel_rfl
 f22:=⟨Tryz.f238.name,by decide,Tryz.func238.trans (congrArg some (by kernel_rfl))⟩
 f29:=⟨Tryz.f295.name,by decide,by kernel_rfl,by kernel_rfl,Tryz.func295.trans (congrArg some (by kernel_rfl))⟩
 t0:=Tryz.underlying0
 a0:=Tryz.isAgg0
 z0:=Tryz.sizeOf0
 v0:=Tryz.zeroValue0
 t3:=Tryz.underlying3
 a3:=Tryz.isAgg3
 z3:=Tryz.sizeOf3
 v3:=Tryz.zeroValue3
 t4:=Tryz.underlying4
 a4:=Tryz.isAgg4
 z4:=Tryz.sizeOf4
 v4:=Tryz.zeroValue4
 t24:=Tryz.underlying22
 a24:=Tryz.isAgg22
 z24:=Tryz.sizeOf22
 v24:=Tryz.zeroValue22 }
def ad5:SFn:=dX 6 78
theorem ad4:cX Tryz.prog G0 238 ad5:=md yO rfl rfl rfl (gS (P:=Tryz.prog) (te:=78) (M:=6) (by kernel_rfl) (by kernel_rfl) (by kernel_rfl) (by kernel_rfl) (by kernel_rfl) (by kernel_rfl) (by kernel_rfl) (by kernel_rfl)) true Tryz.isAgg78 ⟨Tryz.f238,Tryz.func238,rfl,by kernel_rfl⟩
def zap (a1:Int) (a2:List vV1) (w0:List vV1):Option (Unit×List vV1×Unit):=(insT w0 a1 a2).map fun l=>((),(l,()))
def akL:TRaw:=insR false 78 tT9
theorem akK:TRawOk ad5 akL:=xy rfl rfl rfl rfl (by decide)
def aeF:Env:=(eZ [(237,aba)] [274])
def alq:Hints:=(hZ [(3,[0,2,4,8,9,10])] [])
def aeE:PFn:=aE (runF Tryz.prog aeF alq Tryz.f192)
def an3:TH:={ joins:=[(8,{ keep:=[(4,(.bx 0 0)),(9,(.int .i64))],mem:=[.same] })],loops:=[(3,{ keep:=[(4,(.bx 0 0)),(9,(.int .i64)),(10,(.int .i64))],mem:=[.same] })],ro:=[4] }
def qS (a0:List vV1) (a1:(Int×Int×Unit)) (y3:(Int×Int×Unit)):Option ((Int×Int×Unit)⊕((Int×Unit)⊕(Int×Bool×Unit))) :=
 cond (decide (y3.1<y3.2.1)) (
(shrT .u64 (IntKind.wrap .u64 (IntKind.wrap .i64 (y3.1+y3.2.1))) 1).bind fun t1 =>
(atI a0 (IntKind.wrap .i64 t1)).bind fun x2 =>
(zct x2 a1).bind fun r3 =>
 cond (decide (r3<0)) (
 some (.inl ((IntKind.wrap .i64 ((IntKind.wrap .i64 t1)+1)),y3.2.1,()))) (
 some (.inl (y3.1,(IntKind.wrap .i64 t1),())))) (
 some (.inr (.inl (y3.1,()))))
def zad (a0:List vV1) (a1:(Int×Int×Unit)) (a2:Unit):Option (Int×Bool×Unit) :=
(aM (qS a0 a1) (0,(a0.length:Int),()):Option ((Int×Unit)⊕(Int×Bool×Unit))).bind (bQ fun v4 =>
 cond (decide (v4.1<(a0.length:Int))) ((atI a0 v4.1).bind fun x5 =>
(zct x5 a1).bind fun r6 =>
 some (v4.1,(decide (r6=0)),())) (some (v4.1,false,())))
def vM:TFn:={ ps:=(.cons (.sl tT9) (.cons tT11 (.cons (.fn 237) .unit))),res:=(.tup (.cons (.int .i64) (.cons .bool .unit))),fn:=fun v=>zad v.1 v.2.1 v.2.2.1 }
def alp:TEnv:=(vZ [(237,tZ)])
theorem alo:runY Tryz.prog aeF alq alp an3 Tryz.f192 vM.ps vM.res=vM.fn:=by kernel_rfl
theorem aeD:aC Tryz.prog G0 192 aeE:=ah (ak ⟨ay,(ai aa9 ae),ar,ae,aq⟩ Tryz.func192 rfl (by kernel_rfl))
theorem aln:TOk aeE vM:=az (E:=aeF) (ET:=alp) (EnvT.ofX (ax (ac ago al)) am ap aL an) alo rfl
def abY:Env:={ pure:=[(192,aeE)],raw:=[(181,ad2),(238,ad5)],glob:=G0,same:=[274],look:=[],ext:=[] }
def ahF:Hints:={ seqs:=[],loops:=[],own:=[19],frz:=[(4,[3])] }
def abX:PFn:=aE (runF Tryz.prog abY ahF Tryz.f169)
def am6:TH:=yZ
def zc6 (a0:List vV1) (a1:vV1):Option (List vV1) :=
(zad a0 a1.1 ()).bind fun r1 =>
 cond r1.2.1 (
 some a0) (
(zaq a0).bind fun n2 =>
(zap r1.1 ([a1]:List vV1) n2).bind fun q3 =>
 some q3.2.1)
def uD:TFn:={ ps:=(.cons (.sl tT9) (.cons tT9 .unit)),res:=(.sl tT9),fn:=fun v=>zc6 v.1 v.2.1 }
def ahE:TEnv:={ pure:=[(192,vM)],look:=[],glob:=G0T,ty:=[(78,tT9)],raw:=[(238,akL)],fresh:=[(181,akJ)] }
theorem ahD:runY Tryz.prog abY ahF ahE am6 Tryz.f169 uD.ps uD.res=uD.fn:=by kernel_rfl
theorem abW:aC Tryz.prog G0 169 abX:=ah (ak ⟨ay,(ai aeD ae),(fA ad1 (fA ad4 ar)),ae,aq⟩ Tryz.func169 rfl (by kernel_rfl))
theorem ahC:TOk abX uD:=az (E:=abY) (ET:=ahE) (EnvT.ofX (ax (ac aln al)) am (jT (oC akK rfl rfl ap) rfl) aL (j5 akI rfl rfl rfl an)) ahD rfl
def aa8:Env:=(eZ [] [274])
def agn:Hints:=(hZ [] [])
def mM:PFn:=aE (runF Tryz.prog aa8 agn Tryz.f173)
def amL:TH:={ loops:=[],ro:=[1] }
def zcu (a0:(Int×Int×Unit)):Option Bool :=
 cond (decide (a0.1≥0)) (cond (decide (a0.1<16)) (cond (decide (a0.2.1≥1)) (some (decide (a0.2.1≤1048576))) (some false)) (some false)) (some false)
def js:TFn:={ ps:=(.cons tT11 .unit),res:=.bool,fn:=fun v=>zcu v.1 }
def agm:TEnv:=(vZ [])
theorem agl:runY Tryz.prog aa8 agn agm amL Tryz.f173 js.ps js.res=js.fn:=by kernel_rfl
theorem gk:aC Tryz.prog G0 173 mM:=ah (ak ⟨ay,ae,ar,ae,aq⟩ Tryz.func173 rfl (by kernel_rfl))
theorem jr:TOk mM js:=az (E:=aa8) (ET:=agm) (EnvT.ofX (ax al) am ap aL an) agl rfl
def ab7:Env:=(eZ [(173,mM)] [274])
def ahS:Hints:=(hZ [] [])
def ab6:PFn:=aE (runF Tryz.prog ab7 ahS Tryz.f194)
def am9:TH:={ loops:=[],ro:=[3] }
def zc3 (a0:List Int) (a1:(Int×Int×Unit)):Option Bool :=
(zcu a1).bind fun r1 =>
 cond r1 ((inI 16 a1.1).bind fun i2 =>
(a0[i2]?).bind fun x3 =>
 some (decide (a1.2.1≤x3))) (some false)
def uG:TFn:={ ps:=(.cons (.arr 16 (.int .i64)) (.cons tT11 .unit)),res:=.bool,fn:=fun v=>zc3 v.1 v.2.1 }
def ahR:TEnv:=(vZ [(173,js)])
theorem ahQ:runY Tryz.prog ab7 ahS ahR am9 Tryz.f194 uG.ps uG.res=uG.fn:=by kernel_rfl
theorem ab5:aC Tryz.prog G0 194 ab6:=ah (ak ⟨ay,(ai gk ae),ar,ae,aq⟩ Tryz.func194 rfl (by kernel_rfl))
theorem ahP:TOk ab6 uG:=az (E:=ab7) (ET:=ahR) (EnvT.ofX (ax (ac jr al)) am ap aL an) ahQ rfl
def aeJ:Env:=(eZ [(171,mN)] [274])
def alx:Hints:=(hZ [(3,[0,2,4,8,9,10])] [])
def yT:PFn:=aE (runF Tryz.prog aeJ alx Tryz.f195)
def an5:TH:={ joins:=[(8,{ keep:=[(4,(.bx 0 0)),(9,(.int .i64))],mem:=[.same] })],loops:=[(3,{ keep:=[(4,(.bx 0 0)),(9,(.int .i64)),(10,(.int .i64))],mem:=[.same] })],ro:=[4] }
def qU (a0:List (Int×Int×Unit)) (a1:(Int×Int×Unit)) (y3:(Int×Int×Unit)):Option ((Int×Int×Unit)⊕((Int×Unit)⊕(Int×Bool×Unit))) :=
 cond (decide (y3.1<y3.2.1)) (
(shrT .u64 (IntKind.wrap .u64 (IntKind.wrap .i64 (y3.1+y3.2.1))) 1).bind fun t1 =>
(atI a0 (IntKind.wrap .i64 t1)).bind fun x2 =>
(zbu x2 a1).bind fun r3 =>
 cond (decide (r3<0)) (
 some (.inl ((IntKind.wrap .i64 ((IntKind.wrap .i64 t1)+1)),y3.2.1,()))) (
 some (.inl (y3.1,(IntKind.wrap .i64 t1),())))) (
 some (.inr (.inl (y3.1,()))))
def zab (a0:List (Int×Int×Unit)) (a1:(Int×Int×Unit)) (a2:Unit):Option (Int×Bool×Unit) :=
(aM (qU a0 a1) (0,(a0.length:Int),()):Option ((Int×Unit)⊕(Int×Bool×Unit))).bind (bQ fun v4 =>
 cond (decide (v4.1<(a0.length:Int))) ((atI a0 v4.1).bind fun x5 =>
(zbu x5 a1).bind fun r6 =>
 some (v4.1,(decide (r6=0)),())) (some (v4.1,false,())))
def sK:TFn:={ ps:=(.cons (.sl tT11) (.cons tT11 (.cons (.fn 171) .unit))),res:=(.tup (.cons (.int .i64) (.cons .bool .unit))),fn:=fun v=>zab v.1 v.2.1 v.2.2.1 }
def alw:TEnv:=(vZ [(171,ju)])
theorem alv:runY Tryz.prog aeJ alx alw an5 Tryz.f195 sK.ps sK.res=sK.fn:=by kernel_rfl
theorem vO:aC Tryz.prog G0 195 yT:=ah (ak ⟨ay,(ai gl ae),ar,ae,aq⟩ Tryz.func195 rfl (by kernel_rfl))
theorem aay:TOk yT sK:=az (E:=aeJ) (ET:=alw) (EnvT.ofX (ax (ac jt al)) am ap aL an) alv rfl
def ab8:Env:=(eZ [(194,ab6),(195,yT)] [274])
def ahV:Hints:=(hZ [] [])
def yE:PFn:=aE (runF Tryz.prog ab8 ahV Tryz.f115)
def ana:TH:={ loops:=[],ro:=[2,3] }
def zc2 (a0:vV4) (a1:(Int×Int×Unit)):Option Bool :=
(zc3 a0.1 a1).bind fun r1 =>
 cond r1 (
 some true) (
(zab a0.2.1 a1 ()).bind fun r2 =>
 some r2.2.1)
def sD:TFn:={ ps:=(.cons tT14 (.cons tT11 .unit)),res:=.bool,fn:=fun v=>zc2 v.1 v.2.1 }
def ahU:TEnv:=(vZ [(194,uG),(195,sK)])
theorem ahT:runY Tryz.prog ab8 ahV ahU ana Tryz.f115 sD.ps sD.res=sD.fn:=by kernel_rfl
theorem uH:aC Tryz.prog G0 115 yE:=ah (ak ⟨ay,(ai ab5 (ai vO ae)),ar,ae,aq⟩ Tryz.func115 rfl (by kernel_rfl))
theorem aap:TOk yE sD:=az (E:=ab8) (ET:=ahU) (EnvT.ofX (ax (ac ahP (ac aay al))) am ap aL an) ahT rfl
def adY:Go.Shelf.Ren:=⟨fun | 41=>180 | n=>n,fun | 22=>64 | 23=>72 | 4=>4 | n=>n,fun | n=>n⟩
theorem yL:Go.Proofs.SlLaysE0.n41 Tryz.prog adY:={
 mixed:=by kernel_rfl
 f41:=⟨Tryz.f180.name,by decide,Tryz.func180.trans (congrArg some (by kernel_rfl))⟩
 t4:=Tryz.underlying4
 a4:=Tryz.isAgg4
 z4:=Tryz.sizeOf4
 v4:=Tryz.zeroValue4
 t22:=Tryz.underlying64
 a22:=Tryz.isAgg64
 z22:=Tryz.sizeOf64
 v22:=Tryz.zeroValue64 }
def yM:SFn:=kF 2 72
theorem vF:cX Tryz.prog G0 180 yM:=pn yL rfl rfl (gS (P:=Tryz.prog) (te:=72) (M:=2) (by kernel_rfl) (by kernel_rfl) (by kernel_rfl) (by kernel_rfl) (by kernel_rfl) (by kernel_rfl) (by kernel_rfl) (by kernel_rfl)) ⟨Tryz.f180,Tryz.func180,rfl,by kernel_rfl⟩
def zar (a0:List (Int×Int×Unit)):Option (List (Int×Int×Unit)):=eH a0
def adZ:TNew:=mr 72 tT11
theorem aax:TNewOk yM adZ:=pr rfl rfl rfl
def ad6:Go.Shelf.Ren:=⟨fun | 22=>239 | 29=>297 | 30=>298 | n=>n,fun | 24=>64 | 9=>72 | 0=>0 | 3=>3 | 4=>4 | n=>n,fun | n=>n⟩
theorem yP:InsL Tryz.prog ad6:={
 mixed:=by kernel_rfl
 f22:=⟨Tryz.f239.name,by decide,Tryz.func239.trans (congrArg some (by kernel_rfl))⟩
 f29:=⟨Tryz.f297.name,by decide,by kernel_rfl,by kernel_rfl,Tryz.func297.trans (congrArg some (by kernel_rfl))⟩
 t0:=Tryz.underlying0
 a0:=Tryz.isAgg0
 z0:=Tryz.sizeOf0
 v0:=Tryz.zeroValue0
 t3:=Tryz.underlying3
 a3:=Tryz.isAgg3
 z3:=Tryz.sizeOf3
 v3:=Tryz.zeroValue3
 t4:=Tryz.underlying4
 a4:=Tryz.isAgg4
 z4:=Tryz.sizeOf4
 v4:=Tryz.zeroValue4
 t24:=Tryz.underlying64
 a24:=Tryz.isAgg64
 z24:=Tryz.sizeOf64
 v24:=Tryz.zeroValue64 }
def ad8:SFn:=dX 2 72
theorem ad7:cX Tryz.prog G0 239 ad8:=md yP rfl rfl rfl (gS (P:=Tryz.prog) (te:=72) (M:=2) (by kernel_rfl) (by kernel_rfl) (by kernel_rfl) (by kernel_rfl) (by kernel_rfl) (by kernel_rfl) (by kernel_rfl) (by kernel_rfl)) true Tryz.isAgg72 ⟨Tryz.f239,Tryz.func239,rfl,by kernel_rfl⟩
def zao (a1:Int) (a2:List (Int×Int×Unit)) (w0:List (Int×Int×Unit)):Option (Unit×List (Int×Int×Unit)×Unit):=(insT w0 a1 a2).map fun l=>((),(l,()))
def anW:TRaw:=insR false 72 tT11
theorem akM:TRawOk ad8 anW:=xy rfl rfl rfl rfl (by decide)
def abq:Env:=(eZ [] [274])
def agN:Hints:=(hZ [(3,[4,5,10,11,12])] [])
def abp:PFn:=aE (runF Tryz.prog abq agN Tryz.f188)
def amS:TH:={ loops:=[(3,{ keep:=[(4,(.bx 1 0)),(5,(.bx 2 0)),(12,(.int .i64))],mem:=[.same,.box 66 tT17,.box 66 (.agg (.cons (.arr 16 (.int .i64)) (.cons (.own 4) .unit))),.gone,.row true 72 tT11] })],ro:=[2] }
def qD (a1:List (Int×Int×Unit)) (y3:(Int×vV7×vV7×List (Int×Int×Unit)×Unit)):Option ((Int×vV7×vV7×List (Int×Int×Unit)×Unit)⊕vV4) :=
 cond (decide (y3.1<(a1.length:Int))) (
(atI a1 y3.1).bind fun x1 =>
(inI 16 x1.1).bind fun i2 =>
(y3.2.2.1.1[i2]?).bind fun x3 =>
 cond (decide (x1.2.1≤x3)) (
 some (.inl ((IntKind.wrap .i64 (y3.1+1)),y3.2.1,y3.2.2.1,y3.2.2.2.1,()))) (
(inI 16 x1.1).bind fun i4 =>
(y3.2.2.1.1[i4]?).bind fun x5 =>
 cond (decide (x1.2.1=(IntKind.wrap .i64 (x5+1)))) (
(inI 16 x1.1).bind fun i6 =>
(y3.2.2.1.1[i6]?).bind fun x7 =>
 some (.inl ((IntKind.wrap .i64 (y3.1+1)),y3.2.1,((y3.2.2.1.1.set i6 x1.2.1),y3.2.2.1.2.1,()),y3.2.2.2.1,()))) (
 cond (decide ((y3.2.2.2.1.length:Int)=0)) ((dP (y3.2.2.2.1.length+([x1]:List (Int×Int×Unit)).length)).bind fun u8 =>
 some (.inl ((IntKind.wrap .i64 (y3.1+1)),y3.2.1,(y3.2.2.1.1,(),()),(y3.2.2.2.1++([x1]:List (Int×Int×Unit))),()))) ((inI y3.2.2.2.1.length (IntKind.wrap .i64 ((y3.2.2.2.1.length:Int)-1))).bind fun i9 =>
(y3.2.2.2.1[i9]?).bind fun x10 =>
 cond (!(eqV tT11 x10 x1)) (
(dP (y3.2.2.2.1.length+([x1]:List (Int×Int×Unit)).length)).bind fun u11 =>
 some (.inl ((IntKind.wrap .i64 (y3.1+1)),y3.2.1,(y3.2.2.1.1,(),()),(y3.2.2.2.1++([x1]:List (Int×Int×Unit))),()))) (
 some (.inl ((IntKind.wrap .i64 (y3.1+1)),y3.2.1,y3.2.2.1,y3.2.2.2.1,()))))))) (
 some (.inr (y3.2.2.1.1,y3.2.2.2.1,())))
def zcn (a0:List Int) (a1:List (Int×Int×Unit)):Option vV4 :=
 aM (qD a1) (0,([0,0,0,0,0,0,0,0,0,0,0,0,0,0,0,0],(),()),(a0,(),()),[],())
def uh:TFn:={ ps:=(.cons (.arr 16 (.int .i64)) (.cons (.sl tT11) .unit)),res:=tT14,fn:=fun v=>zcn v.1 v.2.1 }
def agM:TEnv:={ pure:=[],look:=[],glob:=G0T,ty:=[(72,tT11)],raw:=[],fresh:=[] }
theorem agL:runY Tryz.prog abq agN agM amS Tryz.f188 uh.ps uh.res=uh.fn:=by kernel_rfl
theorem abo:aC Tryz.prog G0 188 abp:=ah (ak ⟨ay,ae,ar,ae,aq⟩ Tryz.func188 rfl (by kernel_rfl))
theorem agK:TOk abp uh:=az (E:=abq) (ET:=agM) (EnvT.ofX (ax al) am ap aL an) agL rfl
def aej:SFn:=p9 ad8
theorem aei:cX Tryz.prog G0 239 aej:=p8 ad7
def zak (a1:Int) (a2:List (Int×Int×Unit)) (w0:List (Int×Int×Unit)):Option (List (Int×Int×Unit)×Unit):=(zao a1 a2 w0).map fun q=>(q.2.1,())
def akU:TRaw:={ ps:=(.cons (.own 0) (.cons (.int .i64) (.cons (.sl tT11) .unit))),ins:=[.row false 72 tT11],res:=(.sl tT11),outs:=[.gone],fn:=fun v w=>zak v.2.1 v.2.2.1 w.1 }
theorem akT:TRawOk aej akU:=zY akM
def aaX:Env:={ pure:=[(115,yE),(173,mM),(188,abp),(195,yT)],raw:=[(180,yM),(239,aej)],glob:=G0,same:=[274],look:=[],ext:=[] }
def af4:Hints:={ seqs:=[],loops:=[],own:=[24,26,29],frz:=[(4,[2,3])] }
def aaW:PFn:=aE (runF Tryz.prog aaX af4 Tryz.f170)
def amG:TH:=yZ
def zcz (a0:vV4) (a1:(Int×Int×Unit)):Option vV4 :=
(zcu a1).bind fun r1 =>
 cond (!r1) (some a0) ((zc2 a0 a1).bind fun r2 =>
 cond r2 (
 some a0) (
(zab a0.2.1 a1 ()).bind fun r3 =>
(zar a0.2.1).bind fun n4 =>
(zak r3.1 ([a1]:List (Int×Int×Unit)) n4).bind fun q5 =>
(zcn a0.1 q5.1).bind fun r6 =>
 some r6))
def tU:TFn:={ ps:=(.cons tT14 (.cons tT11 .unit)),res:=tT14,fn:=fun v=>zcz v.1 v.2.1 }
def af3:TEnv:={ pure:=[(115,sD),(173,js),(188,uh),(195,sK)],look:=[],glob:=G0T,ty:=[(72,tT11)],raw:=[(239,akU)],fresh:=[(180,adZ)] }
theorem af2:runY Tryz.prog aaX af4 af3 amG Tryz.f170 tU.ps tU.res=tU.fn:=by kernel_rfl
theorem aaV:aC Tryz.prog G0 170 aaW:=ah (ak ⟨ay,(ai uH (ai gk (ai abo (ai vO ae)))),(fA vF (fA aei ar)),ae,aq⟩ Tryz.func170 rfl (by kernel_rfl))
theorem af1:TOk aaW tU:=az (E:=aaX) (ET:=af3) (EnvT.ofX (ax (ac aap (ac jr (ac agK (ac aay al))))) am (jT (oC akT rfl rfl ap) rfl) aL (j5 aax rfl rfl rfl an)) af2 rfl
def aa7:Env:=(eZ [(114,aca),(169,abX),(170,aaW)] [274])
def agk:Hints:=(hZ [] [])
def yx:PFn:=aE (runF Tryz.prog aa7 agk Tryz.f97)
def amK:TH:={ loops:=[],ro:=[3] }
def zcv (a0:vV0) (a1:vV1):Option vV0 :=
(zc1 a0.1 a1.1).bind fun r1 =>
 cond (decide (r1≥0)) (
 some a0) (
(zc6 a0.1 a1).bind fun r2 =>
(zcz a0.2.2.1 a1.1).bind fun r3 =>
 some (r2,a0.2.1,r3,a0.2.2.2.1,a0.2.2.2.2.1,()))
def sv:TFn:={ ps:=(.cons tT10 (.cons tT9 .unit)),res:=tT10,fn:=fun v=>zcv v.1 v.2.1 }
def agj:TEnv:=(vZ [(114,uI),(169,uD),(170,tU)])
theorem agi:runY Tryz.prog aa7 agk agj amK Tryz.f97 sv.ps sv.res=sv.fn:=by kernel_rfl
theorem tY:aC Tryz.prog G0 97 yx:=ah (ak ⟨ay,(ai ab9 (ai abW (ai aaV ae))),ar,ae,aq⟩ Tryz.func97 rfl (by kernel_rfl))
theorem aai:TOk yx sv:=az (E:=aa7) (ET:=agj) (EnvT.ofX (ax (ac ahW (ac ahC (ac af1 al)))) am ap aL an) agi rfl
def adN:Env:=(eZ [(171,mN)] [274])
def akq:Hints:=(hZ [] [])
def vA:PFn:=aE (runF Tryz.prog adN akq Tryz.f242)
def anR:TH:={ loops:=[],ro:=[2,3] }
def zax (a0:vV2) (a1:vV2):Option Int :=
(zbu a0.1 a1.1).bind fun r1 =>
 some r1
def pG:TFn:={ ps:=(.cons tT12 (.cons tT12 .unit)),res:=(.int .i64),fn:=fun v=>zax v.1 v.2.1 }
def akp:TEnv:=(vZ [(171,ju)])
theorem ako:runY Tryz.prog adN akq akp anR Tryz.f242 pG.ps pG.res=pG.fn:=by kernel_rfl
theorem pH:aC Tryz.prog G0 242 vA:=ah (ak ⟨ay,(ai gl ae),ar,ae,aq⟩ Tryz.func242 rfl (by kernel_rfl))
theorem vz:TOk vA pG:=az (E:=adN) (ET:=akp) (EnvT.ofX (ax (ac jt al)) am ap aL an) ako rfl
def aeM:Env:=(eZ [(242,vA)] [274])
def alB:Hints:=(hZ [(3,[0,2,4,8,9,10])] [])
def aeL:PFn:=aE (runF Tryz.prog aeM alB Tryz.f284)
def an6:TH:={ joins:=[(8,{ keep:=[(4,(.bx 0 0)),(9,(.int .i64))],mem:=[.same] })],loops:=[(3,{ keep:=[(4,(.bx 0 0)),(9,(.int .i64)),(10,(.int .i64))],mem:=[.same] })],ro:=[4] }
def lr (a0:List vV2) (a1:vV2) (y3:(Int×Int×Unit)):Option ((Int×Int×Unit)⊕((Int×Unit)⊕(Int×Bool×Unit))) :=
 cond (decide (y3.1<y3.2.1)) (
(shrT .u64 (IntKind.wrap .u64 (IntKind.wrap .i64 (y3.1+y3.2.1))) 1).bind fun t1 =>
(atI a0 (IntKind.wrap .i64 t1)).bind fun x2 =>
(zax x2 a1).bind fun r3 =>
 cond (decide (r3<0)) (
 some (.inl ((IntKind.wrap .i64 ((IntKind.wrap .i64 t1)+1)),y3.2.1,()))) (
 some (.inl (y3.1,(IntKind.wrap .i64 t1),())))) (
 some (.inr (.inl (y3.1,()))))
def zaa (a0:List vV2) (a1:vV2) (a2:Unit):Option (Int×Bool×Unit) :=
(aM (lr a0 a1) (0,(a0.length:Int),()):Option ((Int×Unit)⊕(Int×Bool×Unit))).bind (bQ fun v4 =>
 cond (decide (v4.1<(a0.length:Int))) ((atI a0 v4.1).bind fun x5 =>
(zax x5 a1).bind fun r6 =>
 some (v4.1,(decide (r6=0)),())) (some (v4.1,false,())))
def vP:TFn:={ ps:=(.cons (.sl tT12) (.cons tT12 (.cons (.fn 242) .unit))),res:=(.tup (.cons (.int .i64) (.cons .bool .unit))),fn:=fun v=>zaa v.1 v.2.1 v.2.2.1 }
def alA:TEnv:=(vZ [(242,pG)])
theorem alz:runY Tryz.prog aeM alB alA an6 Tryz.f284 vP.ps vP.res=vP.fn:=by kernel_rfl
theorem aeK:aC Tryz.prog G0 284 aeL:=ah (ak ⟨ay,(ai pH ae),ar,ae,aq⟩ Tryz.func284 rfl (by kernel_rfl))
theorem aly:TOk aeL vP:=az (E:=aeM) (ET:=alA) (EnvT.ofX (ax (ac vz al)) am ap aL an) alz rfl
def aa6:Env:=(eZ [(284,aeL)] [274])
def agh:Hints:=(hZ [] [])
def aa5:PFn:=aE (runF Tryz.prog aa6 agh Tryz.f217)
def amJ:TH:={ loops:=[],ro:=[3] }
def zcw (a0:List vV2) (a1:(Int×Int×Unit)):Option (Int×Bool×Unit) :=
(zaa a0 (a1,0,()) ()).bind fun r1 =>
 some (r1.1,r1.2.1,())
def tX:TFn:={ ps:=(.cons (.sl tT12) (.cons tT11 .unit)),res:=(.tup (.cons (.int .i64) (.cons .bool .unit))),fn:=fun v=>zcw v.1 v.2.1 }
def agf:TEnv:=(vZ [(284,vP)])
theorem age:runY Tryz.prog aa6 agh agf amJ Tryz.f217 tX.ps tX.res=tX.fn:=by kernel_rfl
theorem aa4:aC Tryz.prog G0 217 aa5:=ah (ak ⟨ay,(ai aeK ae),ar,ae,aq⟩ Tryz.func217 rfl (by kernel_rfl))
theorem agd:TOk aa5 tX:=az (E:=aa6) (ET:=agf) (EnvT.ofX (ax (ac aly al)) am ap aL an) age rfl
def abG:Env:=(eZ [(217,aa5)] [274])
def ahb:Hints:=(hZ [] [])
def yA:PFn:=aE (runF Tryz.prog abG ahb Tryz.f145)
def amY:TH:={ loops:=[],ro:=[3] }
def zch (a0:List vV2) (a1:(Int×Int×Unit)):Option Int :=
(zcw a0 a1).bind fun r1 =>
 cond r1.2.1 (
(atI a0 r1.1).bind fun x2 =>
 some x2.2.1) (
 some 0)
def sy:TFn:={ ps:=(.cons (.sl tT12) (.cons tT11 .unit)),res:=(.int .i64),fn:=fun v=>zch v.1 v.2.1 }
def aha:TEnv:=(vZ [(217,tX)])
theorem ag9:runY Tryz.prog abG ahb aha amY Tryz.f145 sy.ps sy.res=sy.fn:=by kernel_rfl
theorem ur:aC Tryz.prog G0 145 yA:=ah (ak ⟨ay,(ai aa4 ae),ar,ae,aq⟩ Tryz.func145 rfl (by kernel_rfl))
theorem aal:TOk yA sy:=az (E:=abG) (ET:=aha) (EnvT.ofX (ax (ac agd al)) am ap aL an) ag9 rfl
def abV:Env:=(eZ [(145,yA)] [274])
def ahB:Hints:=(hZ [] [])
def yD:PFn:=aE (runF Tryz.prog abV ahB Tryz.f75)
def am5:TH:={ loops:=[],ro:=[3] }
def zca (a0:List vV2) (a1:(Int×Int×Unit)):Option Bool :=
(zch a0 a1).bind fun r1 =>
(remT r1 2).bind fun t2 =>
 some (decide (t2=0))
def sC:TFn:={ ps:=(.cons (.sl tT12) (.cons tT11 .unit)),res:=.bool,fn:=fun v=>zca v.1 v.2.1 }
def ahA:TEnv:=(vZ [(145,sy)])
theorem ahz:runY Tryz.prog abV ahB ahA am5 Tryz.f75 sC.ps sC.res=sC.fn:=by kernel_rfl
theorem uC:aC Tryz.prog G0 75 yD:=ah (ak ⟨ay,(ai ur ae),ar,ae,aq⟩ Tryz.func75 rfl (by kernel_rfl))
theorem aao:TOk yD sC:=az (E:=abV) (ET:=ahA) (EnvT.ofX (ax (ac aal al)) am ap aL an) ahz rfl
def acE:Env:=(eZ [(154,vu),(156,vE),(171,mN)] [274])
def aiC:Hints:=(hZ [] [])
def acD:PFn:=aE (runF Tryz.prog acE aiC Tryz.f99)
def anm:TH:={ loops:=[],ro:=[2,3] }
def zbr (a0:vV1) (a1:vV1):Option Int :=
(zau a0.2.2.1 a1.2.2.1).bind fun r1 =>
(zbu a0.1 a1.1).bind fun r2 =>
(zb2 ([r1,r2]:List Int)).bind fun r3 =>
 some r3
def uR:TFn:={ ps:=(.cons tT9 (.cons tT9 .unit)),res:=(.int .i64),fn:=fun v=>zbr v.1 v.2.1 }
def aiB:TEnv:={ pure:=[(154,pD),(156,pI),(171,ju)],look:=[],glob:=G0T,ty:=[(3,(.int .i64))],raw:=[],fresh:=[] }
theorem aiA:runY Tryz.prog acE aiC aiB anm Tryz.f99 uR.ps uR.res=uR.fn:=by kernel_rfl
theorem acC:aC Tryz.prog G0 99 acD:=ah (ak ⟨ay,(ai pE (ai pJ (ai gl ae))),ar,ae,aq⟩ Tryz.func99 rfl (by kernel_rfl))
theorem aiz:TOk acD uR:=az (E:=acE) (ET:=aiB) (EnvT.ofX (ax (ac vt (ac vD (ac jt al)))) am ap aL an) aiA rfl
def acP:Env:=(eZ [(145,yA),(173,mM)] [274])
def aiU:Hints:=(hZ [] [])
def yF:PFn:=aE (runF Tryz.prog acP aiU Tryz.f102)
def anr:TH:={ loops:=[],ro:=[3] }
def zbm (a0:List vV2) (a1:(Int×Int×Unit)):Option (vV2×Int×Unit) :=
(zch a0 a1).bind fun r1 =>
(zcu a1).bind fun r2 =>
 cond (!r2) (
 some (((0,0,()),0,()),2,())) (
 cond (decide (r1≥64)) (
 some (((0,0,()),0,()),14,())) (
 some ((a1,(IntKind.wrap .i64 (r1+1)),()),0,())))
def sE:TFn:={ ps:=(.cons (.sl tT12) (.cons tT11 .unit)),res:=(.tup (.cons tT12 tT18)),fn:=fun v=>zbm v.1 v.2.1 }
def aiT:TEnv:=(vZ [(145,sy),(173,js)])
theorem aiS:runY Tryz.prog acP aiU aiT anr Tryz.f102 sE.ps sE.res=sE.fn:=by kernel_rfl
theorem uV:aC Tryz.prog G0 102 yF:=ah (ak ⟨ay,(ai ur (ai gk ae)),ar,ae,aq⟩ Tryz.func102 rfl (by kernel_rfl))
theorem aar:TOk yF sE:=az (E:=acP) (ET:=aiT) (EnvT.ofX (ax (ac aal (ac jr al))) am ap aL an) aiS rfl
def abn:Env:=(eZ [(102,yF),(115,yE)] [274])
def agJ:Hints:=(hZ [] [])
def yz:PFn:=aE (runF Tryz.prog abn agJ Tryz.f100)
def amR:TH:={ loops:=[],ro:=[2,3] }
def zco (a0:vV0) (a1:(Int×Int×Unit)):Option Int :=
(zc2 a0.2.2.2.1 a1).bind fun r1 =>
 cond r1 (
 some 13) (
(zbm a0.2.1 a1).bind fun r2 =>
 some r2.2.1)
def sx:TFn:={ ps:=(.cons tT10 (.cons tT11 .unit)),res:=(.int .i64),fn:=fun v=>zco v.1 v.2.1 }
def agI:TEnv:=(vZ [(102,sE),(115,sD)])
theorem agH:runY Tryz.prog abn agJ agI amR Tryz.f100 sx.ps sx.res=sx.fn:=by kernel_rfl
theorem ug:aC Tryz.prog G0 100 yz:=ah (ak ⟨ay,(ai uV (ai uH ae)),ar,ae,aq⟩ Tryz.func100 rfl (by kernel_rfl))
theorem aak:TOk yz sx:=az (E:=abn) (ET:=agI) (EnvT.ofX (ax (ac aar (ac aap al))) am ap aL an) agH rfl
def abR:Env:=(eZ [(75,yD),(99,acD),(100,yz)] [274])
def ahu:Hints:=(hZ [(3,[1,2,4,6,12,13])] [])
def yC:PFn:=aE (runF Tryz.prog abR ahu Tryz.f35)
def am3:TH:={ joins:=[(9,{ keep:=[(2,(.bx 0 0)),(4,(.bx 1 0)),(6,(.orp tT9 0))],mem:=[.same,.box 72 tT11] })],loops:=[(3,{ keep:=[(2,(.bx 0 0)),(4,(.bx 1 0)),(6,(.orp tT9 0)),(13,(.int .i64))],mem:=[.same,.box 72 tT11] })],cuts:=[(6,[(15,{ keep:=[(2,(.bx 0 0)),(4,(.bx 1 0)),(34,.bool)],mem:=[.same,.box 72 tT11] })])],ro:=[2],news:=[] }
def qG (a0:vV0) (a1:Int) (y3:(Option vV1×Int×(Int×Int×Unit)×Unit)):Option ((Option vV1×Int×(Int×Int×Unit)×Unit)⊕((Option vV1×(Int×Int×Unit)×Unit)⊕vV2)) :=
 cond (decide (y3.2.1<(a0.1.length:Int))) (
(atI a0.1 y3.2.1).bind fun x1 =>
(cond (decide (x1.2.1=a1)) ((zca a0.2.1 x1.1).bind fun r2 =>
 some (r2,y3.2.2.1,())) (some (false,y3.2.2.1,())):Option (Bool×(Int×Int×Unit)×Unit)).bind fun v3 =>
 cond v3.1 (cond (y3.1.isNone) (some (.inl ((some x1),(IntKind.wrap .i64 (y3.2.1+1)),v3.2.1,()))) ((y3.1).bind fun x4 =>
(zbr x4 x1).bind fun r5 =>
 cond (decide (r5<0)) (
 some (.inl ((some x1),(IntKind.wrap .i64 (y3.2.1+1)),v3.2.1,()))) (
 some (.inl (y3.1,(IntKind.wrap .i64 (y3.2.1+1)),v3.2.1,()))))) (some (.inl (y3.1,(IntKind.wrap .i64 (y3.2.1+1)),v3.2.1,())))) (
 some (.inr (.inl (y3.1,y3.2.2.1,()))))
def zcc (a0:vV0) (a1:Int):Option vV2 :=
(aM (qG a0 a1) (none,0,(0,0,()),()):Option ((Option vV1×(Int×Int×Unit)×Unit)⊕vV2)).bind (bQ fun v6 =>
 cond (v6.1.isNone) (
 some ((0,0,()),11,())) (
(v6.1).bind fun x7 =>
(zco a0 x7.1).bind fun r8 =>
 cond (!decide (r8=0)) (
 some ((0,0,()),r8,())) (
(v6.1).bind fun x9 =>
 some (x9.1,0,()))))
def sB:TFn:={ ps:=(.cons tT10 tT18),res:=(.tup (.cons tT11 tT18)),fn:=fun v=>zcc v.1 v.2.1 }
def aht:TEnv:=(vZ [(75,sC),(99,uR),(100,sx)])
theorem ahs:runY Tryz.prog abR ahu aht am3 Tryz.f35 sB.ps sB.res=sB.fn:=by kernel_rfl
theorem uA:aC Tryz.prog G0 35 yC:=ah (ak ⟨ay,(ai uC (ai acC (ai ug ae))),ar,ae,aq⟩ Tryz.func35 rfl (by kernel_rfl))
theorem aan:TOk yC sB:=az (E:=abR) (ET:=aht) (EnvT.ofX (ax (ac aao (ac aiz (ac aak al)))) am ap aL an) ahs rfl
def ab4:Env:=(eZ [] [274])
def ahO:Hints:=(hZ [] [])
def ab3:PFn:=aE (runF Tryz.prog ab4 ahO Tryz.f240)
def am8:TH:={ loops:=[],cuts:=[(1,[(9,{ keep:=[(1,(.bx 0 0)),(11,.bool)],mem:=[.same] })])],ro:=[1],news:=[] }
def zc4 (a0:vV3):Option Bool :=
(cond (decide (a0.1=0)) (some ((decide ((a0.2.1.length:Int)=0)),())) (some (false,())):Option (Bool×Unit)).bind fun v1 =>
 cond v1.1 (cond (eqV tT16 a0.2.2.1 (0,0,[],())) (cond (decide (a0.2.2.2.1=0)) (some (decide ((a0.2.2.2.2.1.length:Int)=0))) (some false)) (some false)) (some false)
def uF:TFn:={ ps:=(.cons tT13 .unit),res:=.bool,fn:=fun v=>zc4 v.1 }
def ahN:TEnv:=(vZ [])
theorem ahM:runY Tryz.prog ab4 ahO ahN am8 Tryz.f240 uF.ps uF.res=uF.fn:=by kernel_rfl
theorem ab2:aC Tryz.prog G0 240 ab3:=ah (ak ⟨ay,ae,ar,ae,aq⟩ Tryz.func240 rfl (by kernel_rfl))
theorem ahL:TOk ab3 uF:=az (E:=ab4) (ET:=ahN) (EnvT.ofX (ax al) am ap aL an) ahM rfl
def adX:PFn:=nN
theorem adW:aC Tryz.prog G0 375 adX:=pd (g3:=0) (g4:=1) ⟨Tryz.f375,Tryz.func375,rfl,by kernel_rfl⟩ (by kernel_rfl) (by kernel_rfl) (fun s w hT=>Tryz.utf8_DecodeRuneInString s w hT)
def zas (a0:List UInt8):Option (Int×Int×Unit):=xU a0
def akH:TFn:=ky
theorem akG:TOk adX akH:=tH
def abK:Env:=(eZ [(375,adX)] [274])
def ahj:Hints:=(hZ [(3,[0,4,10])] [])
def yB:PFn:=aE (runF Tryz.prog abK ahj Tryz.f366)
def am0:TH:={ joins:=[(9,{ keep:=[(4,(.own 1)),(10,(.it 0))],mem:=[.iter,.row true 21 (.int .i32)] })],loops:=[(3,{ keep:=[(4,(.own 1)),(10,(.it 0))],mem:=[.iter,.row true 21 (.int .i32)] })],ro:=[] }
def ahg (a0:List UInt8) (y3:(Nat×List Int×Unit)):Option ((Nat×List Int×Unit)⊕(List Int×Bool×Unit)) :=
 cond (decide (y3.1<a0.length)) ((cond (decide (((Utf8.decode ⟨a0.toArray⟩ y3.1).1:Int)=65533)) (
(subI a0 (y3.1:Int) (a0.length:Int)).bind fun s1 =>
(zas s1).bind fun r2 =>
 cond (decide (r2.2.1≤1)) (
 some (.inr (.inr ([],false,())))) (
 some (.inl ((y3.1+(Utf8.decode ⟨a0.toArray⟩ y3.1).2),y3.2.1,())))) (
 some (.inl ((y3.1+(Utf8.decode ⟨a0.toArray⟩ y3.1).2),y3.2.1,()))):Option ((Nat×List Int×Unit)⊕((Nat×List Int×Unit)⊕(List Int×Bool×Unit)))).bind (bQ fun v3 =>
(dP (v3.2.1.length+([((Utf8.decode ⟨a0.toArray⟩ y3.1).1:Int)]:List Int).length)).bind fun u4 =>
 some (.inl (v3.1,(v3.2.1++([((Utf8.decode ⟨a0.toArray⟩ y3.1).1:Int)]:List Int)),())))) (some (.inr (y3.2.1,true,())))
def zcf (a0:List UInt8):Option (List Int×Bool×Unit) :=
 aM (ahg a0) (0,[],())
def sA:TFn:={ ps:=(.cons .str .unit),res:=(.tup (.cons (.sl (.int .i32)) (.cons .bool .unit))),fn:=fun v=>zcf v.1 }
def ahi:TEnv:={ pure:=[(375,akH)],look:=[],glob:=G0T,ty:=[(21,(.int .i32))],raw:=[],fresh:=[] }
theorem ahh:runY Tryz.prog abK ahj ahi am0 Tryz.f366 sA.ps sA.res=sA.fn:=by kernel_rfl
theorem uu:aC Tryz.prog G0 366 yB:=ah (ak ⟨ay,(ai adW ae),ar,ae,aq⟩ Tryz.func366 rfl (by kernel_rfl))
theorem aam:TOk yB sA:=az (E:=abK) (ET:=ahi) (EnvT.ofX (ax (ac akG al)) am ap aL an) ahh rfl
def acf:Env:=(eZ [] [274])
def ah3:Hints:=(hZ [] [])
def ace:PFn:=aE (runF Tryz.prog acf ah3 Tryz.f367)
def anc:TH:=yZ
def zc0 (a0:Int):Option Bool :=
 cond (decide (a0<32)) (
 cond (decide (a0<32)) (
 some false) (
 some (!decide (a0=65533)))) (
 cond (decide (a0≥127)) (cond (decide (a0<160)) (
 some false) (
 some (!decide (a0=65533)))) (some (!decide (a0=65533))))
def uJ:TFn:={ ps:=(.cons (.int .i32) .unit),res:=.bool,fn:=fun v=>zc0 v.1 }
def ah2:TEnv:=(vZ [])
theorem ah1:runY Tryz.prog acf ah3 ah2 anc Tryz.f367 uJ.ps uJ.res=uJ.fn:=by kernel_rfl
theorem acd:aC Tryz.prog G0 367 ace:=ah (ak ⟨ay,ae,ar,ae,aq⟩ Tryz.func367 rfl (by kernel_rfl))
theorem ah0:TOk ace uJ:=az (E:=acf) (ET:=ah2) (EnvT.ofX (ax al) am ap aL an) ah1 rfl
def adB:Env:=(eZ [(366,yB),(367,ace)] [274])
def aj5:Hints:=(hZ [(5,[24,25,26])] [])
def adA:PFn:=aE (runF Tryz.prog adB aj5 Tryz.f345)
def anL:TH:={ loops:=[(5,{ keep:=[(26,(.int .i64))],mem:=[] })],ro:=[] }
def aj2 (r1:(List Int×Bool×Unit)) (y5:(Int×Unit)):Option ((Int×Unit)⊕Bool) :=
 cond (decide (y5.1<(r1.1.length:Int))) (
(atI r1.1 y5.1).bind fun x2 =>
(zc0 x2).bind fun r3 =>
 cond (!r3) (
 some (.inr false)) (
 some (.inl ((IntKind.wrap .i64 (y5.1+1)),())))) (
 some (.inr true))
def zb3 (a0:List UInt8):Option Bool :=
(zcf a0).bind fun r1 =>
 cond (!r1.2.1) (some false) (cond (decide ((r1.1.length:Int)=0)) (some false) (cond (decide ((r1.1.length:Int)>24)) (
 some false) (
 aM (aj2 r1) (0,()))))
def vr:TFn:={ ps:=(.cons .str .unit),res:=.bool,fn:=fun v=>zb3 v.1 }
def aj4:TEnv:=(vZ [(366,sA),(367,uJ)])
theorem aj3:runY Tryz.prog adB aj5 aj4 anL Tryz.f345 vr.ps vr.res=vr.fn:=by kernel_rfl
theorem adz:aC Tryz.prog G0 345 adA:=ah (ak ⟨ay,(ai uu (ai acd ae)),ar,ae,aq⟩ Tryz.func345 rfl (by kernel_rfl))
theorem aj1:TOk adA vr:=az (E:=adB) (ET:=aj4) (EnvT.ofX (ax (ac aam (ac ah0 al))) am ap aL an) aj3 rfl
def afc:Env:=(eZ [(345,adA)] [274])
def amd:Hints:=(hZ [] [])
def afb:PFn:=aE (runF Tryz.prog afc amd Tryz.f344)
def aog:TH:=yZ
def za0 (a0:List UInt8):Option Bool :=
(zb3 a0).bind fun r1 =>
 some (!r1)
def wa:TFn:={ ps:=(.cons .str .unit),res:=.bool,fn:=fun v=>za0 v.1 }
def amc:TEnv:=(vZ [(345,vr)])
theorem amb:runY Tryz.prog afc amd amc aog Tryz.f344 wa.ps wa.res=wa.fn:=by kernel_rfl
theorem afa:aC Tryz.prog G0 344 afb:=ah (ak ⟨ay,(ai adz ae),ar,ae,aq⟩ Tryz.func344 rfl (by kernel_rfl))
theorem ama:TOk afb wa:=az (E:=afc) (ET:=amc) (EnvT.ofX (ax (ac aj1 al)) am ap aL an) amb rfl
def aem:Env:=(eZ [(344,afb)] [274])
def akZ:Hints:=(hZ [(2,[0,1,7,8])] [])
def ael:PFn:=aE (runF Tryz.prog aem akZ Tryz.f214)
def anX:TH:={ loops:=[(2,{ keep:=[(8,(.int .i64))],mem:=[] })],ro:=[] }
def akW (a0:List (List UInt8)) (y2:(Int×Unit)):Option ((Int×Unit)⊕Int) :=
 cond (decide (y2.1<(a0.length:Int))) (
(atI a0 y2.1).bind fun x1 =>
(za0 x1).bind fun r2 =>
 cond r2 (
 some (.inr y2.1)) (
 some (.inl ((IntKind.wrap .i64 (y2.1+1)),())))) (
 some (.inr (-1)))
def zaj (a0:List (List UInt8)) (a1:Unit):Option Int :=
 aM (akW a0) (0,())
def vG:TFn:={ ps:=(.cons (.sl .str) (.cons (.fn 344) .unit)),res:=(.int .i64),fn:=fun v=>zaj v.1 v.2.1 }
def akY:TEnv:=(vZ [(344,wa)])
theorem akX:runY Tryz.prog aem akZ akY anX Tryz.f214 vG.ps vG.res=vG.fn:=by kernel_rfl
theorem aek:aC Tryz.prog G0 214 ael:=ah (ak ⟨ay,(ai afa ae),ar,ae,aq⟩ Tryz.func214 rfl (by kernel_rfl))
theorem akV:TOk ael vG:=az (E:=aem) (ET:=akY) (EnvT.ofX (ax (ac ama al)) am ap aL an) akX rfl
def aep:Env:=(eZ [(214,ael)] [274])
def ak3:Hints:=(hZ [] [])
def aeo:PFn:=aE (runF Tryz.prog aep ak3 Tryz.f141)
def anY:TH:=yZ
def zai (a0:List (List UInt8)) (a1:Unit):Option Bool :=
(zaj a0 a1).bind fun r1 =>
 some (decide (r1≥0))
def vH:TFn:={ ps:=(.cons (.sl .str) (.cons (.fn 344) .unit)),res:=.bool,fn:=fun v=>zai v.1 v.2.1 }
def ak2:TEnv:=(vZ [(214,vG)])
theorem ak1:runY Tryz.prog aep ak3 ak2 anY Tryz.f141 vH.ps vH.res=vH.fn:=by kernel_rfl
theorem aen:aC Tryz.prog G0 141 aeo:=ah (ak ⟨ay,(ai aek ae),ar,ae,aq⟩ Tryz.func141 rfl (by kernel_rfl))
theorem ak0:TOk aeo vH:=az (E:=aep) (ET:=ak2) (EnvT.ofX (ax (ac akV al)) am ap aL an) ak1 rfl
def acl:Env:=(eZ [(141,aeo)] [274])
def aib:Hints:=(hZ [] [])
def ack:PFn:=aE (runF Tryz.prog acl aib Tryz.f299)
def anf:TH:=yZ
def zby (a0:List (List UInt8)):Option Int :=
 cond (decide ((a0.length:Int)=0)) (
 some 8) (
 cond (decide ((a0.length:Int)>8)) (
 some 9) (
(zai a0 ()).bind fun r1 =>
 cond r1 (
 some 8) (
 some 0)))
def uL:TFn:={ ps:=(.cons (.sl .str) .unit),res:=(.int .i64),fn:=fun v=>zby v.1 }
def aia:TEnv:=(vZ [(141,vH)])
theorem ah9:runY Tryz.prog acl aib aia anf Tryz.f299 uL.ps uL.res=uL.fn:=by kernel_rfl
theorem acj:aC Tryz.prog G0 299 ack:=ah (ak ⟨ay,(ai aen ae),ar,ae,aq⟩ Tryz.func299 rfl (by kernel_rfl))
theorem ah8:TOk ack uL:=az (E:=acl) (ET:=aia) (EnvT.ofX (ax (ac ak0 al)) am ap aL an) ah9 rfl
def ada:Env:=(eZ [(366,yB)] [274])
def ajs:Hints:=(hZ [] [])
def ac9:PFn:=aE (runF Tryz.prog ada ajs Tryz.f346)
def anB:TH:={ loops:=[],ro:=[1] }
def zbd (a0:(Int×Int×List UInt8×Unit)):Option Bool :=
 cond (decide (a0.1=1)) (
 cond (decide (a0.2.2.1=[])) (cond (decide (a0.2.1≥(-2147483647))) (some (decide (a0.2.1≤2147483647))) (some false)) (some false)) (
 cond (decide (a0.1=2)) (
(zcf a0.2.2.1).bind fun r1 =>
 cond r1.2.1 (cond (decide (a0.2.1=0)) (some (decide ((a0.2.2.1.length:Int)≤64))) (some false)) (some false)) (
 cond (decide (a0.1=3)) (
 cond (decide (a0.2.2.1=[])) (cond (decide (a0.2.1=0)) (some true) (some (decide (a0.2.1=1)))) (some false)) (
 some false)))
def vg:TFn:={ ps:=(.cons tT16 .unit),res:=.bool,fn:=fun v=>zbd v.1 }
def ajr:TEnv:=(vZ [(366,sA)])
theorem ajq:runY Tryz.prog ada ajs ajr anB Tryz.f346 vg.ps vg.res=vg.fn:=by kernel_rfl
theorem ac8:aC Tryz.prog G0 346 ac9:=ah (ak ⟨ay,(ai uu ae),ar,ae,aq⟩ Tryz.func346 rfl (by kernel_rfl))
theorem ajp:TOk ac9 vg:=az (E:=ada) (ET:=ajr) (EnvT.ofX (ax (ac aam al)) am ap aL an) ajq rfl
def abh:Env:=(eZ [(346,ac9)] [274])
def agz:Hints:=(hZ [] [])
def abg:PFn:=aE (runF Tryz.prog abh agz Tryz.f300)
def amO:TH:={ loops:=[],ro:=[1] }
def zcr (a0:vV3):Option Bool :=
 cond (decide (a0.1=3)) (some (eqV tT16 a0.2.2.1 (0,0,[],()))) (cond (decide (a0.1=5)) (
 some (eqV tT16 a0.2.2.1 (0,0,[],()))) (
(zbd a0.2.2.1).bind fun r1 =>
 some r1))
def t8:TFn:={ ps:=(.cons tT13 .unit),res:=.bool,fn:=fun v=>zcr v.1 }
def agy:TEnv:=(vZ [(346,vg)])
theorem agx:runY Tryz.prog abh agz agy amO Tryz.f300 t8.ps t8.res=t8.fn:=by kernel_rfl
theorem abf:aC Tryz.prog G0 300 abg:=ah (ak ⟨ay,(ai ac8 ae),ar,ae,aq⟩ Tryz.func300 rfl (by kernel_rfl))
theorem agw:TOk abg t8:=az (E:=abh) (ET:=agy) (EnvT.ofX (ax (ac ajp al)) am ap aL an) agx rfl
def abJ:Env:=(eZ [] [274])
def ahf:Hints:=(hZ [] [])
def abI:PFn:=aE (runF Tryz.prog abJ ahf Tryz.f301)
def amZ:TH:={ loops:=[],ro:=[1] }
def zcg (a0:vV3):Option Bool :=
 cond (decide (a0.1=3)) (
 cond (!decide (a0.2.2.2.1=0)) (cond (decide (a0.2.2.2.1≥(-2147483647))) (some (decide (a0.2.2.2.1≤2147483647))) (some false)) (some false)) (
 some (decide (a0.2.2.2.1=0)))
def ut:TFn:={ ps:=(.cons tT13 .unit),res:=.bool,fn:=fun v=>zcg v.1 }
def ahe:TEnv:=(vZ [])
theorem ahd:runY Tryz.prog abJ ahf ahe amZ Tryz.f301 ut.ps ut.res=ut.fn:=by kernel_rfl
theorem abH:aC Tryz.prog G0 301 abI:=ah (ak ⟨ay,ae,ar,ae,aq⟩ Tryz.func301 rfl (by kernel_rfl))
theorem ahc:TOk abI ut:=az (E:=abJ) (ET:=ahe) (EnvT.ofX (ax al) am ap aL an) ahd rfl
def aa3:Env:=(eZ [(154,vu),(156,vE),(171,mN)] [274])
def agc:Hints:=(hZ [] [])
def aa2:PFn:=aE (runF Tryz.prog aa3 agc Tryz.f347)
def amI:TH:={ loops:=[],ro:=[2,3] }
def zcx (a0:vV2) (a1:vV2):Option Int :=
(zbu a0.1 a1.1).bind fun r1 =>
(zau a0.2.1 a1.2.1).bind fun r2 =>
(zb2 ([r1,r2]:List Int)).bind fun r3 =>
 some r3
def tW:TFn:={ ps:=(.cons tT12 (.cons tT12 .unit)),res:=(.int .i64),fn:=fun v=>zcx v.1 v.2.1 }
def agb:TEnv:={ pure:=[(154,pD),(156,pI),(171,ju)],look:=[],glob:=G0T,ty:=[(3,(.int .i64))],raw:=[],fresh:=[] }
theorem aga:runY Tryz.prog aa3 agc agb amI Tryz.f347 tW.ps tW.res=tW.fn:=by kernel_rfl
theorem aa1:aC Tryz.prog G0 347 aa2:=ah (ak ⟨ay,(ai pE (ai pJ (ai gl ae))),ar,ae,aq⟩ Tryz.func347 rfl (by kernel_rfl))
theorem af9:TOk aa2 tW:=az (E:=aa3) (ET:=agb) (EnvT.ofX (ax (ac vt (ac vD (ac jt al)))) am ap aL an) aga rfl
def ab1:Env:=(eZ [(173,mM),(347,aa2)] [274])
def ahK:Hints:=(hZ [(2,[0,5,6,7])] [])
def ab0:PFn:=aE (runF Tryz.prog ab1 ahK Tryz.f302)
def am7:TH:={ loops:=[(2,{ keep:=[(7,(.int .i64))],mem:=[] })],cuts:=[(4,[(9,{ keep:=[(4,(.bx 0 0)),(20,.bool)],mem:=[.box 146 tT12] }),(5,{ keep:=[(4,(.bx 0 0)),(25,.bool)],mem:=[.box 146 tT12] })])],ro:=[],news:=[] }
def ahH (a0:List vV2) (y2:(Int×Unit)):Option ((Int×Unit)⊕Bool) :=
 cond (decide (y2.1<(a0.length:Int))) (
(atI a0 y2.1).bind fun x1 =>
((zcu x1.1).bind fun r2 =>
 cond (!r2) (some (true,x1,())) (some ((decide (x1.2.1<0)),x1,())):Option (Bool×vV2×Unit)).bind fun v3 =>
(cond v3.1 (some (true,v3.2.1,())) (some ((decide (v3.2.1.2.1≥16)),v3.2.1,())):Option (Bool×vV2×Unit)).bind fun v4 =>
 cond v4.1 (some (.inr false)) (cond (decide (y2.1>0)) ((atI a0 (IntKind.wrap .i64 (y2.1-1))).bind fun x5 =>
(zcx x5 v4.2.1).bind fun r6 =>
 cond (decide (r6≥0)) (
 some (.inr false)) (
 some (.inl ((IntKind.wrap .i64 (y2.1+1)),())))) (some (.inl ((IntKind.wrap .i64 (y2.1+1)),()))))) (
 some (.inr true))
def zc5 (a0:List vV2):Option Bool :=
 aM (ahH a0) (0,())
def uE:TFn:={ ps:=(.cons (.sl tT12) .unit),res:=.bool,fn:=fun v=>zc5 v.1 }
def ahJ:TEnv:=(vZ [(173,js),(347,tW)])
theorem ahI:runY Tryz.prog ab1 ahK ahJ am7 Tryz.f302 uE.ps uE.res=uE.fn:=by kernel_rfl
theorem abZ:aC Tryz.prog G0 302 ab0:=ah (ak ⟨ay,(ai gk (ai aa1 ae)),ar,ae,aq⟩ Tryz.func302 rfl (by kernel_rfl))
theorem ahG:TOk ab0 uE:=az (E:=ab1) (ET:=ahJ) (EnvT.ofX (ax (ac jr (ac af9 al))) am ap aL an) ahI rfl
def aa0:Env:=(eZ [(299,ack),(300,abg),(301,abI),(302,ab0)] [274])
def af8:Hints:=(hZ [] [])
def aaZ:PFn:=aE (runF Tryz.prog aa0 af8 Tryz.f241)
def amH:TH:={ joins:=[(10,{ keep:=[(1,(.bx 0 0)),(32,.bool)],mem:=[.same] })],loops:=[],cuts:=[(6,[(8,{ keep:=[(1,(.bx 0 0)),(26,.bool)],mem:=[.same] }),(5,{ keep:=[(1,(.bx 0 0)),(31,.bool)],mem:=[.same] })]),(9,[(8,{ keep:=[(1,(.bx 0 0)),(46,.bool)],mem:=[.same] })])],ro:=[1],news:=[] }
def zcy (a0:vV3):Option Int :=
 cond (decide (a0.1<1)) (some 18) (cond (decide (a0.1>5)) (
 some 18) (
(zby a0.2.1).bind fun r1 =>
 cond (!decide (r1=0)) (
 some r1) (
(cond (decide (a0.1=1)) (some (true,())) (some ((decide (a0.1=4)),())):Option (Bool×Unit)).bind fun v2 =>
(cond v2.1 (some (true,())) (some ((decide (a0.1=5)),())):Option (Bool×Unit)).bind fun v3 =>
((zcr a0).bind fun r4 =>
 cond (!r4) (
 some (.inl ((!r4),()))) (
(zcg a0).bind fun r5 =>
 cond (!r5) (
 some (.inl ((!r5),()))) (
(cond (!v3.1) (some ((decide ((a0.2.2.2.2.1.length:Int)>0)),())) (some (false,())):Option (Bool×Unit)).bind fun v6 =>
 some (.inl (v6.1,())))):Option ((Bool×Unit)⊕Int)).bind (bQ fun v7 =>
 cond v7.1 (
 some 2) (
 cond (decide ((a0.2.2.2.2.1.length:Int)>256)) (
 some 7) (
(zc5 a0.2.2.2.2.1).bind fun r8 =>
 cond (!r8) (
 some 2) (
 some 0)))))))
def tV:TFn:={ ps:=(.cons tT13 .unit),res:=(.int .i64),fn:=fun v=>zcy v.1 }
def af7:TEnv:=(vZ [(299,uL),(300,t8),(301,ut),(302,uE)])
theorem af6:runY Tryz.prog aa0 af8 af7 amH Tryz.f241 tV.ps tV.res=tV.fn:=by kernel_rfl
theorem aaY:aC Tryz.prog G0 241 aaZ:=ah (ak ⟨ay,(ai acj (ai abf (ai abH (ai abZ ae)))),ar,ae,aq⟩ Tryz.func241 rfl (by kernel_rfl))
theorem af5:TOk aaZ tV:=az (E:=aa0) (ET:=af7) (EnvT.ofX (ax (ac ah8 (ac agw (ac ahc (ac ahG al))))) am ap aL an) af6 rfl
def abm:Env:=(eZ [(173,mM),(240,ab3),(241,aaZ)] [274])
def agG:Hints:=(hZ [(10,[1,38,39,40])] [])
def yy:PFn:=aE (runF Tryz.prog abm agG Tryz.f174)
def amQ:TH:={ joins:=[(4,{ keep:=[(1,(.bx 0 0)),(6,.bool)],mem:=[.same] }),(13,{ keep:=[(1,(.bx 0 0)),(4,(.bx 1 0))],mem:=[.same,.box 135 tT13] })],loops:=[(10,{ keep:=[(1,(.bx 0 0)),(40,(.int .i64))],mem:=[.same] })],cuts:=[(3,[(8,{ keep:=[(1,(.bx 0 0)),(26,.bool)],mem:=[.same] })])],ro:=[1],news:=[] }
def abl (a0:vV1) (y10:(Int×Unit)):Option ((Int×Unit)⊕Int) :=
 cond (decide (y10.1<(a0.2.2.2.2.1.length:Int))) (
(atI a0.2.2.2.2.1 y10.1).bind fun x4 =>
(cond a0.2.2.2.1 ((zc4 x4).bind fun r5 =>
 cond r5 (
 some (.inr (.inl ((IntKind.wrap .i64 (y10.1+1)),())))) (
 some (.inl (x4,())))) (some (.inl (x4,()))):Option ((vV3×Unit)⊕((Int×Unit)⊕Int))).bind (bQ fun v6 =>
(zcy v6.1).bind fun r7 =>
 cond (!decide (r7=0)) (
 some (.inr r7)) (
 some (.inl ((IntKind.wrap .i64 (y10.1+1)),()))))) (
 some (.inr 0))
def zcp (a0:vV1):Option Int :=
((zcu a0.1).bind fun r1 =>
 cond (!r1) (
 some (.inl ((!r1),()))) (
 cond (decide (a0.2.1<0)) (some (.inl (true,()))) (cond (decide (a0.2.1≥8)) (
 some (.inl ((decide (a0.2.1≥8)),()))) (
(cond (decide (a0.2.2.1<1)) (some (true,())) (some ((decide (a0.2.2.1>1099511627776)),())):Option (Bool×Unit)).bind fun v2 =>
 some (.inl (v2.1,()))))):Option ((Bool×Unit)⊕Int)).bind (bQ fun v3 =>
 cond v3.1 (
 some 2) (
 cond (decide ((a0.2.2.2.2.1.length:Int)=0)) (
 some 11) (
 cond (decide ((a0.2.2.2.2.1.length:Int)>16)) (
 some 7) (
 aM (abl a0) (0,())))))
def sw:TFn:={ ps:=(.cons tT9 .unit),res:=(.int .i64),fn:=fun v=>zcp v.1 }
def agF:TEnv:=(vZ [(173,js),(240,uF),(241,tV)])
theorem agE:runY Tryz.prog abm agG agF amQ Tryz.f174 sw.ps sw.res=sw.fn:=by kernel_rfl
theorem uf:aC Tryz.prog G0 174 yy:=ah (ak ⟨ay,(ai gk (ai ab2 (ai aaY ae))),ar,ae,aq⟩ Tryz.func174 rfl (by kernel_rfl))
theorem aaj:TOk yy sw:=az (E:=abm) (ET:=agF) (EnvT.ofX (ax (ac jr (ac ahL (ac af5 al)))) am ap aL an) agE rfl
def acH:Env:=(eZ [] [274])
def aiG:Hints:=(hZ [] [])
def acG:PFn:=aE (runF Tryz.prog acH aiG Tryz.f175)
def ann:TH:=yZ
def zbq (a0:Int):Option Bool :=
 cond (decide (a0≥0)) (some (decide (a0<8))) (some false)
def uS:TFn:={ ps:=tT18,res:=.bool,fn:=fun v=>zbq v.1 }
def aiF:TEnv:=(vZ [])
theorem aiE:runY Tryz.prog acH aiG aiF ann Tryz.f175 uS.ps uS.res=uS.fn:=by kernel_rfl
theorem acF:aC Tryz.prog G0 175 acG:=ah (ak ⟨ay,ae,ar,ae,aq⟩ Tryz.func175 rfl (by kernel_rfl))
theorem aiD:TOk acG uS:=az (E:=acH) (ET:=aiF) (EnvT.ofX (ax al) am ap aL an) aiE rfl
def aeR:Env:=(eZ [(173,mM),(242,vA)] [274])
def alL:Hints:=(hZ [(2,[0,5,6,7])] [])
def yV:PFn:=aE (runF Tryz.prog aeR alL Tryz.f176)
def an9:TH:={ loops:=[(2,{ keep:=[(7,(.int .i64))],mem:=[] })],cuts:=[(4,[(9,{ keep:=[(4,(.bx 0 0)),(20,.bool)],mem:=[.box 82 tT12] }),(5,{ keep:=[(4,(.bx 0 0)),(25,.bool)],mem:=[.box 82 tT12] })])],ro:=[],news:=[] }
def od (a0:List vV2) (y2:(Int×Unit)):Option ((Int×Unit)⊕Bool) :=
 cond (decide (y2.1<(a0.length:Int))) (
(atI a0 y2.1).bind fun x1 =>
((zcu x1.1).bind fun r2 =>
 cond (!r2) (some (true,x1,())) (some ((decide (x1.2.1<1)),x1,())):Option (Bool×vV2×Unit)).bind fun v3 =>
(cond v3.1 (some (true,v3.2.1,())) (some ((decide (v3.2.1.2.1>64)),v3.2.1,())):Option (Bool×vV2×Unit)).bind fun v4 =>
 cond v4.1 (some (.inr false)) (cond (decide (y2.1>0)) ((atI a0 (IntKind.wrap .i64 (y2.1-1))).bind fun x5 =>
(zax x5 v4.2.1).bind fun r6 =>
 cond (decide (r6≥0)) (
 some (.inr false)) (
 some (.inl ((IntKind.wrap .i64 (y2.1+1)),())))) (some (.inl ((IntKind.wrap .i64 (y2.1+1)),()))))) (
 some (.inr true))
def za7 (a0:List vV2):Option Bool :=
 aM (od a0) (0,())
def sM:TFn:={ ps:=(.cons (.sl tT12) .unit),res:=.bool,fn:=fun v=>za7 v.1 }
def alK:TEnv:=(vZ [(173,js),(242,pG)])
theorem alJ:runY Tryz.prog aeR alL alK an9 Tryz.f176 sM.ps sM.res=sM.fn:=by kernel_rfl
theorem vS:aC Tryz.prog G0 176 yV:=ah (ak ⟨ay,(ai gk (ai pH ae)),ar,ae,aq⟩ Tryz.func176 rfl (by kernel_rfl))
theorem aaA:TOk yV sM:=az (E:=aeR) (ET:=alK) (EnvT.ofX (ax (ac jr (ac vz al))) am ap aL an) alJ rfl
def adQ:Env:=(eZ [(174,yy)] [274])
def aku:Hints:=(hZ [] [])
def adP:PFn:=aE (runF Tryz.prog adQ aku Tryz.f243)
def anS:TH:={ loops:=[],ro:=[1] }
def zaw (a0:vV1):Option Bool :=
(zcp a0).bind fun r1 =>
 some (!decide (r1=0))
def vB:TFn:={ ps:=(.cons tT9 .unit),res:=.bool,fn:=fun v=>zaw v.1 }
def akt:TEnv:=(vZ [(174,sw)])
theorem aks:runY Tryz.prog adQ aku akt anS Tryz.f243 vB.ps vB.res=vB.fn:=by kernel_rfl
theorem adO:aC Tryz.prog G0 243 adP:=ah (ak ⟨ay,(ai uf ae),ar,ae,aq⟩ Tryz.func243 rfl (by kernel_rfl))
theorem akr:TOk adP vB:=az (E:=adQ) (ET:=akt) (EnvT.ofX (ax (ac aaj al)) am ap aL an) aks rfl
def adT:Env:=(eZ [(173,mM)] [274])
def aky:Hints:=(hZ [] [])
def adS:PFn:=aE (runF Tryz.prog adT aky Tryz.f244)
def anT:TH:={ loops:=[],ro:=[1] }
def zav (a0:(Int×Int×Unit)):Option Bool :=
(zcu a0).bind fun r1 =>
 some (!r1)
def vC:TFn:={ ps:=(.cons tT11 .unit),res:=.bool,fn:=fun v=>zav v.1 }
def akx:TEnv:=(vZ [(173,js)])
theorem akw:runY Tryz.prog adT aky akx anT Tryz.f244 vC.ps vC.res=vC.fn:=by kernel_rfl
theorem adR:aC Tryz.prog G0 244 adS:=ah (ak ⟨ay,(ai gk ae),ar,ae,aq⟩ Tryz.func244 rfl (by kernel_rfl))
theorem akv:TOk adS vC:=az (E:=adT) (ET:=akx) (EnvT.ofX (ax (ac jr al)) am ap aL an) akw rfl
def abF:Env:=(eZ [(171,mN)] [274])
def ag8:Hints:=(hZ [(2,[0,5,6,7])] [])
def abE:PFn:=aE (runF Tryz.prog abF ag8 Tryz.f245)
def amX:TH:={ loops:=[(2,{ keep:=[(7,(.int .i64))],mem:=[] })],ro:=[] }
def ag5 (a0:List vV1) (y2:(Int×Unit)):Option ((Int×Unit)⊕Bool) :=
 cond (decide (y2.1<(a0.length:Int))) (
(atI a0 y2.1).bind fun x1 =>
 cond (decide (y2.1>0)) ((atI a0 (IntKind.wrap .i64 (y2.1-1))).bind fun x2 =>
(zbu x2.1 x1.1).bind fun r3 =>
 cond (decide (r3≥0)) (
 some (.inr false)) (
 some (.inl ((IntKind.wrap .i64 (y2.1+1)),())))) (some (.inl ((IntKind.wrap .i64 (y2.1+1)),())))) (
 some (.inr true))
def zci (a0:List vV1):Option Bool :=
 aM (ag5 a0) (0,())
def uq:TFn:={ ps:=(.cons (.sl tT9) .unit),res:=.bool,fn:=fun v=>zci v.1 }
def ag7:TEnv:=(vZ [(171,ju)])
theorem ag6:runY Tryz.prog abF ag8 ag7 amX Tryz.f245 uq.ps uq.res=uq.fn:=by kernel_rfl
theorem abD:aC Tryz.prog G0 245 abE:=ah (ak ⟨ay,(ai gl ae),ar,ae,aq⟩ Tryz.func245 rfl (by kernel_rfl))
theorem ag4:TOk abE uq:=az (E:=abF) (ET:=ag7) (EnvT.ofX (ax (ac jt al)) am ap aL an) ag6 rfl
def aet:Env:=(eZ [(243,adP)] [274])
def ak8:Hints:=(hZ [(2,[0,1,7,8])] [])
def aes:PFn:=aE (runF Tryz.prog aet ak8 Tryz.f303)
def anZ:TH:={ loops:=[(2,{ keep:=[(8,(.int .i64))],mem:=[] })],ro:=[] }
def ak5 (a0:List vV1) (y2:(Int×Unit)):Option ((Int×Unit)⊕Int) :=
 cond (decide (y2.1<(a0.length:Int))) (
(atI a0 y2.1).bind fun x1 =>
(zaw x1).bind fun r2 =>
 cond r2 (
 some (.inr y2.1)) (
 some (.inl ((IntKind.wrap .i64 (y2.1+1)),())))) (
 some (.inr (-1)))
def zah (a0:List vV1) (a1:Unit):Option Int :=
 aM (ak5 a0) (0,())
def vI:TFn:={ ps:=(.cons (.sl tT9) (.cons (.fn 243) .unit)),res:=(.int .i64),fn:=fun v=>zah v.1 v.2.1 }
def ak7:TEnv:=(vZ [(243,vB)])
theorem ak6:runY Tryz.prog aet ak8 ak7 anZ Tryz.f303 vI.ps vI.res=vI.fn:=by kernel_rfl
theorem aer:aC Tryz.prog G0 303 aes:=ah (ak ⟨ay,(ai adO ae),ar,ae,aq⟩ Tryz.func303 rfl (by kernel_rfl))
theorem ak4:TOk aes vI:=az (E:=aet) (ET:=ak7) (EnvT.ofX (ax (ac akr al)) am ap aL an) ak6 rfl
def aeC:Env:=(eZ [(303,aes)] [274])
def alm:Hints:=(hZ [] [])
def aeB:PFn:=aE (runF Tryz.prog aeC alm Tryz.f246)
def an2:TH:=yZ
def zae (a0:List vV1) (a1:Unit):Option Bool :=
(zah a0 a1).bind fun r1 =>
 some (decide (r1≥0))
def vL:TFn:={ ps:=(.cons (.sl tT9) (.cons (.fn 243) .unit)),res:=.bool,fn:=fun v=>zae v.1 v.2.1 }
def alk:TEnv:=(vZ [(303,vI)])
theorem alj:runY Tryz.prog aeC alm alk an2 Tryz.f246 vL.ps vL.res=vL.fn:=by kernel_rfl
theorem aeA:aC Tryz.prog G0 246 aeB:=ah (ak ⟨ay,(ai aer ae),ar,ae,aq⟩ Tryz.func246 rfl (by kernel_rfl))
theorem ali:TOk aeB vL:=az (E:=aeC) (ET:=alk) (EnvT.ofX (ax (ac ak4 al)) am ap aL an) alj rfl
def aew:Env:=(eZ [(244,adS)] [274])
def ald:Hints:=(hZ [(2,[0,1,7,8])] [])
def aev:PFn:=aE (runF Tryz.prog aew ald Tryz.f259)
def an0:TH:={ loops:=[(2,{ keep:=[(8,(.int .i64))],mem:=[] })],ro:=[] }
def ala (a0:List (Int×Int×Unit)) (y2:(Int×Unit)):Option ((Int×Unit)⊕Int) :=
 cond (decide (y2.1<(a0.length:Int))) (
(atI a0 y2.1).bind fun x1 =>
(zav x1).bind fun r2 =>
 cond r2 (
 some (.inr y2.1)) (
 some (.inl ((IntKind.wrap .i64 (y2.1+1)),())))) (
 some (.inr (-1)))
def zag (a0:List (Int×Int×Unit)) (a1:Unit):Option Int :=
 aM (ala a0) (0,())
def vJ:TFn:={ ps:=(.cons (.sl tT11) (.cons (.fn 244) .unit)),res:=(.int .i64),fn:=fun v=>zag v.1 v.2.1 }
def alc:TEnv:=(vZ [(244,vC)])
theorem alb:runY Tryz.prog aew ald alc an0 Tryz.f259 vJ.ps vJ.res=vJ.fn:=by kernel_rfl
theorem aeu:aC Tryz.prog G0 259 aev:=ah (ak ⟨ay,(ai adR ae),ar,ae,aq⟩ Tryz.func259 rfl (by kernel_rfl))
theorem ak9:TOk aev vJ:=az (E:=aew) (ET:=alc) (EnvT.ofX (ax (ac akv al)) am ap aL an) alb rfl
def aez:Env:=(eZ [(259,aev)] [274])
def alh:Hints:=(hZ [] [])
def aey:PFn:=aE (runF Tryz.prog aez alh Tryz.f247)
def an1:TH:=yZ
def zaf (a0:List (Int×Int×Unit)) (a1:Unit):Option Bool :=
(zag a0 a1).bind fun r1 =>
 some (decide (r1≥0))
def vK:TFn:={ ps:=(.cons (.sl tT11) (.cons (.fn 244) .unit)),res:=.bool,fn:=fun v=>zaf v.1 v.2.1 }
def alg:TEnv:=(vZ [(259,vJ)])
theorem alf:runY Tryz.prog aez alh alg an1 Tryz.f247 vK.ps vK.res=vK.fn:=by kernel_rfl
theorem aex:aC Tryz.prog G0 247 aey:=ah (ak ⟨ay,(ai aeu ae),ar,ae,aq⟩ Tryz.func247 rfl (by kernel_rfl))
theorem ale:TOk aey vK:=az (E:=aez) (ET:=alg) (EnvT.ofX (ax (ac ak9 al)) am ap aL an) alf rfl
def ae9:Env:=(eZ [(176,yV),(245,abE),(246,aeB),(247,aey)] [274])
def al9:Hints:=(hZ [] [])
def ae8:PFn:=aE (runF Tryz.prog ae9 al9 Tryz.f177)
def aof:TH:={ loops:=[],cuts:=[(3,[(9,{ keep:=[(1,(.bx 0 0)),(13,.bool)],mem:=[.same] }),(7,{ keep:=[(1,(.bx 0 0)),(20,.bool)],mem:=[.same] })])],ro:=[1],news:=[] }
def za1 (a0:(List vV1×List vV2×List (Int×Int×Unit)×Unit)):Option Bool :=
(cond (decide ((a0.1.length:Int)≤1000)) ((zci a0.1).bind fun r1 =>
 some (r1,())) (some (false,())):Option (Bool×Unit)).bind fun v2 =>
(cond v2.1 ((zae a0.1 ()).bind fun r3 =>
 some ((!r3),())) (some (false,())):Option (Bool×Unit)).bind fun v4 =>
 cond v4.1 ((za7 a0.2.1).bind fun r5 =>
 cond r5 ((zaf a0.2.2.1 ()).bind fun r6 =>
 some (!r6)) (some false)) (some false)
def vY:TFn:={ ps:=(.cons (.agg (.cons (.sl tT9) (.cons (.sl tT12) (.cons (.sl tT11) .unit)))) .unit),res:=.bool,fn:=fun v=>za1 v.1 }
def al8:TEnv:=(vZ [(176,sM),(245,uq),(246,vL),(247,vK)])
theorem al7:runY Tryz.prog ae9 al9 al8 aof Tryz.f177 vY.ps vY.res=vY.fn:=by kernel_rfl
theorem ae7:aC Tryz.prog G0 177 ae8:=ah (ak ⟨ay,(ai vS (ai abD (ai aeA (ai aex ae)))),ar,ae,aq⟩ Tryz.func177 rfl (by kernel_rfl))
theorem al6:TOk ae8 vY:=az (E:=ae9) (ET:=al8) (EnvT.ofX (ax (ac aaA (ac ag4 (ac ali (ac ale al))))) am ap aL an) al7 rfl
def ae3:Env:=(eZ [(174,yy),(175,acG),(176,yV),(177,ae8)] [274])
def al1:Hints:=(hZ [] [])
def ae2:PFn:=aE (runF Tryz.prog ae3 al1 Tryz.f103)
def aod:TH:={ loops:=[],ro:=[1] }
def za3 (a0:vV5):Option Bool :=
 cond (decide (a0.1=1)) (
(zcp a0.2.1).bind fun r1 =>
 some (decide (r1=0))) (
 cond (decide (a0.1=2)) (
(zbq a0.2.2.1).bind fun r2 =>
 cond r2 ((za7 ([a0.2.2.2.1]:List vV2)).bind fun r3 =>
 cond r3 (cond (decide (a0.2.2.2.2.1≥0)) (some (decide (a0.2.2.2.2.1≤2))) (some false)) (some false)) (some false)) (
 cond (decide (a0.1=3)) (
(za1 a0.2.2.2.2.2.1).bind fun r4 =>
 some r4) (
 cond (decide (a0.1=4)) (
 none) (
 some false))))
def vW:TFn:={ ps:=(.cons tT15 .unit),res:=.bool,fn:=fun v=>za3 v.1 }
def al0:TEnv:={ pure:=[(174,sw),(175,uS),(176,sM),(177,vY)],look:=[],glob:=G0T,ty:=[(82,tT12)],raw:=[],fresh:=[] }
theorem alZ:runY Tryz.prog ae3 al1 al0 aod Tryz.f103 vW.ps vW.res=vW.fn:=by kernel_rfl
theorem ae1:aC Tryz.prog G0 103 ae2:=ah (ak ⟨ay,(ai uf (ai acF (ai vS (ai ae7 ae)))),ar,ae,aq⟩ Tryz.func103 rfl (by kernel_rfl))
theorem alY:TOk ae2 vW:=az (E:=ae3) (ET:=al0) (EnvT.ofX (ax (ac aaj (ac aiD (ac aaA (ac al6 al))))) am ap aL an) alZ rfl
def adF:Env:=(eZ [(102,yF),(103,ae2)] [274])
def akc:Hints:=(hZ [] [])
def adE:PFn:=aE (runF Tryz.prog adF akc Tryz.f39)
def anN:TH:={ loops:=[],ro:=[4,6] }
def zb1 (a0:vV0) (a1:Int) (a2:(Int×Int×Unit)) (a3:Int):Option (vV5×Int×Unit) :=
(zbm a0.2.1 a2).bind fun r1 =>
 cond (!decide (r1.2.1=0)) (
 some ((0,((0,0,()),0,0,false,[],()),0,((0,0,()),0,()),0,([],[],[],()),([],[],([0,0,0,0,0,0,0,0,0,0,0,0,0,0,0,0],[],()),([0,0,0,0,0,0,0,0,0,0,0,0,0,0,0,0],[],()),[[],[],[],[],[],[],[],[]],()),()),r1.2.1,())) (
(za3 (2,((0,0,()),0,0,false,[],()),a1,r1.1,a3,([],[],[],()),([],[],([0,0,0,0,0,0,0,0,0,0,0,0,0,0,0,0],[],()),([0,0,0,0,0,0,0,0,0,0,0,0,0,0,0,0],[],()),[[],[],[],[],[],[],[],[]],()),())).bind fun r2 =>
 cond (!r2) (
 some ((0,((0,0,()),0,0,false,[],()),0,((0,0,()),0,()),0,([],[],[],()),([],[],([0,0,0,0,0,0,0,0,0,0,0,0,0,0,0,0],[],()),([0,0,0,0,0,0,0,0,0,0,0,0,0,0,0,0],[],()),[[],[],[],[],[],[],[],[]],()),()),2,())) (
 some ((2,((0,0,()),0,0,false,[],()),a1,r1.1,a3,([],[],[],()),([],[],([0,0,0,0,0,0,0,0,0,0,0,0,0,0,0,0],[],()),([0,0,0,0,0,0,0,0,0,0,0,0,0,0,0,0],[],()),[[],[],[],[],[],[],[],[]],()),()),0,())))
def vv:TFn:={ ps:=(.cons tT10 (.cons (.int .i64) (.cons tT11 tT18))),res:=(.tup (.cons tT15 tT18)),fn:=fun v=>zb1 v.1 v.2.1 v.2.2.1 v.2.2.2.1 }
def akb:TEnv:=(vZ [(102,sE),(103,vW)])
theorem aka:runY Tryz.prog adF akc akb anN Tryz.f39 vv.ps vv.res=vv.fn:=by kernel_rfl
theorem adD:aC Tryz.prog G0 39 adE:=ah (ak ⟨ay,(ai uV (ai ae1 ae)),ar,ae,aq⟩ Tryz.func39 rfl (by kernel_rfl))
theorem aj9:TOk adE vv:=az (E:=adF) (ET:=akb) (EnvT.ofX (ax (ac aar (ac alY al))) am ap aL an) aka rfl
def ady:Env:=(eZ [(242,vA)] [274])
def aj0:Hints:=(hZ [(2,[0,1,5])] [34,38,42,57,68])
def adx:PFn:=aE (runF Tryz.prog ady aj0 Tryz.f179)
def anK:TH:={ joins:=[(3,{ keep:=[(5,(.own 0))],mem:=[.row true 82 tT12] }),(10,{ keep:=[(5,(.own 0)),(6,(.int .i64))],mem:=[.row true 82 tT12] })],loops:=[(2,{ keep:=[(0,(.sl tT12)),(1,(.sl tT12)),(5,(.own 0))],mem:=[.row true 82 tT12] })],ro:=[] }
def fc (y2:(List vV2×List vV2×List vV2×Unit)):Option ((List vV2×List vV2×List vV2×Unit)⊕List vV2) :=
(cond (decide ((y2.1.length:Int)>0)) (some (.inl (y2.2.2.1,()))) (cond (decide ((y2.2.1.length:Int)>0)) (
 some (.inl (y2.2.2.1,()))) (
 some (.inr (.inr y2.2.2.1)))):Option ((List vV2×Unit)⊕((List vV2×List vV2×List vV2×Unit)⊕List vV2))).bind (bQ fun v1 =>
(cond (decide ((y2.1.length:Int)=0)) (
 some (.inl (1,v1.1,()))) (
 cond (decide ((y2.2.1.length:Int)>0)) (
(atI y2.1 0).bind fun x2 =>
(atI y2.2.1 0).bind fun x3 =>
(zax x2 x3).bind fun r4 =>
 some (.inl (r4,v1.1,()))) (
 some (.inl ((-1),v1.1,())))):Option ((Int×List vV2×Unit)⊕((List vV2×List vV2×List vV2×Unit)⊕List vV2))).bind (bQ fun v5 =>
 cond (decide (v5.1<0)) (
(atI y2.1 0).bind fun x6 =>
(dP (v5.2.1.length+([x6]:List vV2).length)).bind fun u7 =>
(subI y2.1 1 (y2.1.length:Int)).bind fun s8 =>
 some (.inl (s8,y2.2.1,(v5.2.1++([x6]:List vV2)),()))) (
 cond (decide (v5.1>0)) (
(atI y2.2.1 0).bind fun x9 =>
(dP (v5.2.1.length+([x9]:List vV2).length)).bind fun u10 =>
(subI y2.2.1 1 (y2.2.1.length:Int)).bind fun s11 =>
 some (.inl (y2.1,s11,(v5.2.1++([x9]:List vV2)),()))) (
(atI y2.1 0).bind fun x12 =>
(atI y2.1 0).bind fun x13 =>
(atI y2.2.1 0).bind fun x14 =>
(dP (v5.2.1.length+([(x12.1,(max x13.2.1 x14.2.1),())]:List vV2).length)).bind fun u15 =>
(subI y2.1 1 (y2.1.length:Int)).bind fun s16 =>
(subI y2.2.1 1 (y2.2.1.length:Int)).bind fun s17 =>
 some (.inl (s16,s17,(v5.2.1++([(x12.1,(max x13.2.1 x14.2.1),())]:List vV2)),()))))))
def zb4 (a0:List vV2) (a1:List vV2):Option (List vV2) :=
 aM (fc) (a0,a1,[],())
def vq:TFn:={ ps:=(.cons (.sl tT12) (.cons (.sl tT12) .unit)),res:=(.sl tT12),fn:=fun v=>zb4 v.1 v.2.1 }
def ajZ:TEnv:={ pure:=[(242,pG)],look:=[],glob:=G0T,ty:=[(82,tT12)],raw:=[],fresh:=[] }
theorem ajY:runY Tryz.prog ady aj0 ajZ anK Tryz.f179 vq.ps vq.res=vq.fn:=by kernel_rfl
theorem adw:aC Tryz.prog G0 179 adx:=ah (ak ⟨ay,(ai pH ae),ar,ae,aq⟩ Tryz.func179 rfl (by kernel_rfl))
theorem ajX:TOk adx vq:=az (E:=ady) (ET:=ajZ) (EnvT.ofX (ax (ac vz al)) am ap aL an) ajY rfl
def adk:Env:=(eZ [(179,adx)] [274])
def ajE:Hints:=(hZ [] [])
def adj:PFn:=aE (runF Tryz.prog adk ajE Tryz.f104)
def anE:TH:=yZ
def zba (a0:vV0) (a1:List vV2):Option vV0 :=
(zb4 a0.2.1 a1).bind fun r1 =>
 some (a0.1,r1,a0.2.2.1,a0.2.2.2.1,a0.2.2.2.2.1,())
def vj:TFn:={ ps:=(.cons tT10 (.cons (.sl tT12) .unit)),res:=tT10,fn:=fun v=>zba v.1 v.2.1 }
def ajD:TEnv:=(vZ [(179,vq)])
theorem ajC:runY Tryz.prog adk ajE ajD anE Tryz.f104 vj.ps vj.res=vj.fn:=by kernel_rfl
theorem adi:aC Tryz.prog G0 104 adj:=ah (ak ⟨ay,(ai adw ae),ar,ae,aq⟩ Tryz.func104 rfl (by kernel_rfl))
theorem ajB:TOk adj vj:=az (E:=adk) (ET:=ajD) (EnvT.ofX (ax (ac ajX al)) am ap aL an) ajC rfl
def acB:Env:={ pure:=[],raw:=[(180,yM)],glob:=G0,same:=[274],look:=[],ext:=[] }
def aiy:Hints:={ seqs:=[],loops:=[(6,[0,3,5])],own:=[14],frz:=[(3,[3])] }
def acA:PFn:=aE (runF Tryz.prog acB aiy Tryz.f105)
def anl:TH:={ loops:=[(6,{ keep:=[(3,(.bx 0 0)),(5,(.int .i64))],mem:=[.box 86 tT15] })],ro:=[] }
def aaq (a0:List (Int×Int×Unit)) (y6:(Int×vV5×Unit)):Option ((Int×vV5×Unit)⊕List (Int×Int×Unit)) :=
 cond (decide (y6.1≥0)) (
(atI a0 y6.1).bind fun x3 =>
 cond (eqV tT11 x3 y6.2.1.2.2.2.1.1) (
(subI a0 0 y6.1).bind fun s4 =>
(zar s4).bind fun n5 =>
 some (.inr n5)) (
 some (.inl ((IntKind.wrap .i64 (y6.1-1)),y6.2.1,())))) (
 some (.inr a0))
def zbs (a0:List (Int×Int×Unit)) (a1:vV5):Option (List (Int×Int×Unit)) :=
 cond (decide (a1.2.2.2.2.1=1)) (
(zar a0).bind fun n1 =>
(dP (n1.length+([a1.2.2.2.1.1]:List (Int×Int×Unit)).length)).bind fun u2 =>
 some (n1++([a1.2.2.2.1.1]:List (Int×Int×Unit)))) (
 cond (decide (a1.2.2.2.2.1=2)) (
 aM (aaq a0) ((IntKind.wrap .i64 ((a0.length:Int)-1)),a1,())) (
 some a0))
def uQ:TFn:={ ps:=(.cons (.sl tT11) (.cons tT15 .unit)),res:=(.sl tT11),fn:=fun v=>zbs v.1 v.2.1 }
def aix:TEnv:={ pure:=[],look:=[],glob:=G0T,ty:=[(72,tT11)],raw:=[],fresh:=[(180,adZ)] }
theorem aiw:runY Tryz.prog acB aiy aix anl Tryz.f105 uQ.ps uQ.res=uQ.fn:=by kernel_rfl
theorem acz:aC Tryz.prog G0 105 acA:=ah (ak ⟨ay,ae,(fA vF ar),ae,aq⟩ Tryz.func105 rfl (by kernel_rfl))
theorem aiv:TOk acA uQ:=az (E:=acB) (ET:=aix) (EnvT.ofX (ax al) am (jT ap rfl) aL (j5 aax rfl rfl rfl an)) aiw rfl
def ad9:Go.Shelf.Ren:=⟨fun | 41=>182 | n=>n,fun | 22=>39 | 23=>82 | 4=>4 | n=>n,fun | n=>n⟩
theorem yQ:Go.Proofs.SlLaysE0.n41 Tryz.prog ad9:={
 mixed:=by kernel_rfl
 f41:=⟨Tryz.f182.name,by decide,Tryz.func182.trans (congrArg some (by kernel_rfl))⟩
 t4:=Tryz.underlying4
 a4:=Tryz.isAgg4
 z4:=Tryz.sizeOf4
 v4:=Tryz.zeroValue4
 t22:=Tryz.underlying39
 a22:=Tryz.isAgg39
 z22:=Tryz.sizeOf39
 v22:=Tryz.zeroValue39 }
def aeb:PFn:=(iU 3)
theorem aea:aC Tryz.prog G0 182 aeb:=clone_lays yQ 3 ⟨Tryz.f182,Tryz.func182,rfl,by kernel_rfl⟩ (by kernel_rfl) (by kernel_rfl) (by kernel_rfl) (by kernel_rfl) (by kernel_rfl) (by decide) (fun w=>Tryz.sizeOf82 w)
def zan (a0:List vV2):Option (List vV2):=eH a0
def akO:TFn:=e8 tT12
theorem akN:TOk aeb akO:=kE rfl rfl rfl
def aef:Go.Shelf.Ren:=⟨fun | 41=>181 | n=>n,fun | 22=>22 | 23=>78 | 4=>4 | n=>n,fun | n=>n⟩
theorem yS:Go.Proofs.SlLaysE0.n41 Tryz.prog aef:={
 mixed:=by kernel_rfl
 f41:=⟨Tryz.f181.name,by decide,Tryz.func181.trans (congrArg some (by kernel_rfl))⟩
 t4:=Tryz.underlying4
 a4:=Tryz.isAgg4
 z4:=Tryz.sizeOf4
 v4:=Tryz.zeroValue4
 t22:=Tryz.underlying22
 a22:=Tryz.isAgg22
 z22:=Tryz.sizeOf22
 v22:=Tryz.zeroValue22 }
def aeh:PFn:=(iU 6)
theorem aeg:aC Tryz.prog G0 181 aeh:=clone_lays yS 6 ⟨Tryz.f181,Tryz.func181,rfl,by kernel_rfl⟩ (by kernel_rfl) (by kernel_rfl) (by kernel_rfl) (by kernel_rfl) (by kernel_rfl) (by decide) (fun w=>Tryz.sizeOf78 w)
def zal (a0:List vV1):Option (List vV1):=eH a0
def akS:TFn:=e8 tT9
theorem akR:TOk aeh akS:=kE rfl rfl rfl
def aec:Go.Shelf.Ren:=⟨fun | 41=>180 | n=>n,fun | 22=>64 | 23=>72 | 4=>4 | n=>n,fun | n=>n⟩
theorem yR:Go.Proofs.SlLaysE0.n41 Tryz.prog aec:={
 mixed:=by kernel_rfl
 f41:=⟨Tryz.f180.name,by decide,Tryz.func180.trans (congrArg some (by kernel_rfl))⟩
 t4:=Tryz.underlying4
 a4:=Tryz.isAgg4
 z4:=Tryz.sizeOf4
 v4:=Tryz.zeroValue4
 t22:=Tryz.underlying64
 a22:=Tryz.isAgg64
 z22:=Tryz.sizeOf64
 v22:=Tryz.zeroValue64 }
def aee:PFn:=(iU 2)
theorem aed:aC Tryz.prog G0 180 aee:=clone_lays yR 2 ⟨Tryz.f180,Tryz.func180,rfl,by kernel_rfl⟩ (by kernel_rfl) (by kernel_rfl) (by kernel_rfl) (by kernel_rfl) (by kernel_rfl) (by decide) (fun w=>Tryz.sizeOf72 w)
def zam (a0:List (Int×Int×Unit)):Option (List (Int×Int×Unit)):=eH a0
def akQ:TFn:=e8 tT11
theorem akP:TOk aee akQ:=kE rfl rfl rfl
def ac0:Env:=(eZ [(180,aee),(181,aeh),(182,aeb)] [274])
def ajd:Hints:=(hZ [(6,[1,2,26,27])] [])
def acZ:PFn:=aE (runF Tryz.prog ac0 ajd Tryz.f107)
def anw:TH:={ loops:=[(6,{ keep:=[(1,(.bx 0 0)),(2,(.bx 1 0)),(27,(.int .i64))],mem:=[.box 69 tT10,.box 69 (.agg (.cons .nilsl (.cons .nilsl (.cons tT17 (.cons tT17 (.cons (.arr 8 .nilsl) .unit))))))] })],ro:=[] }
def aja (a0:vV0) (y6:(Int×vV0×(Unit×Unit×vV7×vV7×List Unit×Unit)×Unit)):Option ((Int×vV0×(Unit×Unit×vV7×vV7×List Unit×Unit)×Unit)⊕vV0) :=
 cond (decide (y6.1<8)) (
(atI a0.2.2.2.2.1 y6.1).bind fun x5 =>
(zam x5).bind fun r6 =>
(inI 8 y6.1).bind fun i7 =>
(y6.2.1.2.2.2.2.1[i7]?).bind fun x8 =>
 some (.inl ((IntKind.wrap .i64 (y6.1+1)),(y6.2.1.1,y6.2.1.2.1,y6.2.1.2.2.1,y6.2.1.2.2.2.1,(y6.2.1.2.2.2.2.1.set i7 r6),()),y6.2.2.1,()))) (
 some (.inr y6.2.1))
def zbh (a0:vV0):Option vV0 :=
(zal a0.1).bind fun r1 =>
(zan a0.2.1).bind fun r2 =>
(zam a0.2.2.1.2.1).bind fun r3 =>
(zam a0.2.2.2.1.2.1).bind fun r4 =>
 aM (aja a0) (0,(r1,r2,(a0.2.2.1.1,r3,()),(a0.2.2.2.1.1,r4,()),a0.2.2.2.2.1,()),((),(),([0,0,0,0,0,0,0,0,0,0,0,0,0,0,0,0],(),()),([0,0,0,0,0,0,0,0,0,0,0,0,0,0,0,0],(),()),[(),(),(),(),(),(),(),()],()),())
def u9:TFn:={ ps:=(.cons tT10 .unit),res:=tT10,fn:=fun v=>zbh v.1 }
def ajc:TEnv:=(vZ [(180,akQ),(181,akS),(182,akO)])
theorem ajb:runY Tryz.prog ac0 ajd ajc anw Tryz.f107 u9.ps u9.res=u9.fn:=by kernel_rfl
theorem acY:aC Tryz.prog G0 107 acZ:=ah (ak ⟨ay,(ai aed (ai aeg (ai aea ae))),ar,ae,aq⟩ Tryz.func107 rfl (by kernel_rfl))
theorem ai9:TOk acZ u9:=az (E:=ac0) (ET:=ajc) (EnvT.ofX (ax (ac akP (ac akR (ac akN al)))) am ap aL an) ajb rfl
def ac4:Env:=(eZ [(97,yx),(104,adj),(105,acA),(107,acZ)] [274])
def ajk:Hints:=(hZ [] [])
def yI:PFn:=aE (runF Tryz.prog ac4 ajk Tryz.f40)
def anz:TH:={ loops:=[],ro:=[3] }
def zbf (a0:vV0) (a1:vV5):Option vV0 :=
 cond (decide (a1.1=1)) (
(zcv a0 a1.2.1).bind fun r1 =>
(inI 8 a1.2.1.2.1).bind fun i2 =>
(r1.2.2.2.2.1[i2]?).bind fun x3 =>
 some (r1.1,r1.2.1,r1.2.2.1,r1.2.2.2.1,(r1.2.2.2.2.1.set i2 []),())) (
 cond (decide (a1.1=2)) (
(zba a0 ([a1.2.2.2.1]:List vV2)).bind fun r4 =>
(inI 8 a1.2.2.1).bind fun i5 =>
(r4.2.2.2.2.1[i5]?).bind fun x6 =>
(zbs x6 a1).bind fun r7 =>
(inI 8 a1.2.2.1).bind fun i8 =>
(r4.2.2.2.2.1[i8]?).bind fun x9 =>
 some (r4.1,r4.2.1,r4.2.2.1,r4.2.2.2.1,(r4.2.2.2.2.1.set i8 r7),())) (
 cond (decide (a1.1=3)) (
 none) (
 cond (decide (a1.1=4)) (
(zbh a1.2.2.2.2.2.2.1).bind fun r10 =>
 some r10) (
 some a0))))
def sH:TFn:={ ps:=(.cons tT10 (.cons tT15 .unit)),res:=tT10,fn:=fun v=>zbf v.1 v.2.1 }
def ajj:TEnv:={ pure:=[(97,sv),(104,vj),(105,uQ),(107,u9)],look:=[],glob:=G0T,ty:=[(82,tT12)],raw:=[],fresh:=[] }
theorem aji:runY Tryz.prog ac4 ajk ajj anz Tryz.f40 sH.ps sH.res=sH.fn:=by kernel_rfl
theorem ve:aC Tryz.prog G0 40 yI:=ah (ak ⟨ay,(ai tY (ai adi (ai acz (ai acY ae)))),ar,ae,aq⟩ Tryz.func40 rfl (by kernel_rfl))
theorem aau:TOk yI sH:=az (E:=ac4) (ET:=ajj) (EnvT.ofX (ax (ac aai (ac ajB (ac aiv (ac ai9 al))))) am ap aL an) aji rfl
def adm:Env:=(eZ [(75,yD),(100,yz)] [274])
def ajK:Hints:=(hZ [(5,[2,4,6,7])] [])
def yK:PFn:=aE (runF Tryz.prog adm ajK Tryz.f44)
def anG:TH:={ loops:=[(5,{ keep:=[(2,(.bx 0 0)),(4,(.bx 1 0)),(7,(.int .i64))],mem:=[.box 69 tT10,.box 72 tT11] })],ro:=[] }
def vl (x2:List (Int×Int×Unit)) (y5:(Int×vV0×(Int×Int×Unit)×Unit)):Option ((Int×vV0×(Int×Int×Unit)×Unit)⊕vV2) :=
 cond (decide (y5.1≥0)) (
(atI x2 y5.1).bind fun x3 =>
(zca y5.2.1.2.1 x3).bind fun r4 =>
 cond r4 (
 some (.inl ((IntKind.wrap .i64 (y5.1-1)),y5.2.1,y5.2.2.1,()))) (
(atI x2 y5.1).bind fun x5 =>
(zco y5.2.1 x5).bind fun r6 =>
 cond (!decide (r6=0)) (
 some (.inr ((0,0,()),r6,()))) (
(atI x2 y5.1).bind fun x7 =>
 some (.inr (x7,0,()))))) (
 some (.inr ((0,0,()),11,())))
def zb8 (a0:vV0) (a1:Int):Option vV2 :=
 cond (decide (a1<0)) (some ((0,0,()),2,())) (cond (decide (a1≥8)) (
 some ((0,0,()),2,())) (
(inI 8 a1).bind fun i1 =>
(a0.2.2.2.2.1[i1]?).bind fun x2 =>
 aM (vl x2) ((IntKind.wrap .i64 ((x2.length:Int)-1)),a0,(0,0,()),())))
def sJ:TFn:={ ps:=(.cons tT10 tT18),res:=(.tup (.cons tT11 tT18)),fn:=fun v=>zb8 v.1 v.2.1 }
def ajJ:TEnv:=(vZ [(75,sC),(100,sx)])
theorem ajI:runY Tryz.prog adm ajK ajJ anG Tryz.f44 sJ.ps sJ.res=sJ.fn:=by kernel_rfl
theorem vm:aC Tryz.prog G0 44 yK:=ah (ak ⟨ay,(ai uC (ai ug ae)),ar,ae,aq⟩ Tryz.func44 rfl (by kernel_rfl))
theorem aaw:TOk yK sJ:=az (E:=adm) (ET:=ajJ) (EnvT.ofX (ax (ac aao (ac aak al))) am ap aL an) ajI rfl
def acN:Env:=(eZ [(35,yC),(39,adE),(40,yI),(44,yK),(97,yx),(98,abv)] [274])
def aiO:Hints:=(hZ [] [])
def acM:PFn:=aE (runF Tryz.prog acN aiO Tryz.f34)
def anp:TH:={ loops:=[],cuts:=[(7,[(7,{ keep:=[(2,(.bx 1 0)),(7,(.bx 4 0)),(46,.bool)],mem:=[.gone,.box 72 tT11,.gone,.gone,.box 72 tT11,.gone] }),(4,{ keep:=[(2,(.bx 1 0)),(7,(.bx 4 0)),(50,.bool)],mem:=[.gone,.box 72 tT11,.gone,.gone,.box 72 tT11,.gone] })])],ro:=[],news:=[] }
def zbo:Option Bool :=
(zcl 1).bind fun r1 =>
(zcv ([],[],([0,0,0,0,0,0,0,0,0,0,0,0,0,0,0,0],[],()),([0,0,0,0,0,0,0,0,0,0,0,0,0,0,0,0],[],()),[[],[],[],[],[],[],[],[]],()) r1).bind fun r2 =>
(zcl 2).bind fun r3 =>
(zcv r2 r3).bind fun r4 =>
(zcc r4 1).bind fun r5 =>
(zb1 r4 1 r5.1 1).bind fun r6 =>
(zbf r4 r6.1).bind fun r7 =>
(zb8 r7 1).bind fun r8 =>
(zcc r4 0).bind fun r9 =>
(cond (decide (r5.2.1=0)) (some ((decide (r5.1.2.1=2)),r5.1,r8.1,())) (some (false,r5.1,r8.1,())):Option (Bool×(Int×Int×Unit)×(Int×Int×Unit)×Unit)).bind fun v10 =>
(cond v10.1 (some ((decide (r6.2.1=0)),v10.2.1,v10.2.2.1,())) (some (false,v10.2.1,v10.2.2.1,())):Option (Bool×(Int×Int×Unit)×(Int×Int×Unit)×Unit)).bind fun v11 =>
 cond v11.1 (cond (decide (r8.2.1=0)) (cond (eqV tT11 v11.2.2.1 v11.2.1) (some (decide (r9.2.1=11))) (some false)) (some false)) (some false)
def uU:TFn:={ ps:=.unit,res:=.bool,fn:=fun v=>zbo  }
def aiN:TEnv:=(vZ [(35,sB),(39,vv),(40,sH),(44,sJ),(97,sv),(98,uj)])
theorem aiM:runY Tryz.prog acN aiO aiN anp Tryz.f34 uU.ps uU.res=uU.fn:=by kernel_rfl
theorem acL:aC Tryz.prog G0 34 acM:=ah (ak ⟨ay,(ai uA (ai adD (ai ve (ai vm (ai tY (ai abu ae)))))),ar,ae,aq⟩ Tryz.func34 rfl (by kernel_rfl))
theorem aiL:TOk acM uU:=az (E:=acN) (ET:=aiN) (EnvT.ofX (ax (ac aan (ac aj9 (ac aau (ac aaw (ac aai (ac agS al))))))) am ap aL an) aiM rfl
def adp:Env:=(eZ [] [274])
def ajO:Hints:=(hZ [(2,[0,3,5])] [])
def ado:PFn:=aE (runF Tryz.prog adp ajO Tryz.f36)
def anH:TH:={ loops:=[(2,{ keep:=[(3,(.bx 0 0)),(5,(.int .i64))],mem:=[.same] })],ro:=[3] }
def qP (a0:List vV1) (a1:(Int×Int×Unit)) (y2:(Int×Unit)):Option ((Int×Unit)⊕Int) :=
 cond (decide (y2.1<(a0.length:Int))) (
(atI a0 y2.1).bind fun x1 =>
 cond (eqV tT11 x1.1 a1) (
 some (.inr y2.1)) (
 some (.inl ((IntKind.wrap .i64 (y2.1+1)),())))) (
 some (.inr (-1)))
def zb7 (a0:List vV1) (a1:(Int×Int×Unit)):Option Int :=
 aM (qP a0 a1) (0,())
def vn:TFn:={ ps:=(.cons (.sl tT9) (.cons tT11 .unit)),res:=(.int .i64),fn:=fun v=>zb7 v.1 v.2.1 }
def ajN:TEnv:=(vZ [])
theorem ajM:runY Tryz.prog adp ajO ajN anH Tryz.f36 vn.ps vn.res=vn.fn:=by kernel_rfl
theorem adn:aC Tryz.prog G0 36 ado:=ah (ak ⟨ay,ae,ar,ae,aq⟩ Tryz.func36 rfl (by kernel_rfl))
theorem ajL:TOk ado vn:=az (E:=adp) (ET:=ajN) (EnvT.ofX (ax al) am ap aL an) ajM rfl
def dt (a0:List vV2) (a1:(Int×Int×Unit)) (y2:(Int×Unit)):Option ((Int×Unit)⊕Int) :=
 cond (decide (y2.1<(a0.length:Int))) (
(atI a0 y2.1).bind fun x1 =>
 cond (eqV tT11 x1.1 a1) (
(atI a0 y2.1).bind fun x2 =>
 some (.inr x2.2.1)) (
 some (.inl ((IntKind.wrap .i64 (y2.1+1)),())))) (
 some (.inr 0))
def jR (a0:List vV2) (a1:(Int×Int×Unit)):Option Int :=
 aM (dt a0 a1) (0,())
def da (a0:List vV2) (a1:(Int×Int×Unit)):Option Bool :=
(jR a0 a1).bind fun r1 =>
(remT r1 2).bind fun t2 =>
 some (decide (t2=0))
def dH (a0:vV1) (a1:vV1):Option Int :=
 cond (decide (a0.2.2.1<a1.2.2.1)) (
 some (-1)) (
 cond (decide (a0.2.2.1>a1.2.2.1)) (
 some 1) (
(zaz a0.1 a1.1).bind fun r1 =>
 some r1))
def bE (a0:vV0) (a1:Int) (r7:Int) (y10:(Int×(Int×Int×Unit)×Unit)):Option ((Int×(Int×Int×Unit)×Unit)⊕(((Int×Int×Unit)×Unit)⊕Bool)) :=
 cond (decide (y10.1<(a0.1.length:Int))) (
((atI a0.1 y10.1).bind fun x10 =>
 cond (decide (x10.2.1=a1)) ((atI a0.1 y10.1).bind fun x11 =>
(da a0.2.1 x11.1).bind fun r12 =>
 some (r12,y10.2.1,())) (some (false,y10.2.1,())):Option (Bool×(Int×Int×Unit)×Unit)).bind fun v13 =>
 cond v13.1 ((atI a0.1 y10.1).bind fun x14 =>
(atI a0.1 r7).bind fun x15 =>
(dH x14 x15).bind fun r16 =>
 cond (decide (r16>0)) (
 some (.inr (.inr false))) (
 some (.inl ((IntKind.wrap .i64 (y10.1+1)),v13.2.1,())))) (some (.inl ((IntKind.wrap .i64 (y10.1+1)),v13.2.1,())))) (
 some (.inr (.inl (y10.2.1,()))))
def dW (a0:vV0) (a1:Int):Option Bool :=
(zb0 a0).bind fun r1 =>
 cond (!r1) ((zbo).bind fun r2 =>
 some r2) (cond (decide (a1<0)) ((zbo).bind fun r3 =>
 some r3) (cond (decide (a1≥8)) (
(zbo).bind fun r4 =>
 some r4) (
(zcc a0 a1).bind fun r5 =>
 cond (!decide (r5.2.1=0)) (
(zbo).bind fun r6 =>
 some r6) (
(zb7 a0.1 r5.1).bind fun r7 =>
 cond (decide (r7<0)) (some false) ((atI a0.1 r7).bind fun x8 =>
 cond (!decide (x8.2.1=a1)) (some false) ((da a0.2.1 r5.1).bind fun r9 =>
 cond (!r9) (
 some false) (
(aM (bE a0 a1 r7) (0,r5.1,()):Option (((Int×Int×Unit)×Unit)⊕Bool)).bind (bQ fun v17 =>
(zb1 a0 a1 v17.1 1).bind fun r18 =>
(zbf a0 r18.1).bind fun r19 =>
(zcc r19 a1).bind fun r20 =>
 cond (!decide (r20.2.1=0)) (
(zbo).bind fun r21 =>
 some r21) (
(zb7 a0.1 r20.1).bind fun r22 =>
 cond (decide (r22≥0)) ((atI a0.1 r22).bind fun x23 =>
(atI a0.1 r7).bind fun x24 =>
(dH x23 x24).bind fun r25 =>
 cond (decide (r25<0)) ((zbo).bind fun r26 =>
 some r26) (some false)) (some false))))))))))
def de:TFn:={ ps:=(.cons tT10 tT18),res:=.bool,fn:=fun v=>dW v.1 v.2.1 }
def adv:Env:=(eZ [] [274])
def ajW:Hints:=(hZ [(3,[3,7,8,9])] [])
def adu:PFn:=aE (runF Tryz.prog adv ajW Tryz.f43)
def anJ:TH:={ loops:=[(3,{ keep:=[(3,(.int .i64)),(9,(.int .i64))],mem:=[.same] })],ro:=[1] }
def qQ (a0:vV0) (y3:(Int×Int×Unit)):Option ((Int×Int×Unit)⊕Int) :=
 cond (decide (y3.2.1<(a0.1.length:Int))) (
(atI a0.1 y3.2.1).bind fun x1 =>
 some (.inl ((max y3.1 x1.2.2.1),(IntKind.wrap .i64 (y3.2.1+1)),()))) (
 some (.inr y3.1))
def zb5 (a0:vV0):Option Int :=
 aM (qQ a0) (0,0,())
def vp:TFn:={ ps:=(.cons tT10 .unit),res:=(.int .i64),fn:=fun v=>zb5 v.1 }
def ajV:TEnv:=(vZ [])
theorem ajU:runY Tryz.prog adv ajW ajV anJ Tryz.f43 vp.ps vp.res=vp.fn:=by kernel_rfl
theorem adt:aC Tryz.prog G0 43 adu:=ah (ak ⟨ay,ae,ar,ae,aq⟩ Tryz.func43 rfl (by kernel_rfl))
theorem ajT:TOk adu vp:=az (E:=adv) (ET:=ajV) (EnvT.ofX (ax al) am ap aL an) ajU rfl
def adV:Env:=(eZ [(33,adH),(34,acM),(35,yC),(36,ado),(40,yI),(41,yH),(42,yU),(43,adu),(44,yK)] [274])
def akE:Hints:=(hZ [(4,[2,3,5])] [])
def akF:PFn:=aE (runF Tryz.prog adV akE Tryz.f7)
def anV:TH:={ joins:=[(8,{ keep:=[(2,(.bx 0 0)),(3,(.bx 1 0))],mem:=[.same,.box 78 tT9] })],loops:=[(4,{ keep:=[(2,(.bx 0 0)),(3,(.bx 1 0)),(5,(.int .i64))],mem:=[.same,.box 78 tT9] })],cuts:=[(1,[(8,{ keep:=[(2,(.bx 0 0)),(3,(.bx 1 0)),(18,.bool)],mem:=[.same,.box 78 tT9] })])],ro:=[2],news:=[] }
def qR (a0:vV0) (y4:(Int×vV1×Unit)):Option ((Int×vV1×Unit)⊕((vV1×Unit)⊕Bool)) :=
 cond (decide (y4.1<(a0.2.1.length:Int))) (
(atI a0.2.1 y4.1).bind fun x9 =>
 cond (eqV tT11 x9.1 y4.2.1.1) (
(zbo).bind fun r10 =>
 some (.inr (.inr r10))) (
 some (.inl ((IntKind.wrap .i64 (y4.1+1)),y4.2.1,())))) (
 some (.inr (.inl (y4.2.1,()))))
def zat (a0:vV0) (a1:vV1):Option Bool :=
((zb0 a0).bind fun r1 =>
 cond (!r1) (some (true,a1,())) ((zbi a1).bind fun r2 =>
 some ((!r2),a1,())):Option (Bool×vV1×Unit)).bind fun v3 =>
 cond v3.1 ((zbo).bind fun r4 =>
 some r4) ((za8 v3.2.1).bind fun r5 =>
 cond (!decide (r5=0)) ((zbo).bind fun r6 =>
 some r6) ((zb7 a0.1 v3.2.1.1).bind fun r7 =>
 cond (decide (r7≥0)) (
(zbo).bind fun r8 =>
 some r8) (
(aM (qR a0) (0,v3.2.1,()):Option ((vV1×Unit)⊕Bool)).bind (bQ fun v11 =>
(zb5 a0).bind fun r12 =>
 cond (decide (r12≥1099511627776)) (
(zbo).bind fun r13 =>
 some r13) (
(zbf a0 (1,(v11.1.1,v11.1.2.1,(IntKind.wrap .i64 (r12+1)),v11.1.2.2.2.1,v11.1.2.2.2.2.1,()),0,((0,0,()),0,()),0,([],[],[],()),([],[],([0,0,0,0,0,0,0,0,0,0,0,0,0,0,0,0],[],()),([0,0,0,0,0,0,0,0,0,0,0,0,0,0,0,0],[],()),[[],[],[],[],[],[],[],[]],()),())).bind fun r14 =>
(zcc (r14.1,r14.2.1,r14.2.2.1,([0,0,0,0,0,0,0,0,0,0,0,0,0,0,0,0],[],()),r14.2.2.2.2.1,()) v11.1.2.1).bind fun r15 =>
(zb8 (r14.1,r14.2.1,r14.2.2.1,([0,0,0,0,0,0,0,0,0,0,0,0,0,0,0,0],[],()),r14.2.2.2.2.1,()) v11.1.2.1).bind fun r16 =>
 cond (decide (r15.2.1=0)) (cond (eqV tT11 r15.1 v11.1.1) (cond (decide (r16.2.1=11)) ((zbo).bind fun r17 =>
 some r17) (some false)) (some false)) (some false))))))
def pK:TFn:={ ps:=(.cons tT10 (.cons tT9 .unit)),res:=.bool,fn:=fun v=>zat v.1 v.2.1 }
def akD:TEnv:=(vZ [(33,vx),(34,uU),(35,sB),(36,vn),(40,sH),(41,sG),(42,sL),(43,vp),(44,sJ)])
theorem akC:runY Tryz.prog adV akE akD anV Tryz.f7 pK.ps pK.res=pK.fn:=by kernel_rfl
theorem zat_Fok:aC Tryz.prog G0 7 akF:=ah (ak ⟨ay,(ai adG (ai acL (ai uA (ai adn (ai ve (ai uZ (ai vR (ai adt (ai vm ae))))))))),ar,ae,aq⟩ Tryz.func7 rfl (by kernel_rfl))
theorem zat_ok:TOk akF pK:=az (E:=adV) (ET:=akD) (EnvT.ofX (ax (ac akd (ac aiL (ac aan (ac ajL (ac aau (ac aat (ac aaz (ac ajT (ac aaw al)))))))))) am ap aL an) akC rfl
def cA (y7:vV8) (x3:vV3) (y10:vV8):Option (vV8⊕(vV8⊕(vV8⊕(List (vV2×Bool))))) :=
 cond (decide (y10.1<(x3.2.2.2.2.1.length:Int))) (
(atI x3.2.2.2.2.1 y10.1).bind fun x4 =>
 some (.inl ((IntKind.wrap .i64 (y10.1+1)),(putK tT12 x4 true y10.2.1),()))) (
 some (.inr (.inl ((IntKind.wrap .i64 (y7.1+1)),y10.2.1,()))))
def cL (y3:vV8) (x1:vV1) (y7:vV8):Option (vV8⊕(vV8⊕(List (vV2×Bool)))) :=
 cond (decide (y7.1<(x1.2.2.2.2.1.length:Int))) (
(atI x1.2.2.2.2.1 y7.1).bind fun x3 =>
 aM (cA y7 x3) (0,y7.2.1,())) (
 some (.inr (.inl ((IntKind.wrap .i64 (y3.1+1)),y7.2.1,()))))
def cM (a0:List vV1) (a1:List vV2) (y3:vV8):Option (vV8⊕(List (vV2×Bool))) :=
 cond (decide (y3.1<(a0.length:Int))) (
(atI a0 y3.1).bind fun x1 =>
(zca a1 x1.1).bind fun r2 =>
 cond (!r2) (
 some (.inl ((IntKind.wrap .i64 (y3.1+1)),y3.2.1,()))) (
 aM (cL y3 x1) (0,y3.2.1,()))) (
 some (.inr y3.2.1))
def fy (a0:List vV1) (a1:List vV2):Option (List (vV2×Bool)) :=
 aM (cM a0 a1) (0,[],())
def eQ (y4:(Int×List (vV2×Bool)×List vV6×Unit)) (x2:vV1) (y8:(Int×List (vV2×Bool)×List vV6×vV1×Unit)):Option ((Int×List (vV2×Bool)×List vV6×vV1×Unit)⊕((Int×List (vV2×Bool)×List vV6×Unit)⊕List vV6)) :=
 cond (decide (y8.1<(x2.2.2.2.2.1.length:Int))) (
(atI x2.2.2.2.2.1 y8.1).bind fun x4 =>
 cond (decide (x4.1=1)) (cond (!((getK tT12 false (y8.2.2.2.1.1,y8.1,()) y8.2.1).1)) (
(dP (y8.2.2.1.length+([((y8.2.2.2.1.1,y8.1,()),x4,y8.2.2.2.1.2.2.1,())]:List vV6).length)).bind fun u5 =>
 some (.inl ((IntKind.wrap .i64 (y8.1+1)),y8.2.1,(y8.2.2.1++([((y8.2.2.2.1.1,y8.1,()),x4,y8.2.2.2.1.2.2.1,())]:List vV6)),y8.2.2.2.1,()))) (
 some (.inl ((IntKind.wrap .i64 (y8.1+1)),y8.2.1,y8.2.2.1,y8.2.2.2.1,())))) (cond (decide (x4.1=2)) (cond (!((getK tT12 false (y8.2.2.2.1.1,y8.1,()) y8.2.1).1)) (
(dP (y8.2.2.1.length+([((y8.2.2.2.1.1,y8.1,()),x4,y8.2.2.2.1.2.2.1,())]:List vV6).length)).bind fun u6 =>
 some (.inl ((IntKind.wrap .i64 (y8.1+1)),y8.2.1,(y8.2.2.1++([((y8.2.2.2.1.1,y8.1,()),x4,y8.2.2.2.1.2.2.1,())]:List vV6)),y8.2.2.2.1,()))) (
 some (.inl ((IntKind.wrap .i64 (y8.1+1)),y8.2.1,y8.2.2.1,y8.2.2.2.1,())))) (cond (decide (x4.1=3)) (cond (!((getK tT12 false (y8.2.2.2.1.1,y8.1,()) y8.2.1).1)) (
(dP (y8.2.2.1.length+([((y8.2.2.2.1.1,y8.1,()),x4,y8.2.2.2.1.2.2.1,())]:List vV6).length)).bind fun u7 =>
 some (.inl ((IntKind.wrap .i64 (y8.1+1)),y8.2.1,(y8.2.2.1++([((y8.2.2.2.1.1,y8.1,()),x4,y8.2.2.2.1.2.2.1,())]:List vV6)),y8.2.2.2.1,()))) (
 some (.inl ((IntKind.wrap .i64 (y8.1+1)),y8.2.1,y8.2.2.1,y8.2.2.2.1,())))) (some (.inl ((IntKind.wrap .i64 (y8.1+1)),y8.2.1,y8.2.2.1,y8.2.2.2.1,())))))) (
 some (.inr (.inl ((IntKind.wrap .i64 (y4.1+1)),y8.2.1,y8.2.2.1,()))))
def eR (a0:List vV1) (a1:List vV2) (y4:(Int×List (vV2×Bool)×List vV6×Unit)):Option ((Int×List (vV2×Bool)×List vV6×Unit)⊕List vV6) :=
 cond (decide (y4.1<(a0.length:Int))) (
(atI a0 y4.1).bind fun x2 =>
(zca a1 x2.1).bind fun r3 =>
 cond (!r3) (
 some (.inl ((IntKind.wrap .i64 (y4.1+1)),y4.2.1,y4.2.2.1,()))) (
 aM (eQ y4 x2) (0,y4.2.1,y4.2.2.1,x2,()))) (
 some (.inr y4.2.2.1))
def nz (a0:List vV1) (a1:List vV2):Option (List vV6) :=
(fy a0 a1).bind fun n1 =>
 aM (eR a0 a1) (0,n1,[],())
def gn (a0:vV0):Option (List vV6) :=
(nz a0.1 a0.2.1).bind fun r1 =>
 some r1
def aV (a0:List (List UInt8)) (a1:List (List UInt8)) (y4:(Int×Unit)):Option ((Int×Unit)⊕Bool) :=
 cond (decide (y4.1<(a0.length:Int))) (
(atI a0 y4.1).bind fun x1 =>
(atI a1 y4.1).bind fun x2 =>
 cond (!decide (x1=x2)) (
 some (.inr false)) (
 some (.inl ((IntKind.wrap .i64 (y4.1+1)),())))) (
 some (.inr true))
def bp (a0:List (List UInt8)) (a1:List (List UInt8)):Option Bool :=
 cond (!decide ((a0.length:Int)=(a1.length:Int))) (
 some false) (
 aM (aV a0 a1) (0,()))
def aS (a0:List vV2) (a1:List vV2) (y4:(Int×Unit)):Option ((Int×Unit)⊕Bool) :=
 cond (decide (y4.1<(a0.length:Int))) (
(atI a0 y4.1).bind fun x1 =>
(atI a1 y4.1).bind fun x2 =>
 cond (!(eqV tT12 x1 x2)) (
 some (.inr false)) (
 some (.inl ((IntKind.wrap .i64 (y4.1+1)),())))) (
 some (.inr true))
def bj (a0:List vV2) (a1:List vV2):Option Bool :=
 cond (!decide ((a0.length:Int)=(a1.length:Int))) (
 some false) (
 aM (aS a0 a1) (0,()))
def wW (a0:vV3) (a1:vV3):Option Bool :=
(cond (decide (a0.1=a1.1)) (some ((eqV tT16 a0.2.2.1 a1.2.2.1),())) (some (false,())):Option (Bool×Unit)).bind fun v1 =>
(cond v1.1 (some ((decide (a0.2.2.2.1=a1.2.2.2.1)),())) (some (false,())):Option (Bool×Unit)).bind fun v2 =>
 cond v2.1 ((bp a0.2.1 a1.2.1).bind fun r3 =>
 cond r3 ((bj a0.2.2.2.2.1 a1.2.2.2.2.1).bind fun r4 =>
 some r4) (some false)) (some false)
def gy (a0:vV6) (a1:vV6):Option Bool :=
 cond (eqV tT12 a0.1 a1.1) (cond (decide (a0.2.2.1=a1.2.2.1)) ((wW a0.2.1 a1.2.1).bind fun r1 =>
 some r1) (some false)) (some false)
def aB (a0:List vV6) (a1:List vV6) (y4:(Int×Unit)):Option ((Int×Unit)⊕Bool) :=
 cond (decide (y4.1<(a0.length:Int))) (
(atI a0 y4.1).bind fun x1 =>
(atI a1 y4.1).bind fun x2 =>
(gy x1 x2).bind fun r3 =>
 cond (!r3) (
 some (.inr false)) (
 some (.inl ((IntKind.wrap .i64 (y4.1+1)),())))) (
 some (.inr true))
def aJ (a0:List vV6) (a1:List vV6) (a2:Unit):Option Bool :=
 cond (!decide ((a0.length:Int)=(a1.length:Int))) (
 some false) (
 aM (aB a0 a1) (0,()))
def kc (a0:List vV6) (a1:List vV6):Option Bool :=
(aJ a0 a1 ()).bind fun r1 =>
 some r1
def bk (y11:(Int×vV0×(Int×Int×Unit)×vV0×Unit)):Option ((Int×vV0×(Int×Int×Unit)×vV0×Unit)⊕((vV0×(Int×Int×Unit)×vV0×Unit)⊕Bool)) :=
 cond (decide (y11.1<(y11.2.1.1.length:Int))) (
(atI y11.2.1.1 y11.1).bind fun x14 =>
 cond (!(eqV tT11 x14.1 y11.2.2.1)) ((da y11.2.2.2.1.2.1 x14.1).bind fun r15 =>
(da y11.2.1.2.1 x14.1).bind fun r16 =>
 cond (!(r15==r16)) (
 some (.inr (.inr false))) (
 some (.inl ((IntKind.wrap .i64 (y11.1+1)),y11.2.1,y11.2.2.1,y11.2.2.2.1,())))) (some (.inl ((IntKind.wrap .i64 (y11.1+1)),y11.2.1,y11.2.2.1,y11.2.2.2.1,())))) (
 some (.inr (.inl (y11.2.1,y11.2.2.1,y11.2.2.2.1,()))))
def db (a0:vV0) (a1:Int):Option Bool :=
(zb0 a0).bind fun r1 =>
 cond (!r1) ((zbo).bind fun r2 =>
 some r2) (cond (decide (a1<0)) ((zbo).bind fun r3 =>
 some r3) (cond (decide (a1≥8)) ((zbo).bind fun r4 =>
 some r4) ((inI 8 a1).bind fun i5 =>
(a0.2.2.2.2.1[i5]?).bind fun x6 =>
 cond (decide ((x6.length:Int)≥40)) (
(zbo).bind fun r7 =>
 some r7) (
(zcc a0 a1).bind fun r8 =>
 cond (!decide (r8.2.1=0)) (
 cond (eqV tT11 r8.1 (0,0,())) ((zbo).bind fun r9 =>
 some r9) (some false)) (
(zb1 a0 a1 r8.1 1).bind fun r10 =>
(zbf a0 r10.1).bind fun r11 =>
 cond (!decide (r10.2.1=0)) (some false) ((da r11.2.1 r8.1).bind fun r12 =>
 cond r12 (some false) ((zb7 a0.1 r8.1).bind fun r13 =>
 cond (decide (r13<0)) (
 some false) (
(aM (bk) (0,a0,r8.1,r11,()):Option ((vV0×(Int×Int×Unit)×vV0×Unit)⊕Bool)).bind (bQ fun v17 =>
(zb8 v17.2.2.1 a1).bind fun r18 =>
 cond (!decide (r18.2.1=0)) (
 cond (decide (r18.2.1=14)) ((jR v17.2.2.1.2.1 v17.2.1).bind fun r19 =>
 cond (decide (r19=64)) ((zbo).bind fun r20 =>
 some r20) (some false)) (some false)) (
(zb1 v17.2.2.1 a1 r18.1 2).bind fun r21 =>
(zbf v17.2.2.1 r21.1).bind fun r22 =>
(cond (eqV tT11 r18.1 v17.2.1) (some ((decide (r21.2.1=0)),v17.1,r22,())) (some (false,v17.1,r22,())):Option (Bool×vV0×vV0×Unit)).bind fun v23 =>
(cond v23.1 ((gn v23.2.2.1).bind fun r24 =>
(gn v23.2.1).bind fun r25 =>
(kc r24 r25).bind fun r26 =>
 some (r26,v23.2.1,v23.2.2.1,())) (some (false,v23.2.1,v23.2.2.1,())):Option (Bool×vV0×vV0×Unit)).bind fun v27 =>
 cond v27.1 ((inI 8 a1).bind fun i28 =>
(v27.2.2.1.2.2.2.2.1[i28]?).bind fun x29 =>
(inI 8 a1).bind fun i30 =>
(v27.2.1.2.2.2.2.1[i30]?).bind fun x31 =>
 cond (decide ((x29.length:Int)=(x31.length:Int))) ((zbo).bind fun r32 =>
 some r32) (some false)) (some false)))))))))))
def cF:TFn:={ ps:=(.cons tT10 tT18),res:=.bool,fn:=fun v=>db v.1 v.2.1 }
end
end Go.Proofs.YtnbgkhdcidbkaaaGreatDoor.Y
