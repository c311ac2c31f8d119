import Derived.Test.YtnbgkhdcidbkaaaGreatDoorS
import Derived.Test.YtnbgkhdcidbkaaaGreatDoorT32
import GoSem.PinnedTables
set_option linter.unusedVariables false
set_option maxRecDepth 100000
namespace Go.Proofs.YtnbgkhdcidbkaaaGreatDoor.Y
open Go.EM Go.TY Go.Proofs
theorem zb.{u,v}{A:Type u}{B:Type v} (a:A) (f:A→Option B):(some a).bind f=f a:=rfl
theorem zg.{u}{A:Type u}{l:List A}{i:Nat} (h:i<l.length):l[i]? = some l[i]:=List.getElem?_eq_getElem h
theorem zl.{u}{A:Type u}{a:A}{l:List A}:(a::l).length=l.length+1:=rfl
theorem zf {p:Prop} [Decidable p] (h:¬p):decide p=false:=decide_eq_false h
theorem zn.{u}{c:Prop}{h:Decidable c} (hc:¬c) {A:Sort u}{t e:A}:ite c t e=e:=if_neg hc
theorem zp.{u}{c:Prop}{h:Decidable c} (hc:c) {A:Sort u}{t e:A}:ite c t e=t:=if_pos hc
theorem zm.{u}{A:Type u}{l:List A}{n:Nat} (h:n<l.length):l[n]∈l:=List.getElem_mem h
theorem zt {p:Prop} [Decidable p] (h:p):decide p=true:=decide_eq_true h
noncomputable section
def q9:List Int:=Go.Pinned.utf8FirstZ.map fun (n:Nat)=>(n:Int)
def nN:List (Int×Int×Unit):=[(128,191,()),(160,191,()),(128,159,()),(144,191,()),(128,143,()),(0,0,()),(0,0,()),(0,0,()),(0,0,()),(0,0,()),(0,0,()),(0,0,()),(0,0,()),(0,0,()),(0,0,()),(0,0,())]
def G0:List (Nat×AVal):=[(0,.rptr (q9.map (AVal.int .u8))),(1,.rptr (nN.flatMap fun p=>[AVal.int .u8 p.1,AVal.int .u8 p.2.1]))]
def G0T:List (Nat×TV):=[(0,⟨.rp (.arr 256 (.int .u8)) 0,q9⟩),(1,⟨.rp (.arr 16 (.agg (.cons (.int .u8) (.cons (.int .u8) .unit)))) 0,nN⟩)]
theorem aJ:iv G0 G0T:=lT rfl rfl (yi (by kernel_rfl)) (lT rfl rfl (tl (by kernel_rfl)) yh)
theorem au:∀ f,memN f [274]=true→Same Tryz.prog f:=by
 intro f h
 by_cases e274:f=274
 · subst e274; exact ⟨Tryz.f274,Tryz.func274,by kernel_rfl,by kernel_rfl,by kernel_rfl,by kernel_rfl⟩
 simp_all [memN]
def eZ (l:List (Nat×PFn)) (s:List Nat):Env:={ pure:=l,raw:=[],glob:=G0,same:=s,look:=[],ext:=[] }
def vZ (l:List (Nat×TFn)):TEnv:={ pure:=l,look:=[],glob:=G0T,ty:=[],raw:=[],fresh:=[] }
def hZ (l:List (Nat×List Nat)) (o:List Nat):Hints:={ seqs:=[],loops:=l,own:=o }
def yZ:TH:={ joins:=[],loops:=[],cuts:=[],ro:=[],news:=[] }
abbrev vV0:=(List ((Int×Int×Unit)×Int×Int×Bool×List (Int×List (List UInt8)×(Int×Int×List UInt8×Unit)×Int×List ((Int×Int×Unit)×Int×Unit)×Unit)×Unit)×List ((Int×Int×Unit)×Int×Unit)×(List Int×List (Int×Int×Unit)×Unit)×(List Int×List (Int×Int×Unit)×Unit)×List (List (Int×Int×Unit))×Unit)
abbrev vV1:=((Int×Int×Unit)×Int×Int×Bool×List (Int×List (List UInt8)×(Int×Int×List UInt8×Unit)×Int×List ((Int×Int×Unit)×Int×Unit)×Unit)×Unit)
abbrev vV2:=((Int×Int×Unit)×Int×Unit)
abbrev vV3:=(List Int×List (Int×Int×Unit)×Unit)
abbrev vV4:=(Int×List (List UInt8)×(Int×Int×List UInt8×Unit)×Int×List vV2×Unit)
abbrev vV5:=(List Int×Unit×Unit)
abbrev vV6:=(Int×vV1×Int×vV2×Int×(List vV1×List vV2×List (Int×Int×Unit)×Unit)×vV0×Unit)
abbrev vV7:=(List (Int×Int×Unit))
abbrev tT8:Ty:=(.agg (.cons (.sl (.agg (.cons (.agg (.cons (.int .i64) (.cons (.int .i64) .unit))) (.cons (.int .i64) (.cons (.int .i64) (.cons .bool (.cons (.sl (.agg (.cons (.int .i64) (.cons (.sl .str) (.cons (.agg (.cons (.int .i64) (.cons (.int .i64) (.cons .str .unit)))) (.cons (.int .i64) (.cons (.sl (.agg (.cons (.agg (.cons (.int .i64) (.cons (.int .i64) .unit))) (.cons (.int .i64) .unit)))) .unit))))))) .unit))))))) (.cons (.sl (.agg (.cons (.agg (.cons (.int .i64) (.cons (.int .i64) .unit))) (.cons (.int .i64) .unit)))) (.cons (.agg (.cons (.arr 16 (.int .i64)) (.cons (.sl (.agg (.cons (.int .i64) (.cons (.int .i64) .unit)))) .unit))) (.cons (.agg (.cons (.arr 16 (.int .i64)) (.cons (.sl (.agg (.cons (.int .i64) (.cons (.int .i64) .unit)))) .unit))) (.cons (.arr 8 (.sl (.agg (.cons (.int .i64) (.cons (.int .i64) .unit))))) .unit))))))
abbrev tT9:Ty:=(.agg (.cons (.agg (.cons (.int .i64) (.cons (.int .i64) .unit))) (.cons (.int .i64) (.cons (.int .i64) (.cons .bool (.cons (.sl (.agg (.cons (.int .i64) (.cons (.sl .str) (.cons (.agg (.cons (.int .i64) (.cons (.int .i64) (.cons .str .unit)))) (.cons (.int .i64) (.cons (.sl (.agg (.cons (.agg (.cons (.int .i64) (.cons (.int .i64) .unit))) (.cons (.int .i64) .unit)))) .unit))))))) .unit))))))
abbrev tT10:Ty:=(.agg (.cons (.int .i64) (.cons (.int .i64) .unit)))
abbrev tT11:Ty:=(.agg (.cons tT10 (.cons (.int .i64) .unit)))
abbrev tT12:Ty:=(.agg (.cons (.arr 16 (.int .i64)) (.cons (.sl tT10) .unit)))
abbrev tT13:Ty:=(.agg (.cons (.int .i64) (.cons (.sl .str) (.cons (.agg (.cons (.int .i64) (.cons (.int .i64) (.cons .str .unit)))) (.cons (.int .i64) (.cons (.sl tT11) .unit))))))
abbrev tT14:Ty:=(.agg (.cons (.int .i64) (.cons tT9 (.cons (.int .i64) (.cons tT11 (.cons (.int .i64) (.cons (.agg (.cons (.sl tT9) (.cons (.sl tT11) (.cons (.sl tT10) .unit)))) (.cons tT8 .unit))))))))
abbrev tT15:Ty:=(.agg (.cons (.arr 16 (.int .i64)) (.cons .nilsl .unit)))
abbrev tT16:Ty:=(.agg (.cons (.int .i64) (.cons (.int .i64) (.cons .str .unit))))
abbrev tT17:Ty:=(.cons (.int .i64) .unit)
def adh:Env:=(eZ [] [274])
def akw:Hints:=(hZ [(4,[0,3])] [])
def adg:PFn:=aC (runF Tryz.prog adh akw Tryz.f15)
def aqO:TH:={ loops:=[(4,{ keep:=[(3,(.int .i64))],mem:=[] })],ro:=[] }
def qM (a0:List (List UInt8)) (y4:(Int×Unit)):Option ((Int×Unit)⊕Bool) :=
 cond (decide (y4.1<(a0.length:Int))) (
(atI a0 y4.1).bind fun x1 =>
 cond (decide ((x1.length:Int)>120)) (
 some (.inr false)) (
 some (.inl ((IntKind.wrap .i64 (y4.1+1)),())))) (
 some (.inr true))
def zcc (a0:List (List UInt8)):Option Bool :=
 cond (decide ((a0.length:Int)>12)) (
 some false) (
 aN (qM a0) (0,()))
def uZ:TFn:={ ps:=(.cons (.sl .str) .unit),res:=.bool,fn:=fun v=>zcc v.1 }
def akv:TEnv:=(vZ [])
theorem aku:runY Tryz.prog adh akw akv aqO Tryz.f15 uZ.ps uZ.res=uZ.fn:=by kernel_rfl
theorem adf:aB Tryz.prog G0 15 adg:=ai (aj ⟨au,ae,ap,ae,an⟩ Tryz.func15 rfl (by kernel_rfl))
theorem akt:TOk adg uZ:=ay (E:=adh) (ET:=akv) (EnvT.ofX (ax ak) al ar aJ aq) aku rfl
def aeb:Env:=(eZ [(15,adg)] [274])
def alW:Hints:=(hZ [] [])
def aea:PFn:=aC (runF Tryz.prog aeb alW Tryz.f108)
def arb:TH:={ loops:=[],ro:=[1] }
def zbp (a0:vV4):Option Bool :=
(zcc a0.2.1).bind fun r1 =>
 cond r1 (cond (decide ((a0.2.2.1.2.2.1.length:Int)≤200)) (some (decide ((a0.2.2.2.2.1.length:Int)≤300))) (some false)) (some false)
def vC:TFn:={ ps:=(.cons tT13 .unit),res:=.bool,fn:=fun v=>zbp v.1 }
def alV:TEnv:=(vZ [(15,uZ)])
theorem alU:runY Tryz.prog aeb alW alV arb Tryz.f108 vC.ps vC.res=vC.fn:=by kernel_rfl
theorem ad9:aB Tryz.prog G0 108 aea:=ai (aj ⟨au,(ah adf ae),ap,ae,an⟩ Tryz.func108 rfl (by kernel_rfl))
theorem alT:TOk aea vC:=ay (E:=aeb) (ET:=alV) (EnvT.ofX (ax (ac akt ak)) al ar aJ aq) alU rfl
def aeZ:Env:=(eZ [(108,aea)] [274])
def anb:Hints:=(hZ [(4,[1,3])] [])
def aeY:PFn:=aC (runF Tryz.prog aeZ anb Tryz.f41)
def ary:TH:={ loops:=[(4,{ keep:=[(1,(.bx 0 0)),(3,(.int .i64))],mem:=[.same] })],ro:=[1] }
def qT (a0:vV1) (y4:(Int×Unit)):Option ((Int×Unit)⊕Bool) :=
 cond (decide (y4.1<(a0.2.2.2.2.1.length:Int))) (
(atI a0.2.2.2.2.1 y4.1).bind fun x1 =>
(zbp x1).bind fun r2 =>
 cond (!r2) (
 some (.inr false)) (
 some (.inl ((IntKind.wrap .i64 (y4.1+1)),())))) (
 some (.inr true))
def zb5 (a0:vV1):Option Bool :=
 cond (decide ((a0.2.2.2.2.1.length:Int)>20)) (
 some false) (
 aN (qT a0) (0,()))
def vU:TFn:={ ps:=(.cons tT9 .unit),res:=.bool,fn:=fun v=>zb5 v.1 }
def ana:TEnv:=(vZ [(108,vC)])
theorem am9:runY Tryz.prog aeZ anb ana ary Tryz.f41 vU.ps vU.res=vU.fn:=by kernel_rfl
theorem aeX:aB Tryz.prog G0 41 aeY:=ai (aj ⟨au,(ah ad9 ae),ap,ae,an⟩ Tryz.func41 rfl (by kernel_rfl))
theorem am8:TOk aeY vU:=ay (E:=aeZ) (ET:=ana) (EnvT.ofX (ax (ac alT ak)) al ar aJ aq) am9 rfl
def ad4:Env:=(eZ [(41,aeY)] [274])
def alL:Hints:=(hZ [(4,[1,3]),(9,[1,4])] [])
def ad3:PFn:=aC (runF Tryz.prog ad4 alL Tryz.f95)
def aq8:TH:={ joins:=[(8,{ keep:=[(1,(.bx 0 0))],mem:=[.box 69 tT8] })],loops:=[(4,{ keep:=[(1,(.bx 0 0)),(3,(.int .i64))],mem:=[.box 69 tT8] }),(9,{ keep:=[(1,(.bx 0 0)),(4,(.int .i64))],mem:=[.box 69 tT8] })],cuts:=[(1,[(10,{ keep:=[(1,(.bx 0 0)),(14,.bool)],mem:=[.box 69 tT8] })])],ro:=[],news:=[] }
def kY (y4:(Int×vV0×Unit)):Option ((Int×vV0×Unit)⊕((vV0×Unit)⊕Bool)) :=
 cond (decide (y4.1<(y4.2.1.1.length:Int))) (
(atI y4.2.1.1 y4.1).bind fun x2 =>
(zb5 x2).bind fun r3 =>
 cond (!r3) (
 some (.inr (.inr false))) (
 some (.inl ((IntKind.wrap .i64 (y4.1+1)),y4.2.1,())))) (
 some (.inr (.inl (y4.2.1,()))))
def kX (y9:(Int×vV0×Unit)):Option ((Int×vV0×Unit)⊕Bool) :=
 cond (decide (y9.1<8)) (
(inI 8 y9.1).bind fun i5 =>
(y9.2.1.2.2.2.2.1[i5]?).bind fun x6 =>
 cond (decide ((x6.length:Int)>40)) (
 some (.inr false)) (
 some (.inl ((IntKind.wrap .i64 (y9.1+1)),y9.2.1,())))) (
 some (.inr true))
def zbs (a0:vV0):Option Bool :=
(cond (decide ((a0.1.length:Int)>20)) (some (true,a0,())) (some ((decide ((a0.2.1.length:Int)>100)),a0,())):Option (Bool×vV0×Unit)).bind fun v1 =>
 cond v1.1 (some false) (cond (decide ((v1.2.1.2.2.1.2.1.length:Int)>100)) (some false) (cond (decide ((v1.2.1.2.2.2.1.2.1.length:Int)>100)) (
 some false) (
(aN (kY) (0,v1.2.1,()):Option ((vV0×Unit)⊕Bool)).bind (bw fun v4 =>
 aN (kX) (0,v4.1,())))))
def vz:TFn:={ ps:=(.cons tT8 .unit),res:=.bool,fn:=fun v=>zbs v.1 }
def alK:TEnv:=(vZ [(41,vU)])
theorem alJ:runY Tryz.prog ad4 alL alK aq8 Tryz.f95 vz.ps vz.res=vz.fn:=by kernel_rfl
theorem ad2:aB Tryz.prog G0 95 ad3:=ai (aj ⟨au,(ah aeX ae),ap,ae,an⟩ Tryz.func95 rfl (by kernel_rfl))
theorem alI:TOk ad3 vz:=ay (E:=ad4) (ET:=alK) (EnvT.ofX (ax (ac am8 ak)) al ar aJ aq) alJ rfl
def acB:Env:=(eZ [] [274])
def aju:Hints:=(hZ [] [])
def zo:PFn:=aC (runF Tryz.prog acB aju Tryz.f172)
def aqx:TH:=yZ
def zct (a0:Int) (a1:Int):Option Int :=
 cond (decide (a0<a1)) (
 some (-1)) (
 cond (decide (a0>a1)) (
 some 1) (
 some 0))
def sr:TFn:={ ps:=(.cons (.int .i64) tT17),res:=(.int .i64),fn:=fun v=>zct v.1 v.2.1 }
def ajt:TEnv:=(vZ [])
theorem ajs:runY Tryz.prog acB aju ajt aqx Tryz.f172 sr.ps sr.res=sr.fn:=by kernel_rfl
theorem uH:aB Tryz.prog G0 172 zo:=ai (aj ⟨au,ae,ap,ae,an⟩ Tryz.func172 rfl (by kernel_rfl))
theorem aa0:TOk zo sr:=ay (E:=acB) (ET:=ajt) (EnvT.ofX (ax ak) al ar aJ aq) ajs rfl
def aeK:Env:=(eZ [(172,zo)] [274])
def amQ:Hints:=(hZ [] [])
def pE:PFn:=aC (runF Tryz.prog aeK amQ Tryz.f101)
def art:TH:={ loops:=[],ro:=[2,3] }
def zba (a0:(Int×Int×Unit)) (a1:(Int×Int×Unit)):Option Int :=
 cond (!decide (a0.1=a1.1)) (
(zct a0.1 a1.1).bind fun r1 =>
 some r1) (
(zct a0.2.1 a1.2.1).bind fun r2 =>
 some r2)
def mz:TFn:={ ps:=(.cons tT10 (.cons tT10 .unit)),res:=(.int .i64),fn:=fun v=>zba v.1 v.2.1 }
def amP:TEnv:=(vZ [(172,sr)])
theorem amO:runY Tryz.prog aeK amQ amP art Tryz.f101 mz.ps mz.res=mz.fn:=by kernel_rfl
theorem jl:aB Tryz.prog G0 101 pE:=ai (aj ⟨au,(ah uH ae),ap,ae,an⟩ Tryz.func101 rfl (by kernel_rfl))
theorem nK:TOk pE mz:=ay (E:=aeK) (ET:=amP) (EnvT.ofX (ax (ac aa0 ak)) al ar aJ aq) amO rfl
def aeQ:Env:=(eZ [(101,pE)] [274])
def amY:Hints:=(hZ [(2,[0,3])] [])
def aeP:PFn:=aC (runF Tryz.prog aeQ amY Tryz.f152)
def arv:TH:={ loops:=[(2,{ keep:=[(3,(.int .i64))],mem:=[] })],ro:=[] }
def qS (a0:List vV1) (y2:(Int×Unit)):Option ((Int×Unit)⊕Bool) :=
 cond (decide (y2.1<(a0.length:Int))) (
(atI a0 (IntKind.wrap .i64 (y2.1-1))).bind fun x1 =>
(atI a0 y2.1).bind fun x2 =>
(zba x1.1 x2.1).bind fun r3 =>
 cond (!decide (r3=(-1))) (
 some (.inr false)) (
 some (.inl ((IntKind.wrap .i64 (y2.1+1)),())))) (
 some (.inr true))
def zb8 (a0:List vV1):Option Bool :=
 aN (qS a0) (1,())
def vR:TFn:={ ps:=(.cons (.sl tT9) .unit),res:=.bool,fn:=fun v=>zb8 v.1 }
def amX:TEnv:=(vZ [(101,mz)])
theorem amW:runY Tryz.prog aeQ amY amX arv Tryz.f152 vR.ps vR.res=vR.fn:=by kernel_rfl
theorem aeO:aB Tryz.prog G0 152 aeP:=ai (aj ⟨au,(ah jl ae),ap,ae,an⟩ Tryz.func152 rfl (by kernel_rfl))
theorem amV:TOk aeP vR:=ay (E:=aeQ) (ET:=amX) (EnvT.ofX (ax (ac nK ak)) al ar aJ aq) amW rfl
def aek:Env:=(eZ [] [274])
def amd:Hints:=(hZ [] [])
def my:PFn:=aC (runF Tryz.prog aek amd Tryz.f109)
def ari:TH:={ loops:=[],ro:=[1] }
def zbk (a0:(Int×Int×Unit)):Option Bool :=
 cond (decide (a0.1≥0)) (cond (decide (a0.1≤15)) (cond (decide (a0.2.1≥1)) (some (decide (a0.2.1≤1048576))) (some false)) (some false)) (some false)
def jk:TFn:={ ps:=(.cons tT10 .unit),res:=.bool,fn:=fun v=>zbk v.1 }
def amc:TEnv:=(vZ [])
theorem amb:runY Tryz.prog aek amd amc ari Tryz.f109 jk.ps jk.res=jk.fn:=by kernel_rfl
theorem f9:aB Tryz.prog G0 109 my:=ai (aj ⟨au,ae,ap,ae,an⟩ Tryz.func109 rfl (by kernel_rfl))
theorem jj:TOk my jk:=ay (E:=aek) (ET:=amc) (EnvT.ofX (ax ak) al ar aJ aq) amb rfl
def adt:Env:=(eZ [(109,my)] [274])
def akM:Hints:=(hZ [] [])
def ads:PFn:=aC (runF Tryz.prog adt akM Tryz.f224)
def aqS:TH:={ loops:=[],ro:=[1] }
def zc8 (a0:vV2):Option Bool :=
(zbk a0.1).bind fun r1 =>
 cond r1 (cond (decide (a0.2.1≥1)) (some (decide (a0.2.1≤64))) (some false)) (some false)
def vf:TFn:={ ps:=(.cons tT11 .unit),res:=.bool,fn:=fun v=>zc8 v.1 }
def akL:TEnv:=(vZ [(109,jk)])
theorem akK:runY Tryz.prog adt akM akL aqS Tryz.f224 vf.ps vf.res=vf.fn:=by kernel_rfl
theorem adr:aB Tryz.prog G0 224 ads:=ai (aj ⟨au,(ah f9 ae),ap,ae,an⟩ Tryz.func224 rfl (by kernel_rfl))
theorem akJ:TOk ads vf:=ay (E:=adt) (ET:=akL) (EnvT.ofX (ax (ac jj ak)) al ar aJ aq) akK rfl
def adU:Env:=(eZ [(101,pE),(224,ads)] [274])
def alv:Hints:=(hZ [(2,[0,3])] [])
def adT:PFn:=aC (runF Tryz.prog adU alv Tryz.f153)
def aq4:TH:={ loops:=[(2,{ keep:=[(3,(.int .i64))],mem:=[] })],ro:=[] }
def qP (a0:List vV2) (y2:(Int×Unit)):Option ((Int×Unit)⊕Bool) :=
 cond (decide (y2.1<(a0.length:Int))) (
(atI a0 y2.1).bind fun x1 =>
(zc8 x1).bind fun r2 =>
 cond (!r2) (some (.inr false)) (cond (decide (y2.1>0)) ((atI a0 (IntKind.wrap .i64 (y2.1-1))).bind fun x3 =>
(atI a0 y2.1).bind fun x4 =>
(zba x3.1 x4.1).bind fun r5 =>
 cond (!decide (r5=(-1))) (
 some (.inr false)) (
 some (.inl ((IntKind.wrap .i64 (y2.1+1)),())))) (some (.inl ((IntKind.wrap .i64 (y2.1+1)),()))))) (
 some (.inr true))
def zbw (a0:List vV2):Option Bool :=
 aN (qP a0) (0,())
def vu:TFn:={ ps:=(.cons (.sl tT11) .unit),res:=.bool,fn:=fun v=>zbw v.1 }
def alu:TEnv:=(vZ [(101,mz),(224,vf)])
theorem alt:runY Tryz.prog adU alv alu aq4 Tryz.f153 vu.ps vu.res=vu.fn:=by kernel_rfl
theorem adS:aB Tryz.prog G0 153 adT:=ai (aj ⟨au,(ah jl (ah adr ae)),ap,ae,an⟩ Tryz.func153 rfl (by kernel_rfl))
theorem als:TOk adT vu:=ay (E:=adU) (ET:=alu) (EnvT.ofX (ax (ac nK (ac akJ ak))) al ar aJ aq) alt rfl
def adL:Env:=(eZ [] [274])
def ali:Hints:=(hZ [(2,[1,3])] [])
def adK:PFn:=aC (runF Tryz.prog adL ali Tryz.f235)
def aq1:TH:={ loops:=[(2,{ keep:=[(1,(.bx 0 0)),(3,(.int .i64))],mem:=[.box 63 (.arr 16 (.int .i64))] })],ro:=[] }
def qN (y2:(Int×List Int×Unit)):Option ((Int×List Int×Unit)⊕Bool) :=
 cond (decide (y2.1<16)) (
(inI 16 y2.1).bind fun i1 =>
(y2.2.1[i1]?).bind fun x2 =>
 cond (decide (x2<0)) (some (.inr false)) ((inI 16 y2.1).bind fun i3 =>
(y2.2.1[i3]?).bind fun x4 =>
 cond (decide (x4>1048576)) (
 some (.inr false)) (
 some (.inl ((IntKind.wrap .i64 (y2.1+1)),y2.2.1,()))))) (
 some (.inr true))
def zbz (a0:List Int):Option Bool :=
 aN (qN) (0,a0,())
def vq:TFn:={ ps:=(.cons (.arr 16 (.int .i64)) .unit),res:=.bool,fn:=fun v=>zbz v.1 }
def alh:TEnv:=(vZ [])
theorem alg:runY Tryz.prog adL ali alh aq1 Tryz.f235 vq.ps vq.res=vq.fn:=by kernel_rfl
theorem adJ:aB Tryz.prog G0 235 adK:=ai (aj ⟨au,ae,ap,ae,an⟩ Tryz.func235 rfl (by kernel_rfl))
theorem alf:TOk adK vq:=ay (E:=adL) (ET:=alh) (EnvT.ofX (ax ak) al ar aJ aq) alg rfl
def aeN:Env:=(eZ [(101,pE),(109,my),(235,adK)] [274])
def amU:Hints:=(hZ [(4,[1,3])] [])
def aeM:PFn:=aC (runF Tryz.prog aeN amU Tryz.f166)
def aru:TH:={ loops:=[(4,{ keep:=[(1,(.bx 0 0)),(3,(.int .i64))],mem:=[.box 66 tT12] })],ro:=[] }
def qR (y4:(Int×vV3×Unit)):Option ((Int×vV3×Unit)⊕Bool) :=
 cond (decide (y4.1<(y4.2.1.2.1.length:Int))) (
(atI y4.2.1.2.1 y4.1).bind fun x2 =>
(zbk x2).bind fun r3 =>
 cond (!r3) (some (.inr false)) ((inI 16 x2.1).bind fun i4 =>
(y4.2.1.1[i4]?).bind fun x5 =>
 cond (decide ((IntKind.wrap .i64 (x2.2.1-1))≤x5)) (
 some (.inr false)) (
 cond (decide (y4.1>0)) ((atI y4.2.1.2.1 (IntKind.wrap .i64 (y4.1-1))).bind fun x6 =>
(zba x6 x2).bind fun r7 =>
 cond (!decide (r7=(-1))) (
 some (.inr false)) (
 some (.inl ((IntKind.wrap .i64 (y4.1+1)),y4.2.1,())))) (some (.inl ((IntKind.wrap .i64 (y4.1+1)),y4.2.1,())))))) (
 some (.inr true))
def zb9 (a0:vV3):Option Bool :=
(zbz a0.1).bind fun r1 =>
 cond (!r1) (some false) (cond (decide ((a0.2.1.length:Int)>4096)) (
 some false) (
 aN (qR) (0,a0,())))
def vQ:TFn:={ ps:=(.cons tT12 .unit),res:=.bool,fn:=fun v=>zb9 v.1 }
def amT:TEnv:=(vZ [(101,mz),(109,jk),(235,vq)])
theorem amS:runY Tryz.prog aeN amU amT aru Tryz.f166 vQ.ps vQ.res=vQ.fn:=by kernel_rfl
theorem aeL:aB Tryz.prog G0 166 aeM:=ai (aj ⟨au,(ah jl (ah f9 (ah adJ ae))),ap,ae,an⟩ Tryz.func166 rfl (by kernel_rfl))
theorem amR:TOk aeM vQ:=ay (E:=aeN) (ET:=amT) (EnvT.ofX (ax (ac nK (ac jj (ac alf ak)))) al ar aJ aq) amS rfl
def acU:Env:=(eZ [] [274])
def ajW:Hints:=(hZ [(17,[0,4,5,6,7])] [])
def acT:PFn:=aC (runF Tryz.prog acU ajW Tryz.f216)
def aqE:TH:={ joins:=[(14,{ keep:=[(4,(.int .i64)),(5,(.int .i64)),(6,(.int .i64))],mem:=[] }),(9,{ keep:=[(18,.bool)],mem:=[] }),(22,{ keep:=[(4,(.int .i64))],mem:=[] }),(24,{ keep:=[],mem:=[] })],loops:=[(17,{ keep:=[(4,(.int .i64)),(7,(.int .i64))],mem:=[] })],ro:=[] }
def e7 (a0:List UInt8) (v3:(Int×Int×Int×Unit)) (y17:(Int×Int×Unit)):Option ((Int×Int×Unit)⊕((Int×Unit)⊕(Int×Int×Unit))) :=
 cond (decide (y17.2.1<v3.2.1)) (
(atI a0 y17.2.1).bind fun b4 =>
 cond (decide ((b4.toNat:Int)<128)) (some (.inr (.inr (0,0,())))) ((atI a0 y17.2.1).bind fun b5 =>
 cond (decide ((b5.toNat:Int)>191)) (
 some (.inr (.inr (0,0,())))) (
(atI a0 y17.2.1).bind fun b6 =>
 some (.inl ((IntKind.wrap .i64 ((IntKind.wrap .i64 ((IntKind.wrap .i64 (64*y17.1))+(IntKind.wrap .i64 (b6.toNat:Int))))-128)),(IntKind.wrap .i64 (y17.2.1+1)),()))))) (
 some (.inr (.inl (y17.1,()))))
def zcm (a0:List UInt8):Option (Int×Int×Unit) :=
 cond (decide ((a0.length:Int)=0)) (
 some (0,0,())) (
(atI a0 0).bind fun b1 =>
(cond (decide ((IntKind.wrap .i64 (b1.toNat:Int))<128)) (
 some (.inr ((IntKind.wrap .i64 (b1.toNat:Int)),1,()))) (
(cond (decide ((IntKind.wrap .i64 (b1.toNat:Int))≥194)) (some (.inl ((decide ((IntKind.wrap .i64 (b1.toNat:Int))<224)),()))) (some (.inl (false,()))):Option ((Bool×Unit)⊕((Int×Int×Int×Unit)⊕(Int×Int×Unit)))).bind (bw fun v2 =>
 cond v2.1 (
 some (.inl ((IntKind.wrap .i64 ((IntKind.wrap .i64 (b1.toNat:Int))-192)),2,128,()))) (
 cond (decide ((IntKind.wrap .i64 (b1.toNat:Int))≥224)) (cond (decide ((IntKind.wrap .i64 (b1.toNat:Int))<240)) (
 some (.inl ((IntKind.wrap .i64 ((IntKind.wrap .i64 (b1.toNat:Int))-224)),3,2048,()))) (
 cond (decide ((IntKind.wrap .i64 (b1.toNat:Int))≥240)) (cond (decide ((IntKind.wrap .i64 (b1.toNat:Int))<245)) (
 some (.inl ((IntKind.wrap .i64 ((IntKind.wrap .i64 (b1.toNat:Int))-240)),4,65536,()))) (
 some (.inr (0,0,())))) (some (.inr (0,0,()))))) (cond (decide ((IntKind.wrap .i64 (b1.toNat:Int))≥240)) (cond (decide ((IntKind.wrap .i64 (b1.toNat:Int))<245)) (
 some (.inl ((IntKind.wrap .i64 ((IntKind.wrap .i64 (b1.toNat:Int))-240)),4,65536,()))) (
 some (.inr (0,0,())))) (some (.inr (0,0,()))))))):Option ((Int×Int×Int×Unit)⊕(Int×Int×Unit))).bind (bw fun v3 =>
 cond (decide ((a0.length:Int)<v3.2.1)) (
 some (0,0,())) (
(aN (e7 a0 v3) (v3.1,1,()):Option ((Int×Unit)⊕(Int×Int×Unit))).bind (bw fun v7 =>
(cond (decide (v7.1<v3.2.2.1)) (some (.inr (0,0,()))) (cond (decide (v7.1>1114111)) (some (.inr (0,0,()))) (cond (decide (v7.1≥55296)) (cond (decide (v7.1≤57343)) (
 some (.inr (0,0,()))) (
 some (.inl ()))) (some (.inl ())))):Option (Unit⊕(Int×Int×Unit))).bind (bw fun v8 =>
 some (v7.1,v3.2.1,()))))))
def uO:TFn:={ ps:=(.cons .str .unit),res:=(.tup (.cons (.int .i64) tT17)),fn:=fun v=>zcm v.1 }
def ajV:TEnv:=(vZ [])
theorem ajU:runY Tryz.prog acU ajW ajV aqE Tryz.f216 uO.ps uO.res=uO.fn:=by kernel_rfl
theorem acS:aB Tryz.prog G0 216 acT:=ai (aj ⟨au,ae,ap,ae,an⟩ Tryz.func216 rfl (by kernel_rfl))
theorem ajT:TOk acT uO:=ay (E:=acU) (ET:=ajV) (EnvT.ofX (ax ak) al ar aJ aq) ajU rfl
def ad5:Env:=(eZ [(216,acT)] [274])
def alO:Hints:=(hZ [(3,[0,4,5])] [])
def zz:PFn:=aC (runF Tryz.prog ad5 alO Tryz.f144)
def aq9:TH:={ loops:=[(3,{ keep:=[(4,(.own 0)),(5,(.int .i64))],mem:=[.row true 3 (.int .i64)] })],ro:=[] }
def kZ (a0:List UInt8) (y3:(Int×List Int×Unit)):Option ((Int×List Int×Unit)⊕(List Int×Bool×Unit)) :=
 cond (decide (y3.1<(a0.length:Int))) (
(subI a0 y3.1 (a0.length:Int)).bind fun s1 =>
(zcm s1).bind fun r2 =>
 cond (decide (r2.2.1=0)) (
 some (.inr ([],false,()))) (
(dD (y3.2.1.length+([r2.1]:List Int).length)).bind fun u3 =>
 some (.inl ((IntKind.wrap .i64 (y3.1+r2.2.1)),(y3.2.1++([r2.1]:List Int)),())))) (
 some (.inr (y3.2.1,true,())))
def zbr (a0:List UInt8):Option (List Int×Bool×Unit) :=
 aN (kZ a0) (0,[],())
def sA:TFn:={ ps:=(.cons .str .unit),res:=(.tup (.cons (.sl (.int .i64)) (.cons .bool .unit))),fn:=fun v=>zbr v.1 }
def alN:TEnv:={ pure:=[(216,uO)],look:=[],glob:=G0T,ty:=[(3,(.int .i64))],raw:=[],fresh:=[] }
theorem alM:runY Tryz.prog ad5 alO alN aq9 Tryz.f144 sA.ps sA.res=sA.fn:=by kernel_rfl
theorem vA:aB Tryz.prog G0 144 zz:=ai (aj ⟨au,(ah acS ae),ap,ae,an⟩ Tryz.func144 rfl (by kernel_rfl))
theorem aa6:TOk zz sA:=ay (E:=ad5) (ET:=alN) (EnvT.ofX (ax (ac ajT ak)) al ar aJ aq) alM rfl
def adF:Env:=(eZ [] [274])
def ak8:Hints:=(hZ [] [])
def adE:PFn:=aC (runF Tryz.prog adF ak8 Tryz.f306)
def aqY:TH:=yZ
def zc2 (a0:Int):Option Bool :=
 cond (decide (a0≥32)) (cond (decide (a0<127)) (some (!decide (a0=65533))) (cond (decide (a0>159)) (some (!decide (a0=65533))) (some false))) (some false)
def vl:TFn:={ ps:=tT17,res:=.bool,fn:=fun v=>zc2 v.1 }
def ak7:TEnv:=(vZ [])
theorem ak6:runY Tryz.prog adF ak8 ak7 aqY Tryz.f306 vl.ps vl.res=vl.fn:=by kernel_rfl
theorem adD:aB Tryz.prog G0 306 adE:=ai (aj ⟨au,ae,ap,ae,an⟩ Tryz.func306 rfl (by kernel_rfl))
theorem ak5:TOk adE vl:=ay (E:=adF) (ET:=ak7) (EnvT.ofX (ax ak) al ar aJ aq) ak6 rfl
def ad1:Env:=(eZ [(144,zz),(306,adE)] [274])
def alH:Hints:=(hZ [(3,[3,4,5])] [])
def ad0:PFn:=aC (runF Tryz.prog ad1 alH Tryz.f253)
def aq7:TH:={ joins:=[(7,{ keep:=[],mem:=[] })],loops:=[(3,{ keep:=[(5,(.int .i64))],mem:=[] })],ro:=[] }
def nH (r1:(List Int×Bool×Unit)) (y3:(Int×Unit)):Option ((Int×Unit)⊕(Unit⊕Bool)) :=
 cond (decide (y3.1<(r1.1.length:Int))) (
(atI r1.1 y3.1).bind fun x2 =>
(zc2 x2).bind fun r3 =>
 cond (!r3) (
 some (.inr (.inr false))) (
 some (.inl ((IntKind.wrap .i64 (y3.1+1)),())))) (
 some (.inr (.inl ())))
def zbt (a0:List UInt8):Option Bool :=
(zbr a0).bind fun r1 =>
(aN (nH r1) (0,()):Option (Unit⊕Bool)).bind (bw fun v4 =>
 cond r1.2.1 (cond (decide ((r1.1.length:Int)≥1)) (some (decide ((r1.1.length:Int)≤24))) (some false)) (some false))
def vy:TFn:={ ps:=(.cons .str .unit),res:=.bool,fn:=fun v=>zbt v.1 }
def alG:TEnv:=(vZ [(144,sA),(306,vl)])
theorem alF:runY Tryz.prog ad1 alH alG aq7 Tryz.f253 vy.ps vy.res=vy.fn:=by kernel_rfl
theorem adZ:aB Tryz.prog G0 253 ad0:=ai (aj ⟨au,(ah vA (ah adD ae)),ap,ae,an⟩ Tryz.func253 rfl (by kernel_rfl))
theorem alE:TOk ad0 vy:=ay (E:=ad1) (ET:=alG) (EnvT.ofX (ax (ac aa6 (ac ak5 ak))) al ar aJ aq) alF rfl
def ae8:Env:=(eZ [(253,ad0)] [274])
def anq:Hints:=(hZ [(6,[0,3])] [])
def ae7:PFn:=aC (runF Tryz.prog ae8 anq Tryz.f183)
def arB:TH:={ loops:=[(6,{ keep:=[(3,(.int .i64))],mem:=[] })],ro:=[] }
def qU (a0:List (List UInt8)) (y6:(Int×Unit)):Option ((Int×Unit)⊕Int) :=
 cond (decide (y6.1<(a0.length:Int))) (
(atI a0 y6.1).bind fun x1 =>
(zbt x1).bind fun r2 =>
 cond (!r2) (
 some (.inr 8)) (
 some (.inl ((IntKind.wrap .i64 (y6.1+1)),())))) (
 some (.inr 0))
def zb2 (a0:List (List UInt8)):Option Int :=
 cond (decide ((a0.length:Int)=0)) (
 some 8) (
 cond (decide ((a0.length:Int)>8)) (
 some 9) (
 aN (qU a0) (0,())))
def vX:TFn:={ ps:=(.cons (.sl .str) .unit),res:=(.int .i64),fn:=fun v=>zb2 v.1 }
def anp:TEnv:=(vZ [(253,vy)])
theorem ano:runY Tryz.prog ae8 anq anp arB Tryz.f183 vX.ps vX.res=vX.fn:=by kernel_rfl
theorem ae6:aB Tryz.prog G0 183 ae7:=ai (aj ⟨au,(ah adZ ae),ap,ae,an⟩ Tryz.func183 rfl (by kernel_rfl))
theorem ann:TOk ae7 vX:=ay (E:=ae8) (ET:=anp) (EnvT.ofX (ax (ac alE ak)) al ar aJ aq) ano rfl
def adR:Env:=(eZ [(144,zz)] [274])
def alr:Hints:=(hZ [] [])
def adQ:PFn:=aC (runF Tryz.prog adR alr Tryz.f184)
def aq3:TH:={ loops:=[],ro:=[1] }
def zbx (a0:(Int×Int×List UInt8×Unit)):Option Bool :=
 cond (decide (a0.1=1)) (
 cond (decide (a0.2.2.1=[])) (cond (decide (a0.2.1≥(-2147483647))) (some (decide (a0.2.1≤2147483647))) (some false)) (some false)) (
 cond (decide (a0.1=2)) (
(zbr a0.2.2.1).bind fun r1 =>
 cond (decide (a0.2.1=0)) (cond r1.2.1 (some (decide ((a0.2.2.1.length:Int)≤64))) (some false)) (some false)) (
 cond (decide (a0.1=3)) (cond (decide (a0.2.2.1=[])) (cond (decide (a0.2.1≥0)) (some (decide (a0.2.1≤1))) (some false)) (some false)) (some false)))
def vt:TFn:={ ps:=(.cons tT16 .unit),res:=.bool,fn:=fun v=>zbx v.1 }
def alq:TEnv:=(vZ [(144,sA)])
theorem alp:runY Tryz.prog adR alr alq aq3 Tryz.f184 vt.ps vt.res=vt.fn:=by kernel_rfl
theorem adP:aB Tryz.prog G0 184 adQ:=ai (aj ⟨au,(ah vA ae),ap,ae,an⟩ Tryz.func184 rfl (by kernel_rfl))
theorem alo:TOk adQ vt:=ay (E:=adR) (ET:=alq) (EnvT.ofX (ax (ac aa6 ak)) al ar aJ aq) alp rfl
def acH:Env:=(eZ [(101,pE),(172,zo)] [274])
def ajC:Hints:=(hZ [] [])
def acG:PFn:=aC (runF Tryz.prog acH ajC Tryz.f254)
def aqz:TH:={ loops:=[],ro:=[2,3] }
def zcr (a0:vV2) (a1:vV2):Option Int :=
(zba a0.1 a1.1).bind fun r1 =>
 cond (!decide (r1=0)) (
(zba a0.1 a1.1).bind fun r2 =>
 some r2) (
(zct a0.2.1 a1.2.1).bind fun r3 =>
 some r3)
def uJ:TFn:={ ps:=(.cons tT11 (.cons tT11 .unit)),res:=(.int .i64),fn:=fun v=>zcr v.1 v.2.1 }
def ajB:TEnv:=(vZ [(101,mz),(172,sr)])
theorem ajA:runY Tryz.prog acH ajC ajB aqz Tryz.f254 uJ.ps uJ.res=uJ.fn:=by kernel_rfl
theorem acF:aB Tryz.prog G0 254 acG:=ai (aj ⟨au,(ah jl (ah uH ae)),ap,ae,an⟩ Tryz.func254 rfl (by kernel_rfl))
theorem ajz:TOk acG uJ:=ay (E:=acH) (ET:=ajB) (EnvT.ofX (ax (ac nK (ac aa0 ak))) al ar aJ aq) ajA rfl
def ada:Env:=(eZ [(109,my),(254,acG)] [274])
def ako:Hints:=(hZ [(2,[0,3])] [])
def ac9:PFn:=aC (runF Tryz.prog ada ako Tryz.f185)
def aqM:TH:={ loops:=[(2,{ keep:=[(3,(.int .i64))],mem:=[] })],ro:=[] }
def qL (a0:List vV2) (y2:(Int×Unit)):Option ((Int×Unit)⊕Bool) :=
 cond (decide (y2.1<(a0.length:Int))) (
(atI a0 y2.1).bind fun x1 =>
(zbk x1.1).bind fun r2 =>
 cond (!r2) (some (.inr false)) ((atI a0 y2.1).bind fun x3 =>
 cond (decide (x3.2.1<0)) (some (.inr false)) ((atI a0 y2.1).bind fun x4 =>
 cond (decide (x4.2.1>15)) (
 some (.inr false)) (
 cond (decide (y2.1>0)) ((atI a0 (IntKind.wrap .i64 (y2.1-1))).bind fun x5 =>
(atI a0 y2.1).bind fun x6 =>
(zcr x5 x6).bind fun r7 =>
 cond (!decide (r7=(-1))) (
 some (.inr false)) (
 some (.inl ((IntKind.wrap .i64 (y2.1+1)),())))) (some (.inl ((IntKind.wrap .i64 (y2.1+1)),()))))))) (
 some (.inr true))
def zce (a0:List vV2):Option Bool :=
 aN (qL a0) (0,())
def uX:TFn:={ ps:=(.cons (.sl tT11) .unit),res:=.bool,fn:=fun v=>zce v.1 }
def akn:TEnv:=(vZ [(109,jk),(254,uJ)])
theorem akm:runY Tryz.prog ada ako akn aqM Tryz.f185 uX.ps uX.res=uX.fn:=by kernel_rfl
theorem ac8:aB Tryz.prog G0 185 ac9:=ai (aj ⟨au,(ah f9 (ah acF ae)),ap,ae,an⟩ Tryz.func185 rfl (by kernel_rfl))
theorem akl:TOk ac9 uX:=ay (E:=ada) (ET:=akn) (EnvT.ofX (ax (ac jj (ac ajz ak))) al ar aJ aq) akm rfl
def aef:Env:=(eZ [(183,ae7),(184,adQ),(185,ac9)] [274])
def al3:Hints:=(hZ [] [])
def aee:PFn:=aC (runF Tryz.prog aef al3 Tryz.f110)
def ard:TH:={ joins:=[(9,{ keep:=[(1,(.bx 0 0))],mem:=[.same,.gone] }),(11,{ keep:=[(1,(.bx 0 0))],mem:=[.same,.gone] }),(13,{ keep:=[(1,(.bx 0 0))],mem:=[.same,.gone] }),(15,{ keep:=[(1,(.bx 0 0))],mem:=[.same,.gone] })],loops:=[],cuts:=[(11,[(8,{ keep:=[(1,(.bx 0 0)),(55,.bool)],mem:=[.same,.gone] })])],ro:=[1],news:=[] }
def zbn (a0:vV4):Option Int :=
 cond (decide (a0.1<1)) (some 18) (cond (decide (a0.1>5)) (
 some 18) (
(zb2 a0.2.1).bind fun r1 =>
 cond (!decide (r1=0)) (
 some r1) (
(cond (decide (a0.1=3)) (cond (!(eqV tT16 a0.2.2.1 (0,0,[],()))) (
 some (.inr 2)) (
 some (.inl ()))) (cond (decide (a0.1=5)) (cond (!(eqV tT16 a0.2.2.1 (0,0,[],()))) (
 some (.inr 2)) (
 some (.inl ()))) (some (.inl ()))):Option (Unit⊕Int)).bind (bw fun v2 =>
(cond (!decide (a0.1=3)) (cond (!decide (a0.1=5)) ((zbx a0.2.2.1).bind fun r3 =>
 cond (!r3) (
 some (.inr 2)) (
 some (.inl ()))) (some (.inl ()))) (some (.inl ())):Option (Unit⊕Int)).bind (bw fun v4 =>
((cond (!decide (a0.1=3)) (some ((!decide (a0.2.2.2.1=0)),())) (some (false,())):Option (Bool×Unit)).bind fun v5 =>
 cond v5.1 (some (.inr 2)) (cond (decide (a0.1=3)) (cond (decide (a0.2.2.2.1=0)) (some (.inr 2)) (cond (decide (a0.2.2.2.1>2147483647)) (some (.inr 2)) (cond (decide (a0.2.2.2.1<(-2147483647))) (
 some (.inr 2)) (
 some (.inl ()))))) (some (.inl ()))):Option (Unit⊕Int)).bind (bw fun v6 =>
(cond (decide (a0.1=2)) (cond (decide ((a0.2.2.2.2.1.length:Int)>0)) (
 some (.inr 2)) (
 some (.inl ()))) (cond (decide (a0.1=3)) (cond (decide ((a0.2.2.2.2.1.length:Int)>0)) (
 some (.inr 2)) (
 some (.inl ()))) (some (.inl ()))):Option (Unit⊕Int)).bind (bw fun v7 =>
 cond (decide ((a0.2.2.2.2.1.length:Int)>256)) (
 some 7) (
(zce a0.2.2.2.2.1).bind fun r8 =>
 cond (!r8) (
 some 2) (
 some 0)))))))))
def vE:TFn:={ ps:=(.cons tT13 .unit),res:=(.int .i64),fn:=fun v=>zbn v.1 }
def al2:TEnv:=(vZ [(183,vX),(184,vt),(185,uX)])
theorem al1:runY Tryz.prog aef al3 al2 ard Tryz.f110 vE.ps vE.res=vE.fn:=by kernel_rfl
theorem aed:aB Tryz.prog G0 110 aee:=ai (aj ⟨au,(ah ae6 (ah adP (ah ac8 ae))),ap,ae,an⟩ Tryz.func110 rfl (by kernel_rfl))
theorem al0:TOk aee vE:=ay (E:=aef) (ET:=al2) (EnvT.ofX (ax (ac ann (ac alo (ac akl ak)))) al ar aJ aq) al1 rfl
def ac5:Env:=(eZ [] [274])
def ake:Hints:=(hZ [] [])
def ac4:PFn:=aC (runF Tryz.prog ac5 ake Tryz.f111)
def aqJ:TH:={ loops:=[],cuts:=[(2,[(9,{ keep:=[(1,(.bx 0 0)),(3,(.bx 1 0)),(13,.bool)],mem:=[.same,.box 132 tT16] })])],ro:=[1],news:=[] }
def zch (a0:vV4):Option Bool :=
(cond (decide (a0.1=0)) (some ((decide ((a0.2.1.length:Int)=0)),(0,0,[],()),())) (some (false,(0,0,[],()),())):Option (Bool×(Int×Int×List UInt8×Unit)×Unit)).bind fun v1 =>
 cond v1.1 (cond (eqV tT16 a0.2.2.1 v1.2.1) (cond (decide (a0.2.2.2.1=0)) (some (decide ((a0.2.2.2.2.1.length:Int)=0))) (some false)) (some false)) (some false)
def uU:TFn:={ ps:=(.cons tT13 .unit),res:=.bool,fn:=fun v=>zch v.1 }
def akd:TEnv:=(vZ [])
theorem akc:runY Tryz.prog ac5 ake akd aqJ Tryz.f111 uU.ps uU.res=uU.fn:=by kernel_rfl
theorem ac3:aB Tryz.prog G0 111 ac4:=ai (aj ⟨au,ae,ap,ae,an⟩ Tryz.func111 rfl (by kernel_rfl))
theorem akb:TOk ac4 uU:=ay (E:=ac5) (ET:=akd) (EnvT.ofX (ax ak) al ar aJ aq) akc rfl
def ad8:Env:=(eZ [(109,my),(110,aee),(111,ac4)] [274])
def alS:Hints:=(hZ [(8,[1,3])] [])
def ad7:PFn:=aC (runF Tryz.prog ad8 alS Tryz.f42)
def ara:TH:={ loops:=[(8,{ keep:=[(1,(.bx 0 0)),(3,(.int .i64))],mem:=[.same] })],cuts:=[(1,[(9,{ keep:=[(1,(.bx 0 0)),(13,.bool)],mem:=[.same] })])],ro:=[1],news:=[] }
def nI (a0:vV1) (y8:(Int×Unit)):Option ((Int×Unit)⊕Int) :=
 cond (decide (y8.1<(a0.2.2.2.2.1.length:Int))) (
(atI a0.2.2.2.2.1 y8.1).bind fun x3 =>
(zbn x3).bind fun r4 =>
 cond (!decide (r4=0)) (cond a0.2.2.2.1 ((atI a0.2.2.2.2.1 y8.1).bind fun x5 =>
(zch x5).bind fun r6 =>
 cond (!r6) (
 some (.inr r4)) (
 some (.inl ((IntKind.wrap .i64 (y8.1+1)),())))) (some (.inr r4))) (some (.inl ((IntKind.wrap .i64 (y8.1+1)),())))) (
 some (.inr 0))
def zbq (a0:vV1):Option Int :=
((zbk a0.1).bind fun r1 =>
 cond (!r1) (some (true,())) (some ((decide (a0.2.1<0)),())):Option (Bool×Unit)).bind fun v2 =>
 cond v2.1 (some 2) (cond (decide (a0.2.1>7)) (some 2) (cond (decide (a0.2.2.1<1)) (some 2) (cond (decide (a0.2.2.1>1099511627776)) (
 some 2) (
 cond (decide ((a0.2.2.2.2.1.length:Int)=0)) (
 some 11) (
 cond (decide ((a0.2.2.2.2.1.length:Int)>16)) (
 some 7) (
 aN (nI a0) (0,())))))))
def vB:TFn:={ ps:=(.cons tT9 .unit),res:=(.int .i64),fn:=fun v=>zbq v.1 }
def alR:TEnv:=(vZ [(109,jk),(110,vE),(111,uU)])
theorem alQ:runY Tryz.prog ad8 alS alR ara Tryz.f42 vB.ps vB.res=vB.fn:=by kernel_rfl
theorem ad6:aB Tryz.prog G0 42 ad7:=ai (aj ⟨au,(ah f9 (ah aed (ah ac3 ae))),ap,ae,an⟩ Tryz.func42 rfl (by kernel_rfl))
theorem alP:TOk ad7 vB:=ay (E:=ad8) (ET:=alR) (EnvT.ofX (ax (ac jj (ac al0 (ac akb ak)))) al ar aJ aq) alQ rfl
def ach:Env:=(eZ [(109,my)] [274])
def aiY:Hints:=(hZ [] [])
def acg:PFn:=aC (runF Tryz.prog ach aiY Tryz.f320)
def aqp:TH:={ loops:=[],ro:=[3] }
def zdb (a0:List Int) (a1:(Int×Int×Unit)):Option Bool :=
(zbk a1).bind fun r1 =>
 cond r1 ((inI 16 a1.1).bind fun i2 =>
(a0[i2]?).bind fun x3 =>
 some (decide (x3≥a1.2.1))) (some false)
def uz:TFn:={ ps:=(.cons (.arr 16 (.int .i64)) (.cons tT10 .unit)),res:=.bool,fn:=fun v=>zdb v.1 v.2.1 }
def aiX:TEnv:=(vZ [(109,jk)])
theorem aiW:runY Tryz.prog ach aiY aiX aqp Tryz.f320 uz.ps uz.res=uz.fn:=by kernel_rfl
theorem acf:aB Tryz.prog G0 320 acg:=ai (aj ⟨au,(ah f9 ae),ap,ae,an⟩ Tryz.func320 rfl (by kernel_rfl))
theorem aiV:TOk acg uz:=ay (E:=ach) (ET:=aiX) (EnvT.ofX (ax (ac jj ak)) al ar aJ aq) aiW rfl
def aca:Env:=(eZ [(320,acg)] [274])
def aiP:Hints:=(hZ [(4,[2,3,5])] [])
def ab9:PFn:=aC (runF Tryz.prog aca aiP Tryz.f270)
def aqn:TH:={ loops:=[(4,{ keep:=[(2,(.bx 0 0)),(3,(.bx 1 0)),(5,(.int .i64))],mem:=[.same,.same] })],ro:=[2,3] }
def qH (a0:vV3) (a1:(Int×Int×Unit)) (y4:(Int×Unit)):Option ((Int×Unit)⊕Bool) :=
 cond (decide (y4.1<(a0.2.1.length:Int))) (
(atI a0.2.1 y4.1).bind fun x2 =>
 cond (eqV tT10 x2 a1) (
 some (.inr true)) (
 some (.inl ((IntKind.wrap .i64 (y4.1+1)),())))) (
 some (.inr false))
def zdd (a0:vV3) (a1:(Int×Int×Unit)):Option Bool :=
(zdb a0.1 a1).bind fun r1 =>
 cond r1 (
 some true) (
 aN (qH a0 a1) (0,()))
def uu:TFn:={ ps:=(.cons tT12 (.cons tT10 .unit)),res:=.bool,fn:=fun v=>zdd v.1 v.2.1 }
def aiO:TEnv:=(vZ [(320,uz)])
theorem aiN:runY Tryz.prog aca aiP aiO aqn Tryz.f270 uu.ps uu.res=uu.fn:=by kernel_rfl
theorem ab8:aB Tryz.prog G0 270 ab9:=ai (aj ⟨au,(ah acf ae),ap,ae,an⟩ Tryz.func270 rfl (by kernel_rfl))
theorem aiM:TOk ab9 uu:=ay (E:=aca) (ET:=aiO) (EnvT.ofX (ax (ac aiV ak)) al ar aJ aq) aiN rfl
def aey:Env:=(eZ [] [274])
def amw:Hints:=(hZ [(3,[1,2,3,4])] [])
def aex:PFn:=aC (runF Tryz.prog aey amw Tryz.f294)
def arn:TH:={ loops:=[(3,{ keep:=[(1,(.bx 0 0)),(2,(.bx 1 0)),(3,(.bx 2 0)),(4,(.int .i64))],mem:=[.same,.box 66 tT15,.box 66 (.agg (.cons (.arr 16 (.int .i64)) (.cons (.own 4) .unit))),.gone,.row true 72 tT10] })],ro:=[1] }
def qQ (a0:vV3) (y3:(Int×vV5×vV5×List (Int×Int×Unit)×Unit)):Option ((Int×vV5×vV5×List (Int×Int×Unit)×Unit)⊕vV3) :=
 cond (decide (y3.1<(a0.2.1.length:Int))) (
(atI a0.2.1 y3.1).bind fun x1 =>
(inI 16 x1.1).bind fun i2 =>
(y3.2.2.1.1[i2]?).bind fun x3 =>
 cond (decide (x1.2.1=(IntKind.wrap .i64 (x3+1)))) (
(inI 16 x1.1).bind fun i4 =>
(y3.2.2.1.1[i4]?).bind fun x5 =>
 some (.inl ((IntKind.wrap .i64 (y3.1+1)),y3.2.1,((y3.2.2.1.1.set i4 x1.2.1),y3.2.2.1.2.1,()),y3.2.2.2.1,()))) (
(inI 16 x1.1).bind fun i6 =>
(y3.2.2.1.1[i6]?).bind fun x7 =>
 cond (decide (x1.2.1>x7)) (
(dD (y3.2.2.2.1.length+([x1]:List (Int×Int×Unit)).length)).bind fun u8 =>
 some (.inl ((IntKind.wrap .i64 (y3.1+1)),y3.2.1,(y3.2.2.1.1,(),()),(y3.2.2.2.1++([x1]:List (Int×Int×Unit))),()))) (
 some (.inl ((IntKind.wrap .i64 (y3.1+1)),y3.2.1,y3.2.2.1,y3.2.2.2.1,()))))) (
 some (.inr (y3.2.2.1.1,y3.2.2.2.1,())))
def zbf (a0:vV3):Option vV3 :=
 aN (qQ a0) (0,([0,0,0,0,0,0,0,0,0,0,0,0,0,0,0,0],(),()),(a0.1,(),()),[],())
def vL:TFn:={ ps:=(.cons tT12 .unit),res:=tT12,fn:=fun v=>zbf v.1 }
def amv:TEnv:={ pure:=[],look:=[],glob:=G0T,ty:=[(72,tT10)],raw:=[],fresh:=[] }
theorem amu:runY Tryz.prog aey amw amv arn Tryz.f294 vL.ps vL.res=vL.fn:=by kernel_rfl
theorem aew:aB Tryz.prog G0 294 aex:=ai (aj ⟨au,ae,ap,ae,an⟩ Tryz.func294 rfl (by kernel_rfl))
theorem amt:TOk aex vL:=ay (E:=aey) (ET:=amv) (EnvT.ofX (ax ak) al ar aJ aq) amu rfl
def ack:Env:=(eZ [(101,pE),(109,my),(270,ab9),(294,aex)] [274])
def ai2:Hints:=(hZ [(6,[2,3,4,5,6,7])] [56])
def acj:PFn:=aC (runF Tryz.prog ack ai2 Tryz.f236)
def aqq:TH:={ joins:=[(12,{ keep:=[(2,(.bx 0 0)),(3,(.bx 1 0)),(4,(.bx 2 0)),(5,(.own 3)),(6,.bool)],mem:=[.same,.same,.box 66 tT15,.row true 72 tT10] }),(11,{ keep:=[(2,(.bx 0 0)),(3,(.bx 1 0)),(4,(.bx 2 0)),(5,(.own 3)),(6,.bool)],mem:=[.same,.same,.box 66 tT15,.row true 72 tT10] }),(14,{ keep:=[(2,(.bx 0 0)),(4,(.bx 2 0)),(5,(.own 3))],mem:=[.same,.same,.box 66 tT15,.row true 72 tT10] })],loops:=[(6,{ keep:=[(2,(.bx 0 0)),(3,(.bx 1 0)),(4,(.bx 2 0)),(5,(.own 3)),(6,.bool),(7,(.int .i64))],mem:=[.same,.same,.box 66 tT15,.row true 72 tT10] })],ro:=[2,3] }
def qI (a0:vV3) (a1:(Int×Int×Unit)) (y6:(Bool×Int×vV5×List (Int×Int×Unit)×Unit)):Option ((Bool×Int×vV5×List (Int×Int×Unit)×Unit)⊕((Bool×vV5×List (Int×Int×Unit)×Unit)⊕vV3)) :=
 cond (decide (y6.2.1<(a0.2.1.length:Int))) (
(cond (!y6.1) ((atI a0.2.1 y6.2.1).bind fun x3 =>
(zba a1 x3).bind fun r4 =>
 cond (decide (r4<0)) (
(dD (y6.2.2.2.1.length+([a1]:List (Int×Int×Unit)).length)).bind fun u5 =>
 some (.inl (true,y6.2.2.1,(y6.2.2.2.1++([a1]:List (Int×Int×Unit))),()))) (
 some (.inl (y6.1,y6.2.2.1,y6.2.2.2.1,())))) (some (.inl (y6.1,y6.2.2.1,y6.2.2.2.1,()))):Option ((Bool×vV5×List (Int×Int×Unit)×Unit)⊕((Bool×Int×vV5×List (Int×Int×Unit)×Unit)⊕((Bool×vV5×List (Int×Int×Unit)×Unit)⊕vV3)))).bind (bw fun v6 =>
(atI a0.2.1 y6.2.1).bind fun x7 =>
(dD (v6.2.2.1.length+([x7]:List (Int×Int×Unit)).length)).bind fun u8 =>
 some (.inl (v6.1,(IntKind.wrap .i64 (y6.2.1+1)),v6.2.1,(v6.2.2.1++([x7]:List (Int×Int×Unit))),())))) (
 some (.inr (.inl (y6.1,y6.2.2.1,y6.2.2.2.1,()))))
def zda (a0:vV3) (a1:(Int×Int×Unit)):Option vV3 :=
(zbk a1).bind fun r1 =>
 cond (!r1) (some a0) ((zdd a0 a1).bind fun r2 =>
 cond r2 (
 some a0) (
(aN (qI a0 a1) (false,0,([0,0,0,0,0,0,0,0,0,0,0,0,0,0,0,0],(),()),[],()):Option ((Bool×vV5×List (Int×Int×Unit)×Unit)⊕vV3)).bind (bw fun v9 =>
(cond (!v9.1) (
(dD (v9.2.2.1.length+([a1]:List (Int×Int×Unit)).length)).bind fun u10 =>
 some (.inl (v9.2.1,(v9.2.2.1++([a1]:List (Int×Int×Unit))),()))) (
 some (.inl (v9.2.1,v9.2.2.1,()))):Option ((vV5×List (Int×Int×Unit)×Unit)⊕vV3)).bind (bw fun v11 =>
(zbf (a0.1,v11.2.1,())).bind fun r12 =>
 some r12))))
def uA:TFn:={ ps:=(.cons tT12 (.cons tT10 .unit)),res:=tT12,fn:=fun v=>zda v.1 v.2.1 }
def ai1:TEnv:={ pure:=[(101,mz),(109,jk),(270,uu),(294,vL)],look:=[],glob:=G0T,ty:=[(72,tT10)],raw:=[],fresh:=[] }
theorem ai0:runY Tryz.prog ack ai2 ai1 aqq Tryz.f236 uA.ps uA.res=uA.fn:=by kernel_rfl
theorem aci:aB Tryz.prog G0 236 acj:=ai (aj ⟨au,(ah jl (ah f9 (ah ab8 (ah aew ae)))),ap,ae,an⟩ Tryz.func236 rfl (by kernel_rfl))
theorem aiZ:TOk acj uA:=ay (E:=ack) (ET:=ai1) (EnvT.ofX (ax (ac nK (ac jj (ac aiM (ac amt ak))))) al ar aJ aq) ai0 rfl
def adO:Env:=(eZ [(236,acj)] [274])
def aln:Hints:=(hZ [(3,[0,2,3,4])] [])
def adN:PFn:=aC (runF Tryz.prog adO aln Tryz.f168)
def aq2:TH:={ loops:=[(3,{ keep:=[(2,(.bx 0 0)),(3,(.bx 1 0)),(4,(.int .i64))],mem:=[.box 66 tT15,.box 66 tT12] })],ro:=[] }
def qO (a0:List vV1) (y3:(Int×vV5×vV3×Unit)):Option ((Int×vV5×vV3×Unit)⊕vV3) :=
 cond (decide (y3.1<(a0.length:Int))) (
(atI a0 y3.1).bind fun x1 =>
(zda y3.2.2.1 x1.1).bind fun r2 =>
 some (.inl ((IntKind.wrap .i64 (y3.1+1)),y3.2.1,r2,()))) (
 some (.inr y3.2.2.1))
def zby (a0:List vV1):Option vV3 :=
 aN (qO a0) (0,([0,0,0,0,0,0,0,0,0,0,0,0,0,0,0,0],(),()),([0,0,0,0,0,0,0,0,0,0,0,0,0,0,0,0],[],()),())
def vr:TFn:={ ps:=(.cons (.sl tT9) .unit),res:=tT12,fn:=fun v=>zby v.1 }
def alm:TEnv:=(vZ [(236,uA)])
theorem alk:runY Tryz.prog adO aln alm aq2 Tryz.f168 vr.ps vr.res=vr.fn:=by kernel_rfl
theorem adM:aB Tryz.prog G0 168 adN:=ai (aj ⟨au,(ah aci ae),ap,ae,an⟩ Tryz.func168 rfl (by kernel_rfl))
theorem alj:TOk adN vr:=ay (E:=adO) (ET:=alm) (EnvT.ofX (ax (ac aiZ ak)) al ar aJ aq) alk rfl
def acX:Env:=(eZ [] [274])
def aj0:Hints:=(hZ [(4,[0,1,5])] [])
def acW:PFn:=aC (runF Tryz.prog acX aj0 Tryz.f65)
def aqF:TH:={ loops:=[(4,{ keep:=[(5,(.int .i64))],mem:=[] })],ro:=[] }
def qJ (a0:List (Int×Int×Unit)) (a1:List (Int×Int×Unit)) (y4:(Int×Unit)):Option ((Int×Unit)⊕Bool) :=
 cond (decide (y4.1<(a0.length:Int))) (
(atI a0 y4.1).bind fun x1 =>
(atI a1 y4.1).bind fun x2 =>
 cond (!(eqV tT10 x1 x2)) (
 some (.inr false)) (
 some (.inl ((IntKind.wrap .i64 (y4.1+1)),())))) (
 some (.inr true))
def zcl (a0:List (Int×Int×Unit)) (a1:List (Int×Int×Unit)):Option Bool :=
 cond (!decide ((a0.length:Int)=(a1.length:Int))) (
 some false) (
 aN (qJ a0 a1) (0,()))
def uP:TFn:={ ps:=(.cons (.sl tT10) (.cons (.sl tT10) .unit)),res:=.bool,fn:=fun v=>zcl v.1 v.2.1 }
def ajZ:TEnv:=(vZ [])
theorem ajY:runY Tryz.prog acX aj0 ajZ aqF Tryz.f65 uP.ps uP.res=uP.fn:=by kernel_rfl
theorem acV:aB Tryz.prog G0 65 acW:=ai (aj ⟨au,ae,ap,ae,an⟩ Tryz.func65 rfl (by kernel_rfl))
theorem ajX:TOk acW uP:=ay (E:=acX) (ET:=ajZ) (EnvT.ofX (ax ak) al ar aJ aq) ajY rfl
def ac1:Env:=(eZ [(65,acW)] [274])
def aj7:Hints:=(hZ [] [])
def ac0:PFn:=aC (runF Tryz.prog ac1 aj7 Tryz.f167)
def aqH:TH:={ loops:=[],ro:=[2,3] }
def zcj (a0:vV3) (a1:vV3):Option Bool :=
 cond (eqV (.arr 16 (.int .i64)) a0.1 a1.1) ((zcl a0.2.1 a1.2.1).bind fun r1 =>
 some r1) (some false)
def uR:TFn:={ ps:=(.cons tT12 (.cons tT12 .unit)),res:=.bool,fn:=fun v=>zcj v.1 v.2.1 }
def aj6:TEnv:=(vZ [(65,uP)])
theorem aj5:runY Tryz.prog ac1 aj7 aj6 aqH Tryz.f167 uR.ps uR.res=uR.fn:=by kernel_rfl
theorem acZ:aB Tryz.prog G0 167 ac0:=ai (aj ⟨au,(ah acV ae),ap,ae,an⟩ Tryz.func167 rfl (by kernel_rfl))
theorem aj4:TOk ac0 uR:=ay (E:=ac1) (ET:=aj6) (EnvT.ofX (ax (ac ajX ak)) al ar aJ aq) aj5 rfl
def afb:Env:=(eZ [(42,ad7),(109,my),(152,aeP),(153,adT),(166,aeM),(167,ac0),(168,adN)] [274])
def anu:Hints:=(hZ [(4,[1,3]),(9,[1,4]),(14,[1,4,5])] [])
def afa:PFn:=aC (runF Tryz.prog afb anu Tryz.f96)
def arC:TH:={ joins:=[(8,{ keep:=[(1,(.bx 0 0))],mem:=[.box 69 tT8] }),(18,{ keep:=[(1,(.bx 0 0))],mem:=[.box 69 tT8] })],loops:=[(4,{ keep:=[(1,(.bx 0 0)),(3,(.int .i64))],mem:=[.box 69 tT8] }),(9,{ keep:=[(1,(.bx 0 0)),(4,(.int .i64))],mem:=[.box 69 tT8] }),(14,{ keep:=[(1,(.bx 0 0)),(5,(.int .i64))],mem:=[.box 69 tT8] })],ro:=[] }
def qV (y4:(Int×vV0×Unit)):Option ((Int×vV0×Unit)⊕((vV0×Unit)⊕Bool)) :=
 cond (decide (y4.1<(y4.2.1.1.length:Int))) (
(atI y4.2.1.1 y4.1).bind fun x4 =>
(zbq x4).bind fun r5 =>
 cond (!decide (r5=0)) (
 some (.inr (.inr false))) (
 some (.inl ((IntKind.wrap .i64 (y4.1+1)),y4.2.1,())))) (
 some (.inr (.inl (y4.2.1,()))))
def mA (y9:(Int×vV0×Unit)) (y14:(Int×vV0×Unit)):Option ((Int×vV0×Unit)⊕((Int×vV0×Unit)⊕((vV0×Unit)⊕Bool))) :=
(inI 8 y9.1).bind fun i9 =>
(y14.2.1.2.2.2.2.1[i9]?).bind fun x10 =>
 cond (decide (y14.1<(x10.length:Int))) (
(inI 8 y9.1).bind fun i11 =>
(y14.2.1.2.2.2.2.1[i11]?).bind fun x12 =>
(atI x12 y14.1).bind fun x13 =>
(zbk x13).bind fun r14 =>
 cond (!r14) (
 some (.inr (.inr (.inr false)))) (
 some (.inl ((IntKind.wrap .i64 (y14.1+1)),y14.2.1,())))) (
 some (.inr (.inl ((IntKind.wrap .i64 (y9.1+1)),y14.2.1,()))))
def lc (y9:(Int×vV0×Unit)):Option ((Int×vV0×Unit)⊕((vV0×Unit)⊕Bool)) :=
 cond (decide (y9.1<8)) (
(inI 8 y9.1).bind fun i7 =>
(y9.2.1.2.2.2.2.1[i7]?).bind fun x8 =>
 cond (decide ((x8.length:Int)>1000)) (
 some (.inr (.inr false))) (
 aN (mA y9) (0,y9.2.1,()))) (
 some (.inr (.inl (y9.2.1,()))))
def zb1 (a0:vV0):Option Bool :=
 cond (decide ((a0.1.length:Int)>1000)) (some false) ((zb8 a0.1).bind fun r1 =>
 cond (!r1) (some false) ((zbw a0.2.1).bind fun r2 =>
 cond (!r2) (some false) ((zb9 a0.2.2.2.1).bind fun r3 =>
 cond (!r3) (
 some false) (
(aN (qV) (0,a0,()):Option ((vV0×Unit)⊕Bool)).bind (bw fun v6 =>
(aN (lc) (0,v6.1,()):Option ((vV0×Unit)⊕Bool)).bind (bw fun v15 =>
(zb9 v15.1.2.2.1).bind fun r16 =>
 cond r16 ((zby v15.1.1).bind fun r17 =>
(zcj v15.1.2.2.1 r17).bind fun r18 =>
 some r18) (some false)))))))
def vY:TFn:={ ps:=(.cons tT8 .unit),res:=.bool,fn:=fun v=>zb1 v.1 }
def ant:TEnv:=(vZ [(42,vB),(109,jk),(152,vR),(153,vu),(166,vQ),(167,uR),(168,vr)])
theorem ans:runY Tryz.prog afb anu ant arC Tryz.f96 vY.ps vY.res=vY.fn:=by kernel_rfl
theorem ae9:aB Tryz.prog G0 96 afa:=ai (aj ⟨au,(ah ad6 (ah f9 (ah aeO (ah adS (ah aeL (ah acZ (ah adM ae))))))),ap,ae,an⟩ Tryz.func96 rfl (by kernel_rfl))
theorem anr:TOk afa vY:=ay (E:=afb) (ET:=ant) (EnvT.ofX (ax (ac alP (ac jj (ac amV (ac als (ac amR (ac aj4 (ac alj ak)))))))) al ar aJ aq) ans rfl
def acq:Env:=(eZ [(95,ad3),(96,afa)] [274])
def aja:Hints:=(hZ [] [])
def acp:PFn:=aC (runF Tryz.prog acq aja Tryz.f33)
def aqs:TH:={ loops:=[],ro:=[1] }
def zcy (a0:vV0):Option Bool :=
(zbs a0).bind fun r1 =>
 cond r1 ((zb1 a0).bind fun r2 =>
 some r2) (some false)
def uC:TFn:={ ps:=(.cons tT8 .unit),res:=.bool,fn:=fun v=>zcy v.1 }
def ai9:TEnv:=(vZ [(95,vz),(96,vY)])
theorem ai8:runY Tryz.prog acq aja ai9 aqs Tryz.f33 uC.ps uC.res=uC.fn:=by kernel_rfl
theorem aco:aB Tryz.prog G0 33 acp:=ai (aj ⟨au,(ah ad2 (ah ae9 ae)),ap,ae,an⟩ Tryz.func33 rfl (by kernel_rfl))
theorem ai7:TOk acp uC:=ay (E:=acq) (ET:=ai9) (EnvT.ofX (ax (ac alI (ac anr ak))) al ar aJ aq) ai8 rfl
def ab4:Env:=(eZ [] [274])
def aiC:Hints:=(hZ [] [])
def ab3:PFn:=aC (runF Tryz.prog ab4 aiC Tryz.f98)
def aqj:TH:=yZ
def zdh (a0:Int):Option vV1 :=
 some ((0,a0,()),1,a0,false,([(3,([[97]]:List (List UInt8)),(0,0,[],()),1,[],())]:List vV4),())
def un:TFn:={ ps:=tT17,res:=tT9,fn:=fun v=>zdh v.1 }
def aiB:TEnv:={ pure:=[],look:=[],glob:=G0T,ty:=[(9,.str),(135,tT13)],raw:=[],fresh:=[] }
theorem aiA:runY Tryz.prog ab4 aiC aiB aqj Tryz.f98 un.ps un.res=un.fn:=by kernel_rfl
theorem ab2:aB Tryz.prog G0 98 ab3:=ai (aj ⟨au,ae,ap,ae,an⟩ Tryz.func98 rfl (by kernel_rfl))
theorem aiz:TOk ab3 un:=ay (E:=ab4) (ET:=aiB) (EnvT.ofX (ax ak) al ar aJ aq) aiA rfl
def aeD:Env:=(eZ [] [274])
def amE:Hints:=(hZ [] [])
def zD:PFn:=aC (runF Tryz.prog aeD amE Tryz.f226)
def arp:TH:=yZ
def zbd (a0:Int):Option Bool :=
 some (!decide (a0=a0))
def vN:TFn:={ ps:=tT17,res:=.bool,fn:=fun v=>zbd v.1 }
def amD:TEnv:=(vZ [])
theorem amC:runY Tryz.prog aeD amE amD arp Tryz.f226 vN.ps vN.res=vN.fn:=by kernel_rfl
theorem aeC:aB Tryz.prog G0 226 zD:=ai (aj ⟨au,ae,ap,ae,an⟩ Tryz.func226 rfl (by kernel_rfl))
theorem amB:TOk zD vN:=ay (E:=aeD) (ET:=amD) (EnvT.ofX (ax ak) al ar aJ aq) amC rfl
def agA:Env:=(eZ [(226,zD)] [274])
def apj:Hints:=(hZ [] [])
def sD:PFn:=aC (runF Tryz.prog agA apj Tryz.f156)
def ar1:TH:=yZ
def za5 (a0:Int) (a1:Int):Option Int :=
(zbd a0).bind fun r1 =>
(zbd a1).bind fun r2 =>
 cond r1 (
 cond r2 (
 some 0) (
 some (-1))) (
 cond r2 (
 some 1) (
 cond (decide (a0<a1)) (
 some (-1)) (
 cond (decide (a0>a1)) (
 some 1) (
 some 0))))
def pI:TFn:={ ps:=(.cons (.int .i64) tT17),res:=(.int .i64),fn:=fun v=>za5 v.1 v.2.1 }
def api:TEnv:=(vZ [(226,vN)])
theorem aph:runY Tryz.prog agA apj api ar1 Tryz.f156 pI.ps pI.res=pI.fn:=by kernel_rfl
theorem pJ:aB Tryz.prog G0 156 sD:=ai (aj ⟨au,(ah aeC ae),ap,ae,an⟩ Tryz.func156 rfl (by kernel_rfl))
theorem wG:TOk sD pI:=ay (E:=agA) (ET:=api) (EnvT.ofX (ax (ac amB ak)) al ar aJ aq) aph rfl
def ac7:Env:=(eZ [] [274])
def akk:Hints:=(hZ [(3,[3,6,7,8])] [])
def sw:PFn:=aC (runF Tryz.prog ac7 akk Tryz.f154)
def aqL:TH:={ loops:=[(3,{ keep:=[(8,(.int .i64))],mem:=[] })],ro:=[] }
def iw (a0:List Int) (y3:(Int×Unit)):Option ((Int×Unit)⊕Int) :=
 cond (decide (y3.1<(a0.length:Int))) (
(atI a0 y3.1).bind fun x1 =>
 cond (!decide (x1=0)) (
 some (.inr x1)) (
 some (.inl ((IntKind.wrap .i64 (y3.1+1)),())))) (
 some (.inr 0))
def zcf (a0:List Int):Option Int :=
 aN (iw a0) (0,())
def pp:TFn:={ ps:=(.cons (.sl (.int .i64)) .unit),res:=(.int .i64),fn:=fun v=>zcf v.1 }
def akj:TEnv:=(vZ [])
theorem aki:runY Tryz.prog ac7 akk akj aqL Tryz.f154 pp.ps pp.res=pp.fn:=by kernel_rfl
theorem pr:aB Tryz.prog G0 154 sw:=ai (aj ⟨au,ae,ap,ae,an⟩ Tryz.func154 rfl (by kernel_rfl))
theorem uW:TOk sw pp:=ay (E:=ac7) (ET:=akj) (EnvT.ofX (ax ak) al ar aJ aq) aki rfl
def aej:Env:=(eZ [(154,sw),(156,sD)] [274])
def ama:Hints:=(hZ [] [])
def iR:PFn:=aC (runF Tryz.prog aej ama Tryz.f171)
def arh:TH:={ loops:=[],ro:=[2,3] }
def zbl (a0:(Int×Int×Unit)) (a1:(Int×Int×Unit)):Option Int :=
(za5 a0.1 a1.1).bind fun r1 =>
(za5 a0.2.1 a1.2.1).bind fun r2 =>
(zcf ([r1,r2]:List Int)).bind fun r3 =>
 some r3
def iQ:TFn:={ ps:=(.cons tT10 (.cons tT10 .unit)),res:=(.int .i64),fn:=fun v=>zbl v.1 v.2.1 }
def al9:TEnv:={ pure:=[(154,pp),(156,pI)],look:=[],glob:=G0T,ty:=[(3,(.int .i64))],raw:=[],fresh:=[] }
theorem al8:runY Tryz.prog aej ama al9 arh Tryz.f171 iQ.ps iQ.res=iQ.fn:=by kernel_rfl
theorem e8:aB Tryz.prog G0 171 iR:=ai (aj ⟨au,(ah pr (ah pJ ae)),ap,ae,an⟩ Tryz.func171 rfl (by kernel_rfl))
theorem gn:TOk iR iQ:=ay (E:=aej) (ET:=al9) (EnvT.ofX (ax (ac uW (ac wG ak))) al ar aJ aq) al8 rfl
theorem zC : @aB ⟨True⟩ Tryz.prog G0 226 zD:=by
 letI:Drawn:=⟨True⟩
 exact ai (aj ⟨au,ae,ap,ae,an⟩ Tryz.func226 rfl (by kernel_rfl))
theorem zR : @aB ⟨True⟩ Tryz.prog G0 156 sD:=by
 letI:Drawn:=⟨True⟩
 exact ai (aj ⟨au,(ah zC ae),ap,ae,an⟩ Tryz.func156 rfl (by kernel_rfl))
theorem zw : @aB ⟨True⟩ Tryz.prog G0 154 sw:=by
 letI:Drawn:=⟨True⟩
 exact ai (aj ⟨au,ae,ap,ae,an⟩ Tryz.func154 rfl (by kernel_rfl))
theorem zB : @aB ⟨True⟩ Tryz.prog G0 171 iR:=by
 letI:Drawn:=⟨True⟩
 exact ai (aj ⟨au,(ah zw (ah zR ae)),ap,ae,an⟩ Tryz.func171 rfl (by kernel_rfl))
def afJ:Go.Shelf.Ren:=⟨fun | 6=>187 | 14=>256 | 15=>201 | 20=>307 | 21=>308 | 22=>309 | 23=>310 | 24=>311 | 25=>312 | 26=>313 | 27=>314 | 28=>268 | 29=>269 | 46=>348 | 47=>316 | 48=>317 | 49=>349 | 50=>350 | 57=>368 | n=>n,fun | 0=>0 | 3=>3 | 4=>4 | 5=>5 | 9=>9 | 22=>64 | 24=>72 | 25=>176 | 39=>230 | 45=>314 | 46=>315 | 50=>161 | 53=>321 | 55=>323 | 66=>354 | 70=>358 | 76=>378 | 77=>283 | n=>n,fun | n=>n⟩
theorem zO:Go.Proofs.SlLaysF0.n6 Tryz.prog afJ:={
 mixed:=by kernel_rfl
 f6:=⟨Tryz.f187.name,by decide,Tryz.func187.trans (congrArg some (by kernel_rfl))⟩
 f14:=⟨Tryz.f256.name,by decide,Tryz.func256.trans (congrArg some (by kernel_rfl))⟩
 f15:=Tryz.func201.trans (congrArg some (by kernel_rfl))
 f20:=⟨Tryz.f307.name,by decide,Tryz.func307.trans (congrArg some (by kernel_rfl))⟩
 f21:=⟨Tryz.f308.name,by decide,Tryz.func308.trans (congrArg some (by kernel_rfl))⟩
 f22:=⟨Tryz.f309.name,by decide,Tryz.func309.trans (congrArg some (by kernel_rfl))⟩
 f23:=⟨Tryz.f310.name,by decide,Tryz.func310.trans (congrArg some (by kernel_rfl))⟩
 f24:=⟨Tryz.f311.name,by decide,Tryz.func311.trans (congrArg some (by kernel_rfl))⟩
 f25:=⟨Tryz.f312.name,by decide,Tryz.func312.trans (congrArg some (by kernel_rfl))⟩
 f26:=⟨Tryz.f313.name,by decide,Tryz.func313.trans (congrArg some (by kernel_rfl))⟩
 f27:=⟨Tryz.f314.name,by decide,Tryz.func314.trans (congrArg some (by kernel_rfl))⟩
 f28:=Tryz.func268.trans (congrArg some (by kernel_rfl))
 f29:=Tryz.func269.trans (congrArg some (by kernel_rfl))
 f46:=⟨Tryz.f348.name,by decide,Tryz.func348.trans (congrArg some (by kernel_rfl))⟩
 f47:=Tryz.func316.trans (congrArg some (by kernel_rfl))
 f48:=Tryz.func317.trans (congrArg some (by kernel_rfl))
 f49:=⟨Tryz.f349.name,by decide,Tryz.func349.trans (congrArg some (by kernel_rfl))⟩
 f50:=⟨Tryz.f350.name,by decide,Tryz.func350.trans (congrArg some (by kernel_rfl))⟩
 f57:=⟨Tryz.f368.name,by decide,Tryz.func368.trans (congrArg some (by kernel_rfl))⟩
 t0:=Tryz.underlying0
 a0:=Tryz.isAgg0
 z0:=Tryz.sizeOf0
 v0:=Tryz.zeroValue0
 t3:=Tryz.underlying3
 a3:=Tryz.isAgg3
 z3:=Tryz.sizeOf3
 v3:=Tryz.zeroValue3
 t4:=Tryz.underlying4
 a4:=Tryz.isAgg4
 z4:=Tryz.sizeOf4
 v4:=Tryz.zeroValue4
 t5:=Tryz.underlying5
 a5:=Tryz.isAgg5
 z5:=Tryz.sizeOf5
 v5:=Tryz.zeroValue5
 t9:=Tryz.underlying9
 a9:=Tryz.isAgg9
 z9:=Tryz.sizeOf9
 v9:=Tryz.zeroValue9
 t22:=Tryz.underlying64
 a22:=Tryz.isAgg64
 z22:=Tryz.sizeOf64
 v22:=Tryz.zeroValue64
 t25:=Tryz.underlying176
 a25:=Tryz.isAgg176
 z25:=Tryz.sizeOf176
 v25:=Tryz.zeroValue176
 t39:=Tryz.underlying230
 a39:=Tryz.isAgg230
 z39:=Tryz.sizeOf230
 v39:=Tryz.zeroValue230
 t45:=Tryz.underlying314
 a45:=Tryz.isAgg314
 z45:=Tryz.sizeOf314
 v45:=Tryz.zeroValue314
 t46:=Tryz.underlying315
 a46:=Tryz.isAgg315
 z46:=Tryz.sizeOf315
 v46:=Tryz.zeroValue315
 t50:=Tryz.underlying161
 a50:=Tryz.isAgg161
 z50:=Tryz.sizeOf161
 v50:=Tryz.zeroValue161
 t53:=Tryz.underlying321
 a53:=Tryz.isAgg321
 z53:=Tryz.sizeOf321
 v53:=Tryz.zeroValue321
 t55:=Tryz.underlying323
 a55:=Tryz.isAgg323
 z55:=Tryz.sizeOf323
 v55:=Tryz.zeroValue323
 t66:=Tryz.underlying354
 a66:=Tryz.isAgg354
 z66:=Tryz.sizeOf354
 v66:=Tryz.zeroValue354
 t70:=Tryz.underlying358
 a70:=Tryz.isAgg358
 z70:=Tryz.sizeOf358
 v70:=Tryz.zeroValue358
 t76:=Tryz.underlying378
 a76:=Tryz.isAgg378
 z76:=Tryz.sizeOf378
 v76:=Tryz.zeroValue378
 t77:=Tryz.underlying283
 a77:=Tryz.isAgg283
 z77:=Tryz.sizeOf283
 v77:=Tryz.zeroValue283 }
def zP:SFn:=nQ iR 171 2 72
theorem wi:bM Tryz.prog G0 187 zP:=pO (M:=2) (g:=171) zO (by decide) (fun w=>Tryz.isAgg72 w) (fun w=>Tryz.sizeOf72 w) zB ⟨Tryz.f187,Tryz.func187,rfl,by kernel_rfl⟩
def zao (w0:List (Int×Int×Unit)):Option (Unit×List (Int×Int×Unit)×Unit):=(mG (fun x y=>zbl x y) w0).map fun l=>((),(l,()))
def afK:TRaw:=z6 false 171 72 tT10 (fun x y=>zbl x y)
theorem aa8:TRawOk zP afK:=zZ rfl rfl rfl rfl gn
def acw:Env:=(eZ [(171,iR)] [274])
def ajj:Hints:=(hZ [] [])
def acv:PFn:=aC (runF Tryz.prog acw ajj Tryz.f193)
def aqu:TH:={ loops:=[],ro:=[2,3] }
def zcw (a0:vV1) (a1:(Int×Int×Unit)):Option Int :=
(zbl a0.1 a1).bind fun r1 =>
 some r1
def uE:TFn:={ ps:=(.cons tT9 (.cons tT10 .unit)),res:=(.int .i64),fn:=fun v=>zcw v.1 v.2.1 }
def aji:TEnv:=(vZ [(171,iQ)])
theorem ajh:runY Tryz.prog acw ajj aji aqu Tryz.f193 uE.ps uE.res=uE.fn:=by kernel_rfl
theorem acu:aB Tryz.prog G0 193 acv:=ai (aj ⟨au,(ah e8 ae),ap,ae,an⟩ Tryz.func193 rfl (by kernel_rfl))
theorem ajg:TOk acv uE:=ay (E:=acw) (ET:=aji) (EnvT.ofX (ax (ac gn ak)) al ar aJ aq) ajh rfl
def agl:Env:=(eZ [(193,acv)] [274])
def aoU:Hints:=(hZ [(3,[0,2,4,8,9,10])] [])
def agk:PFn:=aC (runF Tryz.prog agl aoU Tryz.f192)
def arU:TH:={ joins:=[(8,{ keep:=[(4,(.bx 0 0)),(9,(.int .i64))],mem:=[.same] })],loops:=[(3,{ keep:=[(4,(.bx 0 0)),(9,(.int .i64)),(10,(.int .i64))],mem:=[.same] })],ro:=[4] }
def qX (a0:List vV1) (a1:(Int×Int×Unit)) (y3:(Int×Int×Unit)):Option ((Int×Int×Unit)⊕((Int×Unit)⊕(Int×Bool×Unit))) :=
 cond (decide (y3.1<y3.2.1)) (
(shrT .u64 (IntKind.wrap .u64 (IntKind.wrap .i64 (y3.1+y3.2.1))) 1).bind fun t1 =>
(atI a0 (IntKind.wrap .i64 t1)).bind fun x2 =>
(zcw x2 a1).bind fun r3 =>
 cond (decide (r3<0)) (
 some (.inl ((IntKind.wrap .i64 ((IntKind.wrap .i64 t1)+1)),y3.2.1,()))) (
 some (.inl (y3.1,(IntKind.wrap .i64 t1),())))) (
 some (.inr (.inl (y3.1,()))))
def zac (a0:List vV1) (a1:(Int×Int×Unit)) (a2:Unit):Option (Int×Bool×Unit) :=
(aN (qX a0 a1) (0,(a0.length:Int),()):Option ((Int×Unit)⊕(Int×Bool×Unit))).bind (bw fun v4 =>
 cond (decide (v4.1<(a0.length:Int))) ((atI a0 v4.1).bind fun x5 =>
(zcw x5 a1).bind fun r6 =>
 some (v4.1,(decide (r6=0)),())) (some (v4.1,false,())))
def wy:TFn:={ ps:=(.cons (.sl tT9) (.cons tT10 (.cons (.fn 193) .unit))),res:=(.tup (.cons (.int .i64) (.cons .bool .unit))),fn:=fun v=>zac v.1 v.2.1 v.2.2.1 }
def aoT:TEnv:=(vZ [(193,uE)])
theorem aoS:runY Tryz.prog agl aoU aoT arU Tryz.f192 wy.ps wy.res=wy.fn:=by kernel_rfl
theorem agj:aB Tryz.prog G0 192 agk:=ai (aj ⟨au,(ah acu ae),ap,ae,an⟩ Tryz.func192 rfl (by kernel_rfl))
theorem aoR:TOk agk wy:=ay (E:=agl) (ET:=aoT) (EnvT.ofX (ax (ac ajg ak)) al ar aJ aq) aoS rfl
def abL:Env:=(eZ [(192,agk)] [274])
def aib:Hints:=(hZ [] [])
def zh:PFn:=aC (runF Tryz.prog abL aib Tryz.f114)
def aqc:TH:={ loops:=[],ro:=[3] }
def zdo (a0:List vV1) (a1:(Int×Int×Unit)):Option Int :=
(zac a0 a1 ()).bind fun r1 =>
 cond (!r1.2.1) (
 some (-1)) (
 some r1.1)
def sk:TFn:={ ps:=(.cons (.sl tT9) (.cons tT10 .unit)),res:=(.int .i64),fn:=fun v=>zdo v.1 v.2.1 }
def aia:TEnv:=(vZ [(192,wy)])
theorem ah9:runY Tryz.prog abL aib aia aqc Tryz.f114 sk.ps sk.res=sk.fn:=by kernel_rfl
theorem t7:aB Tryz.prog G0 114 zh:=ai (aj ⟨au,(ah agj ae),ap,ae,an⟩ Tryz.func114 rfl (by kernel_rfl))
theorem aaW:TOk zh sk:=ay (E:=abL) (ET:=aia) (EnvT.ofX (ax (ac aoR ak)) al ar aJ aq) ah9 rfl
def adq:Env:=(eZ [(171,iR)] [274])
def akI:Hints:=(hZ [] [])
def adp:PFn:=aC (runF Tryz.prog adq akI Tryz.f237)
def aqR:TH:={ loops:=[],ro:=[2,3] }
def zc9 (a0:vV1) (a1:(Int×Int×Unit)):Option Int :=
(zbl a0.1 a1).bind fun r1 =>
 some r1
def ve:TFn:={ ps:=(.cons tT9 (.cons tT10 .unit)),res:=(.int .i64),fn:=fun v=>zc9 v.1 v.2.1 }
def akH:TEnv:=(vZ [(171,iQ)])
theorem akG:runY Tryz.prog adq akI akH aqR Tryz.f237 ve.ps ve.res=ve.fn:=by kernel_rfl
theorem ado:aB Tryz.prog G0 237 adp:=ai (aj ⟨au,(ah e8 ae),ap,ae,an⟩ Tryz.func237 rfl (by kernel_rfl))
theorem akF:TOk adp ve:=ay (E:=adq) (ET:=akH) (EnvT.ofX (ax (ac gn ak)) al ar aJ aq) akG rfl
def agK:Go.Shelf.Ren:=⟨fun | 41=>181 | n=>n,fun | 22=>22 | 23=>78 | 4=>4 | n=>n,fun | n=>n⟩
theorem zT:Go.Proofs.SlLaysE0.n41 Tryz.prog agK:={
 mixed:=by kernel_rfl
 f41:=⟨Tryz.f181.name,by decide,Tryz.func181.trans (congrArg some (by kernel_rfl))⟩
 t4:=Tryz.underlying4
 a4:=Tryz.isAgg4
 z4:=Tryz.sizeOf4
 v4:=Tryz.zeroValue4
 t22:=Tryz.underlying22
 a22:=Tryz.isAgg22
 z22:=Tryz.sizeOf22
 v22:=Tryz.zeroValue22 }
def agM:SFn:=ko 6 78
theorem agL:bM Tryz.prog G0 181 agM:=o6 zT rfl rfl (fj (P:=Tryz.prog) (te:=78) (M:=6) (by kernel_rfl) (by kernel_rfl) (by kernel_rfl) (by kernel_rfl) (by kernel_rfl) (by kernel_rfl) (by kernel_rfl) (by kernel_rfl)) ⟨Tryz.f181,Tryz.func181,rfl,by kernel_rfl⟩
def za0 (a0:List vV1):Option (List vV1):=er a0
def apy:TNew:=lZ 78 tT9
theorem apx:TNewOk agM apy:=o9 rfl rfl rfl
def afj:Go.Shelf.Ren:=⟨fun | 22=>238 | 29=>295 | 30=>296 | n=>n,fun | 24=>22 | 9=>78 | 0=>0 | 3=>3 | 4=>4 | n=>n,fun | n=>n⟩
theorem zH:InsL Tryz.prog afj:={
 mixed:=by kernel_rfl
 f22:=⟨Tryz.f238.name,by decide,Tryz.func238.trans (congrArg some (by kernel_rfl))⟩
 f29:=⟨Tryz.f295.name,by decide,by kernel_rfl,by kernel_rfl,Tryz.func295.trans (congrArg some (by kernel_rfl))⟩
 t0:=Tryz.underlying0
 a0:=Tryz.isAgg0
 z0:=Tryz.sizeOf0
 v0:=Tryz.zeroValue0
 t3:=Tryz.underlying3
 a3:=Tryz.isAgg3
 z3:=Tryz.sizeOf3
 v3:=Tryz.zeroValue3
 t4:=Tryz.underlying4
 a4:=Tryz.isAgg4
 z4:=Tryz.sizeOf4
 v4:=Tryz.zeroValue4
 t24:=Tryz.underlying22
 a24:=Tryz.isAgg22
 z24:=Tryz.sizeOf22
 v24:=Tryz.zeroValue22 }
def afl:SFn:=dH 6 78
theorem afk:bM Tryz.prog G0 238 afl:=lQ zH rfl rfl rfl (fj (P:=Tryz.prog) (te:=78) (M:=6) (by kernel_rfl) (by kernel_rfl) (by kernel_rfl) (by kernel_rfl) (by kernel_rfl) (by kernel_rfl) (by kernel_rfl) (by kernel_rfl)) true Tryz.isAgg78 ⟨Tryz.f238,Tryz.func238,rfl,by kernel_rfl⟩
def zax (a1:Int) (a2:List vV1) (w0:List vV1):Option (Unit×List vV1×Unit):=(insT w0 a1 a2).map fun l=>((),(l,()))
def anG:TRaw:=insR false 78 tT9
theorem anF:TRawOk afl anG:=yc rfl rfl rfl rfl (by decide)
def agi:Env:=(eZ [(237,adp)] [274])
def aoQ:Hints:=(hZ [(3,[0,2,4,8,9,10])] [])
def agh:PFn:=aC (runF Tryz.prog agi aoQ Tryz.f192)
def arT:TH:={ joins:=[(8,{ keep:=[(4,(.bx 0 0)),(9,(.int .i64))],mem:=[.same] })],loops:=[(3,{ keep:=[(4,(.bx 0 0)),(9,(.int .i64)),(10,(.int .i64))],mem:=[.same] })],ro:=[4] }
def qW (a0:List vV1) (a1:(Int×Int×Unit)) (y3:(Int×Int×Unit)):Option ((Int×Int×Unit)⊕((Int×Unit)⊕(Int×Bool×Unit))) :=
 cond (decide (y3.1<y3.2.1)) (
(shrT .u64 (IntKind.wrap .u64 (IntKind.wrap .i64 (y3.1+y3.2.1))) 1).bind fun t1 =>
(atI a0 (IntKind.wrap .i64 t1)).bind fun x2 =>
(zc9 x2 a1).bind fun r3 =>
 cond (decide (r3<0)) (
 some (.inl ((IntKind.wrap .i64 ((IntKind.wrap .i64 t1)+1)),y3.2.1,()))) (
 some (.inl (y3.1,(IntKind.wrap .i64 t1),())))) (
 some (.inr (.inl (y3.1,()))))
def zad (a0:List vV1) (a1:(Int×Int×Unit)) (a2:Unit):Option (Int×Bool×Unit) :=
(aN (qW a0 a1) (0,(a0.length:Int),()):Option ((Int×Unit)⊕(Int×Bool×Unit))).bind (bw fun v4 =>
 cond (decide (v4.1<(a0.length:Int))) ((atI a0 v4.1).bind fun x5 =>
(zc9 x5 a1).bind fun r6 =>
 some (v4.1,(decide (r6=0)),())) (some (v4.1,false,())))
def wx:TFn:={ ps:=(.cons (.sl tT9) (.cons tT10 (.cons (.fn 237) .unit))),res:=(.tup (.cons (.int .i64) (.cons .bool .unit))),fn:=fun v=>zad v.1 v.2.1 v.2.2.1 }
def aoP:TEnv:=(vZ [(237,ve)])
theorem aoO:runY Tryz.prog agi aoQ aoP arT Tryz.f192 wx.ps wx.res=wx.fn:=by kernel_rfl
theorem agf:aB Tryz.prog G0 192 agh:=ai (aj ⟨au,(ah ado ae),ap,ae,an⟩ Tryz.func192 rfl (by kernel_rfl))
theorem aoN:TOk agh wx:=ay (E:=agi) (ET:=aoP) (EnvT.ofX (ax (ac akF ak)) al ar aJ aq) aoO rfl
def abu:Env:={ pure:=[(192,agh)],raw:=[(181,agM),(238,afl)],glob:=G0,same:=[274],look:=[],ext:=[] }
def ahK:Hints:={ seqs:=[],loops:=[],own:=[19],frz:=[(4,[3])] }
def abt:PFn:=aC (runF Tryz.prog abu ahK Tryz.f169)
def ap5:TH:=yZ
def zdv (a0:List vV1) (a1:vV1):Option (List vV1) :=
(zad a0 a1.1 ()).bind fun r1 =>
 cond r1.2.1 (
 some a0) (
(za0 a0).bind fun n2 =>
(zax r1.1 ([a1]:List vV1) n2).bind fun q3 =>
 some q3.2.1)
def tT:TFn:={ ps:=(.cons (.sl tT9) (.cons tT9 .unit)),res:=(.sl tT9),fn:=fun v=>zdv v.1 v.2.1 }
def ahJ:TEnv:={ pure:=[(192,wx)],look:=[],glob:=G0T,ty:=[(78,tT9)],raw:=[(238,anG)],fresh:=[(181,apy)] }
theorem ahI:runY Tryz.prog abu ahK ahJ ap5 Tryz.f169 tT.ps tT.res=tT.fn:=by kernel_rfl
theorem abs:aB Tryz.prog G0 169 abt:=ai (aj ⟨au,(ah agf ae),(bZ agL (bZ afk ap)),ae,an⟩ Tryz.func169 rfl (by kernel_rfl))
theorem ahH:TOk abt tT:=ay (E:=abu) (ET:=ahJ) (EnvT.ofX (ax (ac aoN ak)) al (ea (fe anF rfl rfl ar) rfl) aJ (eh apx rfl rfl rfl aq)) ahI rfl
def adu:Env:=(eZ [] [274])
def akP:Hints:=(hZ [] [])
def iP:PFn:=aC (runF Tryz.prog adu akP Tryz.f173)
def aqT:TH:={ loops:=[],ro:=[1] }
def zc7 (a0:(Int×Int×Unit)):Option Bool :=
 cond (decide (a0.1≥0)) (cond (decide (a0.1<16)) (cond (decide (a0.2.1≥1)) (some (decide (a0.2.1≤1048576))) (some false)) (some false)) (some false)
def gm:TFn:={ ps:=(.cons tT10 .unit),res:=.bool,fn:=fun v=>zc7 v.1 }
def akO:TEnv:=(vZ [])
theorem akN:runY Tryz.prog adu akP akO aqT Tryz.f173 gm.ps gm.res=gm.fn:=by kernel_rfl
theorem dY:aB Tryz.prog G0 173 iP:=ai (aj ⟨au,ae,ap,ae,an⟩ Tryz.func173 rfl (by kernel_rfl))
theorem fR:TOk iP gm:=ay (E:=adu) (ET:=akO) (EnvT.ofX (ax ak) al ar aJ aq) akN rfl
def abA:Env:=(eZ [(173,iP)] [274])
def ahS:Hints:=(hZ [] [])
def abz:PFn:=aC (runF Tryz.prog abA ahS Tryz.f194)
def ap7:TH:={ loops:=[],ro:=[3] }
def zdt (a0:List Int) (a1:(Int×Int×Unit)):Option Bool :=
(zc7 a1).bind fun r1 =>
 cond r1 ((inI 16 a1.1).bind fun i2 =>
(a0[i2]?).bind fun x3 =>
 some (decide (a1.2.1≤x3))) (some false)
def tV:TFn:={ ps:=(.cons (.arr 16 (.int .i64)) (.cons tT10 .unit)),res:=.bool,fn:=fun v=>zdt v.1 v.2.1 }
def ahR:TEnv:=(vZ [(173,gm)])
theorem ahQ:runY Tryz.prog abA ahS ahR ap7 Tryz.f194 tV.ps tV.res=tV.fn:=by kernel_rfl
theorem aby:aB Tryz.prog G0 194 abz:=ai (aj ⟨au,(ah dY ae),ap,ae,an⟩ Tryz.func194 rfl (by kernel_rfl))
theorem ahP:TOk abz tV:=ay (E:=abA) (ET:=ahR) (EnvT.ofX (ax (ac fR ak)) al ar aJ aq) ahQ rfl
def agm:Env:=(eZ [(171,iR)] [274])
def aoX:Hints:=(hZ [(3,[0,2,4,8,9,10])] [])
def zQ:PFn:=aC (runF Tryz.prog agm aoX Tryz.f195)
def arV:TH:={ joins:=[(8,{ keep:=[(4,(.bx 0 0)),(9,(.int .i64))],mem:=[.same] })],loops:=[(3,{ keep:=[(4,(.bx 0 0)),(9,(.int .i64)),(10,(.int .i64))],mem:=[.same] })],ro:=[4] }
def gp (a0:List (Int×Int×Unit)) (a1:(Int×Int×Unit)) (y3:(Int×Int×Unit)):Option ((Int×Int×Unit)⊕((Int×Unit)⊕(Int×Bool×Unit))) :=
 cond (decide (y3.1<y3.2.1)) (
(shrT .u64 (IntKind.wrap .u64 (IntKind.wrap .i64 (y3.1+y3.2.1))) 1).bind fun t1 =>
(atI a0 (IntKind.wrap .i64 t1)).bind fun x2 =>
(zbl x2 a1).bind fun r3 =>
 cond (decide (r3<0)) (
 some (.inl ((IntKind.wrap .i64 ((IntKind.wrap .i64 t1)+1)),y3.2.1,()))) (
 some (.inl (y3.1,(IntKind.wrap .i64 t1),())))) (
 some (.inr (.inl (y3.1,()))))
def zab (a0:List (Int×Int×Unit)) (a1:(Int×Int×Unit)) (a2:Unit):Option (Int×Bool×Unit) :=
(aN (gp a0 a1) (0,(a0.length:Int),()):Option ((Int×Unit)⊕(Int×Bool×Unit))).bind (bw fun v4 =>
 cond (decide (v4.1<(a0.length:Int))) ((atI a0 v4.1).bind fun x5 =>
(zbl x5 a1).bind fun r6 =>
 some (v4.1,(decide (r6=0)),())) (some (v4.1,false,())))
def sC:TFn:={ ps:=(.cons (.sl tT10) (.cons tT10 (.cons (.fn 171) .unit))),res:=(.tup (.cons (.int .i64) (.cons .bool .unit))),fn:=fun v=>zab v.1 v.2.1 v.2.2.1 }
def aoW:TEnv:=(vZ [(171,iQ)])
theorem aoV:runY Tryz.prog agm aoX aoW arV Tryz.f195 sC.ps sC.res=sC.fn:=by kernel_rfl
theorem wz:aB Tryz.prog G0 195 zQ:=ai (aj ⟨au,(ah e8 ae),ap,ae,an⟩ Tryz.func195 rfl (by kernel_rfl))
theorem aa9:TOk zQ sC:=ay (E:=agm) (ET:=aoW) (EnvT.ofX (ax (ac gn ak)) al ar aJ aq) aoV rfl
def abS:Env:=(eZ [(194,abz),(195,zQ)] [274])
def aim:Hints:=(hZ [] [])
def ug:PFn:=aC (runF Tryz.prog abS aim Tryz.f115)
def aqf:TH:={ loops:=[],ro:=[2,3] }
def zdl (a0:vV3) (a1:(Int×Int×Unit)):Option Bool :=
(zdt a0.1 a1).bind fun r1 =>
 cond r1 (
 some true) (
(zab a0.2.1 a1 ()).bind fun r2 =>
 some r2.2.1)
def pi:TFn:={ ps:=(.cons tT12 (.cons tT10 .unit)),res:=.bool,fn:=fun v=>zdl v.1 v.2.1 }
def ail:TEnv:=(vZ [(194,tV),(195,sC)])
theorem aik:runY Tryz.prog abS aim ail aqf Tryz.f115 pi.ps pi.res=pi.fn:=by kernel_rfl
theorem pj:aB Tryz.prog G0 115 ug:=ai (aj ⟨au,(ah aby (ah wz ae)),ap,ae,an⟩ Tryz.func115 rfl (by kernel_rfl))
theorem uf:TOk ug pi:=ay (E:=abS) (ET:=ail) (EnvT.ofX (ax (ac ahP (ac aa9 ak))) al ar aJ aq) aik rfl
def afi:Go.Shelf.Ren:=⟨fun | 41=>180 | n=>n,fun | 22=>64 | 23=>72 | 4=>4 | n=>n,fun | n=>n⟩
theorem zF:Go.Proofs.SlLaysE0.n41 Tryz.prog afi:={
 mixed:=by kernel_rfl
 f41:=⟨Tryz.f180.name,by decide,Tryz.func180.trans (congrArg some (by kernel_rfl))⟩
 t4:=Tryz.underlying4
 a4:=Tryz.isAgg4
 z4:=Tryz.sizeOf4
 v4:=Tryz.zeroValue4
 t22:=Tryz.underlying64
 a22:=Tryz.isAgg64
 z22:=Tryz.sizeOf64
 v22:=Tryz.zeroValue64 }
def we:SFn:=ko 2 72
theorem pF:bM Tryz.prog G0 180 we:=o6 zF rfl rfl (fj (P:=Tryz.prog) (te:=72) (M:=2) (by kernel_rfl) (by kernel_rfl) (by kernel_rfl) (by kernel_rfl) (by kernel_rfl) (by kernel_rfl) (by kernel_rfl) (by kernel_rfl)) ⟨Tryz.f180,Tryz.func180,rfl,by kernel_rfl⟩
def zay (a0:List (Int×Int×Unit)):Option vV7:=er a0
def zG:TNew:=lZ 72 tT10
theorem wd:TNewOk we zG:=o9 rfl rfl rfl
def afm:Go.Shelf.Ren:=⟨fun | 22=>239 | 29=>297 | 30=>298 | n=>n,fun | 24=>64 | 9=>72 | 0=>0 | 3=>3 | 4=>4 | n=>n,fun | n=>n⟩
theorem zI:InsL Tryz.prog afm:={
 mixed:=by kernel_rfl
 f22:=⟨Tryz.f239.name,by decide,Tryz.func239.trans (congrArg some (by kernel_rfl))⟩
 f29:=⟨Tryz.f297.name,by decide,by kernel_rfl,by kernel_rfl,Tryz.func297.trans (congrArg some (by kernel_rfl))⟩
 t0:=Tryz.underlying0
 a0:=Tryz.isAgg0
 z0:=Tryz.sizeOf0
 v0:=Tryz.zeroValue0
 t3:=Tryz.underlying3
 a3:=Tryz.isAgg3
 z3:=Tryz.sizeOf3
 v3:=Tryz.zeroValue3
 t4:=Tryz.underlying4
 a4:=Tryz.isAgg4
 z4:=Tryz.sizeOf4
 v4:=Tryz.zeroValue4
 t24:=Tryz.underlying64
 a24:=Tryz.isAgg64
 z24:=Tryz.sizeOf64
 v24:=Tryz.zeroValue64 }
def afo:SFn:=dH 2 72
theorem afn:bM Tryz.prog G0 239 afo:=lQ zI rfl rfl rfl (fj (P:=Tryz.prog) (te:=72) (M:=2) (by kernel_rfl) (by kernel_rfl) (by kernel_rfl) (by kernel_rfl) (by kernel_rfl) (by kernel_rfl) (by kernel_rfl) (by kernel_rfl)) true Tryz.isAgg72 ⟨Tryz.f239,Tryz.func239,rfl,by kernel_rfl⟩
def zaw (a1:Int) (a2:List (Int×Int×Unit)) (w0:List (Int×Int×Unit)):Option (Unit×List (Int×Int×Unit)×Unit):=(insT w0 a1 a2).map fun l=>((),(l,()))
def arF:TRaw:=insR false 72 tT10
theorem anH:TRawOk afo arF:=yc rfl rfl rfl rfl (by decide)
def adz:Env:=(eZ [] [274])
def ak0:Hints:=(hZ [(3,[4,5,10,11,12])] [])
def vj:PFn:=aC (runF Tryz.prog adz ak0 Tryz.f188)
def aqW:TH:={ loops:=[(3,{ keep:=[(4,(.bx 1 0)),(5,(.bx 2 0)),(12,(.int .i64))],mem:=[.same,.box 66 tT15,.box 66 (.agg (.cons (.arr 16 (.int .i64)) (.cons (.own 4) .unit))),.gone,.row true 72 tT10] })],ro:=[2] }
def ji (a1:List (Int×Int×Unit)) (y3:(Int×vV5×vV5×List (Int×Int×Unit)×Unit)):Option ((Int×vV5×vV5×List (Int×Int×Unit)×Unit)⊕vV3) :=
 cond (decide (y3.1<(a1.length:Int))) (
(atI a1 y3.1).bind fun x1 =>
(inI 16 x1.1).bind fun i2 =>
(y3.2.2.1.1[i2]?).bind fun x3 =>
 cond (decide (x1.2.1≤x3)) (
 some (.inl ((IntKind.wrap .i64 (y3.1+1)),y3.2.1,y3.2.2.1,y3.2.2.2.1,()))) (
(inI 16 x1.1).bind fun i4 =>
(y3.2.2.1.1[i4]?).bind fun x5 =>
 cond (decide (x1.2.1=(IntKind.wrap .i64 (x5+1)))) (
(inI 16 x1.1).bind fun i6 =>
(y3.2.2.1.1[i6]?).bind fun x7 =>
 some (.inl ((IntKind.wrap .i64 (y3.1+1)),y3.2.1,((y3.2.2.1.1.set i6 x1.2.1),y3.2.2.1.2.1,()),y3.2.2.2.1,()))) (
 cond (decide ((y3.2.2.2.1.length:Int)=0)) ((dD (y3.2.2.2.1.length+([x1]:List (Int×Int×Unit)).length)).bind fun u8 =>
 some (.inl ((IntKind.wrap .i64 (y3.1+1)),y3.2.1,(y3.2.2.1.1,(),()),(y3.2.2.2.1++([x1]:List (Int×Int×Unit))),()))) ((inI y3.2.2.2.1.length (IntKind.wrap .i64 ((y3.2.2.2.1.length:Int)-1))).bind fun i9 =>
(y3.2.2.2.1[i9]?).bind fun x10 =>
 cond (!(eqV tT10 x10 x1)) (
(dD (y3.2.2.2.1.length+([x1]:List (Int×Int×Unit)).length)).bind fun u11 =>
 some (.inl ((IntKind.wrap .i64 (y3.1+1)),y3.2.1,(y3.2.2.1.1,(),()),(y3.2.2.2.1++([x1]:List (Int×Int×Unit))),()))) (
 some (.inl ((IntKind.wrap .i64 (y3.1+1)),y3.2.1,y3.2.2.1,y3.2.2.2.1,()))))))) (
 some (.inr (y3.2.2.1.1,y3.2.2.2.1,())))
def zc4 (a0:List Int) (a1:List (Int×Int×Unit)):Option vV3 :=
 aN (ji a1) (0,([0,0,0,0,0,0,0,0,0,0,0,0,0,0,0,0],(),()),(a0,(),()),[],())
def pw:TFn:={ ps:=(.cons (.arr 16 (.int .i64)) (.cons (.sl tT10) .unit)),res:=tT12,fn:=fun v=>zc4 v.1 v.2.1 }
def akZ:TEnv:={ pure:=[],look:=[],glob:=G0T,ty:=[(72,tT10)],raw:=[],fresh:=[] }
theorem akY:runY Tryz.prog adz ak0 akZ aqW Tryz.f188 pw.ps pw.res=pw.fn:=by kernel_rfl
theorem px:aB Tryz.prog G0 188 vj:=ai (aj ⟨au,ae,ap,ae,an⟩ Tryz.func188 rfl (by kernel_rfl))
theorem vi:TOk vj pw:=ay (E:=adz) (ET:=akZ) (EnvT.ofX (ax ak) al ar aJ aq) akY rfl
def afC:SFn:=qg afo
theorem afB:bM Tryz.prog G0 239 afC:=qf afn
def zar (a1:Int) (a2:List (Int×Int×Unit)) (w0:List (Int×Int×Unit)):Option (List (Int×Int×Unit)×Unit):=(zaw a1 a2 w0).map fun q=>(q.2.1,())
def anT:TRaw:={ ps:=(.cons (.own 0) (.cons (.int .i64) (.cons (.sl tT10) .unit))),ins:=[.row false 72 tT10],res:=(.sl tT10),outs:=[.gone],fn:=fun v w=>zar v.2.1 v.2.2.1 w.1 }
theorem anS:TRawOk afC anT:=aaJ anH
def abO:Env:={ pure:=[(115,ug),(173,iP),(188,vj),(195,zQ)],raw:=[(180,we),(239,afC)],glob:=G0,same:=[274],look:=[],ext:=[] }
def aif:Hints:={ seqs:=[],loops:=[],own:=[24,26,29],frz:=[(4,[2,3])] }
def abN:PFn:=aC (runF Tryz.prog abO aif Tryz.f170)
def aqd:TH:=yZ
def zdn (a0:vV3) (a1:(Int×Int×Unit)):Option vV3 :=
(zc7 a1).bind fun r1 =>
 cond (!r1) (some a0) ((zdl a0 a1).bind fun r2 =>
 cond r2 (
 some a0) (
(zab a0.2.1 a1 ()).bind fun r3 =>
(zay a0.2.1).bind fun n4 =>
(zar r3.1 ([a1]:List (Int×Int×Unit)) n4).bind fun q5 =>
(zc4 a0.1 q5.1).bind fun r6 =>
 some r6))
def t8:TFn:={ ps:=(.cons tT12 (.cons tT10 .unit)),res:=tT12,fn:=fun v=>zdn v.1 v.2.1 }
def aie:TEnv:={ pure:=[(115,pi),(173,gm),(188,pw),(195,sC)],look:=[],glob:=G0T,ty:=[(72,tT10)],raw:=[(239,anT)],fresh:=[(180,zG)] }
theorem aid:runY Tryz.prog abO aif aie aqd Tryz.f170 t8.ps t8.res=t8.fn:=by kernel_rfl
theorem abM:aB Tryz.prog G0 170 abN:=ai (aj ⟨au,(ah pj (ah dY (ah px (ah wz ae)))),(bZ pF (bZ afB ap)),ae,an⟩ Tryz.func170 rfl (by kernel_rfl))
theorem aic:TOk abN t8:=ay (E:=abO) (ET:=aie) (EnvT.ofX (ax (ac uf (ac fR (ac vi (ac aa9 ak))))) al (ea (fe anS rfl rfl ar) rfl) aJ (eh wd rfl rfl rfl aq)) aid rfl
def adI:Env:=(eZ [(114,zh),(169,abt),(170,abN)] [274])
def ale:Hints:=(hZ [] [])
def vp:PFn:=aC (runF Tryz.prog adI ale Tryz.f97)
def aq0:TH:={ loops:=[],ro:=[3] }
def zc0 (a0:vV0) (a1:vV1):Option vV0 :=
(zdo a0.1 a1.1).bind fun r1 =>
 cond (decide (r1≥0)) (
 some a0) (
(zdv a0.1 a1).bind fun r2 =>
(zdn a0.2.2.1 a1.1).bind fun r3 =>
 some (r2,a0.2.1,r3,a0.2.2.2.1,a0.2.2.2.2.1,()))
def pA:TFn:={ ps:=(.cons tT8 (.cons tT9 .unit)),res:=tT8,fn:=fun v=>zc0 v.1 v.2.1 }
def ald:TEnv:=(vZ [(114,sk),(169,tT),(170,t8)])
theorem alc:runY Tryz.prog adI ale ald aq0 Tryz.f97 pA.ps pA.res=pA.fn:=by kernel_rfl
theorem pB:aB Tryz.prog G0 97 vp:=ai (aj ⟨au,(ah t7 (ah abs (ah abM ae))),ap,ae,an⟩ Tryz.func97 rfl (by kernel_rfl))
theorem vo:TOk vp pA:=ay (E:=adI) (ET:=ald) (EnvT.ofX (ax (ac aaW (ac ahH (ac aic ak)))) al ar aJ aq) alc rfl
def agq:Env:=(eZ [(171,iR)] [274])
def ao4:Hints:=(hZ [] [])
def wC:PFn:=aC (runF Tryz.prog agq ao4 Tryz.f242)
def arX:TH:={ loops:=[],ro:=[2,3] }
def za9 (a0:vV2) (a1:vV2):Option Int :=
(zbl a0.1 a1.1).bind fun r1 =>
 some r1
def pG:TFn:={ ps:=(.cons tT11 (.cons tT11 .unit)),res:=(.int .i64),fn:=fun v=>za9 v.1 v.2.1 }
def ao3:TEnv:=(vZ [(171,iQ)])
theorem ao2:runY Tryz.prog agq ao4 ao3 arX Tryz.f242 pG.ps pG.res=pG.fn:=by kernel_rfl
theorem pH:aB Tryz.prog G0 242 wC:=ai (aj ⟨au,(ah e8 ae),ap,ae,an⟩ Tryz.func242 rfl (by kernel_rfl))
theorem wB:TOk wC pG:=ay (E:=agq) (ET:=ao3) (EnvT.ofX (ax (ac gn ak)) al ar aJ aq) ao2 rfl
def agp:Env:=(eZ [(242,wC)] [274])
def ao1:Hints:=(hZ [(3,[0,2,4,8,9,10])] [])
def ago:PFn:=aC (runF Tryz.prog agp ao1 Tryz.f284)
def arW:TH:={ joins:=[(8,{ keep:=[(4,(.bx 0 0)),(9,(.int .i64))],mem:=[.same] })],loops:=[(3,{ keep:=[(4,(.bx 0 0)),(9,(.int .i64)),(10,(.int .i64))],mem:=[.same] })],ro:=[4] }
def ld (a0:List vV2) (a1:vV2) (y3:(Int×Int×Unit)):Option ((Int×Int×Unit)⊕((Int×Unit)⊕(Int×Bool×Unit))) :=
 cond (decide (y3.1<y3.2.1)) (
(shrT .u64 (IntKind.wrap .u64 (IntKind.wrap .i64 (y3.1+y3.2.1))) 1).bind fun t1 =>
(atI a0 (IntKind.wrap .i64 t1)).bind fun x2 =>
(za9 x2 a1).bind fun r3 =>
 cond (decide (r3<0)) (
 some (.inl ((IntKind.wrap .i64 ((IntKind.wrap .i64 t1)+1)),y3.2.1,()))) (
 some (.inl (y3.1,(IntKind.wrap .i64 t1),())))) (
 some (.inr (.inl (y3.1,()))))
def zaa (a0:List vV2) (a1:vV2) (a2:Unit):Option (Int×Bool×Unit) :=
(aN (ld a0 a1) (0,(a0.length:Int),()):Option ((Int×Unit)⊕(Int×Bool×Unit))).bind (bw fun v4 =>
 cond (decide (v4.1<(a0.length:Int))) ((atI a0 v4.1).bind fun x5 =>
(za9 x5 a1).bind fun r6 =>
 some (v4.1,(decide (r6=0)),())) (some (v4.1,false,())))
def wA:TFn:={ ps:=(.cons (.sl tT11) (.cons tT11 (.cons (.fn 242) .unit))),res:=(.tup (.cons (.int .i64) (.cons .bool .unit))),fn:=fun v=>zaa v.1 v.2.1 v.2.2.1 }
def ao0:TEnv:=(vZ [(242,pG)])
theorem aoZ:runY Tryz.prog agp ao1 ao0 arW Tryz.f284 wA.ps wA.res=wA.fn:=by kernel_rfl
theorem agn:aB Tryz.prog G0 284 ago:=ai (aj ⟨au,(ah pH ae),ap,ae,an⟩ Tryz.func284 rfl (by kernel_rfl))
theorem aoY:TOk ago wA:=ay (E:=agp) (ET:=ao0) (EnvT.ofX (ax (ac wB ak)) al ar aJ aq) aoZ rfl
def abY:Env:=(eZ [(284,ago)] [274])
def aiu:Hints:=(hZ [] [])
def abX:PFn:=aC (runF Tryz.prog abY aiu Tryz.f217)
def aqh:TH:={ loops:=[],ro:=[3] }
def zdj (a0:List vV2) (a1:(Int×Int×Unit)):Option (Int×Bool×Unit) :=
(zaa a0 (a1,0,()) ()).bind fun r1 =>
 some (r1.1,r1.2.1,())
def ui:TFn:={ ps:=(.cons (.sl tT11) (.cons tT10 .unit)),res:=(.tup (.cons (.int .i64) (.cons .bool .unit))),fn:=fun v=>zdj v.1 v.2.1 }
def ait:TEnv:=(vZ [(284,wA)])
theorem ais:runY Tryz.prog abY aiu ait aqh Tryz.f217 ui.ps ui.res=ui.fn:=by kernel_rfl
theorem abW:aB Tryz.prog G0 217 abX:=ai (aj ⟨au,(ah agn ae),ap,ae,an⟩ Tryz.func217 rfl (by kernel_rfl))
theorem air:TOk abX ui:=ay (E:=abY) (ET:=ait) (EnvT.ofX (ax (ac aoY ak)) al ar aJ aq) ais rfl
def ab7:Env:=(eZ [(217,abX)] [274])
def aiL:Hints:=(hZ [] [])
def zj:PFn:=aC (runF Tryz.prog ab7 aiL Tryz.f145)
def aqm:TH:={ loops:=[],ro:=[3] }
def zde (a0:List vV2) (a1:(Int×Int×Unit)):Option Int :=
(zdj a0 a1).bind fun r1 =>
 cond r1.2.1 (
(atI a0 r1.1).bind fun x2 =>
 some x2.2.1) (
 some 0)
def so:TFn:={ ps:=(.cons (.sl tT11) (.cons tT10 .unit)),res:=(.int .i64),fn:=fun v=>zde v.1 v.2.1 }
def aiK:TEnv:=(vZ [(217,ui)])
theorem aiJ:runY Tryz.prog ab7 aiL aiK aqm Tryz.f145 so.ps so.res=so.fn:=by kernel_rfl
theorem ut:aB Tryz.prog G0 145 zj:=ai (aj ⟨au,(ah abW ae),ap,ae,an⟩ Tryz.func145 rfl (by kernel_rfl))
theorem aaY:TOk zj so:=ay (E:=ab7) (ET:=aiK) (EnvT.ofX (ax (ac air ak)) al ar aJ aq) aiJ rfl
def ac2:Env:=(eZ [(145,zj)] [274])
def aka:Hints:=(hZ [] [])
def uT:PFn:=aC (runF Tryz.prog ac2 aka Tryz.f75)
def aqI:TH:={ loops:=[],ro:=[3] }
def zci (a0:List vV2) (a1:(Int×Int×Unit)):Option Bool :=
(zde a0 a1).bind fun r1 =>
(remT r1 2).bind fun t2 =>
 some (decide (t2=0))
def pn:TFn:={ ps:=(.cons (.sl tT11) (.cons tT10 .unit)),res:=.bool,fn:=fun v=>zci v.1 v.2.1 }
def aj9:TEnv:=(vZ [(145,so)])
theorem aj8:runY Tryz.prog ac2 aka aj9 aqI Tryz.f75 pn.ps pn.res=pn.fn:=by kernel_rfl
theorem po:aB Tryz.prog G0 75 uT:=ai (aj ⟨au,(ah ut ae),ap,ae,an⟩ Tryz.func75 rfl (by kernel_rfl))
theorem uS:TOk uT pn:=ay (E:=ac2) (ET:=aj9) (EnvT.ofX (ax (ac aaY ak)) al ar aJ aq) aj8 rfl
def aei:Env:=(eZ [(154,sw),(156,sD),(171,iR)] [274])
def al7:Hints:=(hZ [] [])
def aeh:PFn:=aC (runF Tryz.prog aei al7 Tryz.f99)
def arf:TH:={ loops:=[],ro:=[2,3] }
def zbm (a0:vV1) (a1:vV1):Option Int :=
(za5 a0.2.2.1 a1.2.2.1).bind fun r1 =>
(zbl a0.1 a1.1).bind fun r2 =>
(zcf ([r1,r2]:List Int)).bind fun r3 =>
 some r3
def vF:TFn:={ ps:=(.cons tT9 (.cons tT9 .unit)),res:=(.int .i64),fn:=fun v=>zbm v.1 v.2.1 }
def al6:TEnv:={ pure:=[(154,pp),(156,pI),(171,iQ)],look:=[],glob:=G0T,ty:=[(3,(.int .i64))],raw:=[],fresh:=[] }
theorem al5:runY Tryz.prog aei al7 al6 arf Tryz.f99 vF.ps vF.res=vF.fn:=by kernel_rfl
theorem aeg:aB Tryz.prog G0 99 aeh:=ai (aj ⟨au,(ah pr (ah pJ (ah e8 ae))),ap,ae,an⟩ Tryz.func99 rfl (by kernel_rfl))
theorem al4:TOk aeh vF:=ay (E:=aei) (ET:=al6) (EnvT.ofX (ax (ac uW (ac wG (ac gn ak)))) al ar aJ aq) al5 rfl
def adV:Env:=(eZ [(145,zj),(173,iP)] [274])
def aly:Hints:=(hZ [] [])
def zy:PFn:=aC (runF Tryz.prog adV aly Tryz.f102)
def aq5:TH:={ loops:=[],ro:=[3] }
def zbv (a0:List vV2) (a1:(Int×Int×Unit)):Option (vV2×Int×Unit) :=
(zde a0 a1).bind fun r1 =>
(zc7 a1).bind fun r2 =>
 cond (!r2) (
 some (((0,0,()),0,()),2,())) (
 cond (decide (r1≥64)) (
 some (((0,0,()),0,()),14,())) (
 some ((a1,(IntKind.wrap .i64 (r1+1)),()),0,())))
def sy:TFn:={ ps:=(.cons (.sl tT11) (.cons tT10 .unit)),res:=(.tup (.cons tT11 tT17)),fn:=fun v=>zbv v.1 v.2.1 }
def alx:TEnv:=(vZ [(145,so),(173,gm)])
theorem alw:runY Tryz.prog adV aly alx aq5 Tryz.f102 sy.ps sy.res=sy.fn:=by kernel_rfl
theorem vv:aB Tryz.prog G0 102 zy:=ai (aj ⟨au,(ah ut (ah dY ae)),ap,ae,an⟩ Tryz.func102 rfl (by kernel_rfl))
theorem aa5:TOk zy sy:=ay (E:=adV) (ET:=alx) (EnvT.ofX (ax (ac aaY (ac fR ak))) al ar aJ aq) alw rfl
def ab6:Env:=(eZ [(102,zy),(115,ug)] [274])
def aiI:Hints:=(hZ [] [])
def ur:PFn:=aC (runF Tryz.prog ab6 aiI Tryz.f100)
def aql:TH:={ loops:=[],ro:=[2,3] }
def zdf (a0:vV0) (a1:(Int×Int×Unit)):Option Int :=
(zdl a0.2.2.2.1 a1).bind fun r1 =>
 cond r1 (
 some 13) (
(zbv a0.2.1 a1).bind fun r2 =>
 some r2.2.1)
def pk:TFn:={ ps:=(.cons tT8 (.cons tT10 .unit)),res:=(.int .i64),fn:=fun v=>zdf v.1 v.2.1 }
def aiH:TEnv:=(vZ [(102,sy),(115,pi)])
theorem aiG:runY Tryz.prog ab6 aiI aiH aql Tryz.f100 pk.ps pk.res=pk.fn:=by kernel_rfl
theorem pm:aB Tryz.prog G0 100 ur:=ai (aj ⟨au,(ah vv (ah pj ae)),ap,ae,an⟩ Tryz.func100 rfl (by kernel_rfl))
theorem uq:TOk ur pk:=ay (E:=ab6) (ET:=aiH) (EnvT.ofX (ax (ac aa5 (ac uf ak))) al ar aJ aq) aiG rfl
def acY:Env:=(eZ [(75,uT),(99,aeh),(100,ur)] [274])
def aj3:Hints:=(hZ [(3,[1,2,4,6,12,13])] [])
def zr:PFn:=aC (runF Tryz.prog acY aj3 Tryz.f35)
def aqG:TH:={ joins:=[(9,{ keep:=[(2,(.bx 0 0)),(4,(.bx 1 0)),(6,(.orp tT9 0))],mem:=[.same,.box 72 tT10] })],loops:=[(3,{ keep:=[(2,(.bx 0 0)),(4,(.bx 1 0)),(6,(.orp tT9 0)),(13,(.int .i64))],mem:=[.same,.box 72 tT10] })],cuts:=[(6,[(15,{ keep:=[(2,(.bx 0 0)),(4,(.bx 1 0)),(34,.bool)],mem:=[.same,.box 72 tT10] })])],ro:=[2],news:=[] }
def qK (a0:vV0) (a1:Int) (y3:(Option vV1×Int×(Int×Int×Unit)×Unit)):Option ((Option vV1×Int×(Int×Int×Unit)×Unit)⊕((Option vV1×(Int×Int×Unit)×Unit)⊕vV2)) :=
 cond (decide (y3.2.1<(a0.1.length:Int))) (
(atI a0.1 y3.2.1).bind fun x1 =>
(cond (decide (x1.2.1=a1)) ((zci a0.2.1 x1.1).bind fun r2 =>
 some (r2,y3.2.2.1,())) (some (false,y3.2.2.1,())):Option (Bool×(Int×Int×Unit)×Unit)).bind fun v3 =>
 cond v3.1 (cond (y3.1.isNone) (some (.inl ((some x1),(IntKind.wrap .i64 (y3.2.1+1)),v3.2.1,()))) ((y3.1).bind fun x4 =>
(zbm x4 x1).bind fun r5 =>
 cond (decide (r5<0)) (
 some (.inl ((some x1),(IntKind.wrap .i64 (y3.2.1+1)),v3.2.1,()))) (
 some (.inl (y3.1,(IntKind.wrap .i64 (y3.2.1+1)),v3.2.1,()))))) (some (.inl (y3.1,(IntKind.wrap .i64 (y3.2.1+1)),v3.2.1,())))) (
 some (.inr (.inl (y3.1,y3.2.2.1,()))))
def zck (a0:vV0) (a1:Int):Option vV2 :=
(aN (qK a0 a1) (none,0,(0,0,()),()):Option ((Option vV1×(Int×Int×Unit)×Unit)⊕vV2)).bind (bw fun v6 =>
 cond (v6.1.isNone) (
 some ((0,0,()),11,())) (
(v6.1).bind fun x7 =>
(zdf a0 x7.1).bind fun r8 =>
 cond (!decide (r8=0)) (
 some ((0,0,()),r8,())) (
(v6.1).bind fun x9 =>
 some (x9.1,0,()))))
def su:TFn:={ ps:=(.cons tT8 tT17),res:=(.tup (.cons tT10 tT17)),fn:=fun v=>zck v.1 v.2.1 }
def aj2:TEnv:=(vZ [(75,pn),(99,vF),(100,pk)])
theorem aj1:runY Tryz.prog acY aj3 aj2 aqG Tryz.f35 su.ps su.res=su.fn:=by kernel_rfl
theorem uQ:aB Tryz.prog G0 35 zr:=ai (aj ⟨au,(ah po (ah aeg (ah pm ae))),ap,ae,an⟩ Tryz.func35 rfl (by kernel_rfl))
theorem aa2:TOk zr su:=ay (E:=acY) (ET:=aj2) (EnvT.ofX (ax (ac uS (ac al4 (ac uq ak)))) al ar aJ aq) aj1 rfl
def abx:Env:=(eZ [] [274])
def ahO:Hints:=(hZ [] [])
def abw:PFn:=aC (runF Tryz.prog abx ahO Tryz.f240)
def ap6:TH:={ loops:=[],cuts:=[(1,[(9,{ keep:=[(1,(.bx 0 0)),(11,.bool)],mem:=[.same] })])],ro:=[1],news:=[] }
def zdu (a0:vV4):Option Bool :=
(cond (decide (a0.1=0)) (some ((decide ((a0.2.1.length:Int)=0)),())) (some (false,())):Option (Bool×Unit)).bind fun v1 =>
 cond v1.1 (cond (eqV tT16 a0.2.2.1 (0,0,[],())) (cond (decide (a0.2.2.2.1=0)) (some (decide ((a0.2.2.2.2.1.length:Int)=0))) (some false)) (some false)) (some false)
def tU:TFn:={ ps:=(.cons tT13 .unit),res:=.bool,fn:=fun v=>zdu v.1 }
def ahN:TEnv:=(vZ [])
theorem ahM:runY Tryz.prog abx ahO ahN ap6 Tryz.f240 tU.ps tU.res=tU.fn:=by kernel_rfl
theorem abv:aB Tryz.prog G0 240 abw:=ai (aj ⟨au,ae,ap,ae,an⟩ Tryz.func240 rfl (by kernel_rfl))
theorem ahL:TOk abw tU:=ay (E:=abx) (ET:=ahN) (EnvT.ofX (ax ak) al ar aJ aq) ahM rfl
def agG:PFn:=nu
theorem agF:aB Tryz.prog G0 375 agG:=oV (g3:=0) (g4:=1) ⟨Tryz.f375,Tryz.func375,rfl,by kernel_rfl⟩ (by kernel_rfl) (by kernel_rfl) (fun s w hT=>Tryz.utf8_DecodeRuneInString s w hT)
def za2 (a0:List UInt8):Option (Int×Int×Unit):=yD a0
def apu:TFn:=kg
theorem apt:TOk agG apu:=tF
def acO:Env:=(eZ [(375,agG)] [274])
def ajO:Hints:=(hZ [(3,[0,4,10])] [])
def zq:PFn:=aC (runF Tryz.prog acO ajO Tryz.f366)
def aqC:TH:={ joins:=[(9,{ keep:=[(4,(.own 1)),(10,(.it 0))],mem:=[.iter,.row true 21 (.int .i32)] })],loops:=[(3,{ keep:=[(4,(.own 1)),(10,(.it 0))],mem:=[.iter,.row true 21 (.int .i32)] })],ro:=[] }
def ajL (a0:List UInt8) (y3:(Nat×List Int×Unit)):Option ((Nat×List Int×Unit)⊕(List Int×Bool×Unit)) :=
 cond (decide (y3.1<a0.length)) ((cond (decide (((Utf8.decode ⟨a0.toArray⟩ y3.1).1:Int)=65533)) (
(subI a0 (y3.1:Int) (a0.length:Int)).bind fun s1 =>
(za2 s1).bind fun r2 =>
 cond (decide (r2.2.1≤1)) (
 some (.inr (.inr ([],false,())))) (
 some (.inl ((y3.1+(Utf8.decode ⟨a0.toArray⟩ y3.1).2),y3.2.1,())))) (
 some (.inl ((y3.1+(Utf8.decode ⟨a0.toArray⟩ y3.1).2),y3.2.1,()))):Option ((Nat×List Int×Unit)⊕((Nat×List Int×Unit)⊕(List Int×Bool×Unit)))).bind (bw fun v3 =>
(dD (v3.2.1.length+([((Utf8.decode ⟨a0.toArray⟩ y3.1).1:Int)]:List Int).length)).bind fun u4 =>
 some (.inl (v3.1,(v3.2.1++([((Utf8.decode ⟨a0.toArray⟩ y3.1).1:Int)]:List Int)),())))) (some (.inr (y3.2.1,true,())))
def zco (a0:List UInt8):Option (List Int×Bool×Unit) :=
 aN (ajL a0) (0,[],())
def ss:TFn:={ ps:=(.cons .str .unit),res:=(.tup (.cons (.sl (.int .i32)) (.cons .bool .unit))),fn:=fun v=>zco v.1 }
def ajN:TEnv:={ pure:=[(375,apu)],look:=[],glob:=G0T,ty:=[(21,(.int .i32))],raw:=[],fresh:=[] }
theorem ajM:runY Tryz.prog acO ajO ajN aqC Tryz.f366 ss.ps ss.res=ss.fn:=by kernel_rfl
theorem uM:aB Tryz.prog G0 366 zq:=ai (aj ⟨au,(ah agF ae),ap,ae,an⟩ Tryz.func366 rfl (by kernel_rfl))
theorem aa1:TOk zq ss:=ay (E:=acO) (ET:=ajN) (EnvT.ofX (ax (ac apt ak)) al ar aJ aq) ajM rfl
def abV:Env:=(eZ [] [274])
def aiq:Hints:=(hZ [] [])
def abU:PFn:=aC (runF Tryz.prog abV aiq Tryz.f367)
def aqg:TH:=yZ
def zdk (a0:Int):Option Bool :=
 cond (decide (a0<32)) (
 cond (decide (a0<32)) (
 some false) (
 some (!decide (a0=65533)))) (
 cond (decide (a0≥127)) (cond (decide (a0<160)) (
 some false) (
 some (!decide (a0=65533)))) (some (!decide (a0=65533))))
def uh:TFn:={ ps:=(.cons (.int .i32) .unit),res:=.bool,fn:=fun v=>zdk v.1 }
def aip:TEnv:=(vZ [])
theorem aio:runY Tryz.prog abV aiq aip aqg Tryz.f367 uh.ps uh.res=uh.fn:=by kernel_rfl
theorem abT:aB Tryz.prog G0 367 abU:=ai (aj ⟨au,ae,ap,ae,an⟩ Tryz.func367 rfl (by kernel_rfl))
theorem ain:TOk abU uh:=ay (E:=abV) (ET:=aip) (EnvT.ofX (ax ak) al ar aJ aq) aio rfl
def acz:Env:=(eZ [(366,zq),(367,abU)] [274])
def ajo:Hints:=(hZ [(5,[24,25,26])] [])
def acy:PFn:=aC (runF Tryz.prog acz ajo Tryz.f345)
def aqv:TH:={ loops:=[(5,{ keep:=[(26,(.int .i64))],mem:=[] })],ro:=[] }
def ajl (r1:(List Int×Bool×Unit)) (y5:(Int×Unit)):Option ((Int×Unit)⊕Bool) :=
 cond (decide (y5.1<(r1.1.length:Int))) (
(atI r1.1 y5.1).bind fun x2 =>
(zdk x2).bind fun r3 =>
 cond (!r3) (
 some (.inr false)) (
 some (.inl ((IntKind.wrap .i64 (y5.1+1)),())))) (
 some (.inr true))
def zcv (a0:List UInt8):Option Bool :=
(zco a0).bind fun r1 =>
 cond (!r1.2.1) (some false) (cond (decide ((r1.1.length:Int)=0)) (some false) (cond (decide ((r1.1.length:Int)>24)) (
 some false) (
 aN (ajl r1) (0,()))))
def uF:TFn:={ ps:=(.cons .str .unit),res:=.bool,fn:=fun v=>zcv v.1 }
def ajn:TEnv:=(vZ [(366,ss),(367,uh)])
theorem ajm:runY Tryz.prog acz ajo ajn aqv Tryz.f345 uF.ps uF.res=uF.fn:=by kernel_rfl
theorem acx:aB Tryz.prog G0 345 acy:=ai (aj ⟨au,(ah uM (ah abT ae)),ap,ae,an⟩ Tryz.func345 rfl (by kernel_rfl))
theorem ajk:TOk acy uF:=ay (E:=acz) (ET:=ajn) (EnvT.ofX (ax (ac aa1 (ac ain ak))) al ar aJ aq) ajm rfl
def aev:Env:=(eZ [(345,acy)] [274])
def ams:Hints:=(hZ [] [])
def aeu:PFn:=aC (runF Tryz.prog aev ams Tryz.f344)
def arm:TH:=yZ
def zbg (a0:List UInt8):Option Bool :=
(zcv a0).bind fun r1 =>
 some (!r1)
def vK:TFn:={ ps:=(.cons .str .unit),res:=.bool,fn:=fun v=>zbg v.1 }
def amr:TEnv:=(vZ [(345,uF)])
theorem amq:runY Tryz.prog aev ams amr arm Tryz.f344 vK.ps vK.res=vK.fn:=by kernel_rfl
theorem aet:aB Tryz.prog G0 344 aeu:=ai (aj ⟨au,(ah acx ae),ap,ae,an⟩ Tryz.func344 rfl (by kernel_rfl))
theorem amp:TOk aeu vK:=ay (E:=aev) (ET:=amr) (EnvT.ofX (ax (ac ajk ak)) al ar aJ aq) amq rfl
def afN:Env:=(eZ [(344,aeu)] [274])
def an7:Hints:=(hZ [(2,[0,1,7,8])] [])
def afM:PFn:=aC (runF Tryz.prog afN an7 Tryz.f214)
def arJ:TH:={ loops:=[(2,{ keep:=[(8,(.int .i64))],mem:=[] })],ro:=[] }
def an4 (a0:List (List UInt8)) (y2:(Int×Unit)):Option ((Int×Unit)⊕Int) :=
 cond (decide (y2.1<(a0.length:Int))) (
(atI a0 y2.1).bind fun x1 =>
(zbg x1).bind fun r2 =>
 cond r2 (
 some (.inr y2.1)) (
 some (.inl ((IntKind.wrap .i64 (y2.1+1)),())))) (
 some (.inr (-1)))
def zan (a0:List (List UInt8)) (a1:Unit):Option Int :=
 aN (an4 a0) (0,())
def wj:TFn:={ ps:=(.cons (.sl .str) (.cons (.fn 344) .unit)),res:=(.int .i64),fn:=fun v=>zan v.1 v.2.1 }
def an6:TEnv:=(vZ [(344,vK)])
theorem an5:runY Tryz.prog afN an7 an6 arJ Tryz.f214 wj.ps wj.res=wj.fn:=by kernel_rfl
theorem afL:aB Tryz.prog G0 214 afM:=ai (aj ⟨au,(ah aet ae),ap,ae,an⟩ Tryz.func214 rfl (by kernel_rfl))
theorem an3:TOk afM wj:=ay (E:=afN) (ET:=an6) (EnvT.ofX (ax (ac amp ak)) al ar aJ aq) an5 rfl
def afQ:Env:=(eZ [(214,afM)] [274])
def aob:Hints:=(hZ [] [])
def afP:PFn:=aC (runF Tryz.prog afQ aob Tryz.f141)
def arK:TH:=yZ
def zam (a0:List (List UInt8)) (a1:Unit):Option Bool :=
(zan a0 a1).bind fun r1 =>
 some (decide (r1≥0))
def wk:TFn:={ ps:=(.cons (.sl .str) (.cons (.fn 344) .unit)),res:=.bool,fn:=fun v=>zam v.1 v.2.1 }
def aoa:TEnv:=(vZ [(214,wj)])
theorem an9:runY Tryz.prog afQ aob aoa arK Tryz.f141 wk.ps wk.res=wk.fn:=by kernel_rfl
theorem afO:aB Tryz.prog G0 141 afP:=ai (aj ⟨au,(ah afL ae),ap,ae,an⟩ Tryz.func141 rfl (by kernel_rfl))
theorem an8:TOk afP wk:=ay (E:=afQ) (ET:=aoa) (EnvT.ofX (ax (ac an3 ak)) al ar aJ aq) an9 rfl
def acR:Env:=(eZ [(141,afP)] [274])
def ajS:Hints:=(hZ [] [])
def acQ:PFn:=aC (runF Tryz.prog acR ajS Tryz.f299)
def aqD:TH:=yZ
def zcn (a0:List (List UInt8)):Option Int :=
 cond (decide ((a0.length:Int)=0)) (
 some 8) (
 cond (decide ((a0.length:Int)>8)) (
 some 9) (
(zam a0 ()).bind fun r1 =>
 cond r1 (
 some 8) (
 some 0)))
def uN:TFn:={ ps:=(.cons (.sl .str) .unit),res:=(.int .i64),fn:=fun v=>zcn v.1 }
def ajR:TEnv:=(vZ [(141,wk)])
theorem ajQ:runY Tryz.prog acR ajS ajR aqD Tryz.f299 uN.ps uN.res=uN.fn:=by kernel_rfl
theorem acP:aB Tryz.prog G0 299 acQ:=ai (aj ⟨au,(ah afO ae),ap,ae,an⟩ Tryz.func299 rfl (by kernel_rfl))
theorem ajP:TOk acQ uN:=ay (E:=acR) (ET:=ajR) (EnvT.ofX (ax (ac an8 ak)) al ar aJ aq) ajQ rfl
def adn:Env:=(eZ [(366,zq)] [274])
def akE:Hints:=(hZ [] [])
def adm:PFn:=aC (runF Tryz.prog adn akE Tryz.f346)
def aqQ:TH:={ loops:=[],ro:=[1] }
def zca (a0:(Int×Int×List UInt8×Unit)):Option Bool :=
 cond (decide (a0.1=1)) (
 cond (decide (a0.2.2.1=[])) (cond (decide (a0.2.1≥(-2147483647))) (some (decide (a0.2.1≤2147483647))) (some false)) (some false)) (
 cond (decide (a0.1=2)) (
(zco a0.2.2.1).bind fun r1 =>
 cond r1.2.1 (cond (decide (a0.2.1=0)) (some (decide ((a0.2.2.1.length:Int)≤64))) (some false)) (some false)) (
 cond (decide (a0.1=3)) (
 cond (decide (a0.2.2.1=[])) (cond (decide (a0.2.1=0)) (some true) (some (decide (a0.2.1=1)))) (some false)) (
 some false)))
def vd:TFn:={ ps:=(.cons tT16 .unit),res:=.bool,fn:=fun v=>zca v.1 }
def akD:TEnv:=(vZ [(366,ss)])
theorem akC:runY Tryz.prog adn akE akD aqQ Tryz.f346 vd.ps vd.res=vd.fn:=by kernel_rfl
theorem adl:aB Tryz.prog G0 346 adm:=ai (aj ⟨au,(ah uM ae),ap,ae,an⟩ Tryz.func346 rfl (by kernel_rfl))
theorem akB:TOk adm vd:=ay (E:=adn) (ET:=akD) (EnvT.ofX (ax (ac aa1 ak)) al ar aJ aq) akC rfl
def adC:Env:=(eZ [(346,adm)] [274])
def ak4:Hints:=(hZ [] [])
def adB:PFn:=aC (runF Tryz.prog adC ak4 Tryz.f300)
def aqX:TH:={ loops:=[],ro:=[1] }
def zc3 (a0:vV4):Option Bool :=
 cond (decide (a0.1=3)) (some (eqV tT16 a0.2.2.1 (0,0,[],()))) (cond (decide (a0.1=5)) (
 some (eqV tT16 a0.2.2.1 (0,0,[],()))) (
(zca a0.2.2.1).bind fun r1 =>
 some r1))
def vk:TFn:={ ps:=(.cons tT13 .unit),res:=.bool,fn:=fun v=>zc3 v.1 }
def ak3:TEnv:=(vZ [(346,vd)])
theorem ak2:runY Tryz.prog adC ak4 ak3 aqX Tryz.f300 vk.ps vk.res=vk.fn:=by kernel_rfl
theorem adA:aB Tryz.prog G0 300 adB:=ai (aj ⟨au,(ah adl ae),ap,ae,an⟩ Tryz.func300 rfl (by kernel_rfl))
theorem ak1:TOk adB vk:=ay (E:=adC) (ET:=ak3) (EnvT.ofX (ax (ac akB ak)) al ar aJ aq) ak2 rfl
def ab1:Env:=(eZ [] [274])
def aiy:Hints:=(hZ [] [])
def ab0:PFn:=aC (runF Tryz.prog ab1 aiy Tryz.f301)
def aqi:TH:={ loops:=[],ro:=[1] }
def zdi (a0:vV4):Option Bool :=
 cond (decide (a0.1=3)) (
 cond (!decide (a0.2.2.2.1=0)) (cond (decide (a0.2.2.2.1≥(-2147483647))) (some (decide (a0.2.2.2.1≤2147483647))) (some false)) (some false)) (
 some (decide (a0.2.2.2.1=0)))
def uj:TFn:={ ps:=(.cons tT13 .unit),res:=.bool,fn:=fun v=>zdi v.1 }
def aix:TEnv:=(vZ [])
theorem aiw:runY Tryz.prog ab1 aiy aix aqi Tryz.f301 uj.ps uj.res=uj.fn:=by kernel_rfl
theorem abZ:aB Tryz.prog G0 301 ab0:=ai (aj ⟨au,ae,ap,ae,an⟩ Tryz.func301 rfl (by kernel_rfl))
theorem aiv:TOk ab0 uj:=ay (E:=ab1) (ET:=aix) (EnvT.ofX (ax ak) al ar aJ aq) aiw rfl
def abR:Env:=(eZ [(154,sw),(156,sD),(171,iR)] [274])
def aij:Hints:=(hZ [] [])
def abQ:PFn:=aC (runF Tryz.prog abR aij Tryz.f347)
def aqe:TH:={ loops:=[],ro:=[2,3] }
def zdm (a0:vV2) (a1:vV2):Option Int :=
(zbl a0.1 a1.1).bind fun r1 =>
(za5 a0.2.1 a1.2.1).bind fun r2 =>
(zcf ([r1,r2]:List Int)).bind fun r3 =>
 some r3
def ud:TFn:={ ps:=(.cons tT11 (.cons tT11 .unit)),res:=(.int .i64),fn:=fun v=>zdm v.1 v.2.1 }
def aii:TEnv:={ pure:=[(154,pp),(156,pI),(171,iQ)],look:=[],glob:=G0T,ty:=[(3,(.int .i64))],raw:=[],fresh:=[] }
theorem aih:runY Tryz.prog abR aij aii aqe Tryz.f347 ud.ps ud.res=ud.fn:=by kernel_rfl
theorem abP:aB Tryz.prog G0 347 abQ:=ai (aj ⟨au,(ah pr (ah pJ (ah e8 ae))),ap,ae,an⟩ Tryz.func347 rfl (by kernel_rfl))
theorem aig:TOk abQ ud:=ay (E:=abR) (ET:=aii) (EnvT.ofX (ax (ac uW (ac wG (ac gn ak)))) al ar aJ aq) aih rfl
def abE:Env:=(eZ [(173,iP),(347,abQ)] [274])
def ah0:Hints:=(hZ [(2,[0,5,6,7])] [])
def abD:PFn:=aC (runF Tryz.prog abE ah0 Tryz.f302)
def ap9:TH:={ loops:=[(2,{ keep:=[(7,(.int .i64))],mem:=[] })],cuts:=[(4,[(9,{ keep:=[(4,(.bx 0 0)),(20,.bool)],mem:=[.box 146 tT11] }),(5,{ keep:=[(4,(.bx 0 0)),(25,.bool)],mem:=[.box 146 tT11] })])],ro:=[],news:=[] }
def ahX (a0:List vV2) (y2:(Int×Unit)):Option ((Int×Unit)⊕Bool) :=
 cond (decide (y2.1<(a0.length:Int))) (
(atI a0 y2.1).bind fun x1 =>
((zc7 x1.1).bind fun r2 =>
 cond (!r2) (some (true,x1,())) (some ((decide (x1.2.1<0)),x1,())):Option (Bool×vV2×Unit)).bind fun v3 =>
(cond v3.1 (some (true,v3.2.1,())) (some ((decide (v3.2.1.2.1≥16)),v3.2.1,())):Option (Bool×vV2×Unit)).bind fun v4 =>
 cond v4.1 (some (.inr false)) (cond (decide (y2.1>0)) ((atI a0 (IntKind.wrap .i64 (y2.1-1))).bind fun x5 =>
(zdm x5 v4.2.1).bind fun r6 =>
 cond (decide (r6≥0)) (
 some (.inr false)) (
 some (.inl ((IntKind.wrap .i64 (y2.1+1)),())))) (some (.inl ((IntKind.wrap .i64 (y2.1+1)),()))))) (
 some (.inr true))
def zdr (a0:List vV2):Option Bool :=
 aN (ahX a0) (0,())
def tX:TFn:={ ps:=(.cons (.sl tT11) .unit),res:=.bool,fn:=fun v=>zdr v.1 }
def ahZ:TEnv:=(vZ [(173,gm),(347,ud)])
theorem ahY:runY Tryz.prog abE ah0 ahZ ap9 Tryz.f302 tX.ps tX.res=tX.fn:=by kernel_rfl
theorem abC:aB Tryz.prog G0 302 abD:=ai (aj ⟨au,(ah dY (ah abP ae)),ap,ae,an⟩ Tryz.func302 rfl (by kernel_rfl))
theorem ahW:TOk abD tX:=ay (E:=abE) (ET:=ahZ) (EnvT.ofX (ax (ac fR (ac aig ak))) al ar aJ aq) ahY rfl
def abH:Env:=(eZ [(299,acQ),(300,adB),(301,ab0),(302,abD)] [274])
def ah4:Hints:=(hZ [] [])
def abG:PFn:=aC (runF Tryz.prog abH ah4 Tryz.f241)
def aqa:TH:={ joins:=[(10,{ keep:=[(1,(.bx 0 0)),(32,.bool)],mem:=[.same] })],loops:=[],cuts:=[(6,[(8,{ keep:=[(1,(.bx 0 0)),(26,.bool)],mem:=[.same] }),(5,{ keep:=[(1,(.bx 0 0)),(31,.bool)],mem:=[.same] })]),(9,[(8,{ keep:=[(1,(.bx 0 0)),(46,.bool)],mem:=[.same] })])],ro:=[1],news:=[] }
def zdq (a0:vV4):Option Int :=
 cond (decide (a0.1<1)) (some 18) (cond (decide (a0.1>5)) (
 some 18) (
(zcn a0.2.1).bind fun r1 =>
 cond (!decide (r1=0)) (
 some r1) (
(cond (decide (a0.1=1)) (some (true,())) (some ((decide (a0.1=4)),())):Option (Bool×Unit)).bind fun v2 =>
(cond v2.1 (some (true,())) (some ((decide (a0.1=5)),())):Option (Bool×Unit)).bind fun v3 =>
((zc3 a0).bind fun r4 =>
 cond (!r4) (
 some (.inl ((!r4),()))) (
(zdi a0).bind fun r5 =>
 cond (!r5) (
 some (.inl ((!r5),()))) (
(cond (!v3.1) (some ((decide ((a0.2.2.2.2.1.length:Int)>0)),())) (some (false,())):Option (Bool×Unit)).bind fun v6 =>
 some (.inl (v6.1,())))):Option ((Bool×Unit)⊕Int)).bind (bw fun v7 =>
 cond v7.1 (
 some 2) (
 cond (decide ((a0.2.2.2.2.1.length:Int)>256)) (
 some 7) (
(zdr a0.2.2.2.2.1).bind fun r8 =>
 cond (!r8) (
 some 2) (
 some 0)))))))
def tY:TFn:={ ps:=(.cons tT13 .unit),res:=(.int .i64),fn:=fun v=>zdq v.1 }
def ah3:TEnv:=(vZ [(299,uN),(300,vk),(301,uj),(302,tX)])
theorem ah2:runY Tryz.prog abH ah4 ah3 aqa Tryz.f241 tY.ps tY.res=tY.fn:=by kernel_rfl
theorem abF:aB Tryz.prog G0 241 abG:=ai (aj ⟨au,(ah acP (ah adA (ah abZ (ah abC ae)))),ap,ae,an⟩ Tryz.func241 rfl (by kernel_rfl))
theorem ah1:TOk abG tY:=ay (E:=abH) (ET:=ah3) (EnvT.ofX (ax (ac ajP (ac ak1 (ac aiv (ac ahW ak))))) al ar aJ aq) ah2 rfl
def adH:Env:=(eZ [(173,iP),(240,abw),(241,abG)] [274])
def alb:Hints:=(hZ [(10,[1,38,39,40])] [])
def vn:PFn:=aC (runF Tryz.prog adH alb Tryz.f174)
def aqZ:TH:={ joins:=[(4,{ keep:=[(1,(.bx 0 0)),(6,.bool)],mem:=[.same] }),(13,{ keep:=[(1,(.bx 0 0)),(4,(.bx 1 0))],mem:=[.same,.box 135 tT13] })],loops:=[(10,{ keep:=[(1,(.bx 0 0)),(40,(.int .i64))],mem:=[.same] })],cuts:=[(3,[(8,{ keep:=[(1,(.bx 0 0)),(26,.bool)],mem:=[.same] })])],ro:=[1],news:=[] }
def adG (a0:vV1) (y10:(Int×Unit)):Option ((Int×Unit)⊕Int) :=
 cond (decide (y10.1<(a0.2.2.2.2.1.length:Int))) (
(atI a0.2.2.2.2.1 y10.1).bind fun x4 =>
(cond a0.2.2.2.1 ((zdu x4).bind fun r5 =>
 cond r5 (
 some (.inr (.inl ((IntKind.wrap .i64 (y10.1+1)),())))) (
 some (.inl (x4,())))) (some (.inl (x4,()))):Option ((vV4×Unit)⊕((Int×Unit)⊕Int))).bind (bw fun v6 =>
(zdq v6.1).bind fun r7 =>
 cond (!decide (r7=0)) (
 some (.inr r7)) (
 some (.inl ((IntKind.wrap .i64 (y10.1+1)),()))))) (
 some (.inr 0))
def zc1 (a0:vV1):Option Int :=
((zc7 a0.1).bind fun r1 =>
 cond (!r1) (
 some (.inl ((!r1),()))) (
 cond (decide (a0.2.1<0)) (some (.inl (true,()))) (cond (decide (a0.2.1≥8)) (
 some (.inl ((decide (a0.2.1≥8)),()))) (
(cond (decide (a0.2.2.1<1)) (some (true,())) (some ((decide (a0.2.2.1>1099511627776)),())):Option (Bool×Unit)).bind fun v2 =>
 some (.inl (v2.1,()))))):Option ((Bool×Unit)⊕Int)).bind (bw fun v3 =>
 cond v3.1 (
 some 2) (
 cond (decide ((a0.2.2.2.2.1.length:Int)=0)) (
 some 11) (
 cond (decide ((a0.2.2.2.2.1.length:Int)>16)) (
 some 7) (
 aN (adG a0) (0,())))))
def py:TFn:={ ps:=(.cons tT9 .unit),res:=(.int .i64),fn:=fun v=>zc1 v.1 }
def ala:TEnv:=(vZ [(173,gm),(240,tU),(241,tY)])
theorem ak9:runY Tryz.prog adH alb ala aqZ Tryz.f174 py.ps py.res=py.fn:=by kernel_rfl
theorem pz:aB Tryz.prog G0 174 vn:=ai (aj ⟨au,(ah dY (ah abv (ah abF ae))),ap,ae,an⟩ Tryz.func174 rfl (by kernel_rfl))
theorem vm:TOk vn py:=ay (E:=adH) (ET:=ala) (EnvT.ofX (ax (ac fR (ac ahL (ac ah1 ak)))) al ar aJ aq) ak9 rfl
def aen:Env:=(eZ [] [274])
def amh:Hints:=(hZ [] [])
def aem:PFn:=aC (runF Tryz.prog aen amh Tryz.f175)
def arj:TH:=yZ
def zbj (a0:Int):Option Bool :=
 cond (decide (a0≥0)) (some (decide (a0<8))) (some false)
def vG:TFn:={ ps:=tT17,res:=.bool,fn:=fun v=>zbj v.1 }
def amg:TEnv:=(vZ [])
theorem amf:runY Tryz.prog aen amh amg arj Tryz.f175 vG.ps vG.res=vG.fn:=by kernel_rfl
theorem ael:aB Tryz.prog G0 175 aem:=ai (aj ⟨au,ae,ap,ae,an⟩ Tryz.func175 rfl (by kernel_rfl))
theorem ame:TOk aem vG:=ay (E:=aen) (ET:=amg) (EnvT.ofX (ax ak) al ar aJ aq) amf rfl
def aeo:Env:=(eZ [(173,iP),(242,wC)] [274])
def amk:Hints:=(hZ [(2,[0,5,6,7])] [])
def vI:PFn:=aC (runF Tryz.prog aeo amk Tryz.f176)
def ark:TH:={ loops:=[(2,{ keep:=[(7,(.int .i64))],mem:=[] })],cuts:=[(4,[(9,{ keep:=[(4,(.bx 0 0)),(20,.bool)],mem:=[.box 82 tT11] }),(5,{ keep:=[(4,(.bx 0 0)),(25,.bool)],mem:=[.box 82 tT11] })])],ro:=[],news:=[] }
def nJ (a0:List vV2) (y2:(Int×Unit)):Option ((Int×Unit)⊕Bool) :=
 cond (decide (y2.1<(a0.length:Int))) (
(atI a0 y2.1).bind fun x1 =>
((zc7 x1.1).bind fun r2 =>
 cond (!r2) (some (true,x1,())) (some ((decide (x1.2.1<1)),x1,())):Option (Bool×vV2×Unit)).bind fun v3 =>
(cond v3.1 (some (true,v3.2.1,())) (some ((decide (v3.2.1.2.1>64)),v3.2.1,())):Option (Bool×vV2×Unit)).bind fun v4 =>
 cond v4.1 (some (.inr false)) (cond (decide (y2.1>0)) ((atI a0 (IntKind.wrap .i64 (y2.1-1))).bind fun x5 =>
(za9 x5 v4.2.1).bind fun r6 =>
 cond (decide (r6≥0)) (
 some (.inr false)) (
 some (.inl ((IntKind.wrap .i64 (y2.1+1)),())))) (some (.inl ((IntKind.wrap .i64 (y2.1+1)),()))))) (
 some (.inr true))
def zbi (a0:List vV2):Option Bool :=
 aN (nJ a0) (0,())
def pC:TFn:={ ps:=(.cons (.sl tT11) .unit),res:=.bool,fn:=fun v=>zbi v.1 }
def amj:TEnv:=(vZ [(173,gm),(242,pG)])
theorem ami:runY Tryz.prog aeo amk amj ark Tryz.f176 pC.ps pC.res=pC.fn:=by kernel_rfl
theorem pD:aB Tryz.prog G0 176 vI:=ai (aj ⟨au,(ah dY (ah pH ae)),ap,ae,an⟩ Tryz.func176 rfl (by kernel_rfl))
theorem vH:TOk vI pC:=ay (E:=aeo) (ET:=amj) (EnvT.ofX (ax (ac fR (ac wB ak))) al ar aJ aq) ami rfl
def agz:Env:=(eZ [(174,vn)] [274])
def apg:Hints:=(hZ [] [])
def agy:PFn:=aC (runF Tryz.prog agz apg Tryz.f243)
def ar0:TH:={ loops:=[],ro:=[1] }
def za6 (a0:vV1):Option Bool :=
(zc1 a0).bind fun r1 =>
 some (!decide (r1=0))
def wF:TFn:={ ps:=(.cons tT9 .unit),res:=.bool,fn:=fun v=>za6 v.1 }
def apf:TEnv:=(vZ [(174,py)])
theorem ape:runY Tryz.prog agz apg apf ar0 Tryz.f243 wF.ps wF.res=wF.fn:=by kernel_rfl
theorem agx:aB Tryz.prog G0 243 agy:=ai (aj ⟨au,(ah pz ae),ap,ae,an⟩ Tryz.func243 rfl (by kernel_rfl))
theorem apd:TOk agy wF:=ay (E:=agz) (ET:=apf) (EnvT.ofX (ax (ac vm ak)) al ar aJ aq) ape rfl
def agw:Env:=(eZ [(173,iP)] [274])
def apc:Hints:=(hZ [] [])
def agv:PFn:=aC (runF Tryz.prog agw apc Tryz.f244)
def arZ:TH:={ loops:=[],ro:=[1] }
def za7 (a0:(Int×Int×Unit)):Option Bool :=
(zc7 a0).bind fun r1 =>
 some (!r1)
def wE:TFn:={ ps:=(.cons tT10 .unit),res:=.bool,fn:=fun v=>za7 v.1 }
def apb:TEnv:=(vZ [(173,gm)])
theorem apa:runY Tryz.prog agw apc apb arZ Tryz.f244 wE.ps wE.res=wE.fn:=by kernel_rfl
theorem agu:aB Tryz.prog G0 244 agv:=ai (aj ⟨au,(ah dY ae),ap,ae,an⟩ Tryz.func244 rfl (by kernel_rfl))
theorem ao9:TOk agv wE:=ay (E:=agw) (ET:=apb) (EnvT.ofX (ax (ac fR ak)) al ar aJ aq) apa rfl
def adv:Env:=(eZ [(171,iR)] [274])
def akT:Hints:=(hZ [(2,[0,5,6,7])] [])
def zx:PFn:=aC (runF Tryz.prog adv akT Tryz.f245)
def aqU:TH:={ loops:=[(2,{ keep:=[(7,(.int .i64))],mem:=[] })],ro:=[] }
def akQ (a0:List vV1) (y2:(Int×Unit)):Option ((Int×Unit)⊕Bool) :=
 cond (decide (y2.1<(a0.length:Int))) (
(atI a0 y2.1).bind fun x1 =>
 cond (decide (y2.1>0)) ((atI a0 (IntKind.wrap .i64 (y2.1-1))).bind fun x2 =>
(zbl x2.1 x1.1).bind fun r3 =>
 cond (decide (r3≥0)) (
 some (.inr false)) (
 some (.inl ((IntKind.wrap .i64 (y2.1+1)),())))) (some (.inl ((IntKind.wrap .i64 (y2.1+1)),())))) (
 some (.inr true))
def zc6 (a0:List vV1):Option Bool :=
 aN (akQ a0) (0,())
def sx:TFn:={ ps:=(.cons (.sl tT9) .unit),res:=.bool,fn:=fun v=>zc6 v.1 }
def akS:TEnv:=(vZ [(171,iQ)])
theorem akR:runY Tryz.prog adv akT akS aqU Tryz.f245 sx.ps sx.res=sx.fn:=by kernel_rfl
theorem vg:aB Tryz.prog G0 245 zx:=ai (aj ⟨au,(ah e8 ae),ap,ae,an⟩ Tryz.func245 rfl (by kernel_rfl))
theorem aa4:TOk zx sx:=ay (E:=adv) (ET:=akS) (EnvT.ofX (ax (ac gn ak)) al ar aJ aq) akR rfl
def afZ:Env:=(eZ [(243,agy)] [274])
def aor:Hints:=(hZ [(2,[0,1,7,8])] [])
def afY:PFn:=aC (runF Tryz.prog afZ aor Tryz.f303)
def arN:TH:={ loops:=[(2,{ keep:=[(8,(.int .i64))],mem:=[] })],ro:=[] }
def aon (a0:List vV1) (y2:(Int×Unit)):Option ((Int×Unit)⊕Int) :=
 cond (decide (y2.1<(a0.length:Int))) (
(atI a0 y2.1).bind fun x1 =>
(za6 x1).bind fun r2 =>
 cond r2 (
 some (.inr y2.1)) (
 some (.inl ((IntKind.wrap .i64 (y2.1+1)),())))) (
 some (.inr (-1)))
def zaj (a0:List vV1) (a1:Unit):Option Int :=
 aN (aon a0) (0,())
def wn:TFn:={ ps:=(.cons (.sl tT9) (.cons (.fn 243) .unit)),res:=(.int .i64),fn:=fun v=>zaj v.1 v.2.1 }
def aoq:TEnv:=(vZ [(243,wF)])
theorem aoo:runY Tryz.prog afZ aor aoq arN Tryz.f303 wn.ps wn.res=wn.fn:=by kernel_rfl
theorem afX:aB Tryz.prog G0 303 afY:=ai (aj ⟨au,(ah agx ae),ap,ae,an⟩ Tryz.func303 rfl (by kernel_rfl))
theorem aom:TOk afY wn:=ay (E:=afZ) (ET:=aoq) (EnvT.ofX (ax (ac apd ak)) al ar aJ aq) aoo rfl
def age:Env:=(eZ [(303,afY)] [274])
def aoM:Hints:=(hZ [] [])
def agd:PFn:=aC (runF Tryz.prog age aoM Tryz.f246)
def arS:TH:=yZ
def zae (a0:List vV1) (a1:Unit):Option Bool :=
(zaj a0 a1).bind fun r1 =>
 some (decide (r1≥0))
def ww:TFn:={ ps:=(.cons (.sl tT9) (.cons (.fn 243) .unit)),res:=.bool,fn:=fun v=>zae v.1 v.2.1 }
def aoL:TEnv:=(vZ [(303,wn)])
theorem aoK:runY Tryz.prog age aoM aoL arS Tryz.f246 ww.ps ww.res=ww.fn:=by kernel_rfl
theorem agc:aB Tryz.prog G0 246 agd:=ai (aj ⟨au,(ah afX ae),ap,ae,an⟩ Tryz.func246 rfl (by kernel_rfl))
theorem aoJ:TOk agd ww:=ay (E:=age) (ET:=aoL) (EnvT.ofX (ax (ac aom ak)) al ar aJ aq) aoK rfl
def af2:Env:=(eZ [(244,agv)] [274])
def aow:Hints:=(hZ [(2,[0,1,7,8])] [])
def af1:PFn:=aC (runF Tryz.prog af2 aow Tryz.f259)
def arO:TH:={ loops:=[(2,{ keep:=[(8,(.int .i64))],mem:=[] })],ro:=[] }
def aot (a0:List (Int×Int×Unit)) (y2:(Int×Unit)):Option ((Int×Unit)⊕Int) :=
 cond (decide (y2.1<(a0.length:Int))) (
(atI a0 y2.1).bind fun x1 =>
(za7 x1).bind fun r2 =>
 cond r2 (
 some (.inr y2.1)) (
 some (.inl ((IntKind.wrap .i64 (y2.1+1)),())))) (
 some (.inr (-1)))
def zai (a0:List (Int×Int×Unit)) (a1:Unit):Option Int :=
 aN (aot a0) (0,())
def wo:TFn:={ ps:=(.cons (.sl tT10) (.cons (.fn 244) .unit)),res:=(.int .i64),fn:=fun v=>zai v.1 v.2.1 }
def aov:TEnv:=(vZ [(244,wE)])
theorem aou:runY Tryz.prog af2 aow aov arO Tryz.f259 wo.ps wo.res=wo.fn:=by kernel_rfl
theorem af0:aB Tryz.prog G0 259 af1:=ai (aj ⟨au,(ah agu ae),ap,ae,an⟩ Tryz.func259 rfl (by kernel_rfl))
theorem aos:TOk af1 wo:=ay (E:=af2) (ET:=aov) (EnvT.ofX (ax (ac ao9 ak)) al ar aJ aq) aou rfl
def agb:Env:=(eZ [(259,af1)] [274])
def aoI:Hints:=(hZ [] [])
def aga:PFn:=aC (runF Tryz.prog agb aoI Tryz.f247)
def arR:TH:=yZ
def zaf (a0:List (Int×Int×Unit)) (a1:Unit):Option Bool :=
(zai a0 a1).bind fun r1 =>
 some (decide (r1≥0))
def wu:TFn:={ ps:=(.cons (.sl tT10) (.cons (.fn 244) .unit)),res:=.bool,fn:=fun v=>zaf v.1 v.2.1 }
def aoH:TEnv:=(vZ [(259,wo)])
theorem aoG:runY Tryz.prog agb aoI aoH arR Tryz.f247 wu.ps wu.res=wu.fn:=by kernel_rfl
theorem af9:aB Tryz.prog G0 247 aga:=ai (aj ⟨au,(ah af0 ae),ap,ae,an⟩ Tryz.func247 rfl (by kernel_rfl))
theorem aoF:TOk aga wu:=ay (E:=agb) (ET:=aoH) (EnvT.ofX (ax (ac aos ak)) al ar aJ aq) aoG rfl
def aeB:Env:=(eZ [(176,vI),(245,zx),(246,agd),(247,aga)] [274])
def amA:Hints:=(hZ [] [])
def aeA:PFn:=aC (runF Tryz.prog aeB amA Tryz.f177)
def aro:TH:={ loops:=[],cuts:=[(3,[(9,{ keep:=[(1,(.bx 0 0)),(13,.bool)],mem:=[.same] }),(7,{ keep:=[(1,(.bx 0 0)),(20,.bool)],mem:=[.same] })])],ro:=[1],news:=[] }
def zbe (a0:(List vV1×List vV2×List (Int×Int×Unit)×Unit)):Option Bool :=
(cond (decide ((a0.1.length:Int)≤1000)) ((zc6 a0.1).bind fun r1 =>
 some (r1,())) (some (false,())):Option (Bool×Unit)).bind fun v2 =>
(cond v2.1 ((zae a0.1 ()).bind fun r3 =>
 some ((!r3),())) (some (false,())):Option (Bool×Unit)).bind fun v4 =>
 cond v4.1 ((zbi a0.2.1).bind fun r5 =>
 cond r5 ((zaf a0.2.2.1 ()).bind fun r6 =>
 some (!r6)) (some false)) (some false)
def vM:TFn:={ ps:=(.cons (.agg (.cons (.sl tT9) (.cons (.sl tT11) (.cons (.sl tT10) .unit)))) .unit),res:=.bool,fn:=fun v=>zbe v.1 }
def amz:TEnv:=(vZ [(176,pC),(245,sx),(246,ww),(247,wu)])
theorem amy:runY Tryz.prog aeB amA amz aro Tryz.f177 vM.ps vM.res=vM.fn:=by kernel_rfl
theorem aez:aB Tryz.prog G0 177 aeA:=ai (aj ⟨au,(ah pD (ah vg (ah agc (ah af9 ae)))),ap,ae,an⟩ Tryz.func177 rfl (by kernel_rfl))
theorem amx:TOk aeA vM:=ay (E:=aeB) (ET:=amz) (EnvT.ofX (ax (ac vH (ac aa4 (ac aoJ (ac aoF ak))))) al ar aJ aq) amy rfl
def ae5:Env:=(eZ [] [274])
def anm:Hints:=(hZ [(3,[3,6,7,8])] [])
def ae4:PFn:=aC (runF Tryz.prog ae5 anm Tryz.f249)
def arA:TH:={ loops:=[(3,{ keep:=[(3,(.own 1)),(8,(.int .i64))],mem:=[.gone,.row true 72 tT10] })],ro:=[] }
def anj (a0:List vV1) (y3:(Int×List (Int×Int×Unit)×Unit)):Option ((Int×List (Int×Int×Unit)×Unit)⊕List (Int×Int×Unit)) :=
 cond (decide (y3.1<(a0.length:Int))) (
(atI a0 y3.1).bind fun x1 =>
(dD (y3.2.1.length+([x1.1]:List (Int×Int×Unit)).length)).bind fun u2 =>
 some (.inl ((IntKind.wrap .i64 (y3.1+1)),(y3.2.1++([x1.1]:List (Int×Int×Unit))),()))) (
 some (.inr y3.2.1))
def zb3 (a0:List vV1):Option vV7 :=
 aN (anj a0) (0,[],())
def vW:TFn:={ ps:=(.cons (.sl tT9) .unit),res:=(.sl tT10),fn:=fun v=>zb3 v.1 }
def anl:TEnv:={ pure:=[],look:=[],glob:=G0T,ty:=[(72,tT10)],raw:=[],fresh:=[] }
theorem ank:runY Tryz.prog ae5 anm anl arA Tryz.f249 vW.ps vW.res=vW.fn:=by kernel_rfl
theorem ae3:aB Tryz.prog G0 249 ae4:=ai (aj ⟨au,ae,ap,ae,an⟩ Tryz.func249 rfl (by kernel_rfl))
theorem ani:TOk ae4 vW:=ay (E:=ae5) (ET:=anl) (EnvT.ofX (ax ak) al ar aJ aq) ank rfl
def ab5:Env:=(eZ [(173,iP)] [274])
def aiF:Hints:=(hZ [] [])
def zi:PFn:=aC (runF Tryz.prog ab5 aiF Tryz.f191)
def aqk:TH:={ loops:=[],ro:=[1] }
def zdg (a0:(Int×Int×Unit)):Option Bool :=
(zc7 a0).bind fun r1 =>
 some (!r1)
def sm:TFn:={ ps:=(.cons tT10 .unit),res:=.bool,fn:=fun v=>zdg v.1 }
def aiE:TEnv:=(vZ [(173,gm)])
theorem aiD:runY Tryz.prog ab5 aiF aiE aqk Tryz.f191 sm.ps sm.res=sm.fn:=by kernel_rfl
theorem uo:aB Tryz.prog G0 191 zi:=ai (aj ⟨au,(ah dY ae),ap,ae,an⟩ Tryz.func191 rfl (by kernel_rfl))
theorem aaX:TOk zi sm:=ay (E:=ab5) (ET:=aiE) (EnvT.ofX (ax (ac fR ak)) al ar aJ aq) aiD rfl
def afF:Env:=(eZ [(191,zi)] [274])
def anX:Hints:=(hZ [(2,[0,1,7,8])] [])
def afE:PFn:=aC (runF Tryz.prog afF anX Tryz.f259)
def arH:TH:={ loops:=[(2,{ keep:=[(8,(.int .i64))],mem:=[] })],ro:=[] }
def jm (a0:List (Int×Int×Unit)) (y2:(Int×Unit)):Option ((Int×Unit)⊕Int) :=
 cond (decide (y2.1<(a0.length:Int))) (
(atI a0 y2.1).bind fun x1 =>
(zdg x1).bind fun r2 =>
 cond r2 (
 some (.inr y2.1)) (
 some (.inl ((IntKind.wrap .i64 (y2.1+1)),())))) (
 some (.inr (-1)))
def zaq (a0:List (Int×Int×Unit)) (a1:Unit):Option Int :=
 aN (jm a0) (0,())
def wg:TFn:={ ps:=(.cons (.sl tT10) (.cons (.fn 191) .unit)),res:=(.int .i64),fn:=fun v=>zaq v.1 v.2.1 }
def anW:TEnv:=(vZ [(191,sm)])
theorem anV:runY Tryz.prog afF anX anW arH Tryz.f259 wg.ps wg.res=wg.fn:=by kernel_rfl
theorem afD:aB Tryz.prog G0 259 afE:=ai (aj ⟨au,(ah uo ae),ap,ae,an⟩ Tryz.func259 rfl (by kernel_rfl))
theorem anU:TOk afE wg:=ay (E:=afF) (ET:=anW) (EnvT.ofX (ax (ac aaX ak)) al ar aJ aq) anV rfl
def afI:Env:={ pure:=[(191,zi)],raw:=[],glob:=G0,same:=[274],look:=[(259,afE)],ext:=[] }
def an2:Hints:=(hZ [(5,[0,1,5,6])] [])
def afH:SFn:=cutS (runF Tryz.prog afI an2 Tryz.f190)
def arI:TH:={ joins:=[(11,{ keep:=[(0,(.own 0)),(5,(.int .i64))],mem:=[.row false 72 tT10] })],loops:=[(5,{ keep:=[(0,(.own 0)),(5,(.int .i64)),(6,(.int .i64))],mem:=[.row false 72 tT10] })],ro:=[] }
def wh (y5:(Int×Int×List (Int×Int×Unit)×Unit)):Option ((Int×Int×List (Int×Int×Unit)×Unit)⊕((Int×List (Int×Int×Unit)×Unit)⊕vV7)) :=
 cond (decide (y5.2.1<(y5.2.2.1.length:Int))) (
(inI y5.2.2.1.length y5.2.1).bind fun i2 =>
(y5.2.2.1[i2]?).bind fun x3 =>
(zdg x3).bind fun r4 =>
 cond (!r4) (
(inI y5.2.2.1.length y5.1).bind fun i5 =>
(y5.2.2.1[i5]?).bind fun x6 =>
 some (.inl ((IntKind.wrap .i64 (y5.1+1)),(IntKind.wrap .i64 (y5.2.1+1)),(y5.2.2.1.set i5 x3),()))) (
 some (.inl (y5.1,(IntKind.wrap .i64 (y5.2.1+1)),y5.2.2.1,())))) (
 some (.inr (.inl (y5.1,y5.2.2.1,()))))
def zN (w0:List (Int×Int×Unit)):Option vV7 :=
(zaq w0 ()).bind fun r1 =>
 cond (decide (r1=(-1))) (
 some w0) (
(aN (wh) (r1,(IntKind.wrap .i64 (r1+1)),w0,()):Option ((Int×List (Int×Int×Unit)×Unit)⊕vV7)).bind (bw fun v7 =>
 cond v7.2.1.isEmpty (none) ((wI (v7.2.1.length) v7.1 (v7.2.1.length:Int)).bind fun p8 =>
 cond v7.2.1.isEmpty (none) ((if p8.1+p8.2≤v7.2.1.length then some () else none).bind fun u9 =>
 cond (v7.2.1.take p8.1++List.replicate p8.2 (0,0,())++v7.2.1.drop (p8.1+p8.2)).isEmpty (none) ((wI ((v7.2.1.take p8.1++List.replicate p8.2 (0,0,())++v7.2.1.drop (p8.1+p8.2)).length) 0 v7.1).bind fun p10 =>
 cond (v7.2.1.take p8.1++List.replicate p8.2 (0,0,())++v7.2.1.drop (p8.1+p8.2)).isEmpty none (if p10.1=0∧p10.2≤(v7.2.1.take p8.1++List.replicate p8.2 (0,0,())++v7.2.1.drop (p8.1+p8.2)).length then some ((v7.2.1.take p8.1++List.replicate p8.2 (0,0,())++v7.2.1.drop (p8.1+p8.2)).take p10.2) else none))))))
def zap (w0:List (Int×Int×Unit)):Option (Unit×List (Int×Int×Unit)×Unit):=(zN w0).map fun l=>((),(l,()))
def an1:TRaw:={ ps:=(.cons (.own 0) (.cons (.fn 191) .unit)),ins:=[.row false 72 tT10],res:=(.own 0),outs:=[.row false 72 tT10],fn:=fun v w=>zap w.1 }
def an0:TEnv:={ pure:=[(191,sm)],look:=[(259,wg)],glob:=G0T,ty:=[],raw:=[],fresh:=[] }
theorem anZ:cutY Tryz.prog afI an2 an0 arI Tryz.f190 (.cons (.own 0) (.cons (.fn 191) .unit)) false 72 tT10=fun _ w=>zN w:=by kernel_rfl
theorem afG:bM Tryz.prog G0 190 afH:=tG (aj ⟨au,(ah uo ae),ap,(ah afD ae),an⟩ Tryz.func190 rfl (by kernel_rfl))
theorem anY:TRawOk afH an1:=ahs (E:=afI) (ET:=an0) (EnvT.ofX (ax (ac aaX ak)) (ti anU rfl al) ar aJ aq) anZ
def abB:Env:={ pure:=[(188,vj)],raw:=[(180,we),(187,zP),(190,afH)],glob:=G0,same:=[274],look:=[],ext:=[] }
def ahV:Hints:=(hZ [] [9])
def ze:PFn:=aC (runF Tryz.prog abB ahV Tryz.f113)
def ap8:TH:=yZ
def zds (a0:List (Int×Int×Unit)):Option vV3 :=
(zay a0).bind fun n1 =>
(zap n1).bind fun q2 =>
(zao q2.2.1).bind fun q3 =>
(zc4 [0,0,0,0,0,0,0,0,0,0,0,0,0,0,0,0] q3.2.1).bind fun r4 =>
 some r4
def sj:TFn:={ ps:=(.cons (.sl tT10) .unit),res:=tT12,fn:=fun v=>zds v.1 }
def ahU:TEnv:={ pure:=[(188,pw)],look:=[],glob:=G0T,ty:=[],raw:=[(187,afK),(190,an1)],fresh:=[(180,zG)] }
theorem ahT:runY Tryz.prog abB ahV ahU ap8 Tryz.f113 sj.ps sj.res=sj.fn:=by kernel_rfl
theorem tW:aB Tryz.prog G0 113 ze:=ai (aj ⟨au,(ah px ae),(bZ pF (bZ wi (bZ afG ap))),ae,an⟩ Tryz.func113 rfl (by kernel_rfl))
theorem aaV:TOk ze sj:=ay (E:=abB) (ET:=ahU) (EnvT.ofX (ax (ac vi ak)) al (ea (fe aa8 rfl rfl (fe anY rfl rfl ar)) rfl) aJ (eh wd rfl rfl rfl aq)) ahT rfl
def afh:Env:=(eZ [] [274])
def anE:Hints:=(hZ [(4,[0,1,12,13])] [])
def afg:PFn:=aC (runF Tryz.prog afh anE Tryz.f304)
def arE:TH:={ loops:=[(4,{ keep:=[(13,(.int .i64))],mem:=[] })],ro:=[] }
def anB (a0:List (Int×Int×Unit)) (a1:List (Int×Int×Unit)) (y4:(Int×Unit)):Option ((Int×Unit)⊕Bool) :=
 cond (decide (y4.1<(a0.length:Int))) (
(atI a0 y4.1).bind fun x1 =>
(atI a1 y4.1).bind fun x2 =>
 cond (!(eqV tT10 x1 x2)) (
 some (.inr false)) (
 some (.inl ((IntKind.wrap .i64 (y4.1+1)),())))) (
 some (.inr true))
def zaz (a0:List (Int×Int×Unit)) (a1:List (Int×Int×Unit)):Option Bool :=
 cond (!decide ((a0.length:Int)=(a1.length:Int))) (
 some false) (
 aN (anB a0 a1) (0,()))
def wb:TFn:={ ps:=(.cons (.sl tT10) (.cons (.sl tT10) .unit)),res:=.bool,fn:=fun v=>zaz v.1 v.2.1 }
def anD:TEnv:=(vZ [])
theorem anC:runY Tryz.prog afh anE anD arE Tryz.f304 wb.ps wb.res=wb.fn:=by kernel_rfl
theorem aff:aB Tryz.prog G0 304 afg:=ai (aj ⟨au,ae,ap,ae,an⟩ Tryz.func304 rfl (by kernel_rfl))
theorem anA:TOk afg wb:=ay (E:=afh) (ET:=anD) (EnvT.ofX (ax ak) al ar aJ aq) anC rfl
def ady:Env:=(eZ [(304,afg)] [274])
def akX:Hints:=(hZ [] [])
def adx:PFn:=aC (runF Tryz.prog ady akX Tryz.f248)
def aqV:TH:={ loops:=[],ro:=[2,3] }
def zc5 (a0:vV3) (a1:vV3):Option Bool :=
 cond (eqV (.arr 16 (.int .i64)) a0.1 a1.1) ((zaz a0.2.1 a1.2.1).bind fun r1 =>
 some r1) (some false)
def vh:TFn:={ ps:=(.cons tT12 (.cons tT12 .unit)),res:=.bool,fn:=fun v=>zc5 v.1 v.2.1 }
def akW:TEnv:=(vZ [(304,wb)])
theorem akV:runY Tryz.prog ady akX akW aqV Tryz.f248 vh.ps vh.res=vh.fn:=by kernel_rfl
theorem adw:aB Tryz.prog G0 248 adx:=ai (aj ⟨au,(ah aff ae),ap,ae,an⟩ Tryz.func248 rfl (by kernel_rfl))
theorem akU:TOk adx vh:=ay (E:=ady) (ET:=akW) (EnvT.ofX (ax (ac anA ak)) al ar aJ aq) akV rfl
def aeJ:Env:=(eZ [(174,vn)] [274])
def amN:Hints:=(hZ [] [])
def aeI:PFn:=aC (runF Tryz.prog aeJ amN Tryz.f250)
def ars:TH:={ loops:=[],ro:=[1] }
def zbb (a0:vV1):Option Bool :=
(zc1 a0).bind fun r1 =>
 some (!decide (r1=0))
def vP:TFn:={ ps:=(.cons tT9 .unit),res:=.bool,fn:=fun v=>zbb v.1 }
def amM:TEnv:=(vZ [(174,py)])
theorem amL:runY Tryz.prog aeJ amN amM ars Tryz.f250 vP.ps vP.res=vP.fn:=by kernel_rfl
theorem aeH:aB Tryz.prog G0 250 aeI:=ai (aj ⟨au,(ah pz ae),ap,ae,an⟩ Tryz.func250 rfl (by kernel_rfl))
theorem amK:TOk aeI vP:=ay (E:=aeJ) (ET:=amM) (EnvT.ofX (ax (ac vm ak)) al ar aJ aq) amL rfl
def agt:Env:=(eZ [(173,iP)] [274])
def ao8:Hints:=(hZ [] [])
def ags:PFn:=aC (runF Tryz.prog agt ao8 Tryz.f251)
def arY:TH:={ loops:=[],ro:=[1] }
def za8 (a0:(Int×Int×Unit)):Option Bool :=
(zc7 a0).bind fun r1 =>
 some (!r1)
def wD:TFn:={ ps:=(.cons tT10 .unit),res:=.bool,fn:=fun v=>za8 v.1 }
def ao7:TEnv:=(vZ [(173,gm)])
theorem ao6:runY Tryz.prog agt ao8 ao7 arY Tryz.f251 wD.ps wD.res=wD.fn:=by kernel_rfl
theorem agr:aB Tryz.prog G0 251 ags:=ai (aj ⟨au,(ah dY ae),ap,ae,an⟩ Tryz.func251 rfl (by kernel_rfl))
theorem ao5:TOk ags wD:=ay (E:=agt) (ET:=ao7) (EnvT.ofX (ax (ac fR ak)) al ar aJ aq) ao6 rfl
def ace:Env:=(eZ [] [274])
def aiU:Hints:=(hZ [(2,[5,6])] [])
def acd:PFn:=aC (runF Tryz.prog ace aiU Tryz.f305)
def aqo:TH:={ loops:=[(2,{ keep:=[(6,(.int .i64))],mem:=[.same] })],ro:=[1] }
def aiR (a0:List Int) (y2:(Int×Unit)):Option ((Int×Unit)⊕Bool) :=
 cond (decide (y2.1<16)) (
(atI a0 y2.1).bind fun x1 =>
 cond (decide (x1<0)) (some (.inr false)) (cond (decide (x1>1048576)) (
 some (.inr false)) (
 some (.inl ((IntKind.wrap .i64 (y2.1+1)),()))))) (
 some (.inr true))
def zdc (a0:List Int):Option Bool :=
 aN (aiR a0) (0,())
def uw:TFn:={ ps:=(.cons (.arr 16 (.int .i64)) .unit),res:=.bool,fn:=fun v=>zdc v.1 }
def aiT:TEnv:=(vZ [])
theorem aiS:runY Tryz.prog ace aiU aiT aqo Tryz.f305 uw.ps uw.res=uw.fn:=by kernel_rfl
theorem acb:aB Tryz.prog G0 305 acd:=ai (aj ⟨au,ae,ap,ae,an⟩ Tryz.func305 rfl (by kernel_rfl))
theorem aiQ:TOk acd uw:=ay (E:=ace) (ET:=aiT) (EnvT.ofX (ax ak) al ar aJ aq) aiS rfl
def act:Env:=(eZ [(171,iR),(173,iP),(305,acd)] [274])
def ajf:Hints:=(hZ [(4,[1,16,17,18])] [])
def acs:PFn:=aC (runF Tryz.prog act ajf Tryz.f252)
def aqt:TH:={ loops:=[(4,{ keep:=[(1,(.bx 0 0)),(18,(.int .i64))],mem:=[.box 66 tT12] })],cuts:=[(6,[(14,{ keep:=[(1,(.bx 0 0)),(4,(.bx 1 0)),(36,.bool)],mem:=[.box 66 tT12,.box 72 tT10] })])],ro:=[],news:=[] }
def ajc (a0:vV3) (y4:(Int×vV3×Unit)):Option ((Int×vV3×Unit)⊕Bool) :=
 cond (decide (y4.1<(a0.2.1.length:Int))) (
(atI a0.2.1 y4.1).bind fun x2 =>
((zc7 x2).bind fun r3 =>
 cond (!r3) (some (true,y4.2.1,x2,())) ((inI 16 x2.1).bind fun i4 =>
(y4.2.1.1[i4]?).bind fun x5 =>
 some ((decide (x2.2.1≤(IntKind.wrap .i64 (x5+1)))),y4.2.1,x2,())):Option (Bool×vV3×(Int×Int×Unit)×Unit)).bind fun v6 =>
 cond v6.1 (some (.inr false)) (cond (decide (y4.1>0)) ((atI v6.2.1.2.1 (IntKind.wrap .i64 (y4.1-1))).bind fun x7 =>
(zbl x7 v6.2.2.1).bind fun r8 =>
 cond (decide (r8≥0)) (
 some (.inr false)) (
 some (.inl ((IntKind.wrap .i64 (y4.1+1)),v6.2.1,())))) (some (.inl ((IntKind.wrap .i64 (y4.1+1)),v6.2.1,()))))) (
 some (.inr true))
def zcx (a0:vV3):Option Bool :=
(zdc a0.1).bind fun r1 =>
 cond (!r1) (some false) (cond (decide ((a0.2.1.length:Int)>4096)) (
 some false) (
 aN (ajc a0) (0,a0,())))
def uD:TFn:={ ps:=(.cons tT12 .unit),res:=.bool,fn:=fun v=>zcx v.1 }
def aje:TEnv:=(vZ [(171,iQ),(173,gm),(305,uw)])
theorem ajd:runY Tryz.prog act ajf aje aqt Tryz.f252 uD.ps uD.res=uD.fn:=by kernel_rfl
theorem acr:aB Tryz.prog G0 252 acs:=ai (aj ⟨au,(ah e8 (ah dY (ah acb ae))),ap,ae,an⟩ Tryz.func252 rfl (by kernel_rfl))
theorem ajb:TOk acs uD:=ay (E:=act) (ET:=aje) (EnvT.ofX (ax (ac gn (ac fR (ac aiQ ak)))) al ar aJ aq) ajd rfl
def afW:Env:=(eZ [(250,aeI)] [274])
def aol:Hints:=(hZ [(2,[0,1,7,8])] [])
def afV:PFn:=aC (runF Tryz.prog afW aol Tryz.f303)
def arM:TH:={ loops:=[(2,{ keep:=[(8,(.int .i64))],mem:=[] })],ro:=[] }
def aoi (a0:List vV1) (y2:(Int×Unit)):Option ((Int×Unit)⊕Int) :=
 cond (decide (y2.1<(a0.length:Int))) (
(atI a0 y2.1).bind fun x1 =>
(zbb x1).bind fun r2 =>
 cond r2 (
 some (.inr y2.1)) (
 some (.inl ((IntKind.wrap .i64 (y2.1+1)),())))) (
 some (.inr (-1)))
def zak (a0:List vV1) (a1:Unit):Option Int :=
 aN (aoi a0) (0,())
def wm:TFn:={ ps:=(.cons (.sl tT9) (.cons (.fn 250) .unit)),res:=(.int .i64),fn:=fun v=>zak v.1 v.2.1 }
def aok:TEnv:=(vZ [(250,vP)])
theorem aoj:runY Tryz.prog afW aol aok arM Tryz.f303 wm.ps wm.res=wm.fn:=by kernel_rfl
theorem afU:aB Tryz.prog G0 303 afV:=ai (aj ⟨au,(ah aeH ae),ap,ae,an⟩ Tryz.func303 rfl (by kernel_rfl))
theorem aoh:TOk afV wm:=ay (E:=afW) (ET:=aok) (EnvT.ofX (ax (ac amK ak)) al ar aJ aq) aoj rfl
def af8:Env:=(eZ [(303,afV)] [274])
def aoE:Hints:=(hZ [] [])
def af7:PFn:=aC (runF Tryz.prog af8 aoE Tryz.f246)
def arQ:TH:=yZ
def zag (a0:List vV1) (a1:Unit):Option Bool :=
(zak a0 a1).bind fun r1 =>
 some (decide (r1≥0))
def wr:TFn:={ ps:=(.cons (.sl tT9) (.cons (.fn 250) .unit)),res:=.bool,fn:=fun v=>zag v.1 v.2.1 }
def aoD:TEnv:=(vZ [(303,wm)])
theorem aoC:runY Tryz.prog af8 aoE aoD arQ Tryz.f246 wr.ps wr.res=wr.fn:=by kernel_rfl
theorem af6:aB Tryz.prog G0 246 af7:=ai (aj ⟨au,(ah afU ae),ap,ae,an⟩ Tryz.func246 rfl (by kernel_rfl))
theorem aoB:TOk af7 wr:=ay (E:=af8) (ET:=aoD) (EnvT.ofX (ax (ac aoh ak)) al ar aJ aq) aoC rfl
def afT:Env:=(eZ [(251,ags)] [274])
def aog:Hints:=(hZ [(2,[0,1,7,8])] [])
def afS:PFn:=aC (runF Tryz.prog afT aog Tryz.f259)
def arL:TH:={ loops:=[(2,{ keep:=[(8,(.int .i64))],mem:=[] })],ro:=[] }
def aod (a0:List (Int×Int×Unit)) (y2:(Int×Unit)):Option ((Int×Unit)⊕Int) :=
 cond (decide (y2.1<(a0.length:Int))) (
(atI a0 y2.1).bind fun x1 =>
(za8 x1).bind fun r2 =>
 cond r2 (
 some (.inr y2.1)) (
 some (.inl ((IntKind.wrap .i64 (y2.1+1)),())))) (
 some (.inr (-1)))
def zal (a0:List (Int×Int×Unit)) (a1:Unit):Option Int :=
 aN (aod a0) (0,())
def wl:TFn:={ ps:=(.cons (.sl tT10) (.cons (.fn 251) .unit)),res:=(.int .i64),fn:=fun v=>zal v.1 v.2.1 }
def aof:TEnv:=(vZ [(251,wD)])
theorem aoe:runY Tryz.prog afT aog aof arL Tryz.f259 wl.ps wl.res=wl.fn:=by kernel_rfl
theorem afR:aB Tryz.prog G0 259 afS:=ai (aj ⟨au,(ah agr ae),ap,ae,an⟩ Tryz.func259 rfl (by kernel_rfl))
theorem aoc:TOk afS wl:=ay (E:=afT) (ET:=aof) (EnvT.ofX (ax (ac ao5 ak)) al ar aJ aq) aoe rfl
def af5:Env:=(eZ [(259,afS)] [274])
def aoA:Hints:=(hZ [] [])
def af4:PFn:=aC (runF Tryz.prog af5 aoA Tryz.f247)
def arP:TH:=yZ
def zah (a0:List (Int×Int×Unit)) (a1:Unit):Option Bool :=
(zal a0 a1).bind fun r1 =>
 some (decide (r1≥0))
def wq:TFn:={ ps:=(.cons (.sl tT10) (.cons (.fn 251) .unit)),res:=.bool,fn:=fun v=>zah v.1 v.2.1 }
def aoz:TEnv:=(vZ [(259,wl)])
theorem aoy:runY Tryz.prog af5 aoA aoz arP Tryz.f247 wq.ps wq.res=wq.fn:=by kernel_rfl
theorem af3:aB Tryz.prog G0 247 af4:=ai (aj ⟨au,(ah afR ae),ap,ae,an⟩ Tryz.func247 rfl (by kernel_rfl))
theorem aox:TOk af4 wq:=ay (E:=af5) (ET:=aoz) (EnvT.ofX (ax (ac aoc ak)) al ar aJ aq) aoy rfl
def adY:Env:=(eZ [(113,ze),(176,vI),(245,zx),(246,af7),(247,af4),(248,adx),(249,ae4),(252,acs)] [274])
def alD:Hints:=(hZ [(6,[1,35,36])] [])
def adX:PFn:=aC (runF Tryz.prog adY alD Tryz.f178)
def aq6:TH:={ joins:=[(11,{ keep:=[(1,(.bx 0 0))],mem:=[.same] })],loops:=[(6,{ keep:=[(1,(.bx 0 0)),(36,(.int .i64))],mem:=[.same] })],cuts:=[(1,[(10,{ keep:=[(1,(.bx 0 0)),(14,.bool)],mem:=[.same] })])],ro:=[1],news:=[] }
def alA (a0:vV0) (y6:(Int×Unit)):Option ((Int×Unit)⊕(Unit⊕Bool)) :=
 cond (decide (y6.1<8)) (
(atI a0.2.2.2.2.1 y6.1).bind fun x8 =>
 cond (decide ((x8.length:Int)>1000)) (some (.inr (.inr false))) ((zah x8 ()).bind fun r9 =>
 cond r9 (
 some (.inr (.inr false))) (
 some (.inl ((IntKind.wrap .i64 (y6.1+1)),()))))) (
 some (.inr (.inl ())))
def zbu (a0:vV0):Option Bool :=
(cond (decide ((a0.1.length:Int)>1000)) (some (true,())) ((zc6 a0.1).bind fun r1 =>
 some ((!r1),())):Option (Bool×Unit)).bind fun v2 =>
 cond v2.1 (some false) ((zbi a0.2.1).bind fun r3 =>
 cond (!r3) (some false) ((zb3 a0.1).bind fun r4 =>
(zds r4).bind fun r5 =>
(zc5 a0.2.2.1 r5).bind fun r6 =>
 cond (!r6) (
 some false) (
(zag a0.1 ()).bind fun r7 =>
 cond r7 (
 some false) (
(aN (alA a0) (0,()):Option (Unit⊕Bool)).bind (bw fun v10 =>
(zcx a0.2.2.1).bind fun r11 =>
 cond r11 ((zcx a0.2.2.2.1).bind fun r12 =>
 some r12) (some false))))))
def vx:TFn:={ ps:=(.cons tT8 .unit),res:=.bool,fn:=fun v=>zbu v.1 }
def alC:TEnv:=(vZ [(113,sj),(176,pC),(245,sx),(246,wr),(247,wq),(248,vh),(249,vW),(252,uD)])
theorem alB:runY Tryz.prog adY alD alC aq6 Tryz.f178 vx.ps vx.res=vx.fn:=by kernel_rfl
theorem adW:aB Tryz.prog G0 178 adX:=ai (aj ⟨au,(ah tW (ah pD (ah vg (ah af6 (ah af3 (ah adw (ah ae3 (ah acr ae)))))))),ap,ae,an⟩ Tryz.func178 rfl (by kernel_rfl))
theorem alz:TOk adX vx:=ay (E:=adY) (ET:=alC) (EnvT.ofX (ax (ac aaV (ac vH (ac aa4 (ac aoB (ac aox (ac akU (ac ani (ac ajb ak))))))))) al ar aJ aq) alB rfl
def aes:Env:=(eZ [(174,vn),(175,aem),(176,vI),(177,aeA),(178,adX)] [274])
def amo:Hints:=(hZ [] [])
def aer:PFn:=aC (runF Tryz.prog aes amo Tryz.f103)
def arl:TH:={ loops:=[],ro:=[1] }
def zbh (a0:vV6):Option Bool :=
 cond (decide (a0.1=1)) (
(zc1 a0.2.1).bind fun r1 =>
 some (decide (r1=0))) (
 cond (decide (a0.1=2)) (
(zbj a0.2.2.1).bind fun r2 =>
 cond r2 ((zbi ([a0.2.2.2.1]:List vV2)).bind fun r3 =>
 cond r3 (cond (decide (a0.2.2.2.2.1≥0)) (some (decide (a0.2.2.2.2.1≤2))) (some false)) (some false)) (some false)) (
 cond (decide (a0.1=3)) (
(zbe a0.2.2.2.2.2.1).bind fun r4 =>
 some r4) (
 cond (decide (a0.1=4)) (
(zbu a0.2.2.2.2.2.2.1).bind fun r5 =>
 some r5) (
 some false))))
def vJ:TFn:={ ps:=(.cons tT14 .unit),res:=.bool,fn:=fun v=>zbh v.1 }
def amn:TEnv:={ pure:=[(174,py),(175,vG),(176,pC),(177,vM),(178,vx)],look:=[],glob:=G0T,ty:=[(82,tT11)],raw:=[],fresh:=[] }
theorem amm:runY Tryz.prog aes amo amn arl Tryz.f103 vJ.ps vJ.res=vJ.fn:=by kernel_rfl
theorem aep:aB Tryz.prog G0 103 aer:=ai (aj ⟨au,(ah pz (ah ael (ah pD (ah aez (ah adW ae))))),ap,ae,an⟩ Tryz.func103 rfl (by kernel_rfl))
theorem aml:TOk aer vJ:=ay (E:=aes) (ET:=amn) (EnvT.ofX (ax (ac vm (ac ame (ac vH (ac amx (ac alz ak)))))) al ar aJ aq) amm rfl
def acN:Env:=(eZ [(102,zy),(103,aer)] [274])
def ajK:Hints:=(hZ [] [])
def acM:PFn:=aC (runF Tryz.prog acN ajK Tryz.f39)
def aqB:TH:={ loops:=[],ro:=[4,6] }
def zcp (a0:vV0) (a1:Int) (a2:(Int×Int×Unit)) (a3:Int):Option (vV6×Int×Unit) :=
(zbv a0.2.1 a2).bind fun r1 =>
 cond (!decide (r1.2.1=0)) (
 some ((0,((0,0,()),0,0,false,[],()),0,((0,0,()),0,()),0,([],[],[],()),([],[],([0,0,0,0,0,0,0,0,0,0,0,0,0,0,0,0],[],()),([0,0,0,0,0,0,0,0,0,0,0,0,0,0,0,0],[],()),[[],[],[],[],[],[],[],[]],()),()),r1.2.1,())) (
(zbh (2,((0,0,()),0,0,false,[],()),a1,r1.1,a3,([],[],[],()),([],[],([0,0,0,0,0,0,0,0,0,0,0,0,0,0,0,0],[],()),([0,0,0,0,0,0,0,0,0,0,0,0,0,0,0,0],[],()),[[],[],[],[],[],[],[],[]],()),())).bind fun r2 =>
 cond (!r2) (
 some ((0,((0,0,()),0,0,false,[],()),0,((0,0,()),0,()),0,([],[],[],()),([],[],([0,0,0,0,0,0,0,0,0,0,0,0,0,0,0,0],[],()),([0,0,0,0,0,0,0,0,0,0,0,0,0,0,0,0],[],()),[[],[],[],[],[],[],[],[]],()),()),2,())) (
 some ((2,((0,0,()),0,0,false,[],()),a1,r1.1,a3,([],[],[],()),([],[],([0,0,0,0,0,0,0,0,0,0,0,0,0,0,0,0],[],()),([0,0,0,0,0,0,0,0,0,0,0,0,0,0,0,0],[],()),[[],[],[],[],[],[],[],[]],()),()),0,())))
def uL:TFn:={ ps:=(.cons tT8 (.cons (.int .i64) (.cons tT10 tT17))),res:=(.tup (.cons tT14 tT17)),fn:=fun v=>zcp v.1 v.2.1 v.2.2.1 v.2.2.2.1 }
def ajJ:TEnv:=(vZ [(102,sy),(103,vJ)])
theorem ajI:runY Tryz.prog acN ajK ajJ aqB Tryz.f39 uL.ps uL.res=uL.fn:=by kernel_rfl
theorem acL:aB Tryz.prog G0 39 acM:=ai (aj ⟨au,(ah vv (ah aep ae)),ap,ae,an⟩ Tryz.func39 rfl (by kernel_rfl))
theorem ajH:TOk acM uL:=ay (E:=acN) (ET:=ajJ) (EnvT.ofX (ax (ac aa5 (ac aml ak))) al ar aJ aq) ajI rfl
def acn:Env:=(eZ [(242,wC)] [274])
def ai6:Hints:=(hZ [(2,[0,1,5])] [34,38,42,57,68])
def acm:PFn:=aC (runF Tryz.prog acn ai6 Tryz.f179)
def aqr:TH:={ joins:=[(3,{ keep:=[(5,(.own 0))],mem:=[.row true 82 tT11] }),(10,{ keep:=[(5,(.own 0)),(6,(.int .i64))],mem:=[.row true 82 tT11] })],loops:=[(2,{ keep:=[(0,(.sl tT11)),(1,(.sl tT11)),(5,(.own 0))],mem:=[.row true 82 tT11] })],ro:=[] }
def eS (y2:(List vV2×List vV2×List vV2×Unit)):Option ((List vV2×List vV2×List vV2×Unit)⊕List vV2) :=
(cond (decide ((y2.1.length:Int)>0)) (some (.inl (y2.2.2.1,()))) (cond (decide ((y2.2.1.length:Int)>0)) (
 some (.inl (y2.2.2.1,()))) (
 some (.inr (.inr y2.2.2.1)))):Option ((List vV2×Unit)⊕((List vV2×List vV2×List vV2×Unit)⊕List vV2))).bind (bw fun v1 =>
(cond (decide ((y2.1.length:Int)=0)) (
 some (.inl (1,v1.1,()))) (
 cond (decide ((y2.2.1.length:Int)>0)) (
(atI y2.1 0).bind fun x2 =>
(atI y2.2.1 0).bind fun x3 =>
(za9 x2 x3).bind fun r4 =>
 some (.inl (r4,v1.1,()))) (
 some (.inl ((-1),v1.1,())))):Option ((Int×List vV2×Unit)⊕((List vV2×List vV2×List vV2×Unit)⊕List vV2))).bind (bw fun v5 =>
 cond (decide (v5.1<0)) (
(atI y2.1 0).bind fun x6 =>
(dD (v5.2.1.length+([x6]:List vV2).length)).bind fun u7 =>
(subI y2.1 1 (y2.1.length:Int)).bind fun s8 =>
 some (.inl (s8,y2.2.1,(v5.2.1++([x6]:List vV2)),()))) (
 cond (decide (v5.1>0)) (
(atI y2.2.1 0).bind fun x9 =>
(dD (v5.2.1.length+([x9]:List vV2).length)).bind fun u10 =>
(subI y2.2.1 1 (y2.2.1.length:Int)).bind fun s11 =>
 some (.inl (y2.1,s11,(v5.2.1++([x9]:List vV2)),()))) (
(atI y2.1 0).bind fun x12 =>
(atI y2.1 0).bind fun x13 =>
(atI y2.2.1 0).bind fun x14 =>
(dD (v5.2.1.length+([(x12.1,(max x13.2.1 x14.2.1),())]:List vV2).length)).bind fun u15 =>
(subI y2.1 1 (y2.1.length:Int)).bind fun s16 =>
(subI y2.2.1 1 (y2.2.1.length:Int)).bind fun s17 =>
 some (.inl (s16,s17,(v5.2.1++([(x12.1,(max x13.2.1 x14.2.1),())]:List vV2)),()))))))
def zcz (a0:List vV2) (a1:List vV2):Option (List vV2) :=
 aN (eS) (a0,a1,[],())
def uB:TFn:={ ps:=(.cons (.sl tT11) (.cons (.sl tT11) .unit)),res:=(.sl tT11),fn:=fun v=>zcz v.1 v.2.1 }
def ai5:TEnv:={ pure:=[(242,pG)],look:=[],glob:=G0T,ty:=[(82,tT11)],raw:=[],fresh:=[] }
theorem ai4:runY Tryz.prog acn ai6 ai5 aqr Tryz.f179 uB.ps uB.res=uB.fn:=by kernel_rfl
theorem acl:aB Tryz.prog G0 179 acm:=ai (aj ⟨au,(ah pH ae),ap,ae,an⟩ Tryz.func179 rfl (by kernel_rfl))
theorem ai3:TOk acm uB:=ay (E:=acn) (ET:=ai5) (EnvT.ofX (ax (ac wB ak)) al ar aJ aq) ai4 rfl
def aec:Env:=(eZ [(179,acm)] [274])
def alZ:Hints:=(hZ [] [])
def zA:PFn:=aC (runF Tryz.prog aec alZ Tryz.f104)
def arc:TH:=yZ
def zbo (a0:vV0) (a1:List vV2):Option vV0 :=
(zcz a0.2.1 a1).bind fun r1 =>
 some (a0.1,r1,a0.2.2.1,a0.2.2.2.1,a0.2.2.2.2.1,())
def sB:TFn:={ ps:=(.cons tT8 (.cons (.sl tT11) .unit)),res:=tT8,fn:=fun v=>zbo v.1 v.2.1 }
def alY:TEnv:=(vZ [(179,uB)])
theorem alX:runY Tryz.prog aec alZ alY arc Tryz.f104 sB.ps sB.res=sB.fn:=by kernel_rfl
theorem vD:aB Tryz.prog G0 104 zA:=ai (aj ⟨au,(ah acl ae),ap,ae,an⟩ Tryz.func104 rfl (by kernel_rfl))
theorem aa7:TOk zA sB:=ay (E:=aec) (ET:=alY) (EnvT.ofX (ax (ac ai3 ak)) al ar aJ aq) alX rfl
def ae2:Env:={ pure:=[],raw:=[(180,we)],glob:=G0,same:=[274],look:=[],ext:=[] }
def anh:Hints:={ seqs:=[],loops:=[(6,[0,3,5])],own:=[14],frz:=[(3,[3])] }
def ae1:PFn:=aC (runF Tryz.prog ae2 anh Tryz.f105)
def arz:TH:={ loops:=[(6,{ keep:=[(3,(.bx 0 0)),(5,(.int .i64))],mem:=[.box 86 tT14] })],ro:=[] }
def ane (a0:List (Int×Int×Unit)) (y6:(Int×vV6×Unit)):Option ((Int×vV6×Unit)⊕List (Int×Int×Unit)) :=
 cond (decide (y6.1≥0)) (
(atI a0 y6.1).bind fun x3 =>
 cond (eqV tT10 x3 y6.2.1.2.2.2.1.1) (
(subI a0 0 y6.1).bind fun s4 =>
(zay s4).bind fun n5 =>
 some (.inr n5)) (
 some (.inl ((IntKind.wrap .i64 (y6.1-1)),y6.2.1,())))) (
 some (.inr a0))
def zb4 (a0:List (Int×Int×Unit)) (a1:vV6):Option vV7 :=
 cond (decide (a1.2.2.2.2.1=1)) (
(zay a0).bind fun n1 =>
(dD (n1.length+([a1.2.2.2.1.1]:List (Int×Int×Unit)).length)).bind fun u2 =>
 some (n1++([a1.2.2.2.1.1]:List (Int×Int×Unit)))) (
 cond (decide (a1.2.2.2.2.1=2)) (
 aN (ane a0) ((IntKind.wrap .i64 ((a0.length:Int)-1)),a1,())) (
 some a0))
def vV:TFn:={ ps:=(.cons (.sl tT10) (.cons tT14 .unit)),res:=(.sl tT10),fn:=fun v=>zb4 v.1 v.2.1 }
def ang:TEnv:={ pure:=[],look:=[],glob:=G0T,ty:=[(72,tT10)],raw:=[],fresh:=[(180,zG)] }
theorem anf:runY Tryz.prog ae2 anh ang arz Tryz.f105 vV.ps vV.res=vV.fn:=by kernel_rfl
theorem ae0:aB Tryz.prog G0 105 ae1:=ai (aj ⟨au,ae,(bZ pF ap),ae,an⟩ Tryz.func105 rfl (by kernel_rfl))
theorem anc:TOk ae1 vV:=ay (E:=ae2) (ET:=ang) (EnvT.ofX (ax ak) al (ea ar rfl) aJ (eh wd rfl rfl rfl aq)) anf rfl
def agH:Go.Shelf.Ren:=⟨fun | 4=>255 | n=>n,fun | 22=>64 | 25=>72 | 0=>0 | 3=>3 | 4=>4 | 9=>9 | 20=>20 | n=>n,fun | n=>n⟩
theorem zS:Go.Proofs.Lays8.n4 Tryz.prog agH:={
 mixed:=by kernel_rfl
 f4:=⟨Tryz.f255.name,by decide,Tryz.func255.trans (congrArg some (by kernel_rfl))⟩
 t0:=Tryz.underlying0
 a0:=Tryz.isAgg0
 z0:=Tryz.sizeOf0
 v0:=Tryz.zeroValue0
 t3:=Tryz.underlying3
 a3:=Tryz.isAgg3
 z3:=Tryz.sizeOf3
 v3:=Tryz.zeroValue3
 t4:=Tryz.underlying4
 a4:=Tryz.isAgg4
 z4:=Tryz.sizeOf4
 v4:=Tryz.zeroValue4
 t9:=Tryz.underlying9
 a9:=Tryz.isAgg9
 z9:=Tryz.sizeOf9
 v9:=Tryz.zeroValue9
 t20:=Tryz.underlying20
 a20:=Tryz.isAgg20
 z20:=Tryz.sizeOf20
 v20:=Tryz.zeroValue20
 t22:=Tryz.underlying64
 a22:=Tryz.isAgg64
 z22:=Tryz.sizeOf64
 v22:=Tryz.zeroValue64 }
def agJ:SFn:=qe 2 72
theorem agI:bM Tryz.prog G0 255 agJ:=aaF zS rfl rfl (fj (P:=Tryz.prog) (te:=72) (M:=2) (by kernel_rfl) (by kernel_rfl) (by kernel_rfl) (by kernel_rfl) (by kernel_rfl) (by kernel_rfl) (by kernel_rfl) (by kernel_rfl)) ⟨Tryz.f255,Tryz.func255,rfl,by kernel_rfl⟩
def za1 (a0:Unit) (a1:Int):Option vV7:=aaG a1
def apw:TNew:=yg 72 tT10
theorem apv:TNewOk agJ apw:=aaH rfl
def afr:Env:={ pure:=[],raw:=[(255,agJ)],glob:=G0,same:=[274],look:=[],ext:=[] }
def anL:Hints:=(hZ [(3,[0,3,9,10,11]),(11,[6,25,26,27])] [])
def afq:SFn:=runF Tryz.prog afr anL Tryz.f186
def arG:TH:={ joins:=[(9,{ keep:=[(3,(.int .i64))],mem:=[] })],loops:=[(3,{ keep:=[(3,(.int .i64)),(11,(.int .i64))],mem:=[] }),(11,{ keep:=[(6,(.own 0)),(27,(.int .i64))],mem:=[.row false 72 tT10] })],ro:=[] }
def iy (a0:List vV7) (y3:(Int×Int×Unit)):Option ((Int×Int×Unit)⊕((Int×Unit)⊕vV7)) :=
 cond (decide (y3.2.1<(a0.length:Int))) (
(atI a0 y3.2.1).bind fun x1 =>
 cond (decide ((IntKind.wrap .i64 (y3.1+(x1.length:Int)))<0)) (
 none) (
 some (.inl ((IntKind.wrap .i64 (y3.1+(x1.length:Int))),(IntKind.wrap .i64 (y3.2.1+1)),())))) (
 some (.inr (.inl (y3.1,()))))
def e9 (a0:List vV7) (y11:(Int×List (Int×Int×Unit)×Unit)):Option ((Int×List (Int×Int×Unit)×Unit)⊕vV7) :=
 cond (decide (y11.1<(a0.length:Int))) (
(atI a0 y11.1).bind fun x4 =>
(dD (y11.2.1.length+x4.length)).bind fun u5 =>
 some (.inl ((IntKind.wrap .i64 (y11.1+1)),(y11.2.1++x4),()))) (
 some (.inr y11.2.1))
def zav (a0:List vV7):Option vV7 :=
(aN (iy a0) (0,0,()):Option ((Int×Unit)⊕vV7)).bind (bw fun v2 =>
(za1 () v2.1).bind fun n3 =>
 aN (e9 a0) (0,n3,()))
def zJ:TNew:={ ps:=(.cons (.sl (.sl tT10)) .unit),e:=72,t:=(.sl tT10),fn:=fun v=>zav v.1,row:=true }
def anK:TEnv:={ pure:=[],look:=[],glob:=G0T,ty:=[(72,tT10)],raw:=[],fresh:=[(255,apw)] }
theorem anJ:apK Tryz.prog afr anL anK arG Tryz.f186 zJ.ps 72 tT10=zJ.fn:=by kernel_rfl
theorem afp:bM Tryz.prog G0 186 afq:=aj ⟨au,ae,(bZ agI ap),ae,an⟩ Tryz.func186 rfl (by kernel_rfl)
theorem anI:TNewOk afq zJ:=aas (E:=afr) (ET:=anK) (EnvT.ofX (ax ak) al (ea ar rfl) aJ (eh apv rfl rfl rfl aq)) anJ
def acK:Env:=(eZ [] [274])
def ajG:Hints:=(hZ [] [])
def acJ:PFn:=aC (runF Tryz.prog acK ajG Tryz.f258)
def aqA:TH:=yZ
def zcq (a0:Int) (a1:Int):Option Int :=
 some (max a0 a1)
def uK:TFn:={ ps:=(.cons (.int .i64) tT17),res:=(.int .i64),fn:=fun v=>zcq v.1 v.2.1 }
def ajF:TEnv:=(vZ [])
theorem ajE:runY Tryz.prog acK ajG ajF aqA Tryz.f258 uK.ps uK.res=uK.fn:=by kernel_rfl
theorem acI:aB Tryz.prog G0 258 acJ:=ai (aj ⟨au,ae,ap,ae,an⟩ Tryz.func258 rfl (by kernel_rfl))
theorem ajD:TOk acJ uK:=ay (E:=acK) (ET:=ajF) (EnvT.ofX (ax ak) al ar aJ aq) ajE rfl
def agE:Env:=(eZ [(258,acJ)] [274])
def aps:Hints:=(hZ [(2,[2,3,4,6,8])] [])
def agD:PFn:=aC (runF Tryz.prog agE aps Tryz.f257)
def ar3:TH:={ loops:=[(2,{ keep:=[(3,(.bx 0 0)),(4,(.bx 1 0)),(6,(.bx 2 0)),(8,(.int .i64))],mem:=[.box 63 (.arr 16 (.int .i64)),.box 63 (.arr 16 (.int .i64)),.box 63 (.arr 16 (.int .i64))] })],ro:=[] }
def qY (y2:(Int×List Int×List Int×List Int×Unit)):Option ((Int×List Int×List Int×List Int×Unit)⊕List Int) :=
 cond (decide (y2.1<16)) (
(inI 16 y2.1).bind fun i1 =>
(y2.2.1[i1]?).bind fun x2 =>
(inI 16 y2.1).bind fun i3 =>
(y2.2.2.1[i3]?).bind fun x4 =>
(zcq x2 x4).bind fun r5 =>
(inI 16 y2.1).bind fun i6 =>
(y2.2.1[i6]?).bind fun x7 =>
 some (.inl ((IntKind.wrap .i64 (y2.1+1)),(y2.2.1.set i6 r5),y2.2.2.1,y2.2.2.2.1,()))) (
 some (.inr y2.2.1))
def za3 (a0:List Int) (a1:List Int) (a2:Unit):Option (List Int) :=
 aN (qY) (0,a0,a1,[0,0,0,0,0,0,0,0,0,0,0,0,0,0,0,0],())
def wH:TFn:={ ps:=(.cons (.arr 16 (.int .i64)) (.cons (.arr 16 (.int .i64)) (.cons (.fn 258) .unit))),res:=(.arr 16 (.int .i64)),fn:=fun v=>za3 v.1 v.2.1 v.2.2.1 }
def apr:TEnv:=(vZ [(258,uK)])
theorem apq:runY Tryz.prog agE aps apr ar3 Tryz.f257 wH.ps wH.res=wH.fn:=by kernel_rfl
theorem agC:aB Tryz.prog G0 257 agD:=ai (aj ⟨au,(ah acI ae),ap,ae,an⟩ Tryz.func257 rfl (by kernel_rfl))
theorem apo:TOk agD wH:=ay (E:=agE) (ET:=apr) (EnvT.ofX (ax (ac ajD ak)) al ar aJ aq) apq rfl
def abK:Env:=(eZ [(257,agD)] [274])
def ah8:Hints:=(hZ [] [])
def abJ:PFn:=aC (runF Tryz.prog abK ah8 Tryz.f189)
def aqb:TH:={ loops:=[],ro:=[2,3] }
def zdp (a0:List Int) (a1:List Int):Option (List Int) :=
(za3 a0 a1 ()).bind fun r1 =>
 some r1
def tZ:TFn:={ ps:=(.cons (.arr 16 (.int .i64)) (.cons (.arr 16 (.int .i64)) .unit)),res:=(.arr 16 (.int .i64)),fn:=fun v=>zdp v.1 v.2.1 }
def ah7:TEnv:=(vZ [(257,wH)])
theorem ah6:runY Tryz.prog abK ah8 ah7 aqb Tryz.f189 tZ.ps tZ.res=tZ.fn:=by kernel_rfl
theorem abI:aB Tryz.prog G0 189 abJ:=ai (aj ⟨au,(ah agC ae),ap,ae,an⟩ Tryz.func189 rfl (by kernel_rfl))
theorem ah5:TOk abJ tZ:=ay (E:=abK) (ET:=ah7) (EnvT.ofX (ax (ac apo ak)) al ar aJ aq) ah6 rfl
def acE:Env:={ pure:=[(188,vj),(189,abJ)],raw:=[(186,afq),(187,zP)],glob:=G0,same:=[274],look:=[],ext:=[] }
def ajy:Hints:=(hZ [] [19])
def acD:PFn:=aC (runF Tryz.prog acE ajy Tryz.f112)
def aqy:TH:={ loops:=[],ro:=[2,3] }
def zcs (a0:vV3) (a1:vV3):Option vV3 :=
(zav ([a0.2.1,a1.2.1]:List vV7)).bind fun n1 =>
(zao n1).bind fun q2 =>
(zdp a0.1 a1.1).bind fun r3 =>
(zc4 r3 q2.2.1).bind fun r4 =>
 some r4
def uI:TFn:={ ps:=(.cons tT12 (.cons tT12 .unit)),res:=tT12,fn:=fun v=>zcs v.1 v.2.1 }
def ajx:TEnv:={ pure:=[(188,pw),(189,tZ)],look:=[],glob:=G0T,ty:=[(64,(.sl tT10))],raw:=[(187,afK)],fresh:=[(186,zJ)] }
theorem ajw:runY Tryz.prog acE ajy ajx aqy Tryz.f112 uI.ps uI.res=uI.fn:=by kernel_rfl
theorem acC:aB Tryz.prog G0 112 acD:=ai (aj ⟨au,(ah px (ah abI ae)),(bZ afp (bZ wi ap)),ae,an⟩ Tryz.func112 rfl (by kernel_rfl))
theorem ajv:TOk acD uI:=ay (E:=acE) (ET:=ajx) (EnvT.ofX (ax (ac vi (ac ah5 ak))) al (ea (fe aa8 rfl rfl ar) rfl) aJ (eh anI rfl rfl rfl aq)) ajw rfl
def ac6:Env:=(eZ [(112,acD),(113,ze)] [274])
def akh:Hints:=(hZ [] [])
def zu:PFn:=aC (runF Tryz.prog ac6 akh Tryz.f45)
def aqK:TH:=yZ
def zcg (a0:vV0) (a1:List (Int×Int×Unit)):Option vV0 :=
(zds a1).bind fun r1 =>
(zcs a0.2.2.2.1 r1).bind fun r2 =>
 some (a0.1,a0.2.1,a0.2.2.1,r2,a0.2.2.2.2.1,())
def sv:TFn:={ ps:=(.cons tT8 (.cons (.sl tT10) .unit)),res:=tT8,fn:=fun v=>zcg v.1 v.2.1 }
def akg:TEnv:=(vZ [(112,uI),(113,sj)])
theorem akf:runY Tryz.prog ac6 akh akg aqK Tryz.f45 sv.ps sv.res=sv.fn:=by kernel_rfl
theorem uV:aB Tryz.prog G0 45 zu:=ai (aj ⟨au,(ah acC (ah tW ae)),ap,ae,an⟩ Tryz.func45 rfl (by kernel_rfl))
theorem aa3:TOk zu sv:=ay (E:=ac6) (ET:=akg) (EnvT.ofX (ax (ac ajv (ac aaV ak))) al ar aJ aq) akf rfl
def aeG:Env:=(eZ [(45,zu),(97,vp),(104,zA)] [274])
def amJ:Hints:=(hZ [(2,[2,3,4,8,9,10])] [])
def aeF:PFn:=aC (runF Tryz.prog aeG amJ Tryz.f106)
def arq:TH:={ joins:=[(6,{ keep:=[(2,(.bx 0 0)),(3,(.bx 1 0)),(4,(.bx 2 0))],mem:=[.box 69 tT8,.same,.box 69 (.agg (.cons .nilsl (.cons .nilsl (.cons tT15 (.cons tT15 (.cons (.arr 8 .nilsl) .unit))))))] })],loops:=[(2,{ keep:=[(2,(.bx 0 0)),(3,(.bx 1 0)),(4,(.bx 2 0)),(10,(.int .i64))],mem:=[.box 69 tT8,.same,.box 69 (.agg (.cons .nilsl (.cons .nilsl (.cons tT15 (.cons tT15 (.cons (.arr 8 .nilsl) .unit))))))] })],ro:=[3] }
def amG (a1:(List vV1×List vV2×List (Int×Int×Unit)×Unit)) (y2:(Int×vV0×(Unit×Unit×vV5×vV5×List Unit×Unit)×Unit)):Option ((Int×vV0×(Unit×Unit×vV5×vV5×List Unit×Unit)×Unit)⊕((vV0×(Unit×Unit×vV5×vV5×List Unit×Unit)×Unit)⊕vV0)) :=
 cond (decide (y2.1<(a1.1.length:Int))) (
(atI a1.1 y2.1).bind fun x1 =>
(zc0 y2.2.1 x1).bind fun r2 =>
 some (.inl ((IntKind.wrap .i64 (y2.1+1)),r2,y2.2.2.1,()))) (
 some (.inr (.inl (y2.2.1,y2.2.2.1,()))))
def zbc (a0:vV0) (a1:(List vV1×List vV2×List (Int×Int×Unit)×Unit)):Option vV0 :=
(aN (amG a1) (0,a0,((),(),([0,0,0,0,0,0,0,0,0,0,0,0,0,0,0,0],(),()),([0,0,0,0,0,0,0,0,0,0,0,0,0,0,0,0],(),()),[(),(),(),(),(),(),(),()],()),()):Option ((vV0×(Unit×Unit×vV5×vV5×List Unit×Unit)×Unit)⊕vV0)).bind (bw fun v3 =>
(zbo v3.1 a1.2.1).bind fun r4 =>
(zcg r4 a1.2.2.1).bind fun r5 =>
 some r5)
def vO:TFn:={ ps:=(.cons tT8 (.cons (.agg (.cons (.sl tT9) (.cons (.sl tT11) (.cons (.sl tT10) .unit)))) .unit)),res:=tT8,fn:=fun v=>zbc v.1 v.2.1 }
def amI:TEnv:=(vZ [(45,sv),(97,pA),(104,sB)])
theorem amH:runY Tryz.prog aeG amJ amI arq Tryz.f106 vO.ps vO.res=vO.fn:=by kernel_rfl
theorem aeE:aB Tryz.prog G0 106 aeF:=ai (aj ⟨au,(ah uV (ah pB (ah vD ae))),ap,ae,an⟩ Tryz.func106 rfl (by kernel_rfl))
theorem amF:TOk aeF vO:=ay (E:=aeG) (ET:=amI) (EnvT.ofX (ax (ac aa3 (ac vo (ac aa7 ak)))) al ar aJ aq) amH rfl
def afs:Go.Shelf.Ren:=⟨fun | 41=>182 | n=>n,fun | 22=>39 | 23=>82 | 4=>4 | n=>n,fun | n=>n⟩
theorem zK:Go.Proofs.SlLaysE0.n41 Tryz.prog afs:={
 mixed:=by kernel_rfl
 f41:=⟨Tryz.f182.name,by decide,Tryz.func182.trans (congrArg some (by kernel_rfl))⟩
 t4:=Tryz.underlying4
 a4:=Tryz.isAgg4
 z4:=Tryz.sizeOf4
 v4:=Tryz.zeroValue4
 t22:=Tryz.underlying39
 a22:=Tryz.isAgg39
 z22:=Tryz.sizeOf39
 v22:=Tryz.zeroValue39 }
def afu:PFn:=(iH 3)
theorem aft:aB Tryz.prog G0 182 afu:=clone_lays zK 3 ⟨Tryz.f182,Tryz.func182,rfl,by kernel_rfl⟩ (by kernel_rfl) (by kernel_rfl) (by kernel_rfl) (by kernel_rfl) (by kernel_rfl) (by decide) (fun w=>Tryz.sizeOf82 w)
def zau (a0:List vV2):Option (List vV2):=er a0
def anN:TFn:=eN tT11
theorem anM:TOk afu anN:=kl rfl rfl rfl
def afv:Go.Shelf.Ren:=⟨fun | 41=>181 | n=>n,fun | 22=>22 | 23=>78 | 4=>4 | n=>n,fun | n=>n⟩
theorem zL:Go.Proofs.SlLaysE0.n41 Tryz.prog afv:={
 mixed:=by kernel_rfl
 f41:=⟨Tryz.f181.name,by decide,Tryz.func181.trans (congrArg some (by kernel_rfl))⟩
 t4:=Tryz.underlying4
 a4:=Tryz.isAgg4
 z4:=Tryz.sizeOf4
 v4:=Tryz.zeroValue4
 t22:=Tryz.underlying22
 a22:=Tryz.isAgg22
 z22:=Tryz.sizeOf22
 v22:=Tryz.zeroValue22 }
def afx:PFn:=(iH 6)
theorem afw:aB Tryz.prog G0 181 afx:=clone_lays zL 6 ⟨Tryz.f181,Tryz.func181,rfl,by kernel_rfl⟩ (by kernel_rfl) (by kernel_rfl) (by kernel_rfl) (by kernel_rfl) (by kernel_rfl) (by decide) (fun w=>Tryz.sizeOf78 w)
def zat (a0:List vV1):Option (List vV1):=er a0
def anP:TFn:=eN tT9
theorem anO:TOk afx anP:=kl rfl rfl rfl
def afy:Go.Shelf.Ren:=⟨fun | 41=>180 | n=>n,fun | 22=>64 | 23=>72 | 4=>4 | n=>n,fun | n=>n⟩
theorem zM:Go.Proofs.SlLaysE0.n41 Tryz.prog afy:={
 mixed:=by kernel_rfl
 f41:=⟨Tryz.f180.name,by decide,Tryz.func180.trans (congrArg some (by kernel_rfl))⟩
 t4:=Tryz.underlying4
 a4:=Tryz.isAgg4
 z4:=Tryz.sizeOf4
 v4:=Tryz.zeroValue4
 t22:=Tryz.underlying64
 a22:=Tryz.isAgg64
 z22:=Tryz.sizeOf64
 v22:=Tryz.zeroValue64 }
def afA:PFn:=(iH 2)
theorem afz:aB Tryz.prog G0 180 afA:=clone_lays zM 2 ⟨Tryz.f180,Tryz.func180,rfl,by kernel_rfl⟩ (by kernel_rfl) (by kernel_rfl) (by kernel_rfl) (by kernel_rfl) (by kernel_rfl) (by decide) (fun w=>Tryz.sizeOf72 w)
def zas (a0:List (Int×Int×Unit)):Option vV7:=er a0
def anR:TFn:=eN tT10
theorem anQ:TOk afA anR:=kl rfl rfl rfl
def aeW:Env:=(eZ [(180,afA),(181,afx),(182,afu)] [274])
def am7:Hints:=(hZ [(6,[1,2,26,27])] [])
def aeV:PFn:=aC (runF Tryz.prog aeW am7 Tryz.f107)
def arx:TH:={ loops:=[(6,{ keep:=[(1,(.bx 0 0)),(2,(.bx 1 0)),(27,(.int .i64))],mem:=[.box 69 tT8,.box 69 (.agg (.cons .nilsl (.cons .nilsl (.cons tT15 (.cons tT15 (.cons (.arr 8 .nilsl) .unit))))))] })],ro:=[] }
def am4 (a0:vV0) (y6:(Int×vV0×(Unit×Unit×vV5×vV5×List Unit×Unit)×Unit)):Option ((Int×vV0×(Unit×Unit×vV5×vV5×List Unit×Unit)×Unit)⊕vV0) :=
 cond (decide (y6.1<8)) (
(atI a0.2.2.2.2.1 y6.1).bind fun x5 =>
(zas x5).bind fun r6 =>
(inI 8 y6.1).bind fun i7 =>
(y6.2.1.2.2.2.2.1[i7]?).bind fun x8 =>
 some (.inl ((IntKind.wrap .i64 (y6.1+1)),(y6.2.1.1,y6.2.1.2.1,y6.2.1.2.2.1,y6.2.1.2.2.2.1,(y6.2.1.2.2.2.2.1.set i7 r6),()),y6.2.2.1,()))) (
 some (.inr y6.2.1))
def zb6 (a0:vV0):Option vV0 :=
(zat a0.1).bind fun r1 =>
(zau a0.2.1).bind fun r2 =>
(zas a0.2.2.1.2.1).bind fun r3 =>
(zas a0.2.2.2.1.2.1).bind fun r4 =>
 aN (am4 a0) (0,(r1,r2,(a0.2.2.1.1,r3,()),(a0.2.2.2.1.1,r4,()),a0.2.2.2.2.1,()),((),(),([0,0,0,0,0,0,0,0,0,0,0,0,0,0,0,0],(),()),([0,0,0,0,0,0,0,0,0,0,0,0,0,0,0,0],(),()),[(),(),(),(),(),(),(),()],()),())
def vT:TFn:={ ps:=(.cons tT8 .unit),res:=tT8,fn:=fun v=>zb6 v.1 }
def am6:TEnv:=(vZ [(180,anR),(181,anP),(182,anN)])
theorem am5:runY Tryz.prog aeW am7 am6 arx Tryz.f107 vT.ps vT.res=vT.fn:=by kernel_rfl
theorem aeU:aB Tryz.prog G0 107 aeV:=ai (aj ⟨au,(ah afz (ah afw (ah aft ae))),ap,ae,an⟩ Tryz.func107 rfl (by kernel_rfl))
theorem am3:TOk aeV vT:=ay (E:=aeW) (ET:=am6) (EnvT.ofX (ax (ac anQ (ac anO (ac anM ak)))) al ar aJ aq) am5 rfl
def ade:Env:=(eZ [(97,vp),(104,zA),(105,ae1),(106,aeF),(107,aeV)] [274])
def aks:Hints:=(hZ [] [])
def adc:PFn:=aC (runF Tryz.prog ade aks Tryz.f40)
def aqN:TH:={ loops:=[],ro:=[3] }
def zcd (a0:vV0) (a1:vV6):Option vV0 :=
 cond (decide (a1.1=1)) (
(zc0 a0 a1.2.1).bind fun r1 =>
(inI 8 a1.2.1.2.1).bind fun i2 =>
(r1.2.2.2.2.1[i2]?).bind fun x3 =>
 some (r1.1,r1.2.1,r1.2.2.1,r1.2.2.2.1,(r1.2.2.2.2.1.set i2 []),())) (
 cond (decide (a1.1=2)) (
(zbo a0 ([a1.2.2.2.1]:List vV2)).bind fun r4 =>
(inI 8 a1.2.2.1).bind fun i5 =>
(r4.2.2.2.2.1[i5]?).bind fun x6 =>
(zb4 x6 a1).bind fun r7 =>
(inI 8 a1.2.2.1).bind fun i8 =>
(r4.2.2.2.2.1[i8]?).bind fun x9 =>
 some (r4.1,r4.2.1,r4.2.2.1,r4.2.2.2.1,(r4.2.2.2.2.1.set i8 r7),())) (
 cond (decide (a1.1=3)) (
(zbc a0 a1.2.2.2.2.2.1).bind fun r10 =>
 some r10) (
 cond (decide (a1.1=4)) (
(zb6 a1.2.2.2.2.2.2.1).bind fun r11 =>
 some r11) (
 some a0))))
def uY:TFn:={ ps:=(.cons tT8 (.cons tT14 .unit)),res:=tT8,fn:=fun v=>zcd v.1 v.2.1 }
def akr:TEnv:={ pure:=[(97,pA),(104,sB),(105,vV),(106,vO),(107,vT)],look:=[],glob:=G0T,ty:=[(82,tT11)],raw:=[],fresh:=[] }
theorem akq:runY Tryz.prog ade aks akr aqN Tryz.f40 uY.ps uY.res=uY.fn:=by kernel_rfl
theorem adb:aB Tryz.prog G0 40 adc:=ai (aj ⟨au,(ah pB (ah vD (ah ae0 (ah aeE (ah aeU ae))))),ap,ae,an⟩ Tryz.func40 rfl (by kernel_rfl))
theorem akp:TOk adc uY:=ay (E:=ade) (ET:=akr) (EnvT.ofX (ax (ac vo (ac aa7 (ac anc (ac amF (ac am3 ak)))))) al ar aJ aq) akq rfl
def acA:Env:=(eZ [(75,uT),(100,ur)] [274])
def ajr:Hints:=(hZ [(5,[2,4,6,7])] [])
def zk:PFn:=aC (runF Tryz.prog acA ajr Tryz.f44)
def aqw:TH:={ loops:=[(5,{ keep:=[(2,(.bx 0 0)),(4,(.bx 1 0)),(7,(.int .i64))],mem:=[.box 69 tT8,.box 72 tT10] })],ro:=[] }
def kW (x2:List (Int×Int×Unit)) (y5:(Int×vV0×(Int×Int×Unit)×Unit)):Option ((Int×vV0×(Int×Int×Unit)×Unit)⊕vV2) :=
 cond (decide (y5.1≥0)) (
(atI x2 y5.1).bind fun x3 =>
(zci y5.2.1.2.1 x3).bind fun r4 =>
 cond r4 (
 some (.inl ((IntKind.wrap .i64 (y5.1-1)),y5.2.1,y5.2.2.1,()))) (
(atI x2 y5.1).bind fun x5 =>
(zdf y5.2.1 x5).bind fun r6 =>
 cond (!decide (r6=0)) (
 some (.inr ((0,0,()),r6,()))) (
(atI x2 y5.1).bind fun x7 =>
 some (.inr (x7,0,()))))) (
 some (.inr ((0,0,()),11,())))
def zcu (a0:vV0) (a1:Int):Option vV2 :=
 cond (decide (a1<0)) (some ((0,0,()),2,())) (cond (decide (a1≥8)) (
 some ((0,0,()),2,())) (
(inI 8 a1).bind fun i1 =>
(a0.2.2.2.2.1[i1]?).bind fun x2 =>
 aN (kW x2) ((IntKind.wrap .i64 ((x2.length:Int)-1)),a0,(0,0,()),())))
def sq:TFn:={ ps:=(.cons tT8 tT17),res:=(.tup (.cons tT10 tT17)),fn:=fun v=>zcu v.1 v.2.1 }
def ajq:TEnv:=(vZ [(75,pn),(100,pk)])
theorem ajp:runY Tryz.prog acA ajr ajq aqw Tryz.f44 sq.ps sq.res=sq.fn:=by kernel_rfl
theorem uG:aB Tryz.prog G0 44 zk:=ai (aj ⟨au,(ah po (ah pm ae)),ap,ae,an⟩ Tryz.func44 rfl (by kernel_rfl))
theorem aaZ:TOk zk sq:=ay (E:=acA) (ET:=ajq) (EnvT.ofX (ax (ac uS (ac uq ak))) al ar aJ aq) ajp rfl
def afe:Env:=(eZ [(35,zr),(39,acM),(40,adc),(44,zk),(97,vp),(98,ab3)] [274])
def anz:Hints:=(hZ [] [])
def afd:PFn:=aC (runF Tryz.prog afe anz Tryz.f34)
def arD:TH:={ loops:=[],cuts:=[(7,[(7,{ keep:=[(2,(.bx 1 0)),(7,(.bx 4 0)),(46,.bool)],mem:=[.gone,.box 72 tT10,.gone,.gone,.box 72 tT10,.gone] }),(4,{ keep:=[(2,(.bx 1 0)),(7,(.bx 4 0)),(50,.bool)],mem:=[.gone,.box 72 tT10,.gone,.gone,.box 72 tT10,.gone] })])],ro:=[],news:=[] }
def zb0:Option Bool :=
(zdh 1).bind fun r1 =>
(zc0 ([],[],([0,0,0,0,0,0,0,0,0,0,0,0,0,0,0,0],[],()),([0,0,0,0,0,0,0,0,0,0,0,0,0,0,0,0],[],()),[[],[],[],[],[],[],[],[]],()) r1).bind fun r2 =>
(zdh 2).bind fun r3 =>
(zc0 r2 r3).bind fun r4 =>
(zck r4 1).bind fun r5 =>
(zcp r4 1 r5.1 1).bind fun r6 =>
(zcd r4 r6.1).bind fun r7 =>
(zcu r7 1).bind fun r8 =>
(zck r4 0).bind fun r9 =>
(cond (decide (r5.2.1=0)) (some ((decide (r5.1.2.1=2)),r5.1,r8.1,())) (some (false,r5.1,r8.1,())):Option (Bool×(Int×Int×Unit)×(Int×Int×Unit)×Unit)).bind fun v10 =>
(cond v10.1 (some ((decide (r6.2.1=0)),v10.2.1,v10.2.2.1,())) (some (false,v10.2.1,v10.2.2.1,())):Option (Bool×(Int×Int×Unit)×(Int×Int×Unit)×Unit)).bind fun v11 =>
 cond v11.1 (cond (decide (r8.2.1=0)) (cond (eqV tT10 v11.2.2.1 v11.2.1) (some (decide (r9.2.1=11))) (some false)) (some false)) (some false)
def wa:TFn:={ ps:=.unit,res:=.bool,fn:=fun v=>zb0  }
def anx:TEnv:=(vZ [(35,su),(39,uL),(40,uY),(44,sq),(97,pA),(98,un)])
theorem anw:runY Tryz.prog afe anz anx arD Tryz.f34 wa.ps wa.res=wa.fn:=by kernel_rfl
theorem afc:aB Tryz.prog G0 34 afd:=ai (aj ⟨au,(ah uQ (ah acL (ah adb (ah uG (ah pB (ah ab2 ae)))))),ap,ae,an⟩ Tryz.func34 rfl (by kernel_rfl))
theorem anv:TOk afd wa:=ay (E:=afe) (ET:=anx) (EnvT.ofX (ax (ac aa2 (ac ajH (ac akp (ac aaZ (ac vo (ac aiz ak))))))) al ar aJ aq) anw rfl
def adk:Env:=(eZ [(75,uT),(100,ur),(114,zh),(115,ug)] [274])
def akA:Hints:=(hZ [] [])
def adj:PFn:=aC (runF Tryz.prog adk akA Tryz.f46)
def aqP:TH:={ loops:=[],ro:=[3,4] }
def zcb (a0:vV0) (a1:(Int×Int×Unit)) (a2:Bool):Option Int :=
(zdo a0.1 a1).bind fun r1 =>
 cond (decide (r1<0)) (
 some 12) (
(zdl a0.2.2.2.1 a1).bind fun r2 =>
 cond r2 (
 some 13) (
(zci a0.2.1 a1).bind fun r3 =>
 cond (r3==a2) (
 some 11) (
(zdf a0 a1).bind fun r4 =>
 some r4)))
def u6:TFn:={ ps:=(.cons tT8 (.cons tT10 (.cons .bool .unit))),res:=(.int .i64),fn:=fun v=>zcb v.1 v.2.1 v.2.2.1 }
def akz:TEnv:=(vZ [(75,pn),(100,pk),(114,sk),(115,pi)])
theorem aky:runY Tryz.prog adk akA akz aqP Tryz.f46 u6.ps u6.res=u6.fn:=by kernel_rfl
theorem adi:aB Tryz.prog G0 46 adj:=ai (aj ⟨au,(ah po (ah pm (ah t7 (ah pj ae)))),ap,ae,an⟩ Tryz.func46 rfl (by kernel_rfl))
theorem akx:TOk adj u6:=ay (E:=adk) (ET:=akz) (EnvT.ofX (ax (ac uS (ac uq (ac aaW (ac uf ak))))) al ar aJ aq) aky rfl
def aeT:Env:=(eZ [] [274])
def am2:Hints:=(hZ [] [])
def aeS:PFn:=aC (runF Tryz.prog aeT am2 Tryz.f47)
def arw:TH:={ loops:=[],ro:=[1] }
def zb7 (a0:(Int×Int×Unit)):Option Bool :=
 cond (decide (a0.1≥0)) (cond (decide (a0.1<16)) (cond (decide (a0.2.1≥1)) (some (decide (a0.2.1≤1048576))) (some false)) (some false)) (some false)
def vS:TFn:={ ps:=(.cons tT10 .unit),res:=.bool,fn:=fun v=>zb7 v.1 }
def am1:TEnv:=(vZ [])
theorem am0:runY Tryz.prog aeT am2 am1 arw Tryz.f47 vS.ps vS.res=vS.fn:=by kernel_rfl
theorem aeR:aB Tryz.prog G0 47 aeS:=ai (aj ⟨au,ae,ap,ae,an⟩ Tryz.func47 rfl (by kernel_rfl))
theorem amZ:TOk aeS vS:=ay (E:=aeT) (ET:=am1) (EnvT.ofX (ax ak) al ar aJ aq) am0 rfl
def agB:Env:=(eZ [(33,acp),(34,afd),(35,zr),(44,zk),(45,zu),(46,adj),(47,aeS)] [274])
def apm:Hints:=(hZ [] [])
def apn:PFn:=aC (runF Tryz.prog agB apm Tryz.f8)
def ar2:TH:={ joins:=[(9,{ keep:=[(6,(.bx 1 0))],mem:=[.same,.same,.gone,.gone,.gone] })],loops:=[],ro:=[4,6] }
def za4 (a0:vV0) (a1:Int) (a2:(Int×Int×Unit)) (a3:Bool):Option Bool :=
(zcy a0).bind fun r1 =>
 cond (!r1) (
(zb0).bind fun r2 =>
 some r2) (
(zcg a0 ([a2]:List (Int×Int×Unit))).bind fun r3 =>
(zck r3 a1).bind fun r4 =>
(zcu r3 a1).bind fun r5 =>
(zcb r3 a2 a3).bind fun r6 =>
(cond (decide (r4.2.1=0)) (cond (eqV tT10 r4.1 a2) ((zb7 a2).bind fun r7 =>
 cond (!r7) ((zb0).bind fun r8 =>
 some (.inr r8)) (some (.inr false))) (cond (decide (r5.2.1=0)) (cond (eqV tT10 r5.1 a2) (
(zb7 a2).bind fun r9 =>
 cond (!r9) ((zb0).bind fun r10 =>
 some (.inr r10)) (some (.inr false))) (
 some (.inl ()))) (some (.inl ())))) (cond (decide (r5.2.1=0)) (cond (eqV tT10 r5.1 a2) (
(zb7 a2).bind fun r11 =>
 cond (!r11) ((zb0).bind fun r12 =>
 some (.inr r12)) (some (.inr false))) (
 some (.inl ()))) (some (.inl ()))):Option (Unit⊕Bool)).bind (bw fun v13 =>
(zb7 a2).bind fun r14 =>
 cond (!r14) ((zb0).bind fun r15 =>
 some r15) (cond (decide (r6=13)) ((zb0).bind fun r16 =>
 some r16) (cond (decide (r6=12)) ((zb0).bind fun r17 =>
 some r17) (some false)))))
def pK:TFn:={ ps:=(.cons tT8 (.cons (.int .i64) (.cons tT10 (.cons .bool .unit)))),res:=.bool,fn:=fun v=>za4 v.1 v.2.1 v.2.2.1 v.2.2.2.1 }
def apl:TEnv:={ pure:=[(33,uC),(34,wa),(35,su),(44,sq),(45,sv),(46,u6),(47,vS)],look:=[],glob:=G0T,ty:=[(72,tT10)],raw:=[],fresh:=[] }
theorem apk:runY Tryz.prog agB apm apl ar2 Tryz.f8 pK.ps pK.res=pK.fn:=by kernel_rfl
theorem za4_Fok:aB Tryz.prog G0 8 apn:=ai (aj ⟨au,(ah aco (ah afc (ah uQ (ah uG (ah uV (ah adi (ah aeR ae))))))),ap,ae,an⟩ Tryz.func8 rfl (by kernel_rfl))
theorem za4_ok:TOk apn pK:=ay (E:=agB) (ET:=apl) (EnvT.ofX (ax (ac ai7 (ac anv (ac aa2 (ac aaZ (ac aa3 (ac akx (ac amZ ak)))))))) al ar aJ aq) apk rfl
end
end Go.Proofs.YtnbgkhdcidbkaaaGreatDoor.Y
