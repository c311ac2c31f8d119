import Derived.Test.YtnbgkhdcidbkaaaGreatDoorS
import Derived.Test.YtnbgkhdcidbkaaaGreatDoorT29
import GoSem.PinnedTables
set_option linter.unusedVariables false
set_option maxRecDepth 100000
namespace Go.Proofs.YtnbgkhdcidbkaaaGreatDoor.Y
open Go.EM Go.TY Go.Proofs
theorem zb.{u,v}{A:Type u}{B:Type v} (a:A) (f:A→Option B):(some a).bind f=f a:=rfl
theorem zg.{u}{A:Type u}{l:List A}{i:Nat} (h:i<l.length):l[i]? = some l[i]:=List.getElem?_eq_getElem h
theorem zl.{u}{A:Type u}{a:A}{l:List A}:(a::l).length=l.length+1:=rfl
theorem zf {p:Prop} [Decidable p] (h:¬p):decide p=false:=decide_eq_false h
theorem zn.{u}{c:Prop}{h:Decidable c} (hc:¬c) {A:Sort u}{t e:A}:ite c t e=e:=if_neg hc
theorem zp.{u}{c:Prop}{h:Decidable c} (hc:c) {A:Sort u}{t e:A}:ite c t e=t:=if_pos hc
theorem zm.{u}{A:Type u}{l:List A}{n:Nat} (h:n<l.length):l[n]∈l:=List.getElem_mem h
theorem zt {p:Prop} [Decidable p] (h:p):decide p=true:=decide_eq_true h
noncomputable section
def fR:List Int:=Go.Pinned.utf8FirstZ.map fun (n:Nat)=>(n:Int)
def eB:List (Int×Int×Unit):=[(128,191,()),(160,191,()),(128,159,()),(144,191,()),(128,143,()),(0,0,()),(0,0,()),(0,0,()),(0,0,()),(0,0,()),(0,0,()),(0,0,()),(0,0,()),(0,0,()),(0,0,()),(0,0,())]
def G0:List (Nat×AVal):=[(0,.rptr (fR.map (AVal.int .u8))),(1,.rptr (eB.flatMap fun p=>[AVal.int .u8 p.1,AVal.int .u8 p.2.1]))]
def G0T:List (Nat×TV):=[(0,⟨.rp (.arr 256 (.int .u8)) 0,fR⟩),(1,⟨.rp (.arr 16 (.agg (.cons (.int .u8) (.cons (.int .u8) .unit)))) 0,eB⟩)]
theorem aL:kI G0 G0T:=po rfl rfl (ael (by kernel_rfl)) (po rfl rfl (aau (by kernel_rfl)) aek)
theorem au:∀ f,memN f [274]=true→Same Tryz.prog f:=by
 intro f h
 by_cases e274:f=274
 · subst e274; exact ⟨Tryz.f274,Tryz.func274,by kernel_rfl,by kernel_rfl,by kernel_rfl,by kernel_rfl⟩
 simp_all [memN]
def eZ (l:List (Nat×PFn)) (s:List Nat):Env:={ pure:=l,raw:=[],glob:=G0,same:=s,look:=[],ext:=[] }
def vZ (l:List (Nat×TFn)):TEnv:={ pure:=l,look:=[],glob:=G0T,ty:=[],raw:=[],fresh:=[] }
def hZ (l:List (Nat×List Nat)) (o:List Nat):Hints:={ seqs:=[],loops:=l,own:=o }
def yZ:TH:={ joins:=[],loops:=[],cuts:=[],ro:=[],news:=[] }
abbrev vV0:=(List (List UInt8)×Int×List (Int×Int×List UInt8×Unit)×Int×Unit)
abbrev vV1:=(Int×List (List UInt8)×(Int×Int×List UInt8×Unit)×Int×List ((Int×Int×Unit)×Int×Unit)×Unit)
abbrev vV2:=((Int×Int×Unit)×Int×Unit)
abbrev vV3:=(Int×Int×List UInt8×Unit)
abbrev vV4:=(List (List UInt8)×Int×Unit)
abbrev vV5:=((Int×Int×Unit)×Int×Int×Bool×List vV1×Unit)
abbrev vV6:=(vV2×vV1×Int×Unit)
abbrev vV7:=(Int×vV0×vV0×Unit)
abbrev vV8:=(List (List UInt8)×List vV0×Int×Unit)
abbrev vV9:=(List (List UInt8)×List (List UInt8)×Unit)
abbrev vV10:=(Int×List vV4×Unit)
abbrev vV11:=(Int×List (vV2×Bool)×Unit)
abbrev tT12:Ty:=(.agg (.cons (.sl .str) (.cons (.int .i64) (.cons (.sl (.agg (.cons (.int .i64) (.cons (.int .i64) (.cons .str .unit))))) (.cons (.int .i64) .unit)))))
abbrev tT13:Ty:=(.agg (.cons (.int .i64) (.cons (.sl .str) (.cons (.agg (.cons (.int .i64) (.cons (.int .i64) (.cons .str .unit)))) (.cons (.int .i64) (.cons (.sl (.agg (.cons (.agg (.cons (.int .i64) (.cons (.int .i64) .unit))) (.cons (.int .i64) .unit)))) .unit))))))
abbrev tT14:Ty:=(.agg (.cons (.agg (.cons (.int .i64) (.cons (.int .i64) .unit))) (.cons (.int .i64) .unit)))
abbrev tT15:Ty:=(.agg (.cons (.int .i64) (.cons (.int .i64) (.cons .str .unit))))
abbrev tT16:Ty:=(.cons (.int .i64) .unit)
abbrev tT17:Ty:=(.agg (.cons (.agg (.cons (.int .i64) tT16)) (.cons (.int .i64) (.cons (.int .i64) (.cons .bool (.cons (.sl tT13) .unit))))))
abbrev tT18:Ty:=(.agg (.cons (.int .i64) (.cons tT12 (.cons tT12 .unit))))
abbrev tT19:Ty:=(.agg (.cons tT14 (.cons tT13 tT16)))
abbrev tT20:Ty:=(.agg (.cons (.sl .str) tT16))
abbrev tT21:Ty:=(.agg (.cons (.sl .str) (.cons (.sl tT12) tT16)))
abbrev tT22:Ty:=(.cons (.sl .str) .unit)
abbrev tT23:Ty:=(.cons (.agg (.cons (.int .i64) tT16)) .unit)
def ai7:Env:=(eZ [] [274])
def apU:Hints:=(hZ [] [])
def afo:PFn:=aH (runF Tryz.prog ai7 apU Tryz.f172)
def axh:TH:=yZ
def zcv (a0:Int) (a1:Int):Option Int :=
 cond (decide (a0<a1)) (
 some (-1)) (
 cond (decide (a0>a1)) (
 some 1) (
 some 0))
def yT:TFn:={ ps:=(.cons (.int .i64) tT16),res:=(.int .i64),fn:=fun v=>zcv v.1 v.2.1 }
def apT:TEnv:=(vZ [])
theorem apS:runY Tryz.prog ai7 apU apT axh Tryz.f172 yT.ps yT.res=yT.fn:=by kernel_rfl
theorem abj:aA Tryz.prog G0 172 afo:=ai (ak ⟨au,ae,ap,ae,an⟩ Tryz.func172 rfl (by kernel_rfl))
theorem ahr:TOk afo yT:=az (E:=ai7) (ET:=apT) (EnvT.ofX (ax al) am ar aL aq) apS rfl
def ak9:Env:=(eZ [(172,afo)] [274])
def ate:Hints:=(hZ [] [])
def acg:PFn:=aH (runF Tryz.prog ak9 ate Tryz.f101)
def aya:TH:={ loops:=[],ro:=[2,3] }
def zbc (a0:(Int×Int×Unit)) (a1:(Int×Int×Unit)):Option Int :=
 cond (!decide (a0.1=a1.1)) (
(zcv a0.1 a1.1).bind fun r1 =>
 some r1) (
(zcv a0.2.1 a1.2.1).bind fun r2 =>
 some r2)
def uN:TFn:={ ps:=(.cons (.agg (.cons (.int .i64) tT16)) tT23),res:=(.int .i64),fn:=fun v=>zbc v.1 v.2.1 }
def atd:TEnv:=(vZ [(172,yT)])
theorem atc:runY Tryz.prog ak9 ate atd aya Tryz.f101 uN.ps uN.res=uN.fn:=by kernel_rfl
theorem uO:aA Tryz.prog G0 101 acg:=ai (ak ⟨au,(aj abj ae),ap,ae,an⟩ Tryz.func101 rfl (by kernel_rfl))
theorem acf:TOk acg uN:=az (E:=ak9) (ET:=atd) (EnvT.ofX (ax (ah ahr al)) am ar aL aq) atc rfl
def alv:Env:=(eZ [(101,acg)] [274])
def atE:Hints:=(hZ [(2,[0,3])] [])
def alu:PFn:=aH (runF Tryz.prog alv atE Tryz.f152)
def ayh:TH:={ loops:=[(2,{ keep:=[(3,(.int .i64))],mem:=[] })],ro:=[] }
def xd (a0:List vV5) (y2:(Int×Unit)):Option ((Int×Unit)⊕Bool) :=
 cond (decide (y2.1<(a0.length:Int))) (
(atI a0 (IntKind.wrap .i64 (y2.1-1))).bind fun x1 =>
(atI a0 y2.1).bind fun x2 =>
(zbc x1.1 x2.1).bind fun r3 =>
 cond (!decide (r3=(-1))) (
 some (.inr false)) (
 some (.inl ((IntKind.wrap .i64 (y2.1+1)),())))) (
 some (.inr true))
def zb5 (a0:List vV5):Option Bool :=
 aI (xd a0) (1,())
def aco:TFn:={ ps:=(.cons (.sl tT17) .unit),res:=.bool,fn:=fun v=>zb5 v.1 }
def atD:TEnv:=(vZ [(101,uN)])
theorem atC:runY Tryz.prog alv atE atD ayh Tryz.f152 aco.ps aco.res=aco.fn:=by kernel_rfl
theorem alt:aA Tryz.prog G0 152 alu:=ai (ak ⟨au,(aj uO ae),ap,ae,an⟩ Tryz.func152 rfl (by kernel_rfl))
theorem atB:TOk alu aco:=az (E:=alv) (ET:=atD) (EnvT.ofX (ax (ah acf al)) am ar aL aq) atC rfl
def alw:Env:=(eZ [] [274])
def atH:Hints:=(hZ [(4,[0,3])] [])
def afG:PFn:=aH (runF Tryz.prog alw atH Tryz.f15)
def ayi:TH:={ loops:=[(4,{ keep:=[(3,(.int .i64))],mem:=[] })],ro:=[] }
def xe (a0:List (List UInt8)) (y4:(Int×Unit)):Option ((Int×Unit)⊕Bool) :=
 cond (decide (y4.1<(a0.length:Int))) (
(atI a0 y4.1).bind fun x1 =>
 cond (decide ((x1.length:Int)>120)) (
 some (.inr false)) (
 some (.inl ((IntKind.wrap .i64 (y4.1+1)),())))) (
 some (.inr true))
def zb4 (a0:List (List UInt8)):Option Bool :=
 cond (decide ((a0.length:Int)>12)) (
 some false) (
 aI (xe a0) (0,()))
def zr:TFn:={ ps:=tT22,res:=.bool,fn:=fun v=>zb4 v.1 }
def atG:TEnv:=(vZ [])
theorem atF:runY Tryz.prog alw atH atG ayi Tryz.f15 zr.ps zr.res=zr.fn:=by kernel_rfl
theorem acp:aA Tryz.prog G0 15 afG:=ai (ak ⟨au,ae,ap,ae,an⟩ Tryz.func15 rfl (by kernel_rfl))
theorem ahG:TOk afG zr:=az (E:=alw) (ET:=atG) (EnvT.ofX (ax al) am ar aL aq) atF rfl
def alF:Env:=(eZ [(15,afG)] [274])
def atV:Hints:=(hZ [] [])
def alE:PFn:=aH (runF Tryz.prog alF atV Tryz.f108)
def ayl:TH:={ loops:=[],ro:=[1] }
def zb1 (a0:vV1):Option Bool :=
(zb4 a0.2.1).bind fun r1 =>
 cond r1 (cond (decide ((a0.2.2.1.2.2.1.length:Int)≤200)) (some (decide ((a0.2.2.2.2.1.length:Int)≤300))) (some false)) (some false)
def acs:TFn:={ ps:=(.cons tT13 .unit),res:=.bool,fn:=fun v=>zb1 v.1 }
def atU:TEnv:=(vZ [(15,zr)])
theorem atT:runY Tryz.prog alF atV atU ayl Tryz.f108 acs.ps acs.res=acs.fn:=by kernel_rfl
theorem alD:aA Tryz.prog G0 108 alE:=ai (ak ⟨au,(aj acp ae),ap,ae,an⟩ Tryz.func108 rfl (by kernel_rfl))
theorem atS:TOk alE acs:=az (E:=alF) (ET:=atU) (EnvT.ofX (ax (ah ahG al)) am ar aL aq) atT rfl
def aku:Env:=(eZ [(108,alE)] [274])
def ar8:Hints:=(hZ [(4,[1,3])] [])
def akt:PFn:=aH (runF Tryz.prog aku ar8 Tryz.f41)
def axS:TH:={ loops:=[(4,{ keep:=[(1,(.bx 0 0)),(3,(.int .i64))],mem:=[.same] })],ro:=[1] }
def wX (a0:vV5) (y4:(Int×Unit)):Option ((Int×Unit)⊕Bool) :=
 cond (decide (y4.1<(a0.2.2.2.2.1.length:Int))) (
(atI a0.2.2.2.2.1 y4.1).bind fun x1 =>
(zb1 x1).bind fun r2 =>
 cond (!r2) (
 some (.inr false)) (
 some (.inl ((IntKind.wrap .i64 (y4.1+1)),())))) (
 some (.inr true))
def zbu (a0:vV5):Option Bool :=
 cond (decide ((a0.2.2.2.2.1.length:Int)>20)) (
 some false) (
 aI (wX a0) (0,()))
def abV:TFn:={ ps:=(.cons tT17 .unit),res:=.bool,fn:=fun v=>zbu v.1 }
def ar7:TEnv:=(vZ [(108,acs)])
theorem ar6:runY Tryz.prog aku ar8 ar7 axS Tryz.f41 abV.ps abV.res=abV.fn:=by kernel_rfl
theorem aks:aA Tryz.prog G0 41 akt:=ai (ak ⟨au,(aj alD ae),ap,ae,an⟩ Tryz.func41 rfl (by kernel_rfl))
theorem ar5:TOk akt abV:=az (E:=aku) (ET:=ar7) (EnvT.ofX (ax (ah atS al)) am ar aL aq) ar6 rfl
def akr:Env:=(eZ [] [274])
def ar4:Hints:=(hZ [] [])
def abU:PFn:=aH (runF Tryz.prog akr ar4 Tryz.f109)
def axR:TH:={ loops:=[],ro:=[1] }
def zbv (a0:(Int×Int×Unit)):Option Bool :=
 cond (decide (a0.1≥0)) (cond (decide (a0.1≤15)) (cond (decide (a0.2.1≥1)) (some (decide (a0.2.1≤1048576))) (some false)) (some false)) (some false)
def uJ:TFn:={ ps:=tT23,res:=.bool,fn:=fun v=>zbv v.1 }
def ar3:TEnv:=(vZ [])
theorem ar2:runY Tryz.prog akr ar4 ar3 axR Tryz.f109 uJ.ps uJ.res=uJ.fn:=by kernel_rfl
theorem uK:aA Tryz.prog G0 109 abU:=ai (ak ⟨au,ae,ap,ae,an⟩ Tryz.func109 rfl (by kernel_rfl))
theorem abT:TOk abU uJ:=az (E:=akr) (ET:=ar3) (EnvT.ofX (ax al) am ar aL aq) ar2 rfl
def ai6:Env:=(eZ [] [274])
def apR:Hints:=(hZ [(17,[0,4,5,6,7])] [])
def ai5:PFn:=aH (runF Tryz.prog ai6 apR Tryz.f216)
def axg:TH:={ joins:=[(14,{ keep:=[(4,(.int .i64)),(5,(.int .i64)),(6,(.int .i64))],mem:=[] }),(9,{ keep:=[(18,.bool)],mem:=[] }),(22,{ keep:=[(4,(.int .i64))],mem:=[] }),(24,{ keep:=[],mem:=[] })],loops:=[(17,{ keep:=[(4,(.int .i64)),(7,(.int .i64))],mem:=[] })],ro:=[] }
def gu (a0:List UInt8) (v3:(Int×Int×Int×Unit)) (y17:(Int×Int×Unit)):Option ((Int×Int×Unit)⊕((Int×Unit)⊕(Int×Int×Unit))) :=
 cond (decide (y17.2.1<v3.2.1)) (
(atI a0 y17.2.1).bind fun b4 =>
 cond (decide ((b4.toNat:Int)<128)) (some (.inr (.inr (0,0,())))) ((atI a0 y17.2.1).bind fun b5 =>
 cond (decide ((b5.toNat:Int)>191)) (
 some (.inr (.inr (0,0,())))) (
(atI a0 y17.2.1).bind fun b6 =>
 some (.inl ((IntKind.wrap .i64 ((IntKind.wrap .i64 ((IntKind.wrap .i64 (64*y17.1))+(IntKind.wrap .i64 (b6.toNat:Int))))-128)),(IntKind.wrap .i64 (y17.2.1+1)),()))))) (
 some (.inr (.inl (y17.1,()))))
def zcw (a0:List UInt8):Option (Int×Int×Unit) :=
 cond (decide ((a0.length:Int)=0)) (
 some (0,0,())) (
(atI a0 0).bind fun b1 =>
(cond (decide ((IntKind.wrap .i64 (b1.toNat:Int))<128)) (
 some (.inr ((IntKind.wrap .i64 (b1.toNat:Int)),1,()))) (
(cond (decide ((IntKind.wrap .i64 (b1.toNat:Int))≥194)) (some (.inl ((decide ((IntKind.wrap .i64 (b1.toNat:Int))<224)),()))) (some (.inl (false,()))):Option ((Bool×Unit)⊕((Int×Int×Int×Unit)⊕(Int×Int×Unit)))).bind (aV fun v2 =>
 cond v2.1 (
 some (.inl ((IntKind.wrap .i64 ((IntKind.wrap .i64 (b1.toNat:Int))-192)),2,128,()))) (
 cond (decide ((IntKind.wrap .i64 (b1.toNat:Int))≥224)) (cond (decide ((IntKind.wrap .i64 (b1.toNat:Int))<240)) (
 some (.inl ((IntKind.wrap .i64 ((IntKind.wrap .i64 (b1.toNat:Int))-224)),3,2048,()))) (
 cond (decide ((IntKind.wrap .i64 (b1.toNat:Int))≥240)) (cond (decide ((IntKind.wrap .i64 (b1.toNat:Int))<245)) (
 some (.inl ((IntKind.wrap .i64 ((IntKind.wrap .i64 (b1.toNat:Int))-240)),4,65536,()))) (
 some (.inr (0,0,())))) (some (.inr (0,0,()))))) (cond (decide ((IntKind.wrap .i64 (b1.toNat:Int))≥240)) (cond (decide ((IntKind.wrap .i64 (b1.toNat:Int))<245)) (
 some (.inl ((IntKind.wrap .i64 ((IntKind.wrap .i64 (b1.toNat:Int))-240)),4,65536,()))) (
 some (.inr (0,0,())))) (some (.inr (0,0,()))))))):Option ((Int×Int×Int×Unit)⊕(Int×Int×Unit))).bind (aV fun v3 =>
 cond (decide ((a0.length:Int)<v3.2.1)) (
 some (0,0,())) (
(aI (gu a0 v3) (v3.1,1,()):Option ((Int×Unit)⊕(Int×Int×Unit))).bind (aV fun v7 =>
(cond (decide (v7.1<v3.2.2.1)) (some (.inr (0,0,()))) (cond (decide (v7.1>1114111)) (some (.inr (0,0,()))) (cond (decide (v7.1≥55296)) (cond (decide (v7.1≤57343)) (
 some (.inr (0,0,()))) (
 some (.inl ()))) (some (.inl ())))):Option (Unit⊕(Int×Int×Unit))).bind (aV fun v8 =>
 some (v7.1,v3.2.1,()))))))
def abi:TFn:={ ps:=(.cons .str .unit),res:=(.tup (.cons (.int .i64) tT16)),fn:=fun v=>zcw v.1 }
def apQ:TEnv:=(vZ [])
theorem apP:runY Tryz.prog ai6 apR apQ axg Tryz.f216 abi.ps abi.res=abi.fn:=by kernel_rfl
theorem ai4:aA Tryz.prog G0 216 ai5:=ai (ak ⟨au,ae,ap,ae,an⟩ Tryz.func216 rfl (by kernel_rfl))
theorem apO:TOk ai5 abi:=az (E:=ai6) (ET:=apQ) (EnvT.ofX (ax al) am ar aL aq) apP rfl
def akv:Env:=(eZ [(216,ai5)] [274])
def asb:Hints:=(hZ [(3,[0,4,5])] [])
def zj:PFn:=aH (runF Tryz.prog akv asb Tryz.f144)
def axT:TH:={ loops:=[(3,{ keep:=[(4,(.own 0)),(5,(.int .i64))],mem:=[.row true 3 (.int .i64)] })],ro:=[] }
def oD (a0:List UInt8) (y3:(Int×List Int×Unit)):Option ((Int×List Int×Unit)⊕(List Int×Bool×Unit)) :=
 cond (decide (y3.1<(a0.length:Int))) (
(subI a0 y3.1 (a0.length:Int)).bind fun s1 =>
(zcw s1).bind fun r2 =>
 cond (decide (r2.2.1=0)) (
 some (.inr ([],false,()))) (
(ck (y3.2.1.length+([r2.1]:List Int).length)).bind fun u3 =>
 some (.inl ((IntKind.wrap .i64 (y3.1+r2.2.1)),(y3.2.1++([r2.1]:List Int)),())))) (
 some (.inr (y3.2.1,true,())))
def zbt (a0:List UInt8):Option (List Int×Bool×Unit) :=
 aI (oD a0) (0,[],())
def rR:TFn:={ ps:=(.cons .str .unit),res:=(.tup (.cons (.sl (.int .i64)) (.cons .bool .unit))),fn:=fun v=>zbt v.1 }
def asa:TEnv:={ pure:=[(216,abi)],look:=[],glob:=G0T,ty:=[(3,(.int .i64))],raw:=[],fresh:=[] }
theorem ar9:runY Tryz.prog akv asb asa axT Tryz.f144 rR.ps rR.res=rR.fn:=by kernel_rfl
theorem pS:aA Tryz.prog G0 144 zj:=ai (ak ⟨au,(aj ai4 ae),ap,ae,an⟩ Tryz.func144 rfl (by kernel_rfl))
theorem wY:TOk zj rR:=az (E:=akv) (ET:=asa) (EnvT.ofX (ax (ah apO al)) am ar aL aq) ar9 rfl
def aiI:Env:=(eZ [] [274])
def apk:Hints:=(hZ [] [])
def aiH:PFn:=aH (runF Tryz.prog aiI apk Tryz.f306)
def aw8:TH:=yZ
def zde (a0:Int):Option Bool :=
 cond (decide (a0≥32)) (cond (decide (a0<127)) (some (!decide (a0=65533))) (cond (decide (a0>159)) (some (!decide (a0=65533))) (some false))) (some false)
def aba:TFn:={ ps:=tT16,res:=.bool,fn:=fun v=>zde v.1 }
def apj:TEnv:=(vZ [])
theorem api:runY Tryz.prog aiI apk apj aw8 Tryz.f306 aba.ps aba.res=aba.fn:=by kernel_rfl
theorem aiG:aA Tryz.prog G0 306 aiH:=ai (ak ⟨au,ae,ap,ae,an⟩ Tryz.func306 rfl (by kernel_rfl))
theorem aph:TOk aiH aba:=az (E:=aiI) (ET:=apj) (EnvT.ofX (ax al) am ar aL aq) api rfl
def ajX:Env:=(eZ [(144,zj),(306,aiH)] [274])
def aq8:Hints:=(hZ [(3,[3,4,5])] [])
def ajW:PFn:=aH (runF Tryz.prog ajX aq8 Tryz.f253)
def axB:TH:={ joins:=[(7,{ keep:=[],mem:=[] })],loops:=[(3,{ keep:=[(5,(.int .i64))],mem:=[] })],ro:=[] }
def rO (r1:(List Int×Bool×Unit)) (y3:(Int×Unit)):Option ((Int×Unit)⊕(Unit⊕Bool)) :=
 cond (decide (y3.1<(r1.1.length:Int))) (
(atI r1.1 y3.1).bind fun x2 =>
(zde x2).bind fun r3 =>
 cond (!r3) (
 some (.inr (.inr false))) (
 some (.inl ((IntKind.wrap .i64 (y3.1+1)),())))) (
 some (.inr (.inl ())))
def zcb (a0:List UInt8):Option Bool :=
(zbt a0).bind fun r1 =>
(aI (rO r1) (0,()):Option (Unit⊕Bool)).bind (aV fun v4 =>
 cond r1.2.1 (cond (decide ((r1.1.length:Int)≥1)) (some (decide ((r1.1.length:Int)≤24))) (some false)) (some false))
def abD:TFn:={ ps:=(.cons .str .unit),res:=.bool,fn:=fun v=>zcb v.1 }
def aq7:TEnv:=(vZ [(144,rR),(306,aba)])
theorem aq6:runY Tryz.prog ajX aq8 aq7 axB Tryz.f253 abD.ps abD.res=abD.fn:=by kernel_rfl
theorem ajV:aA Tryz.prog G0 253 ajW:=ai (ak ⟨au,(aj pS (aj aiG ae)),ap,ae,an⟩ Tryz.func253 rfl (by kernel_rfl))
theorem aq5:TOk ajW abD:=az (E:=ajX) (ET:=aq7) (EnvT.ofX (ax (ah wY (ah aph al))) am ar aL aq) aq6 rfl
def akq:Env:=(eZ [(253,ajW)] [274])
def ar1:Hints:=(hZ [(6,[0,3])] [])
def akp:PFn:=aH (runF Tryz.prog akq ar1 Tryz.f183)
def axQ:TH:={ loops:=[(6,{ keep:=[(3,(.int .i64))],mem:=[] })],ro:=[] }
def wW (a0:List (List UInt8)) (y6:(Int×Unit)):Option ((Int×Unit)⊕Int) :=
 cond (decide (y6.1<(a0.length:Int))) (
(atI a0 y6.1).bind fun x1 =>
(zcb x1).bind fun r2 =>
 cond (!r2) (
 some (.inr 8)) (
 some (.inl ((IntKind.wrap .i64 (y6.1+1)),())))) (
 some (.inr 0))
def zbw (a0:List (List UInt8)):Option Int :=
 cond (decide ((a0.length:Int)=0)) (
 some 8) (
 cond (decide ((a0.length:Int)>8)) (
 some 9) (
 aI (wW a0) (0,())))
def abS:TFn:={ ps:=tT22,res:=(.int .i64),fn:=fun v=>zbw v.1 }
def ar0:TEnv:=(vZ [(253,abD)])
theorem arZ:runY Tryz.prog akq ar1 ar0 axQ Tryz.f183 abS.ps abS.res=abS.fn:=by kernel_rfl
theorem ako:aA Tryz.prog G0 183 akp:=ai (ak ⟨au,(aj ajV ae),ap,ae,an⟩ Tryz.func183 rfl (by kernel_rfl))
theorem arY:TOk akp abS:=az (E:=akq) (ET:=ar0) (EnvT.ofX (ax (ah aq5 al)) am ar aL aq) arZ rfl
def aky:Env:=(eZ [(144,zj)] [274])
def asf:Hints:=(hZ [] [])
def akx:PFn:=aH (runF Tryz.prog aky asf Tryz.f184)
def axU:TH:={ loops:=[],ro:=[1] }
def zbs (a0:vV3):Option Bool :=
 cond (decide (a0.1=1)) (
 cond (decide (a0.2.2.1=[])) (cond (decide (a0.2.1≥(-2147483647))) (some (decide (a0.2.1≤2147483647))) (some false)) (some false)) (
 cond (decide (a0.1=2)) (
(zbt a0.2.2.1).bind fun r1 =>
 cond (decide (a0.2.1=0)) (cond r1.2.1 (some (decide ((a0.2.2.1.length:Int)≤64))) (some false)) (some false)) (
 cond (decide (a0.1=3)) (cond (decide (a0.2.2.1=[])) (cond (decide (a0.2.1≥0)) (some (decide (a0.2.1≤1))) (some false)) (some false)) (some false)))
def abW:TFn:={ ps:=(.cons tT15 .unit),res:=.bool,fn:=fun v=>zbs v.1 }
def ase:TEnv:=(vZ [(144,rR)])
theorem asd:runY Tryz.prog aky asf ase axU Tryz.f184 abW.ps abW.res=abW.fn:=by kernel_rfl
theorem akw:aA Tryz.prog G0 184 akx:=ai (ak ⟨au,(aj pS ae),ap,ae,an⟩ Tryz.func184 rfl (by kernel_rfl))
theorem asc:TOk akx abW:=az (E:=aky) (ET:=ase) (EnvT.ofX (ax (ah wY al)) am ar aL aq) asd rfl
def aju:Env:=(eZ [(101,acg),(172,afo)] [274])
def aqs:Hints:=(hZ [] [])
def ajt:PFn:=aH (runF Tryz.prog aju aqs Tryz.f254)
def axq:TH:={ loops:=[],ro:=[2,3] }
def zcm (a0:vV2) (a1:vV2):Option Int :=
(zbc a0.1 a1.1).bind fun r1 =>
 cond (!decide (r1=0)) (
(zbc a0.1 a1.1).bind fun r2 =>
 some r2) (
(zcv a0.2.1 a1.2.1).bind fun r3 =>
 some r3)
def abs:TFn:={ ps:=(.cons tT14 (.cons tT14 .unit)),res:=(.int .i64),fn:=fun v=>zcm v.1 v.2.1 }
def aqr:TEnv:=(vZ [(101,uN),(172,yT)])
theorem aqq:runY Tryz.prog aju aqs aqr axq Tryz.f254 abs.ps abs.res=abs.fn:=by kernel_rfl
theorem ajs:aA Tryz.prog G0 254 ajt:=ai (ak ⟨au,(aj uO (aj abj ae)),ap,ae,an⟩ Tryz.func254 rfl (by kernel_rfl))
theorem aqp:TOk ajt abs:=az (E:=aju) (ET:=aqr) (EnvT.ofX (ax (ah acf (ah ahr al))) am ar aL aq) aqq rfl
def aiX:Env:=(eZ [(109,abU),(254,ajt)] [274])
def apF:Hints:=(hZ [(2,[0,3])] [])
def aiW:PFn:=aH (runF Tryz.prog aiX apF Tryz.f185)
def axd:TH:={ loops:=[(2,{ keep:=[(3,(.int .i64))],mem:=[] })],ro:=[] }
def wI (a0:List vV2) (y2:(Int×Unit)):Option ((Int×Unit)⊕Bool) :=
 cond (decide (y2.1<(a0.length:Int))) (
(atI a0 y2.1).bind fun x1 =>
(zbv x1.1).bind fun r2 =>
 cond (!r2) (some (.inr false)) ((atI a0 y2.1).bind fun x3 =>
 cond (decide (x3.2.1<0)) (some (.inr false)) ((atI a0 y2.1).bind fun x4 =>
 cond (decide (x4.2.1>15)) (
 some (.inr false)) (
 cond (decide (y2.1>0)) ((atI a0 (IntKind.wrap .i64 (y2.1-1))).bind fun x5 =>
(atI a0 y2.1).bind fun x6 =>
(zcm x5 x6).bind fun r7 =>
 cond (!decide (r7=(-1))) (
 some (.inr false)) (
 some (.inl ((IntKind.wrap .i64 (y2.1+1)),())))) (some (.inl ((IntKind.wrap .i64 (y2.1+1)),()))))))) (
 some (.inr true))
def zcz (a0:List vV2):Option Bool :=
 aI (wI a0) (0,())
def abf:TFn:={ ps:=(.cons (.sl tT14) .unit),res:=.bool,fn:=fun v=>zcz v.1 }
def apE:TEnv:=(vZ [(109,uJ),(254,abs)])
theorem apD:runY Tryz.prog aiX apF apE axd Tryz.f185 abf.ps abf.res=abf.fn:=by kernel_rfl
theorem aiV:aA Tryz.prog G0 185 aiW:=ai (ak ⟨au,(aj uK (aj ajs ae)),ap,ae,an⟩ Tryz.func185 rfl (by kernel_rfl))
theorem apC:TOk aiW abf:=az (E:=aiX) (ET:=apE) (EnvT.ofX (ax (ah abT (ah aqp al))) am ar aL aq) apD rfl
def alp:Env:=(eZ [(183,akp),(184,akx),(185,aiW)] [274])
def atw:Hints:=(hZ [] [])
def alo:PFn:=aH (runF Tryz.prog alp atw Tryz.f110)
def ayf:TH:={ joins:=[(9,{ keep:=[(1,(.bx 0 0))],mem:=[.same,.gone] }),(11,{ keep:=[(1,(.bx 0 0))],mem:=[.same,.gone] }),(13,{ keep:=[(1,(.bx 0 0))],mem:=[.same,.gone] }),(15,{ keep:=[(1,(.bx 0 0))],mem:=[.same,.gone] })],loops:=[],cuts:=[(11,[(8,{ keep:=[(1,(.bx 0 0)),(55,.bool)],mem:=[.same,.gone] })])],ro:=[1],news:=[] }
def zb7 (a0:vV1):Option Int :=
 cond (decide (a0.1<1)) (some 18) (cond (decide (a0.1>5)) (
 some 18) (
(zbw a0.2.1).bind fun r1 =>
 cond (!decide (r1=0)) (
 some r1) (
(cond (decide (a0.1=3)) (cond (!(eqV tT15 a0.2.2.1 (0,0,[],()))) (
 some (.inr 2)) (
 some (.inl ()))) (cond (decide (a0.1=5)) (cond (!(eqV tT15 a0.2.2.1 (0,0,[],()))) (
 some (.inr 2)) (
 some (.inl ()))) (some (.inl ()))):Option (Unit⊕Int)).bind (aV fun v2 =>
(cond (!decide (a0.1=3)) (cond (!decide (a0.1=5)) ((zbs a0.2.2.1).bind fun r3 =>
 cond (!r3) (
 some (.inr 2)) (
 some (.inl ()))) (some (.inl ()))) (some (.inl ())):Option (Unit⊕Int)).bind (aV fun v4 =>
((cond (!decide (a0.1=3)) (some ((!decide (a0.2.2.2.1=0)),())) (some (false,())):Option (Bool×Unit)).bind fun v5 =>
 cond v5.1 (some (.inr 2)) (cond (decide (a0.1=3)) (cond (decide (a0.2.2.2.1=0)) (some (.inr 2)) (cond (decide (a0.2.2.2.1>2147483647)) (some (.inr 2)) (cond (decide (a0.2.2.2.1<(-2147483647))) (
 some (.inr 2)) (
 some (.inl ()))))) (some (.inl ()))):Option (Unit⊕Int)).bind (aV fun v6 =>
(cond (decide (a0.1=2)) (cond (decide ((a0.2.2.2.2.1.length:Int)>0)) (
 some (.inr 2)) (
 some (.inl ()))) (cond (decide (a0.1=3)) (cond (decide ((a0.2.2.2.2.1.length:Int)>0)) (
 some (.inr 2)) (
 some (.inl ()))) (some (.inl ()))):Option (Unit⊕Int)).bind (aV fun v7 =>
 cond (decide ((a0.2.2.2.2.1.length:Int)>256)) (
 some 7) (
(zcz a0.2.2.2.2.1).bind fun r8 =>
 cond (!r8) (
 some 2) (
 some 0)))))))))
def acm:TFn:={ ps:=(.cons tT13 .unit),res:=(.int .i64),fn:=fun v=>zb7 v.1 }
def atv:TEnv:=(vZ [(183,abS),(184,abW),(185,abf)])
theorem atu:runY Tryz.prog alp atw atv ayf Tryz.f110 acm.ps acm.res=acm.fn:=by kernel_rfl
theorem aln:aA Tryz.prog G0 110 alo:=ai (ak ⟨au,(aj ako (aj akw (aj aiV ae))),ap,ae,an⟩ Tryz.func110 rfl (by kernel_rfl))
theorem att:TOk alo acm:=az (E:=alp) (ET:=atv) (EnvT.ofX (ax (ah arY (ah asc (ah apC al)))) am ar aL aq) atu rfl
def aiU:Env:=(eZ [] [274])
def apB:Hints:=(hZ [] [])
def aiT:PFn:=aH (runF Tryz.prog aiU apB Tryz.f111)
def axc:TH:={ loops:=[],cuts:=[(2,[(9,{ keep:=[(1,(.bx 0 0)),(3,(.bx 1 0)),(13,.bool)],mem:=[.same,.box 132 tT15] })])],ro:=[1],news:=[] }
def zda (a0:vV1):Option Bool :=
(cond (decide (a0.1=0)) (some ((decide ((a0.2.1.length:Int)=0)),(0,0,[],()),())) (some (false,(0,0,[],()),())):Option (Bool×vV3×Unit)).bind fun v1 =>
 cond v1.1 (cond (eqV tT15 a0.2.2.1 v1.2.1) (cond (decide (a0.2.2.2.1=0)) (some (decide ((a0.2.2.2.2.1.length:Int)=0))) (some false)) (some false)) (some false)
def abe:TFn:={ ps:=(.cons tT13 .unit),res:=.bool,fn:=fun v=>zda v.1 }
def apA:TEnv:=(vZ [])
theorem apz:runY Tryz.prog aiU apB apA axc Tryz.f111 abe.ps abe.res=abe.fn:=by kernel_rfl
theorem aiS:aA Tryz.prog G0 111 aiT:=ai (ak ⟨au,ae,ap,ae,an⟩ Tryz.func111 rfl (by kernel_rfl))
theorem apy:TOk aiT abe:=az (E:=aiU) (ET:=apA) (EnvT.ofX (ax al) am ar aL aq) apz rfl
def alh:Env:=(eZ [(109,abU),(110,alo),(111,aiT)] [274])
def atq:Hints:=(hZ [(8,[1,3])] [])
def alg:PFn:=aH (runF Tryz.prog alh atq Tryz.f42)
def ayd:TH:={ loops:=[(8,{ keep:=[(1,(.bx 0 0)),(3,(.int .i64))],mem:=[.same] })],cuts:=[(1,[(9,{ keep:=[(1,(.bx 0 0)),(13,.bool)],mem:=[.same] })])],ro:=[1],news:=[] }
def rU (a0:vV5) (y8:(Int×Unit)):Option ((Int×Unit)⊕Int) :=
 cond (decide (y8.1<(a0.2.2.2.2.1.length:Int))) (
(atI a0.2.2.2.2.1 y8.1).bind fun x3 =>
(zb7 x3).bind fun r4 =>
 cond (!decide (r4=0)) (cond a0.2.2.2.1 ((atI a0.2.2.2.2.1 y8.1).bind fun x5 =>
(zda x5).bind fun r6 =>
 cond (!r6) (
 some (.inr r4)) (
 some (.inl ((IntKind.wrap .i64 (y8.1+1)),())))) (some (.inr r4))) (some (.inl ((IntKind.wrap .i64 (y8.1+1)),())))) (
 some (.inr 0))
def zb9 (a0:vV5):Option Int :=
((zbv a0.1).bind fun r1 =>
 cond (!r1) (some (true,())) (some ((decide (a0.2.1<0)),())):Option (Bool×Unit)).bind fun v2 =>
 cond v2.1 (some 2) (cond (decide (a0.2.1>7)) (some 2) (cond (decide (a0.2.2.1<1)) (some 2) (cond (decide (a0.2.2.1>1099511627776)) (
 some 2) (
 cond (decide ((a0.2.2.2.2.1.length:Int)=0)) (
 some 11) (
 cond (decide ((a0.2.2.2.2.1.length:Int)>16)) (
 some 7) (
 aI (rU a0) (0,())))))))
def acj:TFn:={ ps:=(.cons tT17 .unit),res:=(.int .i64),fn:=fun v=>zb9 v.1 }
def atp:TEnv:=(vZ [(109,uJ),(110,acm),(111,abe)])
theorem ato:runY Tryz.prog alh atq atp ayd Tryz.f42 acj.ps acj.res=acj.fn:=by kernel_rfl
theorem alf:aA Tryz.prog G0 42 alg:=ai (ak ⟨au,(aj uK (aj aln (aj aiS ae))),ap,ae,an⟩ Tryz.func42 rfl (by kernel_rfl))
theorem atn:TOk alg acj:=az (E:=alh) (ET:=atp) (EnvT.ofX (ax (ah abT (ah att (ah apy al)))) am ar aL aq) ato rfl
def ajx:Env:=(eZ [(41,akt),(42,alg),(152,alu)] [274])
def aqw:Hints:=(hZ [(4,[0,5])] [])
def ajw:PFn:=aH (runF Tryz.prog ajx aqw Tryz.f82)
def axr:TH:={ loops:=[(4,{ keep:=[(5,(.int .i64))],mem:=[] })],ro:=[] }
def wN (a0:List vV5) (y4:(Int×Unit)):Option ((Int×Unit)⊕Bool) :=
 cond (decide (y4.1<(a0.length:Int))) (
(atI a0 y4.1).bind fun x2 =>
(zbu x2).bind fun r3 =>
 cond (!r3) (some (.inr false)) ((atI a0 y4.1).bind fun x4 =>
(zb9 x4).bind fun r5 =>
 cond (!decide (r5=0)) (
 some (.inr false)) (
 some (.inl ((IntKind.wrap .i64 (y4.1+1)),()))))) (
 some (.inr true))
def zcl (a0:List vV5) (a1:Int):Option Bool :=
 cond (decide ((a0.length:Int)>a1)) (some false) ((zb5 a0).bind fun r1 =>
 cond (!r1) (
 some false) (
 aI (wN a0) (0,())))
def abt:TFn:={ ps:=(.cons (.sl tT17) tT16),res:=.bool,fn:=fun v=>zcl v.1 v.2.1 }
def aqv:TEnv:=(vZ [(41,abV),(42,acj),(152,aco)])
theorem aqu:runY Tryz.prog ajx aqw aqv axr Tryz.f82 abt.ps abt.res=abt.fn:=by kernel_rfl
theorem ajv:aA Tryz.prog G0 82 ajw:=ai (ak ⟨au,(aj aks (aj alf (aj alt ae))),ap,ae,an⟩ Tryz.func82 rfl (by kernel_rfl))
theorem aqt:TOk ajw abt:=az (E:=ajx) (ET:=aqv) (EnvT.ofX (ax (ah ar5 (ah atn (ah atB al)))) am ar aL aq) aqu rfl
def aiE:Env:=(eZ [(109,abU)] [274])
def apd:Hints:=(hZ [] [])
def aiD:PFn:=aH (runF Tryz.prog aiE apd Tryz.f224)
def aw6:TH:={ loops:=[],ro:=[1] }
def zdg (a0:vV2):Option Bool :=
(zbv a0.1).bind fun r1 =>
 cond r1 (cond (decide (a0.2.1≥1)) (some (decide (a0.2.1≤64))) (some false)) (some false)
def aa8:TFn:={ ps:=(.cons tT14 .unit),res:=.bool,fn:=fun v=>zdg v.1 }
def apc:TEnv:=(vZ [(109,uJ)])
theorem apb:runY Tryz.prog aiE apd apc aw6 Tryz.f224 aa8.ps aa8.res=aa8.fn:=by kernel_rfl
theorem aiC:aA Tryz.prog G0 224 aiD:=ai (ak ⟨au,(aj uK ae),ap,ae,an⟩ Tryz.func224 rfl (by kernel_rfl))
theorem apa:TOk aiD aa8:=az (E:=aiE) (ET:=apc) (EnvT.ofX (ax (ah abT al)) am ar aL aq) apb rfl
def ajQ:Env:=(eZ [(101,acg),(224,aiD)] [274])
def aqX:Hints:=(hZ [(2,[0,3])] [])
def ajP:PFn:=aH (runF Tryz.prog ajQ aqX Tryz.f153)
def axy:TH:={ loops:=[(2,{ keep:=[(3,(.int .i64))],mem:=[] })],ro:=[] }
def wP (a0:List vV2) (y2:(Int×Unit)):Option ((Int×Unit)⊕Bool) :=
 cond (decide (y2.1<(a0.length:Int))) (
(atI a0 y2.1).bind fun x1 =>
(zdg x1).bind fun r2 =>
 cond (!r2) (some (.inr false)) (cond (decide (y2.1>0)) ((atI a0 (IntKind.wrap .i64 (y2.1-1))).bind fun x3 =>
(atI a0 y2.1).bind fun x4 =>
(zbc x3.1 x4.1).bind fun r5 =>
 cond (!decide (r5=(-1))) (
 some (.inr false)) (
 some (.inl ((IntKind.wrap .i64 (y2.1+1)),())))) (some (.inl ((IntKind.wrap .i64 (y2.1+1)),()))))) (
 some (.inr true))
def zce (a0:List vV2):Option Bool :=
 aI (wP a0) (0,())
def abA:TFn:={ ps:=(.cons (.sl tT14) .unit),res:=.bool,fn:=fun v=>zce v.1 }
def aqW:TEnv:=(vZ [(101,uN),(224,aa8)])
theorem aqV:runY Tryz.prog ajQ aqX aqW axy Tryz.f153 abA.ps abA.res=abA.fn:=by kernel_rfl
theorem ajO:aA Tryz.prog G0 153 ajP:=ai (ak ⟨au,(aj uO (aj aiC ae)),ap,ae,an⟩ Tryz.func153 rfl (by kernel_rfl))
theorem aqU:TOk ajP abA:=az (E:=ajQ) (ET:=aqW) (EnvT.ofX (ax (ah acf (ah apa al))) am ar aL aq) aqV rfl
def ajo:Env:=(eZ [(153,ajP)] [274])
def aqk:Hints:=(hZ [] [])
def ajn:PFn:=aH (runF Tryz.prog ajo aqk Tryz.f83)
def axo:TH:=yZ
def zco (a0:List vV2):Option Bool :=
 cond (decide ((a0.length:Int)≤100)) ((zce a0).bind fun r1 =>
 some r1) (some false)
def abq:TFn:={ ps:=(.cons (.sl tT14) .unit),res:=.bool,fn:=fun v=>zco v.1 }
def aqj:TEnv:=(vZ [(153,abA)])
theorem aqi:runY Tryz.prog ajo aqk aqj axo Tryz.f83 abq.ps abq.res=abq.fn:=by kernel_rfl
theorem ajm:aA Tryz.prog G0 83 ajn:=ai (ak ⟨au,(aj ajO ae),ap,ae,an⟩ Tryz.func83 rfl (by kernel_rfl))
theorem aqh:TOk ajn abq:=az (E:=ajo) (ET:=aqj) (EnvT.ofX (ax (ah aqU al)) am ar aL aq) aqi rfl
def ajb:Env:=(eZ [(82,ajw),(83,ajn)] [274])
def ap1:Hints:=(hZ [] [])
def aja:PFn:=aH (runF Tryz.prog ajb ap1 Tryz.f29)
def axj:TH:=yZ
def zct (a0:List vV5) (a1:List vV2):Option Bool :=
(zcl a0 20).bind fun r1 =>
 cond r1 ((zco a1).bind fun r2 =>
 some r2) (some false)
def abl:TFn:={ ps:=(.cons (.sl tT17) (.cons (.sl tT14) .unit)),res:=.bool,fn:=fun v=>zct v.1 v.2.1 }
def ap0:TEnv:=(vZ [(82,abt),(83,abq)])
theorem apZ:runY Tryz.prog ajb ap1 ap0 axj Tryz.f29 abl.ps abl.res=abl.fn:=by kernel_rfl
theorem ai9:aA Tryz.prog G0 29 aja:=ai (ak ⟨au,(aj ajv (aj ajm ae)),ap,ae,an⟩ Tryz.func29 rfl (by kernel_rfl))
theorem apY:TOk aja abl:=az (E:=ajb) (ET:=ap0) (EnvT.ofX (ax (ah aqt (ah aqh al))) am ar aL aq) apZ rfl
def ajD:Env:=(eZ [(29,aja)] [274])
def aqE:Hints:=(hZ [(4,[0,1,5])] [])
def ajC:PFn:=aH (runF Tryz.prog ajD aqE Tryz.f14)
def axt:TH:={ loops:=[(4,{ keep:=[(5,(.int .i64))],mem:=[] })],ro:=[] }
def wO (a0:List vV5) (a1:List (List vV2×Unit)) (y4:(Int×Unit)):Option ((Int×Unit)⊕Bool) :=
 cond (decide (y4.1<(a1.length:Int))) (
(atI a1 y4.1).bind fun x1 =>
(zct a0 x1.1).bind fun r2 =>
 cond (!r2) (
 some (.inr false)) (
 some (.inl ((IntKind.wrap .i64 (y4.1+1)),())))) (
 some (.inr true))
def zcj (a0:List vV5) (a1:List (List vV2×Unit)):Option Bool :=
 cond (decide ((a1.length:Int)>6)) (
 some false) (
 aI (wO a0 a1) (0,()))
def abv:TFn:={ ps:=(.cons (.sl tT17) (.cons (.sl (.agg (.cons (.sl tT14) .unit))) .unit)),res:=.bool,fn:=fun v=>zcj v.1 v.2.1 }
def aqD:TEnv:=(vZ [(29,abl)])
theorem aqC:runY Tryz.prog ajD aqE aqD axt Tryz.f14 abv.ps abv.res=abv.fn:=by kernel_rfl
theorem ajB:aA Tryz.prog G0 14 ajC:=ai (ak ⟨au,(aj ai9 ae),ap,ae,an⟩ Tryz.func14 rfl (by kernel_rfl))
theorem aqB:TOk ajC abv:=az (E:=ajD) (ET:=aqD) (EnvT.ofX (ax (ah apY al)) am ar aL aq) aqC rfl
def am8:Env:=(eZ [] [274])
def av4:Hints:=(hZ [] [])
def am7:PFn:=aH (runF Tryz.prog am8 av4 Tryz.f328)
def ayP:TH:=yZ
def za0 (a0:List UInt8):Option Int :=
(atI a0 0).bind fun b1 =>
(atI a0 1).bind fun b2 =>
(shlT .u64 (IntKind.wrap .u64 (b2.toNat:Int)) 8).bind fun t3 =>
(atI a0 2).bind fun b4 =>
(shlT .u64 (IntKind.wrap .u64 (b4.toNat:Int)) 16).bind fun t5 =>
(atI a0 3).bind fun b6 =>
(shlT .u64 (IntKind.wrap .u64 (b6.toNat:Int)) 24).bind fun t7 =>
(atI a0 4).bind fun b8 =>
(shlT .u64 (IntKind.wrap .u64 (b8.toNat:Int)) 32).bind fun t9 =>
(atI a0 5).bind fun b10 =>
(shlT .u64 (IntKind.wrap .u64 (b10.toNat:Int)) 40).bind fun t11 =>
(atI a0 6).bind fun b12 =>
(shlT .u64 (IntKind.wrap .u64 (b12.toNat:Int)) 48).bind fun t13 =>
(atI a0 7).bind fun b14 =>
(shlT .u64 (IntKind.wrap .u64 (b14.toNat:Int)) 56).bind fun t15 =>
 some (IntKind.wrap .u64 ((BitVec.ofInt (IntKind.bits .u64) (IntKind.wrap .u64 ((BitVec.ofInt (IntKind.bits .u64) (IntKind.wrap .u64 ((BitVec.ofInt (IntKind.bits .u64) (IntKind.wrap .u64 ((BitVec.ofInt (IntKind.bits .u64) (IntKind.wrap .u64 ((BitVec.ofInt (IntKind.bits .u64) (IntKind.wrap .u64 ((BitVec.ofInt (IntKind.bits .u64) (IntKind.wrap .u64 ((BitVec.ofInt (IntKind.bits .u64) (IntKind.wrap .u64 (b1.toNat:Int)) ||| BitVec.ofInt (IntKind.bits .u64) t3).toNat)) ||| BitVec.ofInt (IntKind.bits .u64) t5).toNat)) ||| BitVec.ofInt (IntKind.bits .u64) t7).toNat)) ||| BitVec.ofInt (IntKind.bits .u64) t9).toNat)) ||| BitVec.ofInt (IntKind.bits .u64) t11).toNat)) ||| BitVec.ofInt (IntKind.bits .u64) t13).toNat)) ||| BitVec.ofInt (IntKind.bits .u64) t15).toNat))
def acS:TFn:={ ps:=(.cons .str .unit),res:=(.int .u64),fn:=fun v=>za0 v.1 }
def av3:TEnv:=(vZ [])
theorem av2:runY Tryz.prog am8 av4 av3 ayP Tryz.f328 acS.ps acS.res=acS.fn:=by kernel_rfl
theorem am6:aA Tryz.prog G0 328 am7:=ai (ak ⟨au,ae,ap,ae,an⟩ Tryz.func328 rfl (by kernel_rfl))
theorem av1:TOk am7 acS:=az (E:=am8) (ET:=av3) (EnvT.ofX (ax al) am ar aL aq) av2 rfl
def alJ:Env:=(eZ [(328,am7)] [274])
def at6:Hints:=(hZ [(1,[0]),(9,[0])] [])
def afH:PFn:=aH (runF Tryz.prog alJ at6 Tryz.f281)
def ayn:TH:={ joins:=[(11,{ keep:=[(0,.str),(3,(.int .u8))],mem:=[] })],loops:=[(1,{ keep:=[(0,.str)],mem:=[] }),(9,{ keep:=[(0,.str)],mem:=[] })],cuts:=[(21,[(10,{ keep:=[(6,(.bx 0 0)),(108,.bool)],mem:=[.box 367 (.agg (.cons (.int .u8) (.cons (.int .u8) .unit)))] })]),(25,[(10,{ keep:=[(6,(.bx 0 0)),(139,.bool)],mem:=[.box 367 (.agg (.cons (.int .u8) (.cons (.int .u8) .unit)))] }),(7,{ keep:=[(146,.bool)],mem:=[.gone] }),(5,{ keep:=[(151,.bool)],mem:=[.gone] })])],ro:=[],news:=[] }
def jd (y9:(List UInt8×Unit)):Option ((List UInt8×Unit)⊕((List UInt8×Int×Unit)⊕((List UInt8×Unit)⊕Bool))) :=
 cond (decide ((y9.1.length:Int)>32)) ((za0 y9.1).bind fun r9 =>
(subI y9.1 8 (y9.1.length:Int)).bind fun s10 =>
(za0 s10).bind fun r11 =>
(subI y9.1 16 (y9.1.length:Int)).bind fun s12 =>
(za0 s12).bind fun r13 =>
(subI y9.1 24 (y9.1.length:Int)).bind fun s14 =>
(za0 s14).bind fun r15 =>
 cond (decide ((IntKind.wrap .u64 ((BitVec.ofInt (IntKind.bits .u64) (IntKind.wrap .u64 ((BitVec.ofInt (IntKind.bits .u64) (IntKind.wrap .u64 ((BitVec.ofInt (IntKind.bits .u64) r9 ||| BitVec.ofInt (IntKind.bits .u64) r11).toNat)) ||| BitVec.ofInt (IntKind.bits .u64) (IntKind.wrap .u64 ((BitVec.ofInt (IntKind.bits .u64) r13 ||| BitVec.ofInt (IntKind.bits .u64) r15).toNat))).toNat)) &&& BitVec.ofInt (IntKind.bits .u64) 9259542123273814144).toNat))=0)) (
(subI y9.1 32 (y9.1.length:Int)).bind fun s16 =>
 some (.inl (s16,()))) (
 some (.inr (.inr (.inl (y9.1,())))))) (some (.inr (.inr (.inl (y9.1,())))))
def je (y1:(List UInt8×Unit)):Option ((List UInt8×Unit)⊕Bool) :=
 cond (decide ((y1.1.length:Int)>0)) (
(atI y1.1 0).bind fun b1 =>
(cond (decide ((b1.toNat:Int)<128)) (
(subI y1.1 1 (y1.1.length:Int)).bind fun s2 =>
 cond (decide ((s2.length:Int)>8)) ((za0 s2).bind fun r3 =>
 cond (decide ((IntKind.wrap .u64 ((BitVec.ofInt (IntKind.bits .u64) r3 &&& BitVec.ofInt (IntKind.bits .u64) 9259542123273814144).toNat))=0)) (
(subI s2 8 (s2.length:Int)).bind fun s4 =>
 cond (decide ((s4.length:Int)>16)) ((za0 s4).bind fun r5 =>
(subI s4 8 (s4.length:Int)).bind fun s6 =>
(za0 s6).bind fun r7 =>
 cond (decide ((IntKind.wrap .u64 ((BitVec.ofInt (IntKind.bits .u64) (IntKind.wrap .u64 ((BitVec.ofInt (IntKind.bits .u64) r5 ||| BitVec.ofInt (IntKind.bits .u64) r7).toNat)) &&& BitVec.ofInt (IntKind.bits .u64) 9259542123273814144).toNat))=0)) (
(subI s4 16 (s4.length:Int)).bind fun s8 =>
 aI (jd) (s8,())) (
 some (.inr (.inl (s4,()))))) (some (.inr (.inl (s4,()))))) (
 some (.inr (.inl (s2,()))))) (some (.inr (.inl (s2,()))))) (
 some (.inl (y1.1,(b1.toNat:Int),()))):Option ((List UInt8×Int×Unit)⊕((List UInt8×Unit)⊕Bool))).bind (aV fun v17 =>
(atI fR v17.2.1).bind fun x18 =>
(shrT .u8 x18 4).bind fun t19 =>
(atI eB t19).bind fun x20 =>
 cond (decide ((IntKind.wrap .i64 (IntKind.wrap .u8 ((BitVec.ofInt (IntKind.bits .u8) x18 &&& BitVec.ofInt (IntKind.bits .u8) 7).toNat)))=2)) (
 cond (decide ((v17.1.length:Int)<2)) (some (.inr false)) ((atI v17.1 1).bind fun b21 =>
 cond (decide ((b21.toNat:Int)<x20.1)) (some (.inr false)) ((atI v17.1 1).bind fun b22 =>
 cond (decide (x20.2.1<(b22.toNat:Int))) (
 some (.inr false)) (
(subI v17.1 2 (v17.1.length:Int)).bind fun s23 =>
 some (.inl (s23,())))))) (
 cond (decide ((IntKind.wrap .i64 (IntKind.wrap .u8 ((BitVec.ofInt (IntKind.bits .u8) x18 &&& BitVec.ofInt (IntKind.bits .u8) 7).toNat)))=3)) (
(cond (decide ((v17.1.length:Int)<3)) (some (true,x20,())) ((atI v17.1 1).bind fun b24 =>
 some ((decide ((b24.toNat:Int)<x20.1)),x20,())):Option (Bool×(Int×Int×Unit)×Unit)).bind fun v25 =>
 cond v25.1 (some (.inr false)) ((atI v17.1 1).bind fun b26 =>
 cond (decide (v25.2.1.2.1<(b26.toNat:Int))) (some (.inr false)) ((atI v17.1 2).bind fun b27 =>
 cond (decide ((b27.toNat:Int)<128)) (some (.inr false)) ((atI v17.1 2).bind fun b28 =>
 cond (decide (191<(b28.toNat:Int))) (
 some (.inr false)) (
(subI v17.1 3 (v17.1.length:Int)).bind fun s29 =>
 some (.inl (s29,()))))))) (
 cond (decide ((IntKind.wrap .i64 (IntKind.wrap .u8 ((BitVec.ofInt (IntKind.bits .u8) x18 &&& BitVec.ofInt (IntKind.bits .u8) 7).toNat)))=4)) (
(cond (decide ((v17.1.length:Int)<4)) (some (true,x20,())) ((atI v17.1 1).bind fun b30 =>
 some ((decide ((b30.toNat:Int)<x20.1)),x20,())):Option (Bool×(Int×Int×Unit)×Unit)).bind fun v31 =>
(cond v31.1 (some (true,())) ((atI v17.1 1).bind fun b32 =>
 some ((decide (v31.2.1.2.1<(b32.toNat:Int))),())):Option (Bool×Unit)).bind fun v33 =>
(cond v33.1 (some (true,())) ((atI v17.1 2).bind fun b34 =>
 some ((decide ((b34.toNat:Int)<128)),())):Option (Bool×Unit)).bind fun v35 =>
 cond v35.1 (some (.inr false)) ((atI v17.1 2).bind fun b36 =>
 cond (decide (191<(b36.toNat:Int))) (some (.inr false)) ((atI v17.1 3).bind fun b37 =>
 cond (decide ((b37.toNat:Int)<128)) (some (.inr false)) ((atI v17.1 3).bind fun b38 =>
 cond (decide (191<(b38.toNat:Int))) (
 some (.inr false)) (
(subI v17.1 4 (v17.1.length:Int)).bind fun s39 =>
 some (.inl (s39,()))))))) (
 some (.inr false)))))) (
 some (.inr true))
def zaz (a0:List UInt8):Option Bool :=
 aI (je) (a0,())
def zu:TFn:={ ps:=(.cons .str .unit),res:=.bool,fn:=fun v=>zaz v.1 }
def at5:TEnv:=(vZ [(328,acS)])
theorem at4:runY Tryz.prog alJ at6 at5 ayn Tryz.f281 zu.ps zu.res=zu.fn:=by kernel_rfl
theorem acu:aA Tryz.prog G0 281 afH:=ai (ak ⟨au,(aj am6 ae),ap,ae,an⟩ Tryz.func281 rfl (by kernel_rfl))
theorem ahH:TOk afH zu:=az (E:=alJ) (ET:=at5) (EnvT.ofX (ax (ah av1 al)) am ar aL aq) at4 rfl
def al0:Env:=(eZ [] [274])
def auF:Hints:=(hZ [(2,[2,4])] [])
def alZ:PFn:=aH (runF Tryz.prog al0 auF Tryz.f282)
def ayw:TH:={ loops:=[(2,{ keep:=[(2,(.int .i64)),(4,(.it 0))],mem:=[.iter] })],ro:=[] }
def rX (a0:List UInt8) (y2:(Int×Nat×Unit)):Option ((Int×Nat×Unit)⊕Int) :=
 cond (decide (y2.2.1<a0.length)) (some (.inl ((IntKind.wrap .i64 (y2.1+1)),(y2.2.1+(Utf8.decode ⟨a0.toArray⟩ y2.2.1).2),()))) (some (.inr y2.1))
def zaq (a0:List UInt8):Option Int :=
 aI (rX a0) (0,0,())
def acA:TFn:={ ps:=(.cons .str .unit),res:=(.int .i64),fn:=fun v=>zaq v.1 }
def auE:TEnv:=(vZ [])
theorem auD:runY Tryz.prog al0 auF auE ayw Tryz.f282 acA.ps acA.res=acA.fn:=by kernel_rfl
theorem alY:aA Tryz.prog G0 282 alZ:=ai (ak ⟨au,ae,ap,ae,an⟩ Tryz.func282 rfl (by kernel_rfl))
theorem auC:TOk alZ acA:=az (E:=al0) (ET:=auE) (EnvT.ofX (ax al) am ar aL aq) auD rfl
def akB:Env:=(eZ [] [274])
def asj:Hints:=(hZ [] [])
def akA:PFn:=aH (runF Tryz.prog akB asj Tryz.f283)
def axV:TH:=yZ
def zbr (a0:Int):Option Bool :=
 cond (decide (a0=42)) (some true) (cond (decide (a0=63)) (some true) (some (decide (a0=92))))
def abX:TFn:={ ps:=(.cons (.int .i32) .unit),res:=.bool,fn:=fun v=>zbr v.1 }
def asi:TEnv:=(vZ [])
theorem ash:runY Tryz.prog akB asj asi axV Tryz.f283 abX.ps abX.res=abX.fn:=by kernel_rfl
theorem akz:aA Tryz.prog G0 283 akA:=ai (ak ⟨au,ae,ap,ae,an⟩ Tryz.func283 rfl (by kernel_rfl))
theorem asg:TOk akA abX:=az (E:=akB) (ET:=asi) (EnvT.ofX (ax al) am ar aL aq) ash rfl
def aj5:Env:=(eZ [(281,afH),(282,alZ),(283,akA)] [274])
def aro:Hints:=(hZ [(6,[4,5,17])] [])
def aft:PFn:=aH (runF Tryz.prog aj5 aro Tryz.f215)
def axF:TH:={ joins:=[(18,{ keep:=[(4,(.own 1)),(5,.bool)],mem:=[.gone,.row true 336 (.agg (.cons (.int .i64) (.cons (.int .i32) .unit)))] }),(10,{ keep:=[(4,(.own 1)),(17,(.it 0)),(25,.bool)],mem:=[.iter,.row true 336 (.agg (.cons (.int .i64) (.cons (.int .i32) .unit)))] })],loops:=[(6,{ keep:=[(4,(.own 1)),(5,.bool),(17,(.it 0))],mem:=[.iter,.row true 336 (.agg (.cons (.int .i64) (.cons (.int .i32) .unit)))] })],ro:=[] }
def gg (a0:List UInt8) (y6:(Bool×Nat×List (Int×Int×Unit)×Unit)):Option ((Bool×Nat×List (Int×Int×Unit)×Unit)⊕((Bool×List (Int×Int×Unit)×Unit)⊕(List (Int×Int×Unit)×Bool×Unit))) :=
 cond (decide (y6.2.1<a0.length)) ((cond y6.1 ((zbr ((Utf8.decode ⟨a0.toArray⟩ y6.2.1).1:Int)).bind fun r3 =>
 some (.inl ((!r3),(y6.2.1+(Utf8.decode ⟨a0.toArray⟩ y6.2.1).2),y6.2.2.1,()))) (some (.inl (false,(y6.2.1+(Utf8.decode ⟨a0.toArray⟩ y6.2.1).2),y6.2.2.1,()))):Option ((Bool×Nat×List (Int×Int×Unit)×Unit)⊕((Bool×Nat×List (Int×Int×Unit)×Unit)⊕((Bool×List (Int×Int×Unit)×Unit)⊕(List (Int×Int×Unit)×Bool×Unit))))).bind (aV fun v4 =>
 cond v4.1 (
 some (.inr (.inr ([],false,())))) (
 cond y6.1 ((ck (v4.2.2.1.length+([(0,((Utf8.decode ⟨a0.toArray⟩ y6.2.1).1:Int),())]:List (Int×Int×Unit)).length)).bind fun u5 =>
 some (.inl (false,v4.2.1,(v4.2.2.1++([(0,((Utf8.decode ⟨a0.toArray⟩ y6.2.1).1:Int),())]:List (Int×Int×Unit))),()))) ((zbr ((Utf8.decode ⟨a0.toArray⟩ y6.2.1).1:Int)).bind fun r6 =>
 cond (!r6) (
(ck (v4.2.2.1.length+([(0,((Utf8.decode ⟨a0.toArray⟩ y6.2.1).1:Int),())]:List (Int×Int×Unit)).length)).bind fun u7 =>
 some (.inl (false,v4.2.1,(v4.2.2.1++([(0,((Utf8.decode ⟨a0.toArray⟩ y6.2.1).1:Int),())]:List (Int×Int×Unit))),()))) (
 cond (decide (((Utf8.decode ⟨a0.toArray⟩ y6.2.1).1:Int)=92)) (
 some (.inl (true,v4.2.1,v4.2.2.1,()))) (
 cond (decide (((Utf8.decode ⟨a0.toArray⟩ y6.2.1).1:Int)=63)) (
(ck (v4.2.2.1.length+([(1,0,())]:List (Int×Int×Unit)).length)).bind fun u8 =>
 some (.inl (y6.1,v4.2.1,(v4.2.2.1++([(1,0,())]:List (Int×Int×Unit))),()))) (
(ck (v4.2.2.1.length+([(2,0,())]:List (Int×Int×Unit)).length)).bind fun u9 =>
 some (.inl (y6.1,v4.2.1,(v4.2.2.1++([(2,0,())]:List (Int×Int×Unit))),()))))))))) (some (.inr (.inl (y6.1,y6.2.2.1,()))))
def zc7 (a0:List UInt8):Option (List (Int×Int×Unit)×Bool×Unit) :=
(zaz a0).bind fun r1 =>
 cond (!r1) (some ([],false,())) ((zaq a0).bind fun r2 =>
 cond (decide (r2>64)) (
 some ([],false,())) (
(aI (gg a0) (false,0,[],()):Option ((Bool×List (Int×Int×Unit)×Unit)⊕(List (Int×Int×Unit)×Bool×Unit))).bind (aV fun v10 =>
 cond v10.1 (
 some ([],false,())) (
 some (v10.2.1,true,())))))
def yY:TFn:={ ps:=(.cons .str .unit),res:=(.tup (.cons (.sl (.agg (.cons (.int .i64) (.cons (.int .i32) .unit)))) (.cons .bool .unit))),fn:=fun v=>zc7 v.1 }
def arn:TEnv:={ pure:=[(281,zu),(282,acA),(283,abX)],look:=[],glob:=G0T,ty:=[(336,(.agg (.cons (.int .i64) (.cons (.int .i32) .unit))))],raw:=[],fresh:=[] }
theorem arm:runY Tryz.prog aj5 aro arn axF Tryz.f215 yY.ps yY.res=yY.fn:=by kernel_rfl
theorem abG:aA Tryz.prog G0 215 aft:=ai (ak ⟨au,(aj acu (aj alY (aj akz ae))),ap,ae,an⟩ Tryz.func215 rfl (by kernel_rfl))
theorem ahw:TOk aft yY:=az (E:=aj5) (ET:=arn) (EnvT.ofX (ax (ah ahH (ah auC (ah asg al)))) am ar aL aq) arm rfl
def aj3:Env:=(eZ [(215,aft)] [274])
def ari:Hints:=(hZ [] [])
def aj2:PFn:=aH (runF Tryz.prog aj3 ari Tryz.f143)
def axD:TH:=yZ
def zc9 (a0:List UInt8):Option Bool :=
(zc7 a0).bind fun r1 =>
 some r1.2.1
def abF:TFn:={ ps:=(.cons .str .unit),res:=.bool,fn:=fun v=>zc9 v.1 }
def arh:TEnv:=(vZ [(215,yY)])
theorem arf:runY Tryz.prog aj3 ari arh axD Tryz.f143 abF.ps abF.res=abF.fn:=by kernel_rfl
theorem aj1:aA Tryz.prog G0 143 aj2:=ai (ak ⟨au,(aj abG ae),ap,ae,an⟩ Tryz.func143 rfl (by kernel_rfl))
theorem ard:TOk aj2 abF:=az (E:=aj3) (ET:=arh) (EnvT.ofX (ax (ah ahw al)) am ar aL aq) arf rfl
def amR:Env:=(eZ [(143,aj2)] [274])
def avD:Hints:=(hZ [] [])
def amQ:PFn:=aH (runF Tryz.prog amR avD Tryz.f142)
def ayI:TH:=yZ
def za8 (a0:List UInt8):Option Bool :=
 cond (decide (a0=[])) (some true) ((zc9 a0).bind fun r1 =>
 some (!r1))
def acL:TFn:={ ps:=(.cons .str .unit),res:=.bool,fn:=fun v=>za8 v.1 }
def avC:TEnv:=(vZ [(143,abF)])
theorem avB:runY Tryz.prog amR avD avC ayI Tryz.f142 acL.ps acL.res=acL.fn:=by kernel_rfl
theorem amP:aA Tryz.prog G0 142 amQ:=ai (ak ⟨au,(aj aj1 ae),ap,ae,an⟩ Tryz.func142 rfl (by kernel_rfl))
theorem avA:TOk amQ acL:=az (E:=amR) (ET:=avC) (EnvT.ofX (ax (ah ard al)) am ar aL aq) avB rfl
def amp:Env:=(eZ [(142,amQ)] [274])
def au6:Hints:=(hZ [(2,[0,1,7,8])] [])
def amo:PFn:=aH (runF Tryz.prog amp au6 Tryz.f214)
def ayB:TH:={ loops:=[(2,{ keep:=[(8,(.int .i64))],mem:=[] })],ro:=[] }
def rY (a0:List (List UInt8)) (y2:(Int×Unit)):Option ((Int×Unit)⊕Int) :=
 cond (decide (y2.1<(a0.length:Int))) (
(atI a0 y2.1).bind fun x1 =>
(za8 x1).bind fun r2 =>
 cond r2 (
 some (.inr y2.1)) (
 some (.inl ((IntKind.wrap .i64 (y2.1+1)),())))) (
 some (.inr (-1)))
def zah (a0:List (List UInt8)) (a1:Unit):Option Int :=
 aI (rY a0) (0,())
def acF:TFn:={ ps:=(.cons (.sl .str) (.cons (.fn 142) .unit)),res:=(.int .i64),fn:=fun v=>zah v.1 v.2.1 }
def au5:TEnv:=(vZ [(142,acL)])
theorem au4:runY Tryz.prog amp au6 au5 ayB Tryz.f214 acF.ps acF.res=acF.fn:=by kernel_rfl
theorem amn:aA Tryz.prog G0 214 amo:=ai (ak ⟨au,(aj amP ae),ap,ae,an⟩ Tryz.func214 rfl (by kernel_rfl))
theorem au3:TOk amo acF:=az (E:=amp) (ET:=au5) (EnvT.ofX (ax (ah avA al)) am ar aL aq) au4 rfl
def ams:Env:=(eZ [(214,amo)] [274])
def ava:Hints:=(hZ [] [])
def amr:PFn:=aH (runF Tryz.prog ams ava Tryz.f141)
def ayC:TH:=yZ
def zag (a0:List (List UInt8)) (a1:Unit):Option Bool :=
(zah a0 a1).bind fun r1 =>
 some (decide (r1≥0))
def acG:TFn:={ ps:=(.cons (.sl .str) (.cons (.fn 142) .unit)),res:=.bool,fn:=fun v=>zag v.1 v.2.1 }
def au9:TEnv:=(vZ [(214,acF)])
theorem au8:runY Tryz.prog ams ava au9 ayC Tryz.f141 acG.ps acG.res=acG.fn:=by kernel_rfl
theorem amq:aA Tryz.prog G0 141 amr:=ai (ak ⟨au,(aj amn ae),ap,ae,an⟩ Tryz.func141 rfl (by kernel_rfl))
theorem au7:TOk amr acG:=az (E:=ams) (ET:=au9) (EnvT.ofX (ax (ah au3 al)) am ar aL aq) au8 rfl
def akj:Env:=(eZ [(141,amr)] [274])
def arQ:Hints:=(hZ [] [])
def afx:PFn:=aH (runF Tryz.prog akj arQ Tryz.f71)
def axN:TH:=yZ
def zbz (a0:List (List UInt8)):Option Int :=
 cond (decide ((a0.length:Int)=0)) (
 some 8) (
 cond (decide ((a0.length:Int)>8)) (
 some 9) (
(zag a0 ()).bind fun r1 =>
 cond r1 (
 some 8) (
 some 0)))
def zh:TFn:={ ps:=tT22,res:=(.int .i64),fn:=fun v=>zbz v.1 }
def arP:TEnv:=(vZ [(141,acG)])
theorem arO:runY Tryz.prog akj arQ arP axN Tryz.f71 zh.ps zh.res=zh.fn:=by kernel_rfl
theorem abP:aA Tryz.prog G0 71 afx:=ai (ak ⟨au,(aj amq ae),ap,ae,an⟩ Tryz.func71 rfl (by kernel_rfl))
theorem ahA:TOk afx zh:=az (E:=akj) (ET:=arP) (EnvT.ofX (ax (ah au7 al)) am ar aL aq) arO rfl
def al4:Go.Shelf.Ren:=⟨fun | 41=>72 | n=>n,fun | 22=>24 | 23=>9 | 4=>4 | n=>n,fun | n=>n⟩
theorem afP:Go.Proofs.SlLaysE0.n41 Tryz.prog al4:={
 mixed:=by kernel_rfl
 f41:=⟨Tryz.f72.name,by decide,Tryz.func72.trans (congrArg some (by kernel_rfl))⟩
 t4:=Tryz.underlying4
 a4:=Tryz.isAgg4
 z4:=Tryz.sizeOf4
 v4:=Tryz.zeroValue4
 t22:=Tryz.underlying24
 a22:=Tryz.isAgg24
 z22:=Tryz.sizeOf24
 v22:=Tryz.zeroValue24 }
def zw:PFn:=(kV 1)
theorem pU:aA Tryz.prog G0 72 zw:=kD afP 1 ⟨Tryz.f72,Tryz.func72,rfl,by kernel_rfl⟩ (by kernel_rfl) (by kernel_rfl) (by kernel_rfl) (by kernel_rfl) (by kernel_rfl) (by decide) (fun w=>Tryz.sizeOf9 w)
def zao (a0:List (List UInt8)):Option (List (List UInt8)):=iI a0
def acC:TFn:=f8 .str
theorem xi:TOk zw acC:=nJ rfl rfl rfl
def air:Env:=(eZ [(71,afx),(72,zw)] [274])
def aoU:Hints:=(hZ [] [])
def afl:SFn:=runF Tryz.prog air aoU Tryz.f17
def aw1:TH:=yZ
def zdl (a0:List (List UInt8)):Option (List vV8×Int×Unit) :=
(zbz a0).bind fun r1 =>
 cond (!decide (r1=0)) (
 some ([],r1,())) (
(zao a0).bind fun r2 =>
 some ([(r2,[],0,())],0,()))
def aa3:TNew:={ ps:=tT22,e:=139,t:=(.cons (.sl tT21) tT16),fn:=fun v=>zdl v.1,pair:=true }
def aoT:TEnv:=(vZ [(71,zh),(72,acC)])
theorem aoS:awn Tryz.prog air aoU aoT aw1 Tryz.f17 aa3.ps 139 tT21 tT16=aa3.fn:=by kernel_rfl
theorem aa2:cE Tryz.prog G0 17 afl:=ak ⟨au,(aj abP (aj pU ae)),ap,ae,an⟩ Tryz.func17 rfl (by kernel_rfl)
theorem aho:TNewOk afl aa3:=agD (E:=air) (ET:=aoT) (EnvT.ofX (ax (ah ahA (ah xi al))) am ar aL aq) aoS
def ale:Env:=(eZ [] [274])
def atm:Hints:=(hZ [] [])
def afF:PFn:=aH (runF Tryz.prog ale atm Tryz.f226)
def ayc:TH:=yZ
def zba (a0:Int):Option Bool :=
 some (!decide (a0=a0))
def aci:TFn:={ ps:=tT16,res:=.bool,fn:=fun v=>zba v.1 }
def atl:TEnv:=(vZ [])
theorem atk:runY Tryz.prog ale atm atl ayc Tryz.f226 aci.ps aci.res=aci.fn:=by kernel_rfl
theorem ald:aA Tryz.prog G0 226 afF:=ai (ak ⟨au,ae,ap,ae,an⟩ Tryz.func226 rfl (by kernel_rfl))
theorem atj:TOk afF aci:=az (E:=ale) (ET:=atl) (EnvT.ofX (ax al) am ar aL aq) atk rfl
def am5:Env:=(eZ [(226,afF)] [274])
def av0:Hints:=(hZ [] [])
def uT:PFn:=aH (runF Tryz.prog am5 av0 Tryz.f156)
def ayO:TH:=yZ
def za1 (a0:Int) (a1:Int):Option Int :=
(zba a0).bind fun r1 =>
(zba a1).bind fun r2 =>
 cond r1 (
 cond r2 (
 some 0) (
 some (-1))) (
 cond r2 (
 some 1) (
 cond (decide (a0<a1)) (
 some (-1)) (
 cond (decide (a0>a1)) (
 some 1) (
 some 0))))
def rZ:TFn:={ ps:=(.cons (.int .i64) tT16),res:=(.int .i64),fn:=fun v=>za1 v.1 v.2.1 }
def avZ:TEnv:=(vZ [(226,aci)])
theorem avY:runY Tryz.prog am5 av0 avZ ayO Tryz.f156 rZ.ps rZ.res=rZ.fn:=by kernel_rfl
theorem pV:aA Tryz.prog G0 156 uT:=ai (ak ⟨au,(aj ald ae),ap,ae,an⟩ Tryz.func156 rfl (by kernel_rfl))
theorem xm:TOk uT rZ:=az (E:=am5) (ET:=avZ) (EnvT.ofX (ax (ah atj al)) am ar aL aq) avY rfl
def aj4:Env:=(eZ [] [274])
def arl:Hints:=(hZ [(3,[3,6,7,8])] [])
def uG:PFn:=aH (runF Tryz.prog aj4 arl Tryz.f154)
def axE:TH:={ loops:=[(3,{ keep:=[(8,(.int .i64))],mem:=[] })],ro:=[] }
def gf (a0:List Int) (y3:(Int×Unit)):Option ((Int×Unit)⊕Int) :=
 cond (decide (y3.1<(a0.length:Int))) (
(atI a0 y3.1).bind fun x1 =>
 cond (!decide (x1=0)) (
 some (.inr x1)) (
 some (.inl ((IntKind.wrap .i64 (y3.1+1)),())))) (
 some (.inr 0))
def zc8 (a0:List Int):Option Int :=
 aI (gf a0) (0,())
def rP:TFn:={ ps:=(.cons (.sl (.int .i64)) .unit),res:=(.int .i64),fn:=fun v=>zc8 v.1 }
def ark:TEnv:=(vZ [])
theorem arj:runY Tryz.prog aj4 arl ark axE Tryz.f154 rP.ps rP.res=rP.fn:=by kernel_rfl
theorem pR:aA Tryz.prog G0 154 uG:=ai (ak ⟨au,ae,ap,ae,an⟩ Tryz.func154 rfl (by kernel_rfl))
theorem wQ:TOk uG rP:=az (E:=aj4) (ET:=ark) (EnvT.ofX (ax al) am ar aL aq) arj rfl
def ajU:Env:=(eZ [(154,uG),(156,uT)] [274])
def aq4:Hints:=(hZ [] [])
def ajT:PFn:=aH (runF Tryz.prog ajU aq4 Tryz.f171)
def axA:TH:={ loops:=[],ro:=[2,3] }
def zcc (a0:(Int×Int×Unit)) (a1:(Int×Int×Unit)):Option Int :=
(za1 a0.1 a1.1).bind fun r1 =>
(za1 a0.2.1 a1.2.1).bind fun r2 =>
(zc8 ([r1,r2]:List Int)).bind fun r3 =>
 some r3
def abC:TFn:={ ps:=(.cons (.agg (.cons (.int .i64) tT16)) tT23),res:=(.int .i64),fn:=fun v=>zcc v.1 v.2.1 }
def aq3:TEnv:={ pure:=[(154,rP),(156,rZ)],look:=[],glob:=G0T,ty:=[(3,(.int .i64))],raw:=[],fresh:=[] }
theorem aq2:runY Tryz.prog ajU aq4 aq3 axA Tryz.f171 abC.ps abC.res=abC.fn:=by kernel_rfl
theorem ajS:aA Tryz.prog G0 171 ajT:=ai (ak ⟨au,(aj pR (aj pV ae)),ap,ae,an⟩ Tryz.func171 rfl (by kernel_rfl))
theorem aq1:TOk ajT abC:=az (E:=ajU) (ET:=aq3) (EnvT.ofX (ax (ah wQ (ah xm al))) am ar aL aq) aq2 rfl
def am0:Env:=(eZ [(171,ajT)] [274])
def avR:Hints:=(hZ [] [])
def amZ:PFn:=aH (runF Tryz.prog am0 avR Tryz.f242)
def ayM:TH:={ loops:=[],ro:=[2,3] }
def za4 (a0:vV2) (a1:vV2):Option Int :=
(zcc a0.1 a1.1).bind fun r1 =>
 some r1
def acQ:TFn:={ ps:=(.cons tT14 (.cons tT14 .unit)),res:=(.int .i64),fn:=fun v=>za4 v.1 v.2.1 }
def avQ:TEnv:=(vZ [(171,abC)])
theorem avP:runY Tryz.prog am0 avR avQ ayM Tryz.f242 acQ.ps acQ.res=acQ.fn:=by kernel_rfl
theorem amY:aA Tryz.prog G0 242 amZ:=ai (ak ⟨au,(aj ajS ae),ap,ae,an⟩ Tryz.func242 rfl (by kernel_rfl))
theorem avO:TOk amZ acQ:=az (E:=am0) (ET:=avQ) (EnvT.ofX (ax (ah aq1 al)) am ar aL aq) avP rfl
def amF:Env:=(eZ [(242,amZ)] [274])
def avn:Hints:=(hZ [(3,[0,2,4,8,9,10])] [])
def amE:PFn:=aH (runF Tryz.prog amF avn Tryz.f284)
def ayE:TH:={ joins:=[(8,{ keep:=[(4,(.bx 0 0)),(9,(.int .i64))],mem:=[.same] })],loops:=[(3,{ keep:=[(4,(.bx 0 0)),(9,(.int .i64)),(10,(.int .i64))],mem:=[.same] })],ro:=[4] }
def oH (a0:List vV2) (a1:vV2) (y3:(Int×Int×Unit)):Option ((Int×Int×Unit)⊕((Int×Unit)⊕(Int×Bool×Unit))) :=
 cond (decide (y3.1<y3.2.1)) (
(shrT .u64 (IntKind.wrap .u64 (IntKind.wrap .i64 (y3.1+y3.2.1))) 1).bind fun t1 =>
(atI a0 (IntKind.wrap .i64 t1)).bind fun x2 =>
(za4 x2 a1).bind fun r3 =>
 cond (decide (r3<0)) (
 some (.inl ((IntKind.wrap .i64 ((IntKind.wrap .i64 t1)+1)),y3.2.1,()))) (
 some (.inl (y3.1,(IntKind.wrap .i64 t1),())))) (
 some (.inr (.inl (y3.1,()))))
def zac (a0:List vV2) (a1:vV2) (a2:Unit):Option (Int×Bool×Unit) :=
(aI (oH a0 a1) (0,(a0.length:Int),()):Option ((Int×Unit)⊕(Int×Bool×Unit))).bind (aV fun v4 =>
 cond (decide (v4.1<(a0.length:Int))) ((atI a0 v4.1).bind fun x5 =>
(za4 x5 a1).bind fun r6 =>
 some (v4.1,(decide (r6=0)),())) (some (v4.1,false,())))
def acH:TFn:={ ps:=(.cons (.sl tT14) (.cons tT14 (.cons (.fn 242) .unit))),res:=(.tup (.cons (.int .i64) (.cons .bool .unit))),fn:=fun v=>zac v.1 v.2.1 v.2.2.1 }
def avm:TEnv:=(vZ [(242,acQ)])
theorem avl:runY Tryz.prog amF avn avm ayE Tryz.f284 acH.ps acH.res=acH.fn:=by kernel_rfl
theorem amD:aA Tryz.prog G0 284 amE:=ai (ak ⟨au,(aj amY ae),ap,ae,an⟩ Tryz.func284 rfl (by kernel_rfl))
theorem avk:TOk amE acH:=az (E:=amF) (ET:=avm) (EnvT.ofX (ax (ah avO al)) am ar aL aq) avl rfl
def ail:Env:=(eZ [(284,amE)] [274])
def aoH:Hints:=(hZ [] [])
def aik:PFn:=aH (runF Tryz.prog ail aoH Tryz.f217)
def awX:TH:={ loops:=[],ro:=[3] }
def zdp (a0:List vV2) (a1:(Int×Int×Unit)):Option (Int×Bool×Unit) :=
(zac a0 (a1,0,()) ()).bind fun r1 =>
 some (r1.1,r1.2.1,())
def aaX:TFn:={ ps:=(.cons (.sl tT14) tT23),res:=(.tup (.cons (.int .i64) (.cons .bool .unit))),fn:=fun v=>zdp v.1 v.2.1 }
def aoG:TEnv:=(vZ [(284,acH)])
theorem aoF:runY Tryz.prog ail aoH aoG awX Tryz.f217 aaX.ps aaX.res=aaX.fn:=by kernel_rfl
theorem aij:aA Tryz.prog G0 217 aik:=ai (ak ⟨au,(aj amD ae),ap,ae,an⟩ Tryz.func217 rfl (by kernel_rfl))
theorem aoE:TOk aik aaX:=az (E:=ail) (ET:=aoG) (EnvT.ofX (ax (ah avk al)) am ar aL aq) aoF rfl
def aiL:Env:=(eZ [(217,aik)] [274])
def apo:Hints:=(hZ [] [])
def aiK:PFn:=aH (runF Tryz.prog aiL apo Tryz.f145)
def aw9:TH:={ loops:=[],ro:=[3] }
def zdd (a0:List vV2) (a1:(Int×Int×Unit)):Option Int :=
(zdp a0 a1).bind fun r1 =>
 cond r1.2.1 (
(atI a0 r1.1).bind fun x2 =>
 some x2.2.1) (
 some 0)
def abb:TFn:={ ps:=(.cons (.sl tT14) tT23),res:=(.int .i64),fn:=fun v=>zdd v.1 v.2.1 }
def apn:TEnv:=(vZ [(217,aaX)])
theorem apm:runY Tryz.prog aiL apo apn aw9 Tryz.f145 abb.ps abb.res=abb.fn:=by kernel_rfl
theorem aiJ:aA Tryz.prog G0 145 aiK:=ai (ak ⟨au,(aj aij ae),ap,ae,an⟩ Tryz.func145 rfl (by kernel_rfl))
theorem apl:TOk aiK abb:=az (E:=aiL) (ET:=apn) (EnvT.ofX (ax (ah aoE al)) am ar aL aq) apm rfl
def aji:Env:=(eZ [(145,aiK)] [274])
def aqc:Hints:=(hZ [] [])
def afq:PFn:=aH (runF Tryz.prog aji aqc Tryz.f75)
def axm:TH:={ loops:=[],ro:=[3] }
def zcq (a0:List vV2) (a1:(Int×Int×Unit)):Option Bool :=
(zdd a0 a1).bind fun r1 =>
(remT r1 2).bind fun t2 =>
 some (decide (t2=0))
def yV:TFn:={ ps:=(.cons (.sl tT14) tT23),res:=.bool,fn:=fun v=>zcq v.1 v.2.1 }
def aqb:TEnv:=(vZ [(145,abb)])
theorem aqa:runY Tryz.prog aji aqc aqb axm Tryz.f75 yV.ps yV.res=yV.fn:=by kernel_rfl
theorem abo:aA Tryz.prog G0 75 afq:=ai (ak ⟨au,(aj aiJ ae),ap,ae,an⟩ Tryz.func75 rfl (by kernel_rfl))
theorem aht:TOk afq yV:=az (E:=aji) (ET:=aqb) (EnvT.ofX (ax (ah apl al)) am ar aL aq) aqa rfl
def ak1:Env:=(eZ [(75,afq)] [274])
def asY:Hints:=(hZ [(3,[1,5,13,14,15]),(7,[1,5,13,14,15,25,26,27]),(10,[1,5,13,14,15,25,26,27,32,33,34])] [])
def ak0:SFn:=runF Tryz.prog ak1 asY Tryz.f74
def ax6:TH:={ loops:=[(3,{ keep:=[(5,(.mp 0)),(15,(.int .i64))],mem:=[.map tT14 .bool] }),(7,{ keep:=[(5,(.mp 0)),(27,(.int .i64))],mem:=[.map tT14 .bool,.gone] }),(10,{ keep:=[(5,(.mp 0)),(34,(.int .i64))],mem:=[.map tT14 .bool,.gone,.gone] })],ro:=[] }
def pT (y7:vV11) (x3:vV1) (y10:vV11):Option (vV11⊕(vV11⊕(vV11⊕(List (vV2×Bool))))) :=
 cond (decide (y10.1<(x3.2.2.2.2.1.length:Int))) (
(atI x3.2.2.2.2.1 y10.1).bind fun x4 =>
 some (.inl ((IntKind.wrap .i64 (y10.1+1)),(putK tT14 x4 true y10.2.1),()))) (
 some (.inr (.inl ((IntKind.wrap .i64 (y7.1+1)),y10.2.1,()))))
def xa (y3:vV11) (x1:vV5) (y7:vV11):Option (vV11⊕(vV11⊕(List (vV2×Bool)))) :=
 cond (decide (y7.1<(x1.2.2.2.2.1.length:Int))) (
(atI x1.2.2.2.2.1 y7.1).bind fun x3 =>
 aI (pT y7 x3) (0,y7.2.1,())) (
 some (.inr (.inl ((IntKind.wrap .i64 (y3.1+1)),y7.2.1,()))))
def xb (a0:List vV5) (a1:List vV2) (y3:vV11):Option (vV11⊕(List (vV2×Bool))) :=
 cond (decide (y3.1<(a0.length:Int))) (
(atI a0 y3.1).bind fun x1 =>
(zcq a1 x1.1).bind fun r2 =>
 cond (!r2) (
 some (.inl ((IntKind.wrap .i64 (y3.1+1)),y3.2.1,()))) (
 aI (xa y3 x1) (0,y3.2.1,()))) (
 some (.inr y3.2.1))
def zbg (a0:List vV5) (a1:List vV2):Option (List (vV2×Bool)) :=
 aI (xb a0 a1) (0,[],())
def afD:TNew:={ ps:=(.cons (.sl tT17) (.cons (.sl tT14) .unit)),e:=143,t:=(.sl (.cons tT14 .bool)),fn:=fun v=>zbg v.1 v.2.1,mp:=true }
def asX:TEnv:={ pure:=[(75,yV)],look:=[],glob:=G0T,ty:=[(4,.bool),(146,tT14)],raw:=[],fresh:=[] }
theorem asW:awo Tryz.prog ak1 asY asX ax6 Tryz.f74 afD.ps tT14 .bool=afD.fn:=by kernel_rfl
theorem akZ:cE Tryz.prog G0 74 ak0:=ak ⟨au,(aj abo ae),ap,ae,an⟩ Tryz.func74 rfl (by kernel_rfl)
theorem asV:TNewOk ak0 afD:=agE (E:=ak1) (ET:=asX) (EnvT.ofX (ax (ah aht al)) am ar aL aq) asW
def ain:Env:={ pure:=[(75,afq)],raw:=[(74,ak0)],glob:=G0,same:=[274],look:=[],ext:=[] }
def aoN:Hints:=(hZ [(4,[1,5,6,15,16,17]),(8,[1,5,6,8,15,16,17,27,28,29])] [])
def afk:PFn:=aH (runF Tryz.prog ain aoN Tryz.f19)
def awZ:TH:={ loops:=[(4,{ keep:=[(5,(.mp 0)),(6,(.own 4)),(17,(.int .i64))],mem:=[.map tT14 .bool,.gone,.gone,.gone,.row true 148 tT19] }),(8,{ keep:=[(5,(.mp 0)),(6,(.own 4)),(8,(.bx 5 0)),(29,(.int .i64))],mem:=[.map tT14 .bool,.gone,.gone,.gone,.row true 148 tT19,.box 78 tT17] })],ro:=[] }
def wE (y4:(Int×List (vV2×Bool)×List vV6×Unit)) (x2:vV5) (y8:(Int×List (vV2×Bool)×List vV6×vV5×Unit)):Option ((Int×List (vV2×Bool)×List vV6×vV5×Unit)⊕((Int×List (vV2×Bool)×List vV6×Unit)⊕List vV6)) :=
 cond (decide (y8.1<(x2.2.2.2.2.1.length:Int))) (
(atI x2.2.2.2.2.1 y8.1).bind fun x4 =>
 cond (decide (x4.1=1)) (cond (!((getK tT14 false (y8.2.2.2.1.1,y8.1,()) y8.2.1).1)) (
(ck (y8.2.2.1.length+([((y8.2.2.2.1.1,y8.1,()),x4,y8.2.2.2.1.2.2.1,())]:List vV6).length)).bind fun u5 =>
 some (.inl ((IntKind.wrap .i64 (y8.1+1)),y8.2.1,(y8.2.2.1++([((y8.2.2.2.1.1,y8.1,()),x4,y8.2.2.2.1.2.2.1,())]:List vV6)),y8.2.2.2.1,()))) (
 some (.inl ((IntKind.wrap .i64 (y8.1+1)),y8.2.1,y8.2.2.1,y8.2.2.2.1,())))) (cond (decide (x4.1=2)) (cond (!((getK tT14 false (y8.2.2.2.1.1,y8.1,()) y8.2.1).1)) (
(ck (y8.2.2.1.length+([((y8.2.2.2.1.1,y8.1,()),x4,y8.2.2.2.1.2.2.1,())]:List vV6).length)).bind fun u6 =>
 some (.inl ((IntKind.wrap .i64 (y8.1+1)),y8.2.1,(y8.2.2.1++([((y8.2.2.2.1.1,y8.1,()),x4,y8.2.2.2.1.2.2.1,())]:List vV6)),y8.2.2.2.1,()))) (
 some (.inl ((IntKind.wrap .i64 (y8.1+1)),y8.2.1,y8.2.2.1,y8.2.2.2.1,())))) (cond (decide (x4.1=3)) (cond (!((getK tT14 false (y8.2.2.2.1.1,y8.1,()) y8.2.1).1)) (
(ck (y8.2.2.1.length+([((y8.2.2.2.1.1,y8.1,()),x4,y8.2.2.2.1.2.2.1,())]:List vV6).length)).bind fun u7 =>
 some (.inl ((IntKind.wrap .i64 (y8.1+1)),y8.2.1,(y8.2.2.1++([((y8.2.2.2.1.1,y8.1,()),x4,y8.2.2.2.1.2.2.1,())]:List vV6)),y8.2.2.2.1,()))) (
 some (.inl ((IntKind.wrap .i64 (y8.1+1)),y8.2.1,y8.2.2.1,y8.2.2.2.1,())))) (some (.inl ((IntKind.wrap .i64 (y8.1+1)),y8.2.1,y8.2.2.1,y8.2.2.2.1,())))))) (
 some (.inr (.inl ((IntKind.wrap .i64 (y4.1+1)),y8.2.1,y8.2.2.1,()))))
def wF (a0:List vV5) (a1:List vV2) (y4:(Int×List (vV2×Bool)×List vV6×Unit)):Option ((Int×List (vV2×Bool)×List vV6×Unit)⊕List vV6) :=
 cond (decide (y4.1<(a0.length:Int))) (
(atI a0 y4.1).bind fun x2 =>
(zcq a1 x2.1).bind fun r3 =>
 cond (!r3) (
 some (.inl ((IntKind.wrap .i64 (y4.1+1)),y4.2.1,y4.2.2.1,()))) (
 aI (wE y4 x2) (0,y4.2.1,y4.2.2.1,x2,()))) (
 some (.inr y4.2.2.1))
def zdn (a0:List vV5) (a1:List vV2):Option (List vV6) :=
(zbg a0 a1).bind fun n1 =>
 aI (wF a0 a1) (0,n1,[],())
def yQ:TFn:={ ps:=(.cons (.sl tT17) (.cons (.sl tT14) .unit)),res:=(.sl tT19),fn:=fun v=>zdn v.1 v.2.1 }
def aoM:TEnv:={ pure:=[(75,yV)],look:=[],glob:=G0T,ty:=[(148,tT19)],raw:=[],fresh:=[(74,afD)] }
theorem aoL:runY Tryz.prog ain aoN aoM awZ Tryz.f19 yQ.ps yQ.res=yQ.fn:=by kernel_rfl
theorem aa0:aA Tryz.prog G0 19 afk:=ai (ak ⟨au,(aj abo ae),(bP akZ ap),ae,an⟩ Tryz.func19 rfl (by kernel_rfl))
theorem ahn:TOk afk yQ:=az (E:=ain) (ET:=aoM) (EnvT.ofX (ax (ah aht al)) am (mJ ar rfl) aL (mY asV rfl rfl rfl aq)) aoL rfl
def aie:Env:=(eZ [] [274])
def aow:Hints:=(hZ [] [])
def afj:PFn:=aH (runF Tryz.prog aie aow Tryz.f124)
def awU:TH:={ joins:=[(6,{ keep:=[(6,.bool)],mem:=[] })],loops:=[],ro:=[] }
def zds (a0:Int):Option Int :=
 cond (decide (a0=1)) (
 some 1) (
(cond (decide (a0=2)) (
 some (.inl ((decide (a0=2)),()))) (
 some (.inl ((decide (a0=4)),()))):Option ((Bool×Unit)⊕Int)).bind (aV fun v1 =>
 cond v1.1 (
 some 2) (
 cond (decide (a0=3)) (
 some 3) (
 some 0))))
def yP:TFn:={ ps:=tT16,res:=(.int .i64),fn:=fun v=>zds v.1 }
def aov:TEnv:=(vZ [])
theorem aou:runY Tryz.prog aie aow aov awU Tryz.f124 yP.ps yP.res=yP.fn:=by kernel_rfl
theorem aaT:aA Tryz.prog G0 124 afj:=ai (ak ⟨au,ae,ap,ae,an⟩ Tryz.func124 rfl (by kernel_rfl))
theorem ahm:TOk afj yP:=az (E:=aie) (ET:=aov) (EnvT.ofX (ax al) am ar aL aq) aou rfl
def alQ:Env:=(eZ [] [274])
def aul:Hints:=(hZ [] [])
def afK:PFn:=aH (runF Tryz.prog alQ aul Tryz.f330)
def ayr:TH:=yZ
def zav (a0:List UInt8):Option Bool :=
 some (!decide (a0=a0))
def acw:TFn:={ ps:=(.cons .str .unit),res:=.bool,fn:=fun v=>zav v.1 }
def auk:TEnv:=(vZ [])
theorem auj:runY Tryz.prog alQ aul auk ayr Tryz.f330 acw.ps acw.res=acw.fn:=by kernel_rfl
theorem alP:aA Tryz.prog G0 330 afK:=ai (ak ⟨au,ae,ap,ae,an⟩ Tryz.func330 rfl (by kernel_rfl))
theorem aui:TOk afK acw:=az (E:=alQ) (ET:=auk) (EnvT.ofX (ax al) am ar aL aq) auj rfl
def alX:Env:=(eZ [(330,afK)] [274])
def auB:Hints:=(hZ [] [])
def afO:PFn:=aH (runF Tryz.prog alX auB Tryz.f287)
def ayv:TH:=yZ
def zar (a0:List UInt8) (a1:List UInt8):Option Int :=
(zav a0).bind fun r1 =>
(zav a1).bind fun r2 =>
 cond r1 (
 cond r2 (
 some 0) (
 some (-1))) (
 cond r2 (
 some 1) (
 cond (Op.bytesLess a0 a1) (
 some (-1)) (
 cond (!(Op.bytesLess a0 a1||decide (a0=a1))) (
 some 1) (
 some 0))))
def acz:TFn:={ ps:=(.cons .str (.cons .str .unit)),res:=(.int .i64),fn:=fun v=>zar v.1 v.2.1 }
def auA:TEnv:=(vZ [(330,acw)])
theorem auz:runY Tryz.prog alX auB auA ayv Tryz.f287 acz.ps acz.res=acz.fn:=by kernel_rfl
theorem alW:aA Tryz.prog G0 287 afO:=ai (ak ⟨au,(aj alP ae),ap,ae,an⟩ Tryz.func287 rfl (by kernel_rfl))
theorem auy:TOk afO acz:=az (E:=alX) (ET:=auA) (EnvT.ofX (ax (ah aui al)) am ar aL aq) auz rfl
def al6:Env:=(eZ [(287,afO)] [274])
def auN:Hints:=(hZ [(2,[0,1,9,10,11])] [])
def afR:PFn:=aH (runF Tryz.prog al6 auN Tryz.f225)
def ayy:TH:={ joins:=[(11,{ keep:=[],mem:=[] })],loops:=[(2,{ keep:=[(11,(.int .i64))],mem:=[] })],ro:=[] }
def jf (a0:List (List UInt8)) (a1:List (List UInt8)) (y2:(Int×Unit)):Option ((Int×Unit)⊕(Unit⊕Int)) :=
 cond (decide (y2.1<(a0.length:Int))) (
(atI a0 y2.1).bind fun x1 =>
 cond (decide (y2.1≥(a1.length:Int))) (
 some (.inr (.inr 1))) (
(atI a1 y2.1).bind fun x2 =>
(zar x1 x2).bind fun r3 =>
 cond (!decide (r3=0)) (
 some (.inr (.inr r3))) (
 some (.inl ((IntKind.wrap .i64 (y2.1+1)),()))))) (
 some (.inr (.inl ())))
def zan (a0:List (List UInt8)) (a1:List (List UInt8)):Option Int :=
(aI (jf a0 a1) (0,()):Option (Unit⊕Int)).bind (aV fun v4 =>
 cond (decide ((a0.length:Int)<(a1.length:Int))) (
 some (-1)) (
 some 0))
def acD:TFn:={ ps:=(.cons (.sl .str) tT22),res:=(.int .i64),fn:=fun v=>zan v.1 v.2.1 }
def auM:TEnv:=(vZ [(287,acz)])
theorem auL:runY Tryz.prog al6 auN auM ayy Tryz.f225 acD.ps acD.res=acD.fn:=by kernel_rfl
theorem al5:aA Tryz.prog G0 225 afR:=ai (ak ⟨au,(aj alW ae),ap,ae,an⟩ Tryz.func225 rfl (by kernel_rfl))
theorem auK:TOk afR acD:=az (E:=al6) (ET:=auM) (EnvT.ofX (ax (ah auy al)) am ar aL aq) auL rfl
def akV:Env:=(eZ [(225,afR)] [274])
def asQ:Hints:=(hZ [] [])
def ab8:PFn:=aH (runF Tryz.prog akV asQ Tryz.f155)
def ax4:TH:=yZ
def zbi (a0:List (List UInt8)) (a1:List (List UInt8)):Option Int :=
(zan a0 a1).bind fun r1 =>
 some r1
def zq:TFn:={ ps:=(.cons (.sl .str) tT22),res:=(.int .i64),fn:=fun v=>zbi v.1 v.2.1 }
def asP:TEnv:=(vZ [(225,acD)])
theorem asO:runY Tryz.prog akV asQ asP ax4 Tryz.f155 zq.ps zq.res=zq.fn:=by kernel_rfl
theorem ab7:aA Tryz.prog G0 155 ab8:=ai (ak ⟨au,(aj al5 ae),ap,ae,an⟩ Tryz.func155 rfl (by kernel_rfl))
theorem ahF:TOk ab8 zq:=az (E:=akV) (ET:=asP) (EnvT.ofX (ax (ah auK al)) am ar aL aq) asO rfl
def akJ:Env:=(eZ [(154,uG),(155,ab8),(156,uT)] [274])
def asv:Hints:=(hZ [] [])
def ab1:PFn:=aH (runF Tryz.prog akJ asv Tryz.f126)
def axY:TH:={ loops:=[],ro:=[2,3] }
def zbo (a0:vV4) (a1:vV4):Option Int :=
(zbi a0.1 a1.1).bind fun r1 =>
(za1 a0.2.1 a1.2.1).bind fun r2 =>
(zc8 ([r1,r2]:List Int)).bind fun r3 =>
 some r3
def ab0:TFn:={ ps:=(.cons tT20 (.cons tT20 .unit)),res:=(.int .i64),fn:=fun v=>zbo v.1 v.2.1 }
def asu:TEnv:={ pure:=[(154,rP),(155,zq),(156,rZ)],look:=[],glob:=G0T,ty:=[(3,(.int .i64))],raw:=[],fresh:=[] }
theorem ast:runY Tryz.prog akJ asv asu axY Tryz.f126 ab0.ps ab0.res=ab0.fn:=by kernel_rfl
theorem akI:aA Tryz.prog G0 126 ab1:=ai (ak ⟨au,(aj pR (aj ab7 (aj pV ae))),ap,ae,an⟩ Tryz.func126 rfl (by kernel_rfl))
theorem ahC:TOk ab1 ab0:=az (E:=akJ) (ET:=asu) (EnvT.ofX (ax (ah wQ (ah ahF (ah xm al)))) am ar aL aq) ast rfl
theorem afE : @aA ⟨True⟩ Tryz.prog G0 226 afF:=by
 letI:Drawn:=⟨True⟩
 exact ai (ak ⟨au,ae,ap,ae,an⟩ Tryz.func226 rfl (by kernel_rfl))
theorem xn : @aA ⟨True⟩ Tryz.prog G0 156 uT:=by
 letI:Drawn:=⟨True⟩
 exact ai (ak ⟨au,(aj afE ae),ap,ae,an⟩ Tryz.func156 rfl (by kernel_rfl))
theorem wR : @aA ⟨True⟩ Tryz.prog G0 154 uG:=by
 letI:Drawn:=⟨True⟩
 exact ai (ak ⟨au,ae,ap,ae,an⟩ Tryz.func154 rfl (by kernel_rfl))
theorem afJ : @aA ⟨True⟩ Tryz.prog G0 330 afK:=by
 letI:Drawn:=⟨True⟩
 exact ai (ak ⟨au,ae,ap,ae,an⟩ Tryz.func330 rfl (by kernel_rfl))
theorem afN : @aA ⟨True⟩ Tryz.prog G0 287 afO:=by
 letI:Drawn:=⟨True⟩
 exact ai (ak ⟨au,(aj afJ ae),ap,ae,an⟩ Tryz.func287 rfl (by kernel_rfl))
theorem afQ : @aA ⟨True⟩ Tryz.prog G0 225 afR:=by
 letI:Drawn:=⟨True⟩
 exact ai (ak ⟨au,(aj afN ae),ap,ae,an⟩ Tryz.func225 rfl (by kernel_rfl))
theorem afC : @aA ⟨True⟩ Tryz.prog G0 155 ab8:=by
 letI:Drawn:=⟨True⟩
 exact ai (ak ⟨au,(aj afQ ae),ap,ae,an⟩ Tryz.func155 rfl (by kernel_rfl))
theorem afz : @aA ⟨True⟩ Tryz.prog G0 126 ab1:=by
 letI:Drawn:=⟨True⟩
 exact ai (ak ⟨au,(aj wR (aj afC (aj xn ae))),ap,ae,an⟩ Tryz.func126 rfl (by kernel_rfl))
def amt:Go.Shelf.Ren:=⟨fun | 6=>125 | 14=>200 | 15=>201 | 20=>260 | 21=>261 | 22=>262 | 23=>263 | 24=>264 | 25=>265 | 26=>266 | 27=>267 | 28=>268 | 29=>269 | 46=>315 | 47=>316 | 48=>317 | 49=>318 | 50=>319 | 57=>351 | n=>n,fun | 0=>0 | 3=>3 | 4=>4 | 5=>5 | 9=>9 | 22=>104 | 24=>109 | 25=>199 | 39=>230 | 45=>314 | 46=>315 | 50=>161 | 53=>321 | 55=>323 | 66=>354 | 70=>358 | 76=>378 | 77=>283 | n=>n,fun | n=>n⟩
theorem afV:Go.Proofs.SlLaysF0.n6 Tryz.prog amt:={
 mixed:=by kernel_rfl
 f6:=⟨Tryz.f125.name,by decide,Tryz.func125.trans (congrArg some (by kernel_rfl))⟩
 f14:=⟨Tryz.f200.name,by decide,Tryz.func200.trans (congrArg some (by kernel_rfl))⟩
 f15:=Tryz.func201.trans (congrArg some (by kernel_rfl))
 f20:=⟨Tryz.f260.name,by decide,Tryz.func260.trans (congrArg some (by kernel_rfl))⟩
 f21:=⟨Tryz.f261.name,by decide,Tryz.func261.trans (congrArg some (by kernel_rfl))⟩
 f22:=⟨Tryz.f262.name,by decide,Tryz.func262.trans (congrArg some (by kernel_rfl))⟩
 f23:=⟨Tryz.f263.name,by decide,Tryz.func263.trans (congrArg some (by kernel_rfl))⟩
 f24:=⟨Tryz.f264.name,by decide,Tryz.func264.trans (congrArg some (by kernel_rfl))⟩
 f25:=⟨Tryz.f265.name,by decide,Tryz.func265.trans (congrArg some (by kernel_rfl))⟩
 f26:=⟨Tryz.f266.name,by decide,Tryz.func266.trans (congrArg some (by kernel_rfl))⟩
 f27:=⟨Tryz.f267.name,by decide,Tryz.func267.trans (congrArg some (by kernel_rfl))⟩
 f28:=Tryz.func268.trans (congrArg some (by kernel_rfl))
 f29:=Tryz.func269.trans (congrArg some (by kernel_rfl))
 f46:=⟨Tryz.f315.name,by decide,Tryz.func315.trans (congrArg some (by kernel_rfl))⟩
 f47:=Tryz.func316.trans (congrArg some (by kernel_rfl))
 f48:=Tryz.func317.trans (congrArg some (by kernel_rfl))
 f49:=⟨Tryz.f318.name,by decide,Tryz.func318.trans (congrArg some (by kernel_rfl))⟩
 f50:=⟨Tryz.f319.name,by decide,Tryz.func319.trans (congrArg some (by kernel_rfl))⟩
 f57:=⟨Tryz.f351.name,by decide,Tryz.func351.trans (congrArg some (by kernel_rfl))⟩
 t0:=Tryz.underlying0
 a0:=Tryz.isAgg0
 z0:=Tryz.sizeOf0
 v0:=Tryz.zeroValue0
 t3:=Tryz.underlying3
 a3:=Tryz.isAgg3
 z3:=Tryz.sizeOf3
 v3:=Tryz.zeroValue3
 t4:=Tryz.underlying4
 a4:=Tryz.isAgg4
 z4:=Tryz.sizeOf4
 v4:=Tryz.zeroValue4
 t5:=Tryz.underlying5
 a5:=Tryz.isAgg5
 z5:=Tryz.sizeOf5
 v5:=Tryz.zeroValue5
 t9:=Tryz.underlying9
 a9:=Tryz.isAgg9
 z9:=Tryz.sizeOf9
 v9:=Tryz.zeroValue9
 t22:=Tryz.underlying104
 a22:=Tryz.isAgg104
 z22:=Tryz.sizeOf104
 v22:=Tryz.zeroValue104
 t25:=Tryz.underlying199
 a25:=Tryz.isAgg199
 z25:=Tryz.sizeOf199
 v25:=Tryz.zeroValue199
 t39:=Tryz.underlying230
 a39:=Tryz.isAgg230
 z39:=Tryz.sizeOf230
 v39:=Tryz.zeroValue230
 t45:=Tryz.underlying314
 a45:=Tryz.isAgg314
 z45:=Tryz.sizeOf314
 v45:=Tryz.zeroValue314
 t46:=Tryz.underlying315
 a46:=Tryz.isAgg315
 z46:=Tryz.sizeOf315
 v46:=Tryz.zeroValue315
 t50:=Tryz.underlying161
 a50:=Tryz.isAgg161
 z50:=Tryz.sizeOf161
 v50:=Tryz.zeroValue161
 t53:=Tryz.underlying321
 a53:=Tryz.isAgg321
 z53:=Tryz.sizeOf321
 v53:=Tryz.zeroValue321
 t55:=Tryz.underlying323
 a55:=Tryz.isAgg323
 z55:=Tryz.sizeOf323
 v55:=Tryz.zeroValue323
 t66:=Tryz.underlying354
 a66:=Tryz.isAgg354
 z66:=Tryz.sizeOf354
 v66:=Tryz.zeroValue354
 t70:=Tryz.underlying358
 a70:=Tryz.isAgg358
 z70:=Tryz.sizeOf358
 v70:=Tryz.zeroValue358
 t76:=Tryz.underlying378
 a76:=Tryz.isAgg378
 z76:=Tryz.sizeOf378
 v76:=Tryz.zeroValue378
 t77:=Tryz.underlying283
 a77:=Tryz.isAgg283
 z77:=Tryz.sizeOf283
 v77:=Tryz.zeroValue283 }
def amv:SFn:=p9 ab1 126 2 109
theorem amu:cE Tryz.prog G0 125 amv:=mj (M:=2) (g:=126) afV (by decide) (fun w=>Tryz.isAgg109 w) (fun w=>Tryz.sizeOf109 w) afz ⟨Tryz.f125,Tryz.func125,rfl,by kernel_rfl⟩
def zaf (w0:List vV4):Option (Unit×List vV4×Unit):=(og (fun x y=>zbo x y) w0).map fun l=>((),(l,()))
def avc:TRaw:=ac5 false 126 109 tT20 (fun x y=>zbo x y)
theorem avb:TRawOk amv avc:=xx rfl rfl rfl rfl ahC
def ak7:Env:=(eZ [(126,ab1)] [274])
def as8:Hints:=(hZ [] [])
def ak6:PFn:=aH (runF Tryz.prog ak7 as8 Tryz.f128)
def ax8:TH:={ loops:=[],ro:=[2,3] }
def zbe (a0:vV4) (a1:vV4):Option Bool :=
(zbo a0 a1).bind fun r1 =>
 some (decide (r1=0))
def acb:TFn:={ ps:=(.cons tT20 (.cons tT20 .unit)),res:=.bool,fn:=fun v=>zbe v.1 v.2.1 }
def as7:TEnv:=(vZ [(126,ab0)])
theorem as6:runY Tryz.prog ak7 as8 as7 ax8 Tryz.f128 acb.ps acb.res=acb.fn:=by kernel_rfl
theorem ak5:aA Tryz.prog G0 128 ak6:=ai (ak ⟨au,(aj akI ae),ap,ae,an⟩ Tryz.func128 rfl (by kernel_rfl))
theorem as5:TOk ak6 acb:=az (E:=ak7) (ET:=as7) (EnvT.ofX (ax (ah ahC al)) am ar aL aq) as6 rfl
def amC:Env:=(eZ [(128,ak6)] [274])
def avj:Hints:=(hZ [(4,[0,1,5]),(9,[0,1,5,6,7])] [])
def amB:SFn:=qY (runF Tryz.prog amC avj Tryz.f127)
def ayD:TH:={ joins:=[(14,{ keep:=[(0,(.own 0)),(5,(.int .i64))],mem:=[.row false 109 tT20] })],loops:=[(4,{ keep:=[(0,(.own 0)),(5,(.int .i64))],mem:=[.row false 109 tT20] }),(9,{ keep:=[(0,(.own 0)),(5,(.int .i64)),(6,(.vw 0)),(7,(.int .i64))],mem:=[.row false 109 tT20] })],ro:=[] }
def oG (y9:(Int×(Nat×Nat)×Int×List vV4×Unit)):Option ((Int×(Nat×Nat)×Int×List vV4×Unit)⊕(vV10⊕(vV10⊕(List vV4)))) :=
 cond (decide (y9.2.2.1<(y9.2.1.2:Int))) (
 cond y9.2.2.2.1.isEmpty (none) ((inI y9.2.1.2 y9.2.2.1).bind fun i7 =>
(y9.2.2.2.1[(y9.2.1.1+i7)]?).bind fun x8 =>
 cond y9.2.2.2.1.isEmpty (none) ((inI y9.2.1.2 (IntKind.wrap .i64 (y9.2.2.1-1))).bind fun i9 =>
(y9.2.2.2.1[(y9.2.1.1+i9)]?).bind fun x10 =>
(zbe x8 x10).bind fun r11 =>
 cond (!r11) (
 cond y9.2.2.2.1.isEmpty (none) ((inI y9.2.1.2 y9.2.2.1).bind fun i12 =>
(y9.2.2.2.1[(y9.2.1.1+i12)]?).bind fun x13 =>
(inI y9.2.2.2.1.length y9.1).bind fun i14 =>
(y9.2.2.2.1[i14]?).bind fun x15 =>
 some (.inl ((IntKind.wrap .i64 (y9.1+1)),y9.2.1,(IntKind.wrap .i64 (y9.2.2.1+1)),(y9.2.2.2.1.set i14 x13),())))) (
 some (.inl (y9.1,y9.2.1,(IntKind.wrap .i64 (y9.2.2.1+1)),y9.2.2.2.1,())))))) (
 some (.inr (.inl (y9.1,y9.2.2.2.1,()))))
def lT (y4:vV10):Option (vV10⊕(List vV4)) :=
 cond (decide (y4.1<(y4.2.1.length:Int))) (
(inI y4.2.1.length y4.1).bind fun i1 =>
(y4.2.1[i1]?).bind fun x2 =>
(inI y4.2.1.length (IntKind.wrap .i64 (y4.1-1))).bind fun i3 =>
(y4.2.1[i3]?).bind fun x4 =>
(zbe x2 x4).bind fun r5 =>
 cond r5 (
 cond y4.2.1.isEmpty (none) ((lZ (y4.2.1.length) y4.1 (y4.2.1.length:Int)).bind fun p6 =>
(aI (oG) (y4.1,p6,1,y4.2.1,()):Option (vV10⊕(vV10⊕(List vV4)))).bind (aV fun v16 =>
 cond v16.2.1.isEmpty (none) ((lZ (v16.2.1.length) v16.1 (v16.2.1.length:Int)).bind fun p17 =>
 cond v16.2.1.isEmpty (none) ((if p17.1+p17.2≤v16.2.1.length then some () else none).bind fun u18 =>
 cond (v16.2.1.take p17.1++List.replicate p17.2 ([],0,())++v16.2.1.drop (p17.1+p17.2)).isEmpty (none) ((lZ ((v16.2.1.take p17.1++List.replicate p17.2 ([],0,())++v16.2.1.drop (p17.1+p17.2)).length) 0 v16.1).bind fun p19 =>
(cond (v16.2.1.take p17.1++List.replicate p17.2 ([],0,())++v16.2.1.drop (p17.1+p17.2)).isEmpty none (if p19.1+p19.2≤(v16.2.1.take p17.1++List.replicate p17.2 ([],0,())++v16.2.1.drop (p17.1+p17.2)).length then some (((v16.2.1.take p17.1++List.replicate p17.2 ([],0,())++v16.2.1.drop (p17.1+p17.2)).drop p19.1).take p19.2) else none)).map .inr)))))) (
 some (.inl ((IntKind.wrap .i64 (y4.1+1)),y4.2.1,())))) (
 some (.inr y4.2.1))
def amz (w0:List vV4):Option (List vV4) :=
 cond (decide ((w0.length:Int)<2)) (
 some w0) (
 aI (lT) (1,w0,()))
def zad (w0:List vV4):Option (List vV4×Unit):=(amz w0).map fun l=>(l,())
def avi:TRaw:={ ps:=(.cons (.own 0) (.cons (.fn 128) .unit)),ins:=[.row false 109 tT20],res:=(.sl tT20),outs:=[.gone],fn:=fun v w=>zad w.1 }
def avh:TEnv:=(vZ [(128,acb)])
theorem avg:agY Tryz.prog amC avj avh ayD Tryz.f127 (.cons (.own 0) (.cons (.fn 128) .unit)) false 109 tT20=fun _ w=>amz w:=by kernel_rfl
theorem amA:cE Tryz.prog G0 127 amB:=nt (ak ⟨au,(aj ak5 ae),ap,ae,an⟩ Tryz.func127 rfl (by kernel_rfl))
theorem avf:TRawOk amB avi:=yd (E:=amC) (ET:=avh) (EnvT.ofX (ax (ah as5 al)) am ar aL aq) avg
def alI:Env:={ pure:=[(72,zw),(124,afj)],raw:=[(125,amv),(127,amB)],glob:=G0,same:=[274],look:=[],ext:=[] }
def atZ:Hints:=(hZ [(3,[3,6,7,8])] [])
def alH:PFn:=aH (runF Tryz.prog alI atZ Tryz.f55)
def aym:TH:={ joins:=[(7,{ keep:=[(3,(.own 1))],mem:=[.gone,.row true 109 tT20] })],loops:=[(3,{ keep:=[(3,(.own 1)),(8,(.int .i64))],mem:=[.gone,.row true 109 tT20] })],ro:=[] }
def xg (a0:List vV6) (y3:vV10):Option (vV10⊕((List vV4×Unit)⊕List vV4)) :=
 cond (decide (y3.1<(a0.length:Int))) (
(atI a0 y3.1).bind fun x1 =>
(zao x1.2.1.2.1).bind fun r2 =>
(zds x1.2.1.1).bind fun r3 =>
(ck (y3.2.1.length+([(r2,r3,())]:List vV4).length)).bind fun u4 =>
 some (.inl ((IntKind.wrap .i64 (y3.1+1)),(y3.2.1++([(r2,r3,())]:List vV4)),()))) (
 some (.inr (.inl (y3.2.1,()))))
def zb0 (a0:List vV6):Option (List vV4) :=
(aI (xg a0) (0,[],()):Option ((List vV4×Unit)⊕List vV4)).bind (aV fun v5 =>
(zaf v5.1).bind fun q6 =>
(zad q6.2.1).bind fun q7 =>
 some q7.1)
def act:TFn:={ ps:=(.cons (.sl tT19) .unit),res:=(.sl tT20),fn:=fun v=>zb0 v.1 }
def atY:TEnv:={ pure:=[(72,acC),(124,yP)],look:=[],glob:=G0T,ty:=[(109,tT20)],raw:=[(125,avc),(127,avi)],fresh:=[] }
theorem atX:runY Tryz.prog alI atZ atY aym Tryz.f55 act.ps act.res=act.fn:=by kernel_rfl
theorem alG:aA Tryz.prog G0 55 alH:=ai (ak ⟨au,(aj pU (aj aaT ae)),(bP amu (bP amA ap)),ae,an⟩ Tryz.func55 rfl (by kernel_rfl))
theorem atW:TOk alH act:=az (E:=alI) (ET:=atY) (EnvT.ofX (ax (ah xi (ah ahm al))) am (cq avb rfl rfl (cq avf rfl rfl ar)) aL aq) atX rfl
def aiB:Env:=(eZ [] [274])
def ao9:Hints:=(hZ [(3,[0,1,5,6,7,8]),(14,[0,5])] [])
def aiA:PFn:=aH (runF Tryz.prog aiB ao9 Tryz.f331)
def aw5:TH:={ joins:=[(14,{ keep:=[(5,(.int .i64))],mem:=[] }),(12,{ keep:=[(6,(.int .i64)),(7,(.int .i64))],mem:=[] }),(5,{ keep:=[(13,.bool)],mem:=[] }),(16,{ keep:=[(5,(.int .i64))],mem:=[] })],loops:=[(3,{ keep:=[(5,(.int .i64)),(6,(.int .i64)),(7,(.int .i64)),(8,(.int .i64))],mem:=[] }),(14,{ keep:=[(5,(.int .i64))],mem:=[] })],ro:=[] }
def ek (a0:List (Int×Int×Unit)) (a1:List Int) (y3:(Int×Int×Int×Int×Unit)):Option ((Int×Int×Int×Int×Unit)⊕((Int×Unit)⊕Bool)) :=
 cond (decide (y3.2.2.2.1<(a1.length:Int))) (
((cond (decide (y3.1<(a0.length:Int))) ((atI a0 y3.1).bind fun x1 =>
 some (.inl ((decide (x1.1=2)),()))) (some (.inl (false,()))):Option ((Bool×Unit)⊕((Int×Int×Unit)⊕((Int×Int×Int×Int×Unit)⊕((Int×Unit)⊕Bool))))).bind (aV fun v2 =>
 cond v2.1 (
 some (.inr (.inl ((IntKind.wrap .i64 (y3.1+1)),y3.1,y3.2.2.2.1,y3.2.2.2.1,())))) (
 cond (decide (y3.1<(a0.length:Int))) ((atI a0 y3.1).bind fun x3 =>
 cond (decide (x3.1=1)) (some (.inr (.inl ((IntKind.wrap .i64 (y3.1+1)),y3.2.1,y3.2.2.1,(IntKind.wrap .i64 (y3.2.2.2.1+1)),())))) ((atI a0 y3.1).bind fun x4 =>
(atI a1 y3.2.2.2.1).bind fun x5 =>
 cond (decide (x4.2.1=x5)) (
 some (.inr (.inl ((IntKind.wrap .i64 (y3.1+1)),y3.2.1,y3.2.2.1,(IntKind.wrap .i64 (y3.2.2.2.1+1)),())))) (
 cond (decide (y3.2.1<0)) (
 some (.inr (.inr (.inr false)))) (
 some (.inl (y3.2.1,y3.2.2.1,())))))) (cond (decide (y3.2.1<0)) (
 some (.inr (.inr (.inr false)))) (
 some (.inl (y3.2.1,y3.2.2.1,())))))):Option ((Int×Int×Unit)⊕((Int×Int×Int×Int×Unit)⊕((Int×Unit)⊕Bool)))).bind (aV fun v6 =>
 some (.inl ((IntKind.wrap .i64 (v6.1+1)),v6.1,(IntKind.wrap .i64 (v6.2.1+1)),(IntKind.wrap .i64 (v6.2.1+1)),())))) (
 some (.inr (.inl (y3.1,()))))
def jV (a0:List (Int×Int×Unit)) (y14:(Int×Unit)):Option ((Int×Unit)⊕((Int×Unit)⊕Bool)) :=
 cond (decide (y14.1<(a0.length:Int))) ((atI a0 y14.1).bind fun x8 =>
 cond (decide (x8.1=2)) (
 some (.inl ((IntKind.wrap .i64 (y14.1+1)),()))) (
 some (.inr (.inl (y14.1,()))))) (some (.inr (.inl (y14.1,()))))
def zdh (a0:List (Int×Int×Unit)) (a1:List Int):Option Bool :=
(aI (ek a0 a1) (0,(-1),0,0,()):Option ((Int×Unit)⊕Bool)).bind (aV fun v7 =>
(aI (jV a0) (v7.1,()):Option ((Int×Unit)⊕Bool)).bind (aV fun v9 =>
 some (decide (v9.1=(a0.length:Int)))))
def aa7:TFn:={ ps:=(.cons (.sl (.agg (.cons (.int .i64) (.cons (.int .i32) .unit)))) (.cons (.sl (.int .i32)) .unit)),res:=.bool,fn:=fun v=>zdh v.1 v.2.1 }
def ao8:TEnv:=(vZ [])
theorem ao7:runY Tryz.prog aiB ao9 ao8 aw5 Tryz.f331 aa7.ps aa7.res=aa7.fn:=by kernel_rfl
theorem aiz:aA Tryz.prog G0 331 aiA:=ai (ak ⟨au,ae,ap,ae,an⟩ Tryz.func331 rfl (by kernel_rfl))
theorem ao6:TOk aiA aa7:=az (E:=aiB) (ET:=ao8) (EnvT.ofX (ax al) am ar aL aq) ao7 rfl
def ajA:Env:={ pure:=[(215,aft),(281,afH)],raw:=[],glob:=G0,same:=[274],look:=[(331,aiA)],ext:=[] }
def aqA:Hints:=(hZ [] [20])
def ajz:PFn:=aH (runF Tryz.prog ajA aqA Tryz.f289)
def axs:TH:=yZ
def zck (a0:List UInt8) (a1:List UInt8):Option Bool :=
(zc7 a0).bind fun r1 =>
 cond r1.2.1 ((zaz a1).bind fun r2 =>
 cond r2 ((zdh r1.1 (sA a1)).bind fun r3 =>
 some r3) (some false)) (some false)
def abu:TFn:={ ps:=(.cons .str (.cons .str .unit)),res:=.bool,fn:=fun v=>zck v.1 v.2.1 }
def aqz:TEnv:={ pure:=[(215,yY),(281,zu)],look:=[(331,aa7)],glob:=G0T,ty:=[],raw:=[],fresh:=[] }
theorem aqy:runY Tryz.prog ajA aqA aqz axs Tryz.f289 abu.ps abu.res=abu.fn:=by kernel_rfl
theorem ajy:aA Tryz.prog G0 289 ajz:=ai (ak ⟨au,(aj abG (aj acu ae)),ap,(aj aiz ae),an⟩ Tryz.func289 rfl (by kernel_rfl))
theorem aqx:TOk ajz abu:=az (E:=ajA) (ET:=aqz) (EnvT.ofX (ax (ah ahw (ah ahH al))) (pf ao6 rfl am) ar aL aq) aqy rfl
def acl (F:PFn):Env:=(eZ [(289,ajz),(228,F)] [274])
def alj:Hints:=(hZ [(1,[0,1]),(4,[0,1,15,16])] [])
def qo (F:PFn):PFn:=aH (runF Tryz.prog (acl F) alj Tryz.f228)
def aye:TH:={ joins:=[(13,{ keep:=[(1,(.sl .str))],mem:=[] }),(10,{ keep:=[],mem:=[] })],loops:=[(1,{ keep:=[(0,(.sl .str)),(1,(.sl .str))],mem:=[] }),(4,{ keep:=[(16,(.int .i64))],mem:=[] })],ro:=[] }
def lQ (y1:vV9) (rec:(List (List UInt8)×List (List UInt8)×Unit→Option Bool)) (y4:(Int×Unit)):Option ((Int×Unit)⊕(Unit⊕(vV9⊕((List (List UInt8)×Unit)⊕Bool)))) :=
 cond (decide (y4.1<(IntKind.wrap .i64 ((y1.2.1.length:Int)+1)))) (
(subI y1.1 1 (y1.1.length:Int)).bind fun s2 =>
(subI y1.2.1 y4.1 (y1.2.1.length:Int)).bind fun s3 =>
(rec (s2,s3,())).bind fun r4 =>
 cond r4 (
 some (.inr (.inr (.inr (.inr true))))) (
 some (.inl ((IntKind.wrap .i64 (y4.1+1)),())))) (
 some (.inr (.inr (.inr (.inr false)))))
def lR (rec:(List (List UInt8)×List (List UInt8)×Unit→Option Bool)) (y1:vV9):Option (vV9⊕((List (List UInt8)×Unit)⊕Bool)) :=
 cond (decide ((y1.1.length:Int)>0)) (
((atI y1.1 0).bind fun x1 =>
 cond (decide (x1=[42,42])) (
 aI (lQ y1 rec) (0,())) (
 some (.inl ())):Option (Unit⊕(vV9⊕((List (List UInt8)×Unit)⊕Bool)))).bind (aV fun v5 =>
 cond (decide ((y1.2.1.length:Int)=0)) (some (.inr (.inr false))) ((atI y1.1 0).bind fun x6 =>
(atI y1.2.1 0).bind fun x7 =>
(zck x6 x7).bind fun r8 =>
 cond (!r8) (
 some (.inr (.inr false))) (
(subI y1.1 1 (y1.1.length:Int)).bind fun s9 =>
(subI y1.2.1 1 (y1.2.1.length:Int)).bind fun s10 =>
 some (.inl (s9,s10,())))))) (
 some (.inr (.inl (y1.2.1,()))))
def bV (rec:(vV9→Option Bool)) (a0:List (List UInt8)) (a1:List (List UInt8)):Option Bool :=
(aI (lR rec) (a0,a1,()):Option ((List (List UInt8)×Unit)⊕Bool)).bind (aV fun v11 =>
 some (decide ((v11.1.length:Int)=0)))
def gE:(vV9→Option Bool):=fixT fun rec v=>bV rec v.1 v.2.1
def zb8 (a0:List (List UInt8)) (a1:List (List UInt8)):Option Bool:=gE (a0,a1,())
def ack:TFn:={ ps:=(.cons (.sl .str) tT22),res:=.bool,fn:=fixT fun (rec:(vV9→Option Bool)) v=>bV rec v.1 v.2.1 }
def alm:PFn:=fixF qo ack
def ali (rec:(vV9→Option Bool)):TEnv:=(vZ [(289,abu),(228,{ ps:=(.cons (.sl .str) tT22),res:=.bool,fn:=rec })])
theorem ats (F:PFn) (rec:(vV9→Option Bool)):runY Tryz.prog (acl F) alj (ali rec) aye Tryz.f228 ack.ps ack.res=fun v=>bV rec v.1 v.2.1:=by kernel_rfl
theorem alk:aA Tryz.prog G0 228 alm:=adt ⟨Tryz.f228,Tryz.func228,rfl,by kernel_rfl⟩ fun F hF=>ai (ak (P:=Tryz.prog) (E:=acl F) (h:=alj) (f:=228) (fn:=Tryz.f228) ⟨au,(aj ajy (aj hF ae)),ap,ae,an⟩ Tryz.func228 rfl (by kernel_rfl))
theorem atr:TOk alm ack:=awe rfl fun F rec hF=>az (E:=acl F) (ET:=ali rec) (EnvT.ofX (E:=acl F) (ET:=ali rec) (ax (ah aqx (ah hF al))) am ar aL aq) (ats F rec) rfl
def alz:Env:=(eZ [(71,afx),(228,alm)] [274])
def atN:Hints:=(hZ [] [])
def aly:PFn:=aH (runF Tryz.prog alz atN Tryz.f162)
def ayj:TH:=yZ
def zb3 (a0:List (List UInt8)) (a1:List (List UInt8)):Option Bool :=
(zbz a0).bind fun r1 =>
 cond (decide (r1=0)) ((zb8 a0 a1).bind fun r2 =>
 some r2) (some false)
def acq:TFn:={ ps:=(.cons (.sl .str) tT22),res:=.bool,fn:=fun v=>zb3 v.1 v.2.1 }
def atL:TEnv:=(vZ [(71,zh),(228,ack)])
theorem atK:runY Tryz.prog alz atN atL ayj Tryz.f162 acq.ps acq.res=acq.fn:=by kernel_rfl
theorem alx:aA Tryz.prog G0 162 aly:=ai (ak ⟨au,(aj abP (aj alk ae)),ap,ae,an⟩ Tryz.func162 rfl (by kernel_rfl))
theorem atJ:TOk aly acq:=az (E:=alz) (ET:=atL) (EnvT.ofX (ax (ah ahA (ah atr al))) am ar aL aq) atK rfl
def akM:Env:=(eZ [(55,alH),(162,aly)] [274])
def asz:Hints:=(hZ [(3,[1,5,9,10,11])] [])
def akL:PFn:=aH (runF Tryz.prog akM asz Tryz.f93)
def axZ:TH:={ loops:=[(3,{ keep:=[(5,(.own 1)),(11,(.int .i64))],mem:=[.gone,.row true 109 tT20] })],ro:=[] }
def w7 (a1:List (List UInt8)) (r1:List vV4) (y3:vV10):Option (vV10⊕List vV4) :=
 cond (decide (y3.1<(r1.length:Int))) (
(atI r1 y3.1).bind fun x2 =>
(zb3 a1 x2.1).bind fun r3 =>
 cond r3 (
(ck (y3.2.1.length+([x2]:List vV4).length)).bind fun u4 =>
 some (.inl ((IntKind.wrap .i64 (y3.1+1)),(y3.2.1++([x2]:List vV4)),()))) (
 some (.inl ((IntKind.wrap .i64 (y3.1+1)),y3.2.1,())))) (
 some (.inr y3.2.1))
def zbn (a0:List vV6) (a1:List (List UInt8)):Option (List vV4) :=
(zb0 a0).bind fun r1 =>
 aI (w7 a1 r1) (0,[],())
def ab2:TFn:={ ps:=(.cons (.sl tT19) tT22),res:=(.sl tT20),fn:=fun v=>zbn v.1 v.2.1 }
def asy:TEnv:={ pure:=[(55,act),(162,acq)],look:=[],glob:=G0T,ty:=[(109,tT20)],raw:=[],fresh:=[] }
theorem asx:runY Tryz.prog akM asz asy axZ Tryz.f93 ab2.ps ab2.res=ab2.fn:=by kernel_rfl
theorem akK:aA Tryz.prog G0 93 akL:=ai (ak ⟨au,(aj alG (aj alx ae)),ap,ae,an⟩ Tryz.func93 rfl (by kernel_rfl))
theorem asw:TOk akL ab2:=az (E:=akM) (ET:=asy) (EnvT.ofX (ax (ah atW (ah atJ al))) am ar aL aq) asx rfl
def al3:Env:=(eZ [] [274])
def auJ:Hints:=(hZ [(4,[0,1,12,13])] [])
def al2:PFn:=aH (runF Tryz.prog al3 auJ Tryz.f196)
def ayx:TH:={ loops:=[(4,{ keep:=[(13,(.int .i64))],mem:=[] })],ro:=[] }
def xh (a0:List (List UInt8)) (a1:List (List UInt8)) (y4:(Int×Unit)):Option ((Int×Unit)⊕Bool) :=
 cond (decide (y4.1<(a0.length:Int))) (
(atI a0 y4.1).bind fun x1 =>
(atI a1 y4.1).bind fun x2 =>
 cond (!decide (x1=x2)) (
 some (.inr false)) (
 some (.inl ((IntKind.wrap .i64 (y4.1+1)),())))) (
 some (.inr true))
def zap (a0:List (List UInt8)) (a1:List (List UInt8)):Option Bool :=
 cond (!decide ((a0.length:Int)=(a1.length:Int))) (
 some false) (
 aI (xh a0 a1) (0,()))
def acB:TFn:={ ps:=(.cons (.sl .str) tT22),res:=.bool,fn:=fun v=>zap v.1 v.2.1 }
def auI:TEnv:=(vZ [])
theorem auH:runY Tryz.prog al3 auJ auI ayx Tryz.f196 acB.ps acB.res=acB.fn:=by kernel_rfl
theorem al1:aA Tryz.prog G0 196 al2:=ai (ak ⟨au,ae,ap,ae,an⟩ Tryz.func196 rfl (by kernel_rfl))
theorem auG:TOk al2 acB:=az (E:=al3) (ET:=auI) (EnvT.ofX (ax al) am ar aL aq) auH rfl
def ais:Env:=(eZ [(196,al2)] [274])
def aoX:Hints:=(hZ [] [])
def afm:PFn:=aH (runF Tryz.prog ais aoX Tryz.f160)
def aw2:TH:=yZ
def zdk (a0:List (List UInt8)) (a1:List (List UInt8)):Option Bool :=
(zap a0 a1).bind fun r1 =>
 some r1
def yR:TFn:={ ps:=(.cons (.sl .str) tT22),res:=.bool,fn:=fun v=>zdk v.1 v.2.1 }
def aoW:TEnv:=(vZ [(196,acB)])
theorem aoV:runY Tryz.prog ais aoX aoW aw2 Tryz.f160 yR.ps yR.res=yR.fn:=by kernel_rfl
theorem aa4:aA Tryz.prog G0 160 afm:=ai (ak ⟨au,(aj al1 ae),ap,ae,an⟩ Tryz.func160 rfl (by kernel_rfl))
theorem ahp:TOk afm yR:=az (E:=ais) (ET:=aoW) (EnvT.ofX (ax (ah auG al)) am ar aL aq) aoV rfl
def aii:Env:=(eZ [(124,afj),(160,afm)] [274])
def aoD:Hints:=(hZ [(3,[1,2,7,10,11,12])] [])
def aaW:PFn:=aH (runF Tryz.prog aii aoD Tryz.f229)
def awW:TH:={ loops:=[(3,{ keep:=[(7,(.own 1)),(12,(.int .i64))],mem:=[.gone,.row true 148 tT19] })],ro:=[] }
def wC (a0:List vV6) (a1:List (List UInt8)) (a2:Int) (y3:(Int×List vV6×Unit)):Option ((Int×List vV6×Unit)⊕List vV6) :=
 cond (decide (y3.1<(a0.length:Int))) (
(atI a0 y3.1).bind fun x1 =>
(zds x1.2.1.1).bind fun r2 =>
 cond (decide (r2=a2)) ((zdk x1.2.1.2.1 a1).bind fun r3 =>
 cond r3 (
(ck (y3.2.1.length+([x1]:List vV6).length)).bind fun u4 =>
 some (.inl ((IntKind.wrap .i64 (y3.1+1)),(y3.2.1++([x1]:List vV6)),()))) (
 some (.inl ((IntKind.wrap .i64 (y3.1+1)),y3.2.1,())))) (some (.inl ((IntKind.wrap .i64 (y3.1+1)),y3.2.1,())))) (
 some (.inr y3.2.1))
def zdq (a0:List vV6) (a1:List (List UInt8)) (a2:Int):Option (List vV6) :=
 aI (wC a0 a1 a2) (0,[],())
def uC:TFn:={ ps:=(.cons (.sl tT19) (.cons (.sl .str) tT16)),res:=(.sl tT19),fn:=fun v=>zdq v.1 v.2.1 v.2.2.1 }
def aoC:TEnv:={ pure:=[(124,yP),(160,yR)],look:=[],glob:=G0T,ty:=[(148,tT19)],raw:=[],fresh:=[] }
theorem aoB:runY Tryz.prog aii aoD aoC awW Tryz.f229 uC.ps uC.res=uC.fn:=by kernel_rfl
theorem uD:aA Tryz.prog G0 229 aaW:=ai (ak ⟨au,(aj aaT (aj aa4 ae)),ap,ae,an⟩ Tryz.func229 rfl (by kernel_rfl))
theorem aaV:TOk aaW uC:=az (E:=aii) (ET:=aoC) (EnvT.ofX (ax (ah ahm (ah ahp al))) am ar aL aq) aoB rfl
def af0:PFn:=cmpF
theorem am4:aA Tryz.prog G0 291 af0:=tV ⟨Tryz.f291,Tryz.func291,rfl,by kernel_rfl⟩ Tryz.strings_Compare
def za2 (a0:List UInt8) (a1:List UInt8):Option Int:=cmpT a0 a1
def avX:TFn:=aeR
theorem avW:TOk af0 avX:=aod
def amW:Env:=(eZ [(154,uG),(156,uT),(291,af0)] [274])
def avK:Hints:=(hZ [] [])
def acO:PFn:=aH (runF Tryz.prog amW avK Tryz.f231)
def ayK:TH:={ loops:=[],ro:=[2,3] }
def za6 (a0:vV3) (a1:vV3):Option Int :=
(za1 a0.1 a1.1).bind fun r1 =>
(za1 a0.2.1 a1.2.1).bind fun r2 =>
(za2 a0.2.2.1 a1.2.2.1).bind fun r3 =>
(zc8 ([r1,r2,r3]:List Int)).bind fun r4 =>
 some r4
def acN:TFn:={ ps:=(.cons tT15 (.cons tT15 .unit)),res:=(.int .i64),fn:=fun v=>za6 v.1 v.2.1 }
def avJ:TEnv:={ pure:=[(154,rP),(156,rZ),(291,avX)],look:=[],glob:=G0T,ty:=[(3,(.int .i64))],raw:=[],fresh:=[] }
theorem avI:runY Tryz.prog amW avK avJ ayK Tryz.f231 acN.ps acN.res=acN.fn:=by kernel_rfl
theorem amV:aA Tryz.prog G0 231 acO:=ai (ak ⟨au,(aj pR (aj pV (aj am4 ae))),ap,ae,an⟩ Tryz.func231 rfl (by kernel_rfl))
theorem ahK:TOk acO acN:=az (E:=amW) (ET:=avJ) (EnvT.ofX (ax (ah wQ (ah xm (ah avW al)))) am ar aL aq) avI rfl
theorem afZ : @aA ⟨True⟩ Tryz.prog G0 291 af0:=by
 letI:Drawn:=⟨True⟩
 exact tV ⟨Tryz.f291,Tryz.func291,rfl,by kernel_rfl⟩ Tryz.strings_Compare
theorem afX : @aA ⟨True⟩ Tryz.prog G0 231 acO:=by
 letI:Drawn:=⟨True⟩
 exact ai (ak ⟨au,(aj wR (aj xn (aj afZ ae))),ap,ae,an⟩ Tryz.func231 rfl (by kernel_rfl))
def amw:Go.Shelf.Ren:=⟨fun | 6=>230 | 14=>290 | 15=>201 | 20=>332 | 21=>333 | 22=>334 | 23=>335 | 24=>336 | 25=>337 | 26=>338 | 27=>339 | 28=>268 | 29=>269 | 46=>359 | 47=>316 | 48=>317 | 49=>360 | 50=>361 | 57=>374 | n=>n,fun | 0=>0 | 3=>3 | 4=>4 | 5=>5 | 9=>9 | 22=>123 | 24=>132 | 25=>296 | 39=>230 | 45=>314 | 46=>315 | 50=>161 | 53=>321 | 55=>323 | 66=>354 | 70=>358 | 76=>378 | 77=>283 | n=>n,fun | n=>n⟩
theorem afW:Go.Proofs.SlLaysF0.n6 Tryz.prog amw:={
 mixed:=by kernel_rfl
 f6:=⟨Tryz.f230.name,by decide,Tryz.func230.trans (congrArg some (by kernel_rfl))⟩
 f14:=⟨Tryz.f290.name,by decide,Tryz.func290.trans (congrArg some (by kernel_rfl))⟩
 f15:=Tryz.func201.trans (congrArg some (by kernel_rfl))
 f20:=⟨Tryz.f332.name,by decide,Tryz.func332.trans (congrArg some (by kernel_rfl))⟩
 f21:=⟨Tryz.f333.name,by decide,Tryz.func333.trans (congrArg some (by kernel_rfl))⟩
 f22:=⟨Tryz.f334.name,by decide,Tryz.func334.trans (congrArg some (by kernel_rfl))⟩
 f23:=⟨Tryz.f335.name,by decide,Tryz.func335.trans (congrArg some (by kernel_rfl))⟩
 f24:=⟨Tryz.f336.name,by decide,Tryz.func336.trans (congrArg some (by kernel_rfl))⟩
 f25:=⟨Tryz.f337.name,by decide,Tryz.func337.trans (congrArg some (by kernel_rfl))⟩
 f26:=⟨Tryz.f338.name,by decide,Tryz.func338.trans (congrArg some (by kernel_rfl))⟩
 f27:=⟨Tryz.f339.name,by decide,Tryz.func339.trans (congrArg some (by kernel_rfl))⟩
 f28:=Tryz.func268.trans (congrArg some (by kernel_rfl))
 f29:=Tryz.func269.trans (congrArg some (by kernel_rfl))
 f46:=⟨Tryz.f359.name,by decide,Tryz.func359.trans (congrArg some (by kernel_rfl))⟩
 f47:=Tryz.func316.trans (congrArg some (by kernel_rfl))
 f48:=Tryz.func317.trans (congrArg some (by kernel_rfl))
 f49:=⟨Tryz.f360.name,by decide,Tryz.func360.trans (congrArg some (by kernel_rfl))⟩
 f50:=⟨Tryz.f361.name,by decide,Tryz.func361.trans (congrArg some (by kernel_rfl))⟩
 f57:=⟨Tryz.f374.name,by decide,Tryz.func374.trans (congrArg some (by kernel_rfl))⟩
 t0:=Tryz.underlying0
 a0:=Tryz.isAgg0
 z0:=Tryz.sizeOf0
 v0:=Tryz.zeroValue0
 t3:=Tryz.underlying3
 a3:=Tryz.isAgg3
 z3:=Tryz.sizeOf3
 v3:=Tryz.zeroValue3
 t4:=Tryz.underlying4
 a4:=Tryz.isAgg4
 z4:=Tryz.sizeOf4
 v4:=Tryz.zeroValue4
 t5:=Tryz.underlying5
 a5:=Tryz.isAgg5
 z5:=Tryz.sizeOf5
 v5:=Tryz.zeroValue5
 t9:=Tryz.underlying9
 a9:=Tryz.isAgg9
 z9:=Tryz.sizeOf9
 v9:=Tryz.zeroValue9
 t22:=Tryz.underlying123
 a22:=Tryz.isAgg123
 z22:=Tryz.sizeOf123
 v22:=Tryz.zeroValue123
 t25:=Tryz.underlying296
 a25:=Tryz.isAgg296
 z25:=Tryz.sizeOf296
 v25:=Tryz.zeroValue296
 t39:=Tryz.underlying230
 a39:=Tryz.isAgg230
 z39:=Tryz.sizeOf230
 v39:=Tryz.zeroValue230
 t45:=Tryz.underlying314
 a45:=Tryz.isAgg314
 z45:=Tryz.sizeOf314
 v45:=Tryz.zeroValue314
 t46:=Tryz.underlying315
 a46:=Tryz.isAgg315
 z46:=Tryz.sizeOf315
 v46:=Tryz.zeroValue315
 t50:=Tryz.underlying161
 a50:=Tryz.isAgg161
 z50:=Tryz.sizeOf161
 v50:=Tryz.zeroValue161
 t53:=Tryz.underlying321
 a53:=Tryz.isAgg321
 z53:=Tryz.sizeOf321
 v53:=Tryz.zeroValue321
 t55:=Tryz.underlying323
 a55:=Tryz.isAgg323
 z55:=Tryz.sizeOf323
 v55:=Tryz.zeroValue323
 t66:=Tryz.underlying354
 a66:=Tryz.isAgg354
 z66:=Tryz.sizeOf354
 v66:=Tryz.zeroValue354
 t70:=Tryz.underlying358
 a70:=Tryz.isAgg358
 z70:=Tryz.sizeOf358
 v70:=Tryz.zeroValue358
 t76:=Tryz.underlying378
 a76:=Tryz.isAgg378
 z76:=Tryz.sizeOf378
 v76:=Tryz.zeroValue378
 t77:=Tryz.underlying283
 a77:=Tryz.isAgg283
 z77:=Tryz.sizeOf283
 v77:=Tryz.zeroValue283 }
def amy:SFn:=p9 acO 231 3 132
theorem amx:cE Tryz.prog G0 230 amy:=mj (M:=3) (g:=231) afW (by decide) (fun w=>Tryz.isAgg132 w) (fun w=>Tryz.sizeOf132 w) afX ⟨Tryz.f230,Tryz.func230,rfl,by kernel_rfl⟩
def zae (w0:List vV3):Option (Unit×List vV3×Unit):=(og (fun x y=>za6 x y) w0).map fun l=>((),(l,()))
def ave:TRaw:=ac5 false 231 132 tT15 (fun x y=>za6 x y)
theorem avd:TRawOk amy ave:=xx rfl rfl rfl rfl ahK
def amj:Env:=(eZ [] [274])
def au0:Hints:=(hZ [(4,[0,3]),(9,[0,3,4,5])] [])
def ami:SFn:=qY (runF Tryz.prog amj au0 Tryz.f232)
def ayA:TH:={ joins:=[(14,{ keep:=[(0,(.own 0)),(3,(.int .i64))],mem:=[.row false 132 tT15] })],loops:=[(4,{ keep:=[(0,(.own 0)),(3,(.int .i64))],mem:=[.row false 132 tT15] }),(9,{ keep:=[(0,(.own 0)),(3,(.int .i64)),(4,(.vw 0)),(5,(.int .i64))],mem:=[.row false 132 tT15] })],ro:=[] }
def oF (y9:(Int×(Nat×Nat)×Int×List vV3×Unit)):Option ((Int×(Nat×Nat)×Int×List vV3×Unit)⊕((Int×List vV3×Unit)⊕((Int×List vV3×Unit)⊕(List vV3)))) :=
 cond (decide (y9.2.2.1<(y9.2.1.2:Int))) (
 cond y9.2.2.2.1.isEmpty (none) ((inI y9.2.1.2 y9.2.2.1).bind fun i6 =>
(y9.2.2.2.1[(y9.2.1.1+i6)]?).bind fun x7 =>
 cond y9.2.2.2.1.isEmpty (none) ((inI y9.2.1.2 (IntKind.wrap .i64 (y9.2.2.1-1))).bind fun i8 =>
(y9.2.2.2.1[(y9.2.1.1+i8)]?).bind fun x9 =>
 cond (!(eqV tT15 x7 x9)) (
 cond y9.2.2.2.1.isEmpty (none) ((inI y9.2.1.2 y9.2.2.1).bind fun i10 =>
(y9.2.2.2.1[(y9.2.1.1+i10)]?).bind fun x11 =>
(inI y9.2.2.2.1.length y9.1).bind fun i12 =>
(y9.2.2.2.1[i12]?).bind fun x13 =>
 some (.inl ((IntKind.wrap .i64 (y9.1+1)),y9.2.1,(IntKind.wrap .i64 (y9.2.2.1+1)),(y9.2.2.2.1.set i12 x11),())))) (
 some (.inl (y9.1,y9.2.1,(IntKind.wrap .i64 (y9.2.2.1+1)),y9.2.2.2.1,())))))) (
 some (.inr (.inl (y9.1,y9.2.2.2.1,()))))
def lS (y4:(Int×List vV3×Unit)):Option ((Int×List vV3×Unit)⊕(List vV3)) :=
 cond (decide (y4.1<(y4.2.1.length:Int))) (
(inI y4.2.1.length y4.1).bind fun i1 =>
(y4.2.1[i1]?).bind fun x2 =>
(inI y4.2.1.length (IntKind.wrap .i64 (y4.1-1))).bind fun i3 =>
(y4.2.1[i3]?).bind fun x4 =>
 cond (eqV tT15 x2 x4) (
 cond y4.2.1.isEmpty (none) ((lZ (y4.2.1.length) y4.1 (y4.2.1.length:Int)).bind fun p5 =>
(aI (oF) (y4.1,p5,1,y4.2.1,()):Option ((Int×List vV3×Unit)⊕((Int×List vV3×Unit)⊕(List vV3)))).bind (aV fun v14 =>
 cond v14.2.1.isEmpty (none) ((lZ (v14.2.1.length) v14.1 (v14.2.1.length:Int)).bind fun p15 =>
 cond v14.2.1.isEmpty (none) ((if p15.1+p15.2≤v14.2.1.length then some () else none).bind fun u16 =>
 cond (v14.2.1.take p15.1++List.replicate p15.2 (0,0,[],())++v14.2.1.drop (p15.1+p15.2)).isEmpty (none) ((lZ ((v14.2.1.take p15.1++List.replicate p15.2 (0,0,[],())++v14.2.1.drop (p15.1+p15.2)).length) 0 v14.1).bind fun p17 =>
(cond (v14.2.1.take p15.1++List.replicate p15.2 (0,0,[],())++v14.2.1.drop (p15.1+p15.2)).isEmpty none (if p17.1+p17.2≤(v14.2.1.take p15.1++List.replicate p15.2 (0,0,[],())++v14.2.1.drop (p15.1+p15.2)).length then some (((v14.2.1.take p15.1++List.replicate p15.2 (0,0,[],())++v14.2.1.drop (p15.1+p15.2)).drop p17.1).take p17.2) else none)).map .inr)))))) (
 some (.inl ((IntKind.wrap .i64 (y4.1+1)),y4.2.1,())))) (
 some (.inr y4.2.1))
def amg (w0:List vV3):Option (List vV3) :=
 cond (decide ((w0.length:Int)<2)) (
 some w0) (
 aI (lS) (1,w0,()))
def zaj (w0:List vV3):Option (List vV3×Unit):=(amg w0).map fun l=>(l,())
def auZ:TRaw:={ ps:=(.cons (.own 0) .unit),ins:=[.row false 132 tT15],res:=(.sl tT15),outs:=[.gone],fn:=fun v w=>zaj w.1 }
def auY:TEnv:=(vZ [])
theorem auX:agY Tryz.prog amj au0 auY ayA Tryz.f232 (.cons (.own 0) .unit) false 132 tT15=fun _ w=>amg w:=by kernel_rfl
theorem amh:cE Tryz.prog G0 232 ami:=nt (ak ⟨au,ae,ap,ae,an⟩ Tryz.func232 rfl (by kernel_rfl))
theorem auW:TRawOk ami auZ:=yd (E:=amj) (ET:=auY) (EnvT.ofX (ax al) am ar aL aq) auX
def ake:Env:={ pure:=[(229,aaW)],raw:=[(230,amy),(232,ami)],glob:=G0,same:=[274],look:=[],ext:=[] }
def arG:Hints:=(hZ [(3,[5,10,11,12])] [])
def akd:PFn:=aH (runF Tryz.prog ake arG Tryz.f163)
def axK:TH:={ joins:=[(7,{ keep:=[(5,(.own 1))],mem:=[.gone,.row true 132 tT15] })],loops:=[(3,{ keep:=[(5,(.own 1)),(12,(.int .i64))],mem:=[.gone,.row true 132 tT15] })],ro:=[] }
def wV (r1:List vV6) (y3:(Int×List vV3×Unit)):Option ((Int×List vV3×Unit)⊕((List vV3×Unit)⊕List vV3)) :=
 cond (decide (y3.1<(r1.length:Int))) (
(atI r1 y3.1).bind fun x2 =>
(ck (y3.2.1.length+([x2.2.1.2.2.1]:List vV3).length)).bind fun u3 =>
 some (.inl ((IntKind.wrap .i64 (y3.1+1)),(y3.2.1++([x2.2.1.2.2.1]:List vV3)),()))) (
 some (.inr (.inl (y3.2.1,()))))
def zc2 (a0:List vV6) (a1:List (List UInt8)):Option (List vV3) :=
((zdq a0 a1 1).bind fun r1 =>
 aI (wV r1) (0,[],()):Option ((List vV3×Unit)⊕List vV3)).bind (aV fun v4 =>
(zae v4.1).bind fun q5 =>
(zaj q5.2.1).bind fun q6 =>
 some q6.1)
def abM:TFn:={ ps:=(.cons (.sl tT19) tT22),res:=(.sl tT15),fn:=fun v=>zc2 v.1 v.2.1 }
def arF:TEnv:={ pure:=[(229,uC)],look:=[],glob:=G0T,ty:=[(132,tT15)],raw:=[(230,ave),(232,auZ)],fresh:=[] }
theorem arE:runY Tryz.prog ake arG arF axK Tryz.f163 abM.ps abM.res=abM.fn:=by kernel_rfl
theorem akc:aA Tryz.prog G0 163 akd:=ai (ak ⟨au,(aj uD ae),(bP amx (bP amh ap)),ae,an⟩ Tryz.func163 rfl (by kernel_rfl))
theorem arD:TOk akd abM:=az (E:=ake) (ET:=arF) (EnvT.ofX (ax (ah aaV al)) am (cq avd rfl rfl (cq auW rfl rfl ar)) aL aq) arE rfl
def amd:Go.Shelf.Ren:=⟨fun | 22=>234 | 29=>292 | 30=>293 | n=>n,fun | 24=>123 | 9=>132 | 0=>0 | 3=>3 | 4=>4 | n=>n,fun | n=>n⟩
theorem afT:InsL Tryz.prog amd:={
 mixed:=by kernel_rfl
 f22:=⟨Tryz.f234.name,by decide,Tryz.func234.trans (congrArg some (by kernel_rfl))⟩
 f29:=⟨Tryz.f292.name,by decide,by kernel_rfl,by kernel_rfl,Tryz.func292.trans (congrArg some (by kernel_rfl))⟩
 t0:=Tryz.underlying0
 a0:=Tryz.isAgg0
 z0:=Tryz.sizeOf0
 v0:=Tryz.zeroValue0
 t3:=Tryz.underlying3
 a3:=Tryz.isAgg3
 z3:=Tryz.sizeOf3
 v3:=Tryz.zeroValue3
 t4:=Tryz.underlying4
 a4:=Tryz.isAgg4
 z4:=Tryz.sizeOf4
 v4:=Tryz.zeroValue4
 t24:=Tryz.underlying123
 a24:=Tryz.isAgg123
 z24:=Tryz.sizeOf123
 v24:=Tryz.zeroValue123 }
def amf:SFn:=fB 3 132
theorem ame:cE Tryz.prog G0 234 amf:=aar afT rfl rfl rfl (aeE (P:=Tryz.prog) (te:=132) (M:=3) (by kernel_rfl) (by kernel_rfl) (by kernel_rfl) (by kernel_rfl) (by kernel_rfl) (by kernel_rfl) (by kernel_rfl) (by kernel_rfl)) true Tryz.isAgg132 ⟨Tryz.f234,Tryz.func234,rfl,by kernel_rfl⟩
def zak (a1:Int) (a2:List vV3) (w0:List vV3):Option (Unit×List vV3×Unit):=(insT w0 a1 a2).map fun l=>((),(l,()))
def auV:TRaw:=insR false 132 tT15
theorem auU:TRawOk amf auV:=anQ rfl rfl rfl rfl (by decide)
def amI:Env:=(eZ [(231,acO)] [274])
def avr:Hints:=(hZ [(3,[0,2,4,8,9,10])] [])
def amH:PFn:=aH (runF Tryz.prog amI avr Tryz.f233)
def ayF:TH:={ joins:=[(8,{ keep:=[(4,(.bx 0 0)),(9,(.int .i64))],mem:=[.same] })],loops:=[(3,{ keep:=[(4,(.bx 0 0)),(9,(.int .i64)),(10,(.int .i64))],mem:=[.same] })],ro:=[4] }
def oI (a0:List vV3) (a1:vV3) (y3:(Int×Int×Unit)):Option ((Int×Int×Unit)⊕((Int×Unit)⊕(Int×Bool×Unit))) :=
 cond (decide (y3.1<y3.2.1)) (
(shrT .u64 (IntKind.wrap .u64 (IntKind.wrap .i64 (y3.1+y3.2.1))) 1).bind fun t1 =>
(atI a0 (IntKind.wrap .i64 t1)).bind fun x2 =>
(za6 x2 a1).bind fun r3 =>
 cond (decide (r3<0)) (
 some (.inl ((IntKind.wrap .i64 ((IntKind.wrap .i64 t1)+1)),y3.2.1,()))) (
 some (.inl (y3.1,(IntKind.wrap .i64 t1),())))) (
 some (.inr (.inl (y3.1,()))))
def zab (a0:List vV3) (a1:vV3) (a2:Unit):Option (Int×Bool×Unit) :=
(aI (oI a0 a1) (0,(a0.length:Int),()):Option ((Int×Unit)⊕(Int×Bool×Unit))).bind (aV fun v4 =>
 cond (decide (v4.1<(a0.length:Int))) ((atI a0 v4.1).bind fun x5 =>
(za6 x5 a1).bind fun r6 =>
 some (v4.1,(decide (r6=0)),())) (some (v4.1,false,())))
def acI:TFn:={ ps:=(.cons (.sl tT15) (.cons tT15 (.cons (.fn 231) .unit))),res:=(.tup (.cons (.int .i64) (.cons .bool .unit))),fn:=fun v=>zab v.1 v.2.1 v.2.2.1 }
def avq:TEnv:=(vZ [(231,acN)])
theorem avp:runY Tryz.prog amI avr avq ayF Tryz.f233 acI.ps acI.res=acI.fn:=by kernel_rfl
theorem amG:aA Tryz.prog G0 233 amH:=ai (ak ⟨au,(aj amV ae),ap,ae,an⟩ Tryz.func233 rfl (by kernel_rfl))
theorem avo:TOk amH acI:=az (E:=amI) (ET:=avq) (EnvT.ofX (ax (ah ahK al)) am ar aL aq) avp rfl
def ajr:Env:={ pure:=[(229,aaW)],raw:=[(234,amf)],glob:=G0,same:=[274],look:=[(233,amH)],ext:=[] }
def aqo:Hints:=(hZ [(3,[5,12,13,14])] [])
def ajq:PFn:=aH (runF Tryz.prog ajr aqo Tryz.f164)
def axp:TH:={ loops:=[(3,{ keep:=[(5,(.own 1)),(14,(.int .i64))],mem:=[.gone,.row false 132 tT15] })],ro:=[] }
def wM (r1:List vV6) (y3:(Int×List vV3×Unit)):Option ((Int×List vV3×Unit)⊕List vV3) :=
 cond (decide (y3.1<(r1.length:Int))) (
(atI r1 y3.1).bind fun x2 =>
(zab y3.2.1 x2.2.1.2.2.1 ()).bind fun r3 =>
 cond (!r3.2.1) (
(zak r3.1 ([x2.2.1.2.2.1]:List vV3) y3.2.1).bind fun q4 =>
 some (.inl ((IntKind.wrap .i64 (y3.1+1)),q4.2.1,()))) (
 some (.inl ((IntKind.wrap .i64 (y3.1+1)),y3.2.1,())))) (
 some (.inr y3.2.1))
def zcn (a0:List vV6) (a1:List (List UInt8)):Option (List vV3) :=
(zdq a0 a1 2).bind fun r1 =>
 aI (wM r1) (0,[],())
def abr:TFn:={ ps:=(.cons (.sl tT19) tT22),res:=(.sl tT15),fn:=fun v=>zcn v.1 v.2.1 }
def aqn:TEnv:={ pure:=[(229,uC)],look:=[(233,acI)],glob:=G0T,ty:=[(132,tT15)],raw:=[(234,auV)],fresh:=[] }
theorem aqm:runY Tryz.prog ajr aqo aqn axp Tryz.f164 abr.ps abr.res=abr.fn:=by kernel_rfl
theorem ajp:aA Tryz.prog G0 164 ajq:=ai (ak ⟨au,(aj uD ae),(bP ame ap),(aj amG ae),an⟩ Tryz.func164 rfl (by kernel_rfl))
theorem aql:TOk ajq abr:=az (E:=ajr) (ET:=aqn) (EnvT.ofX (ax (ah aaV al)) (pf avo rfl am) (cq auU rfl rfl ar) aL aq) aqm rfl
def aiv:Env:=(eZ [(229,aaW)] [274])
def ao1:Hints:=(hZ [(3,[5,10,11,12])] [])
def aiu:PFn:=aH (runF Tryz.prog aiv ao1 Tryz.f165)
def aw3:TH:={ loops:=[(3,{ keep:=[(5,(.int .i64)),(12,(.int .i64))],mem:=[] })],ro:=[] }
def wG (r1:List vV6) (y3:(Int×Int×Unit)):Option ((Int×Int×Unit)⊕Int) :=
 cond (decide (y3.2.1<(r1.length:Int))) (
(atI r1 y3.2.1).bind fun x2 =>
 some (.inl ((IntKind.wrap .i64 (y3.1+x2.2.1.2.2.2.1)),(IntKind.wrap .i64 (y3.2.1+1)),()))) (
 some (.inr y3.1))
def zdj (a0:List vV6) (a1:List (List UInt8)):Option Int :=
(zdq a0 a1 3).bind fun r1 =>
 aI (wG r1) (0,0,())
def aa5:TFn:={ ps:=(.cons (.sl tT19) tT22),res:=(.int .i64),fn:=fun v=>zdj v.1 v.2.1 }
def ao0:TEnv:=(vZ [(229,uC)])
theorem aoZ:runY Tryz.prog aiv ao1 ao0 aw3 Tryz.f165 aa5.ps aa5.res=aa5.fn:=by kernel_rfl
theorem ait:aA Tryz.prog G0 165 aiu:=ai (ak ⟨au,(aj uD ae),ap,ae,an⟩ Tryz.func165 rfl (by kernel_rfl))
theorem aoY:TOk aiu aa5:=az (E:=aiv) (ET:=ao0) (EnvT.ofX (ax (ah aaV al)) am ar aL aq) aoZ rfl
def aih:Env:=(eZ [(72,zw),(163,akd),(164,ajq),(165,aiu)] [274])
def aoA:Hints:=(hZ [] [])
def aig:PFn:=aH (runF Tryz.prog aih aoA Tryz.f94)
def awV:TH:=yZ
def zdr (a0:List vV6) (a1:List (List UInt8)) (a2:Int):Option vV0 :=
(zao a1).bind fun r1 =>
 cond (decide (a2=1)) (
(zc2 a0 a1).bind fun r2 =>
 some (r1,a2,r2,0,())) (
 cond (decide (a2=2)) (
(zcn a0 a1).bind fun r3 =>
 some (r1,a2,r3,0,())) (
 cond (decide (a2=3)) (
(zdj a0 a1).bind fun r4 =>
 some (r1,a2,[],r4,())) (
 some (r1,a2,[],0,()))))
def aaU:TFn:={ ps:=(.cons (.sl tT19) (.cons (.sl .str) tT16)),res:=tT12,fn:=fun v=>zdr v.1 v.2.1 v.2.2.1 }
def aoz:TEnv:=(vZ [(72,acC),(163,abM),(164,abr),(165,aa5)])
theorem aoy:runY Tryz.prog aih aoA aoz awV Tryz.f94 aaU.ps aaU.res=aaU.fn:=by kernel_rfl
theorem aif:aA Tryz.prog G0 94 aig:=ai (ak ⟨au,(aj pU (aj akc (aj ajp (aj ait ae)))),ap,ae,an⟩ Tryz.func94 rfl (by kernel_rfl))
theorem aox:TOk aig aaU:=az (E:=aih) (ET:=aoz) (EnvT.ofX (ax (ah xi (ah arD (ah aql (ah aoY al))))) am ar aL aq) aoy rfl
def aj7:Env:=(eZ [(93,akL),(94,aig)] [274])
def arv:Hints:=(hZ [(3,[0,5,10,11,12])] [])
def afv:PFn:=aH (runF Tryz.prog aj7 arv Tryz.f32)
def axH:TH:={ loops:=[(3,{ keep:=[(5,(.own 1)),(12,(.int .i64))],mem:=[.gone,.row true 125 tT12] })],ro:=[] }
def wS (a0:List vV6) (r1:List vV4) (y3:(Int×List vV0×Unit)):Option ((Int×List vV0×Unit)⊕List vV0) :=
 cond (decide (y3.1<(r1.length:Int))) (
(atI r1 y3.1).bind fun x2 =>
(zdr a0 x2.1 x2.2.1).bind fun r3 =>
(ck (y3.2.1.length+([r3]:List vV0).length)).bind fun u4 =>
 some (.inl ((IntKind.wrap .i64 (y3.1+1)),(y3.2.1++([r3]:List vV0)),()))) (
 some (.inr y3.2.1))
def zc5 (a0:List vV6) (a1:List (List UInt8)):Option (List vV0) :=
(zbn a0 a1).bind fun r1 =>
 aI (wS a0 r1) (0,[],())
def zd:TFn:={ ps:=(.cons (.sl tT19) tT22),res:=(.sl tT12),fn:=fun v=>zc5 v.1 v.2.1 }
def aru:TEnv:={ pure:=[(93,ab2),(94,aaU)],look:=[],glob:=G0T,ty:=[(125,tT12)],raw:=[],fresh:=[] }
theorem art:runY Tryz.prog aj7 arv aru axH Tryz.f32 zd.ps zd.res=zd.fn:=by kernel_rfl
theorem abI:aA Tryz.prog G0 32 afv:=ai (ak ⟨au,(aj akK (aj aif ae)),ap,ae,an⟩ Tryz.func32 rfl (by kernel_rfl))
theorem ahy:TOk afv zd:=az (E:=aj7) (ET:=aru) (EnvT.ofX (ax (ah asw (ah aox al))) am ar aL aq) art rfl
def am3:Env:=(eZ [(154,uG),(155,ab8),(156,uT)] [274])
def avV:Hints:=(hZ [] [])
def am2:PFn:=aH (runF Tryz.prog am3 avV Tryz.f86)
def ayN:TH:={ loops:=[],ro:=[2,3] }
def za3 (a0:vV0) (a1:vV0):Option Int :=
(zbi a0.1 a1.1).bind fun r1 =>
(za1 a0.2.1 a1.2.1).bind fun r2 =>
(zc8 ([r1,r2]:List Int)).bind fun r3 =>
 some r3
def acR:TFn:={ ps:=(.cons tT12 (.cons tT12 .unit)),res:=(.int .i64),fn:=fun v=>za3 v.1 v.2.1 }
def avU:TEnv:={ pure:=[(154,rP),(155,zq),(156,rZ)],look:=[],glob:=G0T,ty:=[(3,(.int .i64))],raw:=[],fresh:=[] }
theorem avT:runY Tryz.prog am3 avV avU ayN Tryz.f86 acR.ps acR.res=acR.fn:=by kernel_rfl
theorem am1:aA Tryz.prog G0 86 am2:=ai (ak ⟨au,(aj pR (aj ab7 (aj pV ae))),ap,ae,an⟩ Tryz.func86 rfl (by kernel_rfl))
theorem avS:TOk am2 acR:=az (E:=am3) (ET:=avU) (EnvT.ofX (ax (ah wQ (ah ahF (ah xm al)))) am ar aL aq) avT rfl
def ama:Go.Shelf.Ren:=⟨fun | 41=>159 | n=>n,fun | 22=>123 | 23=>132 | 4=>4 | n=>n,fun | n=>n⟩
theorem afS:Go.Proofs.SlLaysE0.n41 Tryz.prog ama:={
 mixed:=by kernel_rfl
 f41:=⟨Tryz.f159.name,by decide,Tryz.func159.trans (congrArg some (by kernel_rfl))⟩
 t4:=Tryz.underlying4
 a4:=Tryz.isAgg4
 z4:=Tryz.sizeOf4
 v4:=Tryz.zeroValue4
 t22:=Tryz.underlying123
 a22:=Tryz.isAgg123
 z22:=Tryz.sizeOf123
 v22:=Tryz.zeroValue123 }
def amc:PFn:=(kV 3)
theorem amb:aA Tryz.prog G0 159 amc:=kD afS 3 ⟨Tryz.f159,Tryz.func159,rfl,by kernel_rfl⟩ (by kernel_rfl) (by kernel_rfl) (by kernel_rfl) (by kernel_rfl) (by kernel_rfl) (by decide) (fun w=>Tryz.sizeOf132 w)
def zal (a0:List vV3):Option (List vV3):=iI a0
def auT:TFn:=f8 tT15
theorem auS:TOk amc auT:=nJ rfl rfl rfl
def akH:Env:=(eZ [(72,zw),(159,amc)] [274])
def ass:Hints:=(hZ [] [])
def akG:PFn:=aH (runF Tryz.prog akH ass Tryz.f89)
def axX:TH:=yZ
def zbp (a0:vV0):Option vV0 :=
(zao a0.1).bind fun r1 =>
(zal a0.2.2.1).bind fun r2 =>
 some (r1,a0.2.1,r2,a0.2.2.2.1,())
def abZ:TFn:={ ps:=(.cons tT12 .unit),res:=tT12,fn:=fun v=>zbp v.1 }
def asr:TEnv:=(vZ [(72,acC),(159,auT)])
theorem asq:runY Tryz.prog akH ass asr axX Tryz.f89 abZ.ps abZ.res=abZ.fn:=by kernel_rfl
theorem akF:aA Tryz.prog G0 89 akG:=ai (ak ⟨au,(aj pU (aj amb ae)),ap,ae,an⟩ Tryz.func89 rfl (by kernel_rfl))
theorem aso:TOk akG abZ:=az (E:=akH) (ET:=asr) (EnvT.ofX (ax (ah xi (ah auS al))) am ar aL aq) asq rfl
def al9:Env:=(eZ [] [274])
def auR:Hints:=(hZ [(4,[0,1,12,13])] [])
def al8:PFn:=aH (runF Tryz.prog al9 auR Tryz.f161)
def ayz:TH:={ loops:=[(4,{ keep:=[(13,(.int .i64))],mem:=[] })],ro:=[] }
def xj (a0:List vV3) (a1:List vV3) (y4:(Int×Unit)):Option ((Int×Unit)⊕Bool) :=
 cond (decide (y4.1<(a0.length:Int))) (
(atI a0 y4.1).bind fun x1 =>
(atI a1 y4.1).bind fun x2 =>
 cond (!(eqV tT15 x1 x2)) (
 some (.inr false)) (
 some (.inl ((IntKind.wrap .i64 (y4.1+1)),())))) (
 some (.inr true))
def zam (a0:List vV3) (a1:List vV3):Option Bool :=
 cond (!decide ((a0.length:Int)=(a1.length:Int))) (
 some false) (
 aI (xj a0 a1) (0,()))
def acE:TFn:={ ps:=(.cons (.sl tT15) (.cons (.sl tT15) .unit)),res:=.bool,fn:=fun v=>zam v.1 v.2.1 }
def auQ:TEnv:=(vZ [])
theorem auP:runY Tryz.prog al9 auR auQ ayz Tryz.f161 acE.ps acE.res=acE.fn:=by kernel_rfl
theorem al7:aA Tryz.prog G0 161 al8:=ai (ak ⟨au,ae,ap,ae,an⟩ Tryz.func161 rfl (by kernel_rfl))
theorem auO:TOk al8 acE:=az (E:=al9) (ET:=auQ) (EnvT.ofX (ax al) am ar aL aq) auP rfl
def aiO:Env:=(eZ [(160,afm),(161,al8)] [274])
def apt:Hints:=(hZ [] [])
def aiN:PFn:=aH (runF Tryz.prog aiO apt Tryz.f92)
def axa:TH:={ loops:=[],cuts:=[(1,[(12,{ keep:=[(2,(.bx 0 0)),(3,(.bx 1 0)),(16,.bool)],mem:=[.same,.same] })])],ro:=[2,3],news:=[] }
def zdc (a0:vV0) (a1:vV0):Option Bool :=
(cond (decide (a0.2.1=a1.2.1)) (some ((decide (a0.2.2.2.1=a1.2.2.2.1)),())) (some (false,())):Option (Bool×Unit)).bind fun v1 =>
 cond v1.1 ((zdk a0.1 a1.1).bind fun r2 =>
 cond r2 ((zam a0.2.2.1 a1.2.2.1).bind fun r3 =>
 some r3) (some false)) (some false)
def abc:TFn:={ ps:=(.cons tT12 (.cons tT12 .unit)),res:=.bool,fn:=fun v=>zdc v.1 v.2.1 }
def aps:TEnv:=(vZ [(160,yR),(161,acE)])
theorem apr:runY Tryz.prog aiO apt aps axa Tryz.f92 abc.ps abc.res=abc.fn:=by kernel_rfl
theorem aiM:aA Tryz.prog G0 92 aiN:=ai (ak ⟨au,(aj aa4 (aj al7 ae)),ap,ae,an⟩ Tryz.func92 rfl (by kernel_rfl))
theorem apq:TOk aiN abc:=az (E:=aiO) (ET:=aps) (EnvT.ofX (ax (ah ahp (ah auO al))) am ar aL aq) apr rfl
def amL:Env:=(eZ [(92,aiN)] [274])
def avv:Hints:=(hZ [(4,[1,2,15,16,17])] [])
def amK:PFn:=aH (runF Tryz.prog amL avv Tryz.f91)
def ayG:TH:={ loops:=[(4,{ keep:=[(17,(.int .i64))],mem:=[] })],ro:=[] }
def lU (a0:List vV0) (a1:List vV0) (y4:(Int×Unit)):Option ((Int×Unit)⊕Bool) :=
 cond (decide (y4.1<(a0.length:Int))) (
(atI a0 y4.1).bind fun x1 =>
(atI a1 y4.1).bind fun x2 =>
(zdc x1 x2).bind fun r3 =>
 cond (!r3) (
 some (.inr false)) (
 some (.inl ((IntKind.wrap .i64 (y4.1+1)),())))) (
 some (.inr true))
def zaa (a0:List vV0) (a1:List vV0) (a2:Unit):Option Bool :=
 cond (!decide ((a0.length:Int)=(a1.length:Int))) (
 some false) (
 aI (lU a0 a1) (0,()))
def acJ:TFn:={ ps:=(.cons (.sl tT12) (.cons (.sl tT12) (.cons (.fn 92) .unit))),res:=.bool,fn:=fun v=>zaa v.1 v.2.1 v.2.2.1 }
def avu:TEnv:=(vZ [(92,abc)])
theorem avt:runY Tryz.prog amL avv avu ayG Tryz.f91 acJ.ps acJ.res=acJ.fn:=by kernel_rfl
theorem amJ:aA Tryz.prog G0 91 amK:=ai (ak ⟨au,(aj aiM ae),ap,ae,an⟩ Tryz.func91 rfl (by kernel_rfl))
theorem avs:TOk amK acJ:=az (E:=amL) (ET:=avu) (EnvT.ofX (ax (ah apq al)) am ar aL aq) avt rfl
def aiF:Env:=(eZ [(91,amK)] [274])
def apg:Hints:=(hZ [] [])
def afn:PFn:=aH (runF Tryz.prog aiF apg Tryz.f31)
def aw7:TH:=yZ
def zdf (a0:List vV0) (a1:List vV0):Option Bool :=
(zaa a0 a1 ()).bind fun r1 =>
 some r1
def yS:TFn:={ ps:=(.cons (.sl tT12) (.cons (.sl tT12) .unit)),res:=.bool,fn:=fun v=>zdf v.1 v.2.1 }
def apf:TEnv:=(vZ [(91,acJ)])
theorem ape:runY Tryz.prog aiF apg apf aw7 Tryz.f31 yS.ps yS.res=yS.fn:=by kernel_rfl
theorem aa9:aA Tryz.prog G0 31 afn:=ai (ak ⟨au,(aj amJ ae),ap,ae,an⟩ Tryz.func31 rfl (by kernel_rfl))
theorem ahq:TOk afn yS:=az (E:=aiF) (ET:=apf) (EnvT.ofX (ax (ah avs al)) am ar aL aq) ape rfl
def als:Env:=(eZ [(31,afn)] [274])
def atA:Hints:=(hZ [] [])
def alr:PFn:=aH (runF Tryz.prog als atA Tryz.f87)
def ayg:TH:={ loops:=[],ro:=[2,3] }
def zb6 (a0:vV0) (a1:vV0):Option Bool :=
(zdf ([a0]:List vV0) ([a1]:List vV0)).bind fun r1 =>
 some r1
def acn:TFn:={ ps:=(.cons tT12 (.cons tT12 .unit)),res:=.bool,fn:=fun v=>zb6 v.1 v.2.1 }
def atz:TEnv:={ pure:=[(31,yS)],look:=[],glob:=G0T,ty:=[(125,tT12)],raw:=[],fresh:=[] }
theorem aty:runY Tryz.prog als atA atz ayg Tryz.f87 acn.ps acn.res=acn.fn:=by kernel_rfl
theorem alq:aA Tryz.prog G0 87 alr:=ai (ak ⟨au,(aj aa9 ae),ap,ae,an⟩ Tryz.func87 rfl (by kernel_rfl))
theorem atx:TOk alr acn:=az (E:=als) (ET:=atz) (EnvT.ofX (ax (ah ahq al)) am ar aL aq) aty rfl
def ajK:Env:=(eZ [(86,am2),(87,alr),(89,akG)] [274])
def aqP:Hints:=(hZ [(2,[0,1,5])] [41,45,60,73])
def ajJ:PFn:=aH (runF Tryz.prog ajK aqP Tryz.f76)
def axw:TH:={ joins:=[(3,{ keep:=[(5,(.own 0))],mem:=[.row true 127 tT18] }),(11,{ keep:=[(5,(.own 0)),(6,(.int .i64))],mem:=[.row true 127 tT18] }),(10,{ keep:=[(5,(.own 0))],mem:=[.row true 127 tT18] })],loops:=[(2,{ keep:=[(0,(.sl tT12)),(1,(.sl tT12)),(5,(.own 0))],mem:=[.row true 127 tT18] })],ro:=[] }
def jc (y2:(List vV0×List vV0×List vV7×Unit)):Option ((List vV0×List vV0×List vV7×Unit)⊕List vV7) :=
(cond (decide ((y2.1.length:Int)>0)) (some (.inl (y2.2.2.1,()))) (cond (decide ((y2.2.1.length:Int)>0)) (
 some (.inl (y2.2.2.1,()))) (
 some (.inr (.inr y2.2.2.1)))):Option ((List vV7×Unit)⊕((List vV0×List vV0×List vV7×Unit)⊕List vV7))).bind (aV fun v1 =>
(cond (decide ((y2.2.1.length:Int)=0)) (
 some (.inl ((-1),v1.1,()))) (
 cond (decide ((y2.1.length:Int)>0)) (
(atI y2.1 0).bind fun x2 =>
(atI y2.2.1 0).bind fun x3 =>
(za3 x2 x3).bind fun r4 =>
 some (.inl (r4,v1.1,()))) (
 some (.inl (1,v1.1,())))):Option ((Int×List vV7×Unit)⊕((List vV0×List vV0×List vV7×Unit)⊕List vV7))).bind (aV fun v5 =>
 cond (decide (v5.1<0)) (
(atI y2.1 0).bind fun x6 =>
(zbp x6).bind fun r7 =>
(ck (v5.2.1.length+([(2,r7,([],0,[],0,()),())]:List vV7).length)).bind fun u8 =>
(subI y2.1 1 (y2.1.length:Int)).bind fun s9 =>
 some (.inl (s9,y2.2.1,(v5.2.1++([(2,r7,([],0,[],0,()),())]:List vV7)),()))) (
 cond (decide (v5.1>0)) (
(atI y2.2.1 0).bind fun x10 =>
(zbp x10).bind fun r11 =>
(ck (v5.2.1.length+([(1,([],0,[],0,()),r11,())]:List vV7).length)).bind fun u12 =>
(subI y2.2.1 1 (y2.2.1.length:Int)).bind fun s13 =>
 some (.inl (y2.1,s13,(v5.2.1++([(1,([],0,[],0,()),r11,())]:List vV7)),()))) (
((atI y2.1 0).bind fun x14 =>
(atI y2.2.1 0).bind fun x15 =>
(zb6 x14 x15).bind fun r16 =>
 cond (!r16) (
(atI y2.1 0).bind fun x17 =>
(zbp x17).bind fun r18 =>
(atI y2.2.1 0).bind fun x19 =>
(zbp x19).bind fun r20 =>
(ck (v5.2.1.length+([(3,r18,r20,())]:List vV7).length)).bind fun u21 =>
 some (.inl ((v5.2.1++([(3,r18,r20,())]:List vV7)),()))) (
 some (.inl (v5.2.1,()))):Option ((List vV7×Unit)⊕((List vV0×List vV0×List vV7×Unit)⊕List vV7))).bind (aV fun v22 =>
(subI y2.1 1 (y2.1.length:Int)).bind fun s23 =>
(subI y2.2.1 1 (y2.2.1.length:Int)).bind fun s24 =>
 some (.inl (s23,s24,v22.1,())))))))
def zcg (a0:List vV0) (a1:List vV0):Option (List vV7) :=
 aI (jc) (a0,a1,[],())
def aby:TFn:={ ps:=(.cons (.sl tT12) (.cons (.sl tT12) .unit)),res:=(.sl tT18),fn:=fun v=>zcg v.1 v.2.1 }
def aqO:TEnv:={ pure:=[(86,acR),(87,acn),(89,abZ)],look:=[],glob:=G0T,ty:=[(127,tT18)],raw:=[],fresh:=[] }
theorem aqN:runY Tryz.prog ajK aqP aqO axw Tryz.f76 aby.ps aby.res=aby.fn:=by kernel_rfl
theorem ajI:aA Tryz.prog G0 76 ajJ:=ai (ak ⟨au,(aj am1 (aj alq (aj akF ae))),ap,ae,an⟩ Tryz.func76 rfl (by kernel_rfl))
theorem aqM:TOk ajJ aby:=az (E:=ajK) (ET:=aqO) (EnvT.ofX (ax (ah avS (ah atx (ah aso al)))) am ar aL aq) aqN rfl
def alN:Env:=(eZ [(32,afv),(76,ajJ)] [274])
def aud:Hints:=(hZ [] [8])
def afI:SFn:=runF Tryz.prog alN aud Tryz.f21
def ayp:TH:=yZ
def zax (a1:List vV6) (w0:vV8):Option (List vV7×vV8×Unit) :=
(zc5 a1 w0.1).bind fun r1 =>
(zcg w0.2.1 r1).bind fun r2 =>
 some (r2,(w0.1,r1,(IntKind.wrap .i64 (w0.2.2.1+1)),()),())
def rV:TRaw:={ ps:=(.cons (.bx 0 0) (.cons (.sl tT19) .unit)),ins:=[.box 139 tT21],res:=(.sl tT18),outs:=[.box 139 tT21],fn:=fun v w=>zax v.2.1 w.1 }
def auc:TEnv:=(vZ [(32,zd),(76,aby)])
theorem aub:rawY Tryz.prog alN aud auc ayp [(0,0)] Tryz.f21 rV.ps rV.ins rV.res rV.outs=rV.fn:=by kernel_rfl
theorem acv:cE Tryz.prog G0 21 afI:=ak ⟨au,(aj abI (aj ajI ae)),ap,ae,an⟩ Tryz.func21 rfl (by kernel_rfl)
theorem ahI:TRawOk afI rV:=mK (E:=alN) (ET:=auc) (EnvT.ofX (ax (ah ahy (ah aqM al))) am ar aL aq) aub
def alV:Env:=(eZ [] [274])
def aux:Hints:=(hZ [] [4])
def acy:SFn:=runF Tryz.prog alV aux Tryz.f28
def ayu:TH:=yZ
def zas (w0:vV8):Option (Int×vV8×Unit) :=
 some (w0.2.2.1,w0,())
def rW:TRaw:={ ps:=(.cons (.bx 0 0) .unit),ins:=[.box 139 tT21],res:=(.int .i64),outs:=[.box 139 tT21],fn:=fun v w=>zas w.1 }
def auw:TEnv:=(vZ [])
theorem auv:rawY Tryz.prog alV aux auw ayu [(0,0)] Tryz.f28 rW.ps rW.ins rW.res rW.outs=rW.fn:=by kernel_rfl
theorem acx:cE Tryz.prog G0 28 acy:=ak ⟨au,ae,ap,ae,an⟩ Tryz.func28 rfl (by kernel_rfl)
theorem ahJ:TRawOk acy rW:=mK (E:=alV) (ET:=auw) (EnvT.ofX (ax al) am ar aL aq) auv
theorem dn:∀ xs st p,acy xs st=some p→p.2=st:=fun xs st p hp=>j6 (by kernel_rfl) hp
def ajN:Env:={ pure:=[(19,afk)],raw:=[(17,afl),(21,afI),(28,acy)],glob:=G0,same:=[274],look:=[],ext:=[],quiet:=[28] }
def aqT:Hints:=(hZ [] [])
def ajM:PFn:=aH (runF Tryz.prog ajN aqT Tryz.f16)
def axx:TH:={ loops:=[],cuts:=[(4,[(7,{ keep:=[(1,(.bx 0 0)),(30,.bool)],mem:=[.box 139 tT21] })])],ro:=[],news:=[] }
def zcf:Option Bool :=
(zdl ([[97]]:List (List UInt8))).bind fun p1 =>
 cond p1.1.isEmpty (
(zdn ([((0,1,()),0,1,false,([(3,([[97]]:List (List UInt8)),(0,0,[],()),1,[],())]:List vV1),())]:List vV5) []).bind fun r9 =>
 none) (
((p1.1.head? : Option vV8)).bind fun x2 =>
(zdn ([((0,1,()),0,1,false,([(3,([[97]]:List (List UInt8)),(0,0,[],()),1,[],())]:List vV1),())]:List vV5) []).bind fun r3 =>
(zax r3 x2).bind fun q4 =>
(zax r3 q4.2.1).bind fun q5 =>
(cond (decide (p1.2.1=0)) (some ((decide ((q4.1.length:Int)=1)),q5.2.1,())) (some (false,q5.2.1,())):Option (Bool×vV8×Unit)).bind fun v6 =>
 cond v6.1 ((atI q4.1 0).bind fun x7 =>
 cond (decide (x7.1=1)) (cond (decide ((q5.1.length:Int)=0)) ((zas v6.2.1).bind fun q8 =>
 some (decide (q8.1=2))) (some false)) (some false)) (some false))
def abz:TFn:={ ps:=.unit,res:=.bool,fn:=fun v=>zcf  }
def aqS:TEnv:={ pure:=[(19,yQ)],look:=[],glob:=G0T,ty:=[(9,.str),(78,tT17),(135,tT13)],raw:=[(21,rV),(28,rW)],fresh:=[(17,aa3)] }
theorem aqR:runY Tryz.prog ajN aqT aqS axx Tryz.f16 abz.ps abz.res=abz.fn:=by kernel_rfl
theorem ajL:aA Tryz.prog G0 16 ajM:=ai (ak ⟨au,(aj aa0 ae),(bP aa2 (bP acv (bP acx ap))),ae,an⟩ Tryz.func16 rfl (by kernel_rfl))
theorem aqQ:TOk ajM abz:=az (E:=ajN) (ET:=aqS) (EnvT.ofX (ax (ah ahn al)) am (mJ (cq ahI rfl rfl (cq ahJ rfl rfl ar)) rfl) aL (mY aho rfl rfl rfl aq) (hY dn rfl rfl rfl mL)) aqR rfl
def akn:Env:=(eZ [(144,zj)] [274])
def arX:Hints:=(hZ [(6,[4,6,7])] [])
def afy:PFn:=aH (runF Tryz.prog akn arX Tryz.f73)
def axP:TH:={ joins:=[(18,{ keep:=[(6,(.own 0)),(7,(.int .i64)),(8,(.int .i64))],mem:=[.row true 3 (.int .i64)] }),(17,{ keep:=[(6,(.own 0))],mem:=[.row true 3 (.int .i64)] })],loops:=[(6,{ keep:=[(6,(.own 0)),(7,(.int .i64))],mem:=[.row true 3 (.int .i64)] })],ro:=[] }
def gh (r1:(List Int×Bool×Unit)) (y6:(Int×List Int×Unit)):Option ((Int×List Int×Unit)⊕(List Int×Bool×Unit)) :=
 cond (decide (y6.1<(r1.1.length:Int))) (
(atI r1.1 y6.1).bind fun x2 =>
 cond (decide (x2=42)) (
(ck (y6.2.1.length+([(-2)]:List Int).length)).bind fun u3 =>
 some (.inl ((IntKind.wrap .i64 (y6.1+1)),(y6.2.1++([(-2)]:List Int)),()))) (
 cond (decide (x2=63)) (
(ck (y6.2.1.length+([(-1)]:List Int).length)).bind fun u4 =>
 some (.inl ((IntKind.wrap .i64 (y6.1+1)),(y6.2.1++([(-1)]:List Int)),()))) (
(cond (decide (x2=92)) (
(cond (decide ((IntKind.wrap .i64 (y6.1+1))=(r1.1.length:Int))) (some (.inr (.inr (.inr ([],false,()))))) ((atI r1.1 (IntKind.wrap .i64 (y6.1+1))).bind fun x5 =>
 cond (!decide (x5=92)) ((atI r1.1 (IntKind.wrap .i64 (y6.1+1))).bind fun x6 =>
 cond (!decide (x6=42)) ((atI r1.1 (IntKind.wrap .i64 (y6.1+1))).bind fun x7 =>
 cond (!decide (x7=63)) (
 some (.inr (.inr (.inr ([],false,()))))) (
 some (.inl (y6.2.1,())))) (some (.inl (y6.2.1,())))) (some (.inl (y6.2.1,())))):Option ((List Int×Unit)⊕((Int×Int×List Int×Unit)⊕((Int×List Int×Unit)⊕(List Int×Bool×Unit))))).bind (aV fun v8 =>
(atI r1.1 (IntKind.wrap .i64 (y6.1+1))).bind fun x9 =>
 some (.inl ((IntKind.wrap .i64 (y6.1+1)),x9,v8.1,())))) (
 some (.inl (y6.1,x2,y6.2.1,()))):Option ((Int×Int×List Int×Unit)⊕((Int×List Int×Unit)⊕(List Int×Bool×Unit)))).bind (aV fun v10 =>
(ck (v10.2.2.1.length+([v10.2.1]:List Int).length)).bind fun u11 =>
 some (.inl ((IntKind.wrap .i64 (v10.1+1)),(v10.2.2.1++([v10.2.1]:List Int)),())))))) (
 some (.inr (y6.2.1,true,())))
def zbx (a0:List UInt8):Option (List Int×Bool×Unit) :=
(zbt a0).bind fun r1 =>
 cond (!r1.2.1) (some ([],false,())) (cond (decide ((r1.1.length:Int)>64)) (
 some ([],false,())) (
 aI (gh r1) (0,[],())))
def zi:TFn:={ ps:=(.cons .str .unit),res:=(.tup (.cons (.sl (.int .i64)) (.cons .bool .unit))),fn:=fun v=>zbx v.1 }
def arW:TEnv:={ pure:=[(144,rR)],look:=[],glob:=G0T,ty:=[(3,(.int .i64))],raw:=[],fresh:=[] }
theorem arV:runY Tryz.prog akn arX arW axP Tryz.f73 zi.ps zi.res=zi.fn:=by kernel_rfl
theorem abR:aA Tryz.prog G0 73 afy:=ai (ak ⟨au,(aj pS ae),ap,ae,an⟩ Tryz.func73 rfl (by kernel_rfl))
theorem ahB:TOk afy zi:=az (E:=akn) (ET:=arW) (EnvT.ofX (ax (ah wY al)) am ar aL aq) arV rfl
def ajH:Env:=(eZ [(73,afy)] [274])
def aqL:Hints:=(hZ [(6,[0,3])] [])
def afr:PFn:=aH (runF Tryz.prog ajH aqL Tryz.f18)
def axv:TH:={ loops:=[(6,{ keep:=[(3,(.int .i64))],mem:=[] })],ro:=[] }
def rN (a0:List (List UInt8)) (y6:(Int×Unit)):Option ((Int×Unit)⊕Int) :=
 cond (decide (y6.1<(a0.length:Int))) (
(atI a0 y6.1).bind fun x1 =>
(zbx x1).bind fun r2 =>
(atI a0 y6.1).bind fun x3 =>
 cond (decide (x3=[])) (some (.inr 8)) (cond (!r2.2.1) (
 some (.inr 8)) (
 some (.inl ((IntKind.wrap .i64 (y6.1+1)),()))))) (
 some (.inr 0))
def zch (a0:List (List UInt8)):Option Int :=
 cond (decide ((a0.length:Int)=0)) (
 some 8) (
 cond (decide ((a0.length:Int)>8)) (
 some 9) (
 aI (rN a0) (0,())))
def yW:TFn:={ ps:=tT22,res:=(.int .i64),fn:=fun v=>zch v.1 }
def aqK:TEnv:=(vZ [(73,zi)])
theorem aqJ:runY Tryz.prog ajH aqL aqK axv Tryz.f18 yW.ps yW.res=yW.fn:=by kernel_rfl
theorem abx:aA Tryz.prog G0 18 afr:=ai (ak ⟨au,(aj abR ae),ap,ae,an⟩ Tryz.func18 rfl (by kernel_rfl))
theorem ahu:TOk afr yW:=az (E:=ajH) (ET:=aqK) (EnvT.ofX (ax (ah ahB al)) am ar aL aq) aqJ rfl
def alU:Env:=(eZ [(31,afn),(32,afv)] [274])
def auu:Hints:=(hZ [] [6])
def afM:SFn:=runF Tryz.prog alU auu Tryz.f20
def ayt:TH:=yZ
def zat (a1:List vV6) (w0:vV8):Option (Bool×vV8×Unit) :=
(zc5 a1 w0.1).bind fun r1 =>
(zdf r1 w0.2.1).bind fun r2 =>
 some ((!r2),w0,())
def uS:TRaw:={ ps:=(.cons (.bx 0 0) (.cons (.sl tT19) .unit)),ins:=[.box 139 tT21],res:=.bool,outs:=[.box 139 tT21],fn:=fun v w=>zat v.2.1 w.1 }
def aut:TEnv:=(vZ [(31,yS),(32,zd)])
theorem aus:rawY Tryz.prog alU auu aut ayt [(0,0)] Tryz.f20 uS.ps uS.ins uS.res uS.outs=uS.fn:=by kernel_rfl
theorem alT:cE Tryz.prog G0 20 afM:=ak ⟨au,(aj aa9 (aj abI ae)),ap,ae,an⟩ Tryz.func20 rfl (by kernel_rfl)
theorem aur:TRawOk afM uS:=mK (E:=alU) (ET:=aut) (EnvT.ofX (ax (ah ahq (ah ahy al))) am ar aL aq) aus
theorem gr:∀ xs st p,afM xs st=some p→p.2=st:=fun xs st p hp=>j6 (by kernel_rfl) hp
def aiR:Env:=(eZ [] [274])
def apx:Hints:=(hZ [(2,[0,3,5])] [])
def aiQ:PFn:=aH (runF Tryz.prog aiR apx Tryz.f48)
def axb:TH:={ loops:=[(2,{ keep:=[(3,(.bx 0 0)),(5,(.int .i64))],mem:=[.same] })],ro:=[3] }
def rM (a0:List vV2) (a1:(Int×Int×Unit)) (y2:(Int×Unit)):Option ((Int×Unit)⊕Int) :=
 cond (decide (y2.1<(a0.length:Int))) (
(atI a0 y2.1).bind fun x1 =>
 cond (eqV (.agg (.cons (.int .i64) tT16)) x1.1 a1) (
(atI a0 y2.1).bind fun x2 =>
 some (.inr x2.2.1)) (
 some (.inl ((IntKind.wrap .i64 (y2.1+1)),())))) (
 some (.inr 0))
def zdb (a0:List vV2) (a1:(Int×Int×Unit)):Option Int :=
 aI (rM a0 a1) (0,())
def abd:TFn:={ ps:=(.cons (.sl tT14) tT23),res:=(.int .i64),fn:=fun v=>zdb v.1 v.2.1 }
def apw:TEnv:=(vZ [])
theorem apv:runY Tryz.prog aiR apx apw axb Tryz.f48 abd.ps abd.res=abd.fn:=by kernel_rfl
theorem aiP:aA Tryz.prog G0 48 aiQ:=ai (ak ⟨au,ae,ap,ae,an⟩ Tryz.func48 rfl (by kernel_rfl))
theorem apu:TOk aiQ abd:=az (E:=aiR) (ET:=apw) (EnvT.ofX (ax al) am ar aL aq) apv rfl
def aj6:Env:=(eZ [(48,aiQ)] [274])
def ars:Hints:=(hZ [] [])
def afu:PFn:=aH (runF Tryz.prog aj6 ars Tryz.f37)
def axG:TH:={ loops:=[],ro:=[3] }
def zc6 (a0:List vV2) (a1:(Int×Int×Unit)):Option Bool :=
(zdb a0 a1).bind fun r1 =>
(remT r1 2).bind fun t2 =>
 some (decide (t2=0))
def zc:TFn:={ ps:=(.cons (.sl tT14) tT23),res:=.bool,fn:=fun v=>zc6 v.1 v.2.1 }
def arq:TEnv:=(vZ [(48,abd)])
theorem arp:runY Tryz.prog aj6 ars arq axG Tryz.f37 zc.ps zc.res=zc.fn:=by kernel_rfl
theorem abH:aA Tryz.prog G0 37 afu:=ai (ak ⟨au,(aj aiP ae),ap,ae,an⟩ Tryz.func37 rfl (by kernel_rfl))
theorem ahx:TOk afu zc:=az (E:=aj6) (ET:=arq) (EnvT.ofX (ax (ah apu al)) am ar aL aq) arp rfl
def akU:Env:=(eZ [] [274])
def asN:Hints:=(hZ [(2,[2,3,5])] [])
def akT:PFn:=aH (runF Tryz.prog akU asN Tryz.f151)
def ax3:TH:={ loops:=[(2,{ keep:=[(2,(.bx 0 0)),(3,(.bx 1 0)),(5,(.int .i64))],mem:=[.same,.same] })],ro:=[2,3] }
def w9 (a0:vV1) (a1:vV2) (y2:(Int×Unit)):Option ((Int×Unit)⊕Bool) :=
 cond (decide (y2.1<(a0.2.2.2.2.1.length:Int))) (
(atI a0.2.2.2.2.1 y2.1).bind fun x1 =>
 cond (eqV tT14 x1 a1) (
 some (.inr true)) (
 some (.inl ((IntKind.wrap .i64 (y2.1+1)),())))) (
 some (.inr false))
def zbj (a0:vV1) (a1:vV2):Option Bool :=
 aI (w9 a0 a1) (0,())
def ab6:TFn:={ ps:=(.cons tT13 (.cons tT14 .unit)),res:=.bool,fn:=fun v=>zbj v.1 v.2.1 }
def asM:TEnv:=(vZ [])
theorem asL:runY Tryz.prog akU asN asM ax3 Tryz.f151 ab6.ps ab6.res=ab6.fn:=by kernel_rfl
theorem akS:aA Tryz.prog G0 151 akT:=ai (ak ⟨au,ae,ap,ae,an⟩ Tryz.func151 rfl (by kernel_rfl))
theorem asK:TOk akT ab6:=az (E:=akU) (ET:=asM) (EnvT.ofX (ax al) am ar aL aq) asL rfl
def amU:Env:=(eZ [(37,afu),(151,akT)] [274])
def avH:Hints:=(hZ [(2,[0,1,5,7]),(5,[0,1,5,7,8])] [])
def amT:PFn:=aH (runF Tryz.prog amU avH Tryz.f79)
def ayJ:TH:={ loops:=[(2,{ keep:=[(5,(.bx 0 0)),(7,(.int .i64))],mem:=[.same] }),(5,{ keep:=[(5,(.bx 0 0)),(8,(.int .i64))],mem:=[.same] })],ro:=[5] }
def xk (y2:(Int×Unit)) (a0:List vV5) (a1:List vV2) (a2:vV2) (y5:(Int×Unit)):Option ((Int×Unit)⊕((Int×Unit)⊕Bool)) :=
(atI a0 y2.1).bind fun x1 =>
 cond (decide (y5.1<(x1.2.2.2.2.1.length:Int))) (
(atI a0 y2.1).bind fun x2 =>
(atI x2.2.2.2.2.1 y5.1).bind fun x3 =>
(zbj x3 a2).bind fun r4 =>
 cond r4 ((atI a0 y2.1).bind fun x5 =>
(zc6 a1 x5.1).bind fun r6 =>
 cond r6 (
 some (.inr (.inr true))) (
 some (.inl ((IntKind.wrap .i64 (y5.1+1)),())))) (some (.inl ((IntKind.wrap .i64 (y5.1+1)),())))) (
 some (.inr (.inl ((IntKind.wrap .i64 (y2.1+1)),()))))
def xl (a0:List vV5) (a1:List vV2) (a2:vV2) (y2:(Int×Unit)):Option ((Int×Unit)⊕Bool) :=
 cond (decide (y2.1<(a0.length:Int))) (
 aI (xk y2 a0 a1 a2) (0,())) (
 some (.inr false))
def za7 (a0:List vV5) (a1:List vV2) (a2:vV2):Option Bool :=
 aI (xl a0 a1 a2) (0,())
def acM:TFn:={ ps:=(.cons (.sl tT17) (.cons (.sl tT14) (.cons tT14 .unit))),res:=.bool,fn:=fun v=>za7 v.1 v.2.1 v.2.2.1 }
def avG:TEnv:=(vZ [(37,zc),(151,ab6)])
theorem avF:runY Tryz.prog amU avH avG ayJ Tryz.f79 acM.ps acM.res=acM.fn:=by kernel_rfl
theorem amS:aA Tryz.prog G0 79 amT:=ai (ak ⟨au,(aj abH (aj akS ae)),ap,ae,an⟩ Tryz.func79 rfl (by kernel_rfl))
theorem avE:TOk amT acM:=az (E:=amU) (ET:=avG) (EnvT.ofX (ax (ah ahx (ah asK al))) am ar aL aq) avF rfl
def aiy:Env:=(eZ [(37,afu),(79,amT)] [274])
def ao5:Hints:=(hZ [(3,[0,1,5,6]),(6,[0,1,5,6,7])] [72])
def aix:PFn:=aH (runF Tryz.prog aiy ao5 Tryz.f24)
def aw4:TH:={ loops:=[(3,{ keep:=[(5,(.own 2)),(6,(.int .i64))],mem:=[.gone,.gone,.row true 156 tT19] }),(6,{ keep:=[(5,(.own 2)),(7,(.int .i64))],mem:=[.gone,.gone,.row true 156 tT19] })],cuts:=[(10,[(8,{ keep:=[(5,(.own 2)),(8,(.bx 3 0)),(9,(.bx 4 0)),(48,.bool)],mem:=[.gone,.gone,.row true 156 tT19,.box 135 tT13,.box 146 tT14] })])],ro:=[],news:=[] }
def lN (y3:(Int×List vV6×Unit)) (a0:List vV5) (a1:List vV2) (y6:(Int×List vV6×Unit)):Option ((Int×List vV6×Unit)⊕((Int×List vV6×Unit)⊕List vV6)) :=
(atI a0 y3.1).bind fun x1 =>
 cond (decide (y6.1<(x1.2.2.2.2.1.length:Int))) (
(atI a0 y3.1).bind fun x2 =>
(atI x2.2.2.2.2.1 y6.1).bind fun x3 =>
(atI a0 y3.1).bind fun x4 =>
(cond (decide (x3.1≥1)) (some ((decide (x3.1≤3)),y6.2.1,x3,(x4.1,y6.1,()),())) (some (false,y6.2.1,x3,(x4.1,y6.1,()),())):Option (Bool×List vV6×vV1×vV2×Unit)).bind fun v5 =>
 cond v5.1 ((atI a0 y3.1).bind fun x6 =>
(zc6 a1 x6.1).bind fun r7 =>
 cond r7 ((za7 a0 a1 v5.2.2.2.1).bind fun r8 =>
 cond (!r8) (
(atI a0 y3.1).bind fun x9 =>
(ck (v5.2.1.length+([(v5.2.2.2.1,v5.2.2.1,x9.2.2.1,())]:List vV6).length)).bind fun u10 =>
 some (.inl ((IntKind.wrap .i64 (y6.1+1)),(v5.2.1++([(v5.2.2.2.1,v5.2.2.1,x9.2.2.1,())]:List vV6)),()))) (
 some (.inl ((IntKind.wrap .i64 (y6.1+1)),v5.2.1,())))) (some (.inl ((IntKind.wrap .i64 (y6.1+1)),v5.2.1,())))) (some (.inl ((IntKind.wrap .i64 (y6.1+1)),v5.2.1,())))) (
 some (.inr (.inl ((IntKind.wrap .i64 (y3.1+1)),y6.2.1,()))))
def wH (a0:List vV5) (a1:List vV2) (y3:(Int×List vV6×Unit)):Option ((Int×List vV6×Unit)⊕List vV6) :=
 cond (decide (y3.1<(a0.length:Int))) (
 aI (lN y3 a0 a1) (0,y3.2.1,())) (
 some (.inr y3.2.1))
def zdi (a0:List vV5) (a1:List vV2):Option (List vV6) :=
 aI (wH a0 a1) (0,[],())
def aa6:TFn:={ ps:=(.cons (.sl tT17) (.cons (.sl tT14) .unit)),res:=(.sl tT19),fn:=fun v=>zdi v.1 v.2.1 }
def ao4:TEnv:={ pure:=[(37,zc),(79,acM)],look:=[],glob:=G0T,ty:=[(156,tT19)],raw:=[],fresh:=[] }
theorem ao3:runY Tryz.prog aiy ao5 ao4 aw4 Tryz.f24 aa6.ps aa6.res=aa6.fn:=by kernel_rfl
theorem aiw:aA Tryz.prog G0 24 aix:=ai (ak ⟨au,(aj abH (aj amS ae)),ap,ae,an⟩ Tryz.func24 rfl (by kernel_rfl))
theorem ao2:TOk aix aa6:=az (E:=aiy) (ET:=ao4) (EnvT.ofX (ax (ah ahx (ah avE al))) am ar aL aq) ao3 rfl
def ai8:Env:=(eZ [] [274])
def apX:Hints:=(hZ [] [])
def afp:PFn:=aH (runF Tryz.prog ai8 apX Tryz.f207)
def axi:TH:=yZ
def zcu (a0:Int):Option Int :=
 cond (decide (a0=1)) (
 some 1) (
 cond (decide (a0=2)) (some 2) (cond (decide (a0=4)) (
 some 2) (
 cond (decide (a0=3)) (
 some 3) (
 some 0))))
def yU:TFn:={ ps:=tT16,res:=(.int .i64),fn:=fun v=>zcu v.1 }
def apW:TEnv:=(vZ [])
theorem apV:runY Tryz.prog ai8 apX apW axi Tryz.f207 yU.ps yU.res=yU.fn:=by kernel_rfl
theorem abk:aA Tryz.prog G0 207 afp:=ai (ak ⟨au,ae,ap,ae,an⟩ Tryz.func207 rfl (by kernel_rfl))
theorem ahs:TOk afp yU:=az (E:=ai8) (ET:=apW) (EnvT.ofX (ax al) am ar aL aq) apV rfl
def akf:Env:=(eZ [] [274])
def arJ:Hints:=(hZ [] [])
def afw:PFn:=aH (runF Tryz.prog akf arJ Tryz.f352)
def axL:TH:=yZ
def zc1 (a0:Int) (a1:Int):Option Int :=
 cond (decide (a0<a1)) (
 some (-1)) (
 cond (decide (a0>a1)) (
 some 1) (
 some 0))
def ze:TFn:={ ps:=(.cons (.int .i64) tT16),res:=(.int .i64),fn:=fun v=>zc1 v.1 v.2.1 }
def arI:TEnv:=(vZ [])
theorem arH:runY Tryz.prog akf arJ arI axL Tryz.f352 ze.ps ze.res=ze.fn:=by kernel_rfl
theorem abN:aA Tryz.prog G0 352 afw:=ai (ak ⟨au,ae,ap,ae,an⟩ Tryz.func352 rfl (by kernel_rfl))
theorem ahz:TOk afw ze:=az (E:=akf) (ET:=arI) (EnvT.ofX (ax al) am ar aL aq) arH rfl
def ajR:Env:=(eZ [(352,afw)] [274])
def aq0:Hints:=(hZ [(2,[0,1,5])] [])
def afs:PFn:=aH (runF Tryz.prog ajR aq0 Tryz.f322)
def axz:TH:={ joins:=[(6,{ keep:=[],mem:=[] })],loops:=[(2,{ keep:=[(5,(.int .i64))],mem:=[] })],ro:=[] }
def kJ (a0:List UInt8) (a1:List UInt8) (y2:(Int×Unit)):Option ((Int×Unit)⊕(Unit⊕Int)) :=
 cond (decide (y2.1<(a0.length:Int))) (cond (decide (y2.1<(a1.length:Int))) (
(atI a0 y2.1).bind fun b1 =>
(atI a1 y2.1).bind fun b2 =>
 cond (!decide ((b1.toNat:Int)=(b2.toNat:Int))) (
(atI a0 y2.1).bind fun b3 =>
(atI a1 y2.1).bind fun b4 =>
(zc1 (IntKind.wrap .i64 (b3.toNat:Int)) (IntKind.wrap .i64 (b4.toNat:Int))).bind fun r5 =>
 some (.inr (.inr r5))) (
 some (.inl ((IntKind.wrap .i64 (y2.1+1)),())))) (
 some (.inr (.inl ())))) (some (.inr (.inl ())))
def zcd (a0:List UInt8) (a1:List UInt8):Option Int :=
(aI (kJ a0 a1) (0,()):Option (Unit⊕Int)).bind (aV fun v6 =>
(zc1 (a0.length:Int) (a1.length:Int)).bind fun r7 =>
 some r7)
def yX:TFn:={ ps:=(.cons .str (.cons .str .unit)),res:=(.int .i64),fn:=fun v=>zcd v.1 v.2.1 }
def aqZ:TEnv:=(vZ [(352,ze)])
theorem aqY:runY Tryz.prog ajR aq0 aqZ axz Tryz.f322 yX.ps yX.res=yX.fn:=by kernel_rfl
theorem abB:aA Tryz.prog G0 322 afs:=ai (ak ⟨au,(aj abN ae),ap,ae,an⟩ Tryz.func322 rfl (by kernel_rfl))
theorem ahv:TOk afs yX:=az (E:=ajR) (ET:=aqZ) (EnvT.ofX (ax (ah ahz al)) am ar aL aq) aqY rfl
def ak8:Env:=(eZ [(322,afs)] [274])
def atb:Hints:=(hZ [(2,[0,1,5])] [])
def ace:PFn:=aH (runF Tryz.prog ak8 atb Tryz.f273)
def ax9:TH:={ joins:=[(7,{ keep:=[],mem:=[] })],loops:=[(2,{ keep:=[(5,(.int .i64))],mem:=[] })],ro:=[] }
def lP (a0:List (List UInt8)) (a1:List (List UInt8)) (y2:(Int×Unit)):Option ((Int×Unit)⊕(Unit⊕Int)) :=
 cond (decide (y2.1<(a0.length:Int))) (cond (decide (y2.1<(a1.length:Int))) (
(atI a0 y2.1).bind fun x1 =>
(atI a1 y2.1).bind fun x2 =>
(zcd x1 x2).bind fun r3 =>
 cond (!decide (r3=0)) (
 some (.inr (.inr r3))) (
 some (.inl ((IntKind.wrap .i64 (y2.1+1)),())))) (
 some (.inr (.inl ())))) (some (.inr (.inl ())))
def zbd (a0:List (List UInt8)) (a1:List (List UInt8)):Option Int :=
(aI (lP a0 a1) (0,()):Option (Unit⊕Int)).bind (aV fun v4 =>
 cond (decide ((a0.length:Int)<(a1.length:Int))) (
 some (-1)) (
 cond (decide ((a0.length:Int)>(a1.length:Int))) (
 some 1) (
 some 0)))
def uL:TFn:={ ps:=(.cons (.sl .str) tT22),res:=(.int .i64),fn:=fun v=>zbd v.1 v.2.1 }
def ata:TEnv:=(vZ [(322,yX)])
theorem as9:runY Tryz.prog ak8 atb ata ax9 Tryz.f273 uL.ps uL.res=uL.fn:=by kernel_rfl
theorem uM:aA Tryz.prog G0 273 ace:=ai (ak ⟨au,(aj abB ae),ap,ae,an⟩ Tryz.func273 rfl (by kernel_rfl))
theorem acd:TOk ace uL:=az (E:=ak8) (ET:=ata) (EnvT.ofX (ax (ah ahv al)) am ar aL aq) as9 rfl
def alc:Env:=(eZ [(273,ace)] [274])
def ati:Hints:=(hZ [] [])
def alb:PFn:=aH (runF Tryz.prog alc ati Tryz.f208)
def ayb:TH:={ loops:=[],ro:=[2,3] }
def zbb (a0:vV4) (a1:vV4):Option Int :=
(zbd a0.1 a1.1).bind fun r1 =>
 cond (!decide (r1=0)) (
 some r1) (
 some (IntKind.wrap .i64 (a0.2.1-a1.2.1)))
def ach:TFn:={ ps:=(.cons tT20 (.cons tT20 .unit)),res:=(.int .i64),fn:=fun v=>zbb v.1 v.2.1 }
def ath:TEnv:=(vZ [(273,uL)])
theorem atg:runY Tryz.prog alc ati ath ayb Tryz.f208 ach.ps ach.res=ach.fn:=by kernel_rfl
theorem ala:aA Tryz.prog G0 208 alb:=ai (ak ⟨au,(aj uM ae),ap,ae,an⟩ Tryz.func208 rfl (by kernel_rfl))
theorem atf:TOk alb ach:=az (E:=alc) (ET:=ath) (EnvT.ofX (ax (ah acd al)) am ar aL aq) atg rfl
def akR:Env:=(eZ [(207,afp),(208,alb)] [274])
def asJ:Hints:=(hZ [(3,[0,3,4]),(7,[0,3,4,5,6]),(12,[0,3,4,5,6,7])] [19,25])
def akQ:PFn:=aH (runF Tryz.prog akR asJ Tryz.f136)
def ax2:TH:={ joins:=[(9,{ keep:=[(3,(.own 1)),(5,(.bx 2 0)),(6,(.int .i64))],mem:=[.gone,.row true 211 tT20,.box 211 tT20] }),(10,{ keep:=[(3,(.own 1)),(5,(.bx 2 0))],mem:=[.gone,.row true 211 tT20,.box 211 tT20] }),(15,{ keep:=[(3,(.own 1)),(5,(.bx 2 0))],mem:=[.gone,.row true 211 tT20,.box 211 tT20] })],loops:=[(3,{ keep:=[(3,(.own 1)),(4,(.int .i64))],mem:=[.gone,.row true 211 tT20] }),(7,{ keep:=[(3,(.own 1)),(5,(.bx 2 0)),(6,(.int .i64))],mem:=[.gone,.row true 211 tT20,.box 211 tT20] }),(12,{ keep:=[(3,(.own 1)),(5,(.bx 2 0)),(7,(.int .i64))],mem:=[.gone,.row true 211 tT20,.box 211 tT20] })],ro:=[] }
def oE (y7:(Int×List vV4×vV4×Unit)):Option ((Int×List vV4×vV4×Unit)⊕((Int×List vV4×vV4×Unit)⊕(vV10⊕List vV4))) :=
 cond (decide (y7.1<(y7.2.1.length:Int))) ((inI y7.2.1.length y7.1).bind fun i4 =>
(y7.2.1[i4]?).bind fun x5 =>
(zbb x5 y7.2.2.1).bind fun r6 =>
 cond (decide (r6<0)) (
 some (.inl ((IntKind.wrap .i64 (y7.1+1)),y7.2.1,y7.2.2.1,()))) (
 some (.inr (.inl (y7.1,y7.2.1,y7.2.2.1,()))))) (some (.inr (.inl (y7.1,y7.2.1,y7.2.2.1,()))))
def iM (v7:(Int×List vV4×vV4×Unit)) (y12:(Int×List vV4×vV4×Unit)):Option ((Int×List vV4×vV4×Unit)⊕((List vV4×vV4×Unit)⊕(vV10⊕List vV4))) :=
 cond (decide (y12.1>v7.1)) (
(inI y12.2.1.length (IntKind.wrap .i64 (y12.1-1))).bind fun i13 =>
(y12.2.1[i13]?).bind fun x14 =>
(inI y12.2.1.length y12.1).bind fun i15 =>
(y12.2.1[i15]?).bind fun x16 =>
 some (.inl ((IntKind.wrap .i64 (y12.1-1)),(y12.2.1.set i15 x14),y12.2.2.1,()))) (
 some (.inr (.inl (y12.2.1,y12.2.2.1,()))))
def rT (a0:List vV6) (y3:vV10):Option (vV10⊕List vV4) :=
 cond (decide (y3.1<(a0.length:Int))) (
(atI a0 y3.1).bind fun x1 =>
(atI a0 y3.1).bind fun x2 =>
(zcu x2.2.1.1).bind fun r3 =>
(aI (oE) (0,y3.2.1,(x1.2.1.2.1,r3,()),()):Option ((Int×List vV4×vV4×Unit)⊕(vV10⊕List vV4))).bind (aV fun v7 =>
(cond (decide (v7.1<(v7.2.1.length:Int))) ((inI v7.2.1.length v7.1).bind fun i8 =>
(v7.2.1[i8]?).bind fun x9 =>
(zbb x9 v7.2.2.1).bind fun r10 =>
 cond (decide (r10=0)) (
 some (.inr (.inl ((IntKind.wrap .i64 (y3.1+1)),v7.2.1,())))) (
 some (.inl (v7.2.1,v7.2.2.1,())))) (some (.inl (v7.2.1,v7.2.2.1,()))):Option ((List vV4×vV4×Unit)⊕(vV10⊕List vV4))).bind (aV fun v11 =>
(ck (v11.1.length+([v11.2.1]:List vV4).length)).bind fun u12 =>
(aI (iM v7) ((IntKind.wrap .i64 (((v11.1++([v11.2.1]:List vV4)).length:Int)-1)),(v11.1++([v11.2.1]:List vV4)),v11.2.1,()):Option ((List vV4×vV4×Unit)⊕(vV10⊕List vV4))).bind (aV fun v17 =>
(inI v17.1.length v7.1).bind fun i18 =>
(v17.1[i18]?).bind fun x19 =>
 some (.inl ((IntKind.wrap .i64 (y3.1+1)),(v17.1.set i18 v17.2.1),())))))) (
 some (.inr y3.2.1))
def zbk (a0:List vV6):Option (List vV4) :=
 aI (rT a0) (0,[],())
def ab5:TFn:={ ps:=(.cons (.sl tT19) .unit),res:=(.sl tT20),fn:=fun v=>zbk v.1 }
def asI:TEnv:={ pure:=[(207,yU),(208,ach)],look:=[],glob:=G0T,ty:=[(211,tT20)],raw:=[],fresh:=[] }
theorem asH:runY Tryz.prog akR asJ asI ax2 Tryz.f136 ab5.ps ab5.res=ab5.fn:=by kernel_rfl
theorem akP:aA Tryz.prog G0 136 akQ:=ai (ak ⟨au,(aj abk (aj ala ae)),ap,ae,an⟩ Tryz.func136 rfl (by kernel_rfl))
theorem asG:TOk akQ ab5:=az (E:=akR) (ET:=asI) (EnvT.ofX (ax (ah ahs (ah atf al))) am ar aL aq) asH rfl
def aj0:Env:=(eZ [(73,afy),(144,zj)] [274])
def arc:Hints:=(hZ [(8,[5,7,9,10]),(12,[5,7,9,10,11,12])] [])
def ajZ:PFn:=aH (runF Tryz.prog aj0 arc Tryz.f218)
def axC:TH:={ joins:=[(18,{ keep:=[(9,(.own 0))],mem:=[.row false 4 .bool] })],loops:=[(8,{ keep:=[(9,(.own 0)),(10,(.int .i64))],mem:=[.row false 4 .bool] }),(12,{ keep:=[(9,(.own 0)),(11,(.own 1)),(12,(.int .i64))],mem:=[.row false 4 .bool,.row false 4 .bool] })],cuts:=[(16,[(11,{ keep:=[(9,(.own 0)),(11,(.own 1)),(74,(.own 1)),(75,(.int .i64)),(84,.bool)],mem:=[.row false 4 .bool,.row false 4 .bool] })])],ro:=[],news:=[] }
def jW (y8:(Int×List Bool×Unit)) (r1:(List Int×Bool×Unit)) (r2:(List Int×Bool×Unit)) (y12:(Int×List Bool×List Bool×Unit)):Option ((Int×List Bool×List Bool×Unit)⊕((Int×List Bool×Unit)⊕((List Bool×Unit)⊕Bool))) :=
 cond (decide (y12.1≤(r2.1.length:Int))) (
(atI r1.1 y8.1).bind fun x7 =>
 cond (decide (x7=(-2))) (
(inI y12.2.1.length y12.1).bind fun i8 =>
(y12.2.1[i8]?).bind fun x9 =>
 cond x9 ((inI y12.2.2.1.length y12.1).bind fun i10 =>
(y12.2.2.1[i10]?).bind fun x11 =>
 some (.inl ((IntKind.wrap .i64 (y12.1+1)),y12.2.1,(y12.2.2.1.set i10 true),()))) (cond (decide (y12.1>0)) ((inI y12.2.2.1.length (IntKind.wrap .i64 (y12.1-1))).bind fun i12 =>
(y12.2.2.1[i12]?).bind fun x13 =>
(inI y12.2.2.1.length y12.1).bind fun i14 =>
(y12.2.2.1[i14]?).bind fun x15 =>
 some (.inl ((IntKind.wrap .i64 (y12.1+1)),y12.2.1,(y12.2.2.1.set i14 x13),()))) ((inI y12.2.2.1.length y12.1).bind fun i16 =>
(y12.2.2.1[i16]?).bind fun x17 =>
 some (.inl ((IntKind.wrap .i64 (y12.1+1)),y12.2.1,(y12.2.2.1.set i16 false),()))))) (
(cond (decide (y12.1>0)) ((inI y12.2.1.length (IntKind.wrap .i64 (y12.1-1))).bind fun i18 =>
(y12.2.1[i18]?).bind fun x19 =>
 some (y12.1,x19,y12.2.1,y12.2.2.1,())) (some (y12.1,false,y12.2.1,y12.2.2.1,())):Option (Int×Bool×List Bool×List Bool×Unit)).bind fun v20 =>
 cond v20.2.1 ((atI r1.1 y8.1).bind fun x21 =>
 cond (decide (x21=(-1))) ((inI v20.2.2.2.1.length v20.1).bind fun i22 =>
(v20.2.2.2.1[i22]?).bind fun x23 =>
 some (.inl ((IntKind.wrap .i64 (y12.1+1)),v20.2.2.1,(v20.2.2.2.1.set i22 true),()))) ((atI r1.1 y8.1).bind fun x24 =>
(atI r2.1 (IntKind.wrap .i64 (y12.1-1))).bind fun x25 =>
(inI v20.2.2.2.1.length v20.1).bind fun i26 =>
(v20.2.2.2.1[i26]?).bind fun x27 =>
 some (.inl ((IntKind.wrap .i64 (y12.1+1)),v20.2.2.1,(v20.2.2.2.1.set i26 (decide (x24=x25))),())))) ((inI v20.2.2.2.1.length v20.1).bind fun i28 =>
(v20.2.2.2.1[i28]?).bind fun x29 =>
 some (.inl ((IntKind.wrap .i64 (y12.1+1)),v20.2.2.1,(v20.2.2.2.1.set i28 false),()))))) (
 some (.inr (.inl ((IntKind.wrap .i64 (y8.1+1)),y12.2.2.1,()))))
def oB (r1:(List Int×Bool×Unit)) (r2:(List Int×Bool×Unit)) (y8:(Int×List Bool×Unit)):Option ((Int×List Bool×Unit)⊕((List Bool×Unit)⊕Bool)) :=
 cond (decide (y8.1<(r1.1.length:Int))) (
(mkT (IntKind.wrap .i64 ((r2.1.length:Int)+1)) (IntKind.wrap .i64 ((r2.1.length:Int)+1))).bind fun u6 =>
 aI (jW y8 r1 r2) (0,y8.2.1,(List.replicate (IntKind.wrap .i64 ((r2.1.length:Int)+1)).toNat false),())) (
 some (.inr (.inl (y8.2.1,()))))
def zca (a0:List UInt8) (a1:List UInt8):Option Bool :=
(zbx a0).bind fun r1 =>
(zbt a1).bind fun r2 =>
 cond (!r1.2.1) (some false) (cond (!r2.2.1) (
 some false) (
(mkT (IntKind.wrap .i64 ((r2.1.length:Int)+1)) (IntKind.wrap .i64 ((r2.1.length:Int)+1))).bind fun u3 =>
(inI (List.replicate (IntKind.wrap .i64 ((r2.1.length:Int)+1)).toNat false).length 0).bind fun i4 =>
((List.replicate (IntKind.wrap .i64 ((r2.1.length:Int)+1)).toNat false)[i4]?).bind fun x5 =>
(aI (oB r1 r2) (0,((List.replicate (IntKind.wrap .i64 ((r2.1.length:Int)+1)).toNat false).set i4 true),()):Option ((List Bool×Unit)⊕Bool)).bind (aV fun v30 =>
(inI v30.1.length (r2.1.length:Int)).bind fun i31 =>
(v30.1[i31]?).bind fun x32 =>
 some x32)))
def abE:TFn:={ ps:=(.cons .str (.cons .str .unit)),res:=.bool,fn:=fun v=>zca v.1 v.2.1 }
def arb:TEnv:={ pure:=[(73,zi),(144,rR)],look:=[],glob:=G0T,ty:=[(4,.bool)],raw:=[],fresh:=[] }
theorem ara:runY Tryz.prog aj0 arc arb axC Tryz.f218 abE.ps abE.res=abE.fn:=by kernel_rfl
theorem ajY:aA Tryz.prog G0 218 ajZ:=ai (ak ⟨au,(aj abR (aj pS ae)),ap,ae,an⟩ Tryz.func218 rfl (by kernel_rfl))
theorem aq9:TOk ajZ abE:=az (E:=aj0) (ET:=arb) (EnvT.ofX (ax (ah ahB (ah wY al))) am ar aL aq) ara rfl
def akm:Env:=(eZ [(18,afr),(218,ajZ)] [274])
def arU:Hints:=(hZ [(6,[0,1,5,6]),(10,[0,1,5,6,7,8])] [])
def akl:PFn:=aH (runF Tryz.prog akm arU Tryz.f146)
def axO:TH:={ joins:=[(16,{ keep:=[(5,(.own 0))],mem:=[.row false 4 .bool] })],loops:=[(6,{ keep:=[(5,(.own 0)),(6,(.int .i64))],mem:=[.row false 4 .bool] }),(10,{ keep:=[(5,(.own 0)),(7,(.own 1)),(8,(.int .i64))],mem:=[.row false 4 .bool,.row false 4 .bool] })],cuts:=[(14,[(11,{ keep:=[(5,(.own 0)),(7,(.own 1)),(57,(.own 1)),(58,(.int .i64)),(67,.bool)],mem:=[.row false 4 .bool,.row false 4 .bool] })])],ro:=[],news:=[] }
def jX (y6:(Int×List Bool×Unit)) (a0:List (List UInt8)) (a1:List (List UInt8)) (y10:(Int×List Bool×List Bool×Unit)):Option ((Int×List Bool×List Bool×Unit)⊕((Int×List Bool×Unit)⊕((List Bool×Unit)⊕Bool))) :=
 cond (decide (y10.1≤(a1.length:Int))) (
(atI a0 y6.1).bind fun x6 =>
 cond (decide (x6=[42,42])) (
(inI y10.2.1.length y10.1).bind fun i7 =>
(y10.2.1[i7]?).bind fun x8 =>
 cond x8 ((inI y10.2.2.1.length y10.1).bind fun i9 =>
(y10.2.2.1[i9]?).bind fun x10 =>
 some (.inl ((IntKind.wrap .i64 (y10.1+1)),y10.2.1,(y10.2.2.1.set i9 true),()))) (cond (decide (y10.1>0)) ((inI y10.2.2.1.length (IntKind.wrap .i64 (y10.1-1))).bind fun i11 =>
(y10.2.2.1[i11]?).bind fun x12 =>
(inI y10.2.2.1.length y10.1).bind fun i13 =>
(y10.2.2.1[i13]?).bind fun x14 =>
 some (.inl ((IntKind.wrap .i64 (y10.1+1)),y10.2.1,(y10.2.2.1.set i13 x12),()))) ((inI y10.2.2.1.length y10.1).bind fun i15 =>
(y10.2.2.1[i15]?).bind fun x16 =>
 some (.inl ((IntKind.wrap .i64 (y10.1+1)),y10.2.1,(y10.2.2.1.set i15 false),()))))) (
(cond (decide (y10.1>0)) ((inI y10.2.1.length (IntKind.wrap .i64 (y10.1-1))).bind fun i17 =>
(y10.2.1[i17]?).bind fun x18 =>
 some (y10.1,x18,y10.2.1,y10.2.2.1,())) (some (y10.1,false,y10.2.1,y10.2.2.1,())):Option (Int×Bool×List Bool×List Bool×Unit)).bind fun v19 =>
 cond v19.2.1 ((atI a0 y6.1).bind fun x20 =>
(atI a1 (IntKind.wrap .i64 (y10.1-1))).bind fun x21 =>
(zca x20 x21).bind fun r22 =>
(inI v19.2.2.2.1.length v19.1).bind fun i23 =>
(v19.2.2.2.1[i23]?).bind fun x24 =>
 some (.inl ((IntKind.wrap .i64 (y10.1+1)),v19.2.2.1,(v19.2.2.2.1.set i23 r22),()))) ((inI v19.2.2.2.1.length v19.1).bind fun i25 =>
(v19.2.2.2.1[i25]?).bind fun x26 =>
 some (.inl ((IntKind.wrap .i64 (y10.1+1)),v19.2.2.1,(v19.2.2.2.1.set i25 false),()))))) (
 some (.inr (.inl ((IntKind.wrap .i64 (y6.1+1)),y10.2.2.1,()))))
def oC (a0:List (List UInt8)) (a1:List (List UInt8)) (y6:(Int×List Bool×Unit)):Option ((Int×List Bool×Unit)⊕((List Bool×Unit)⊕Bool)) :=
 cond (decide (y6.1<(a0.length:Int))) (
(mkT (IntKind.wrap .i64 ((a1.length:Int)+1)) (IntKind.wrap .i64 ((a1.length:Int)+1))).bind fun u5 =>
 aI (jX y6 a0 a1) (0,y6.2.1,(List.replicate (IntKind.wrap .i64 ((a1.length:Int)+1)).toNat false),())) (
 some (.inr (.inl (y6.2.1,()))))
def zby (a0:List (List UInt8)) (a1:List (List UInt8)):Option Bool :=
(zch a0).bind fun r1 =>
 cond (!decide (r1=0)) (
 some false) (
(mkT (IntKind.wrap .i64 ((a1.length:Int)+1)) (IntKind.wrap .i64 ((a1.length:Int)+1))).bind fun u2 =>
(inI (List.replicate (IntKind.wrap .i64 ((a1.length:Int)+1)).toNat false).length 0).bind fun i3 =>
((List.replicate (IntKind.wrap .i64 ((a1.length:Int)+1)).toNat false)[i3]?).bind fun x4 =>
(aI (oC a0 a1) (0,((List.replicate (IntKind.wrap .i64 ((a1.length:Int)+1)).toNat false).set i3 true),()):Option ((List Bool×Unit)⊕Bool)).bind (aV fun v27 =>
(inI v27.1.length (a1.length:Int)).bind fun i28 =>
(v27.1[i28]?).bind fun x29 =>
 some x29))
def abQ:TFn:={ ps:=(.cons (.sl .str) tT22),res:=.bool,fn:=fun v=>zby v.1 v.2.1 }
def arT:TEnv:={ pure:=[(18,yW),(218,abE)],look:=[],glob:=G0T,ty:=[(4,.bool)],raw:=[],fresh:=[] }
theorem arS:runY Tryz.prog akm arU arT axO Tryz.f146 abQ.ps abQ.res=abQ.fn:=by kernel_rfl
theorem akk:aA Tryz.prog G0 146 akl:=ai (ak ⟨au,(aj abx (aj ajY ae)),ap,ae,an⟩ Tryz.func146 rfl (by kernel_rfl))
theorem arR:TOk akl abQ:=az (E:=akm) (ET:=arT) (EnvT.ofX (ax (ah ahu (ah aq9 al))) am ar aL aq) arS rfl
def aim:Env:=(eZ [(207,afp),(273,ace)] [274])
def aoK:Hints:=(hZ [(3,[0,1,2,7,8])] [])
def aaZ:PFn:=aH (runF Tryz.prog aim aoK Tryz.f285)
def awY:TH:={ loops:=[(3,{ keep:=[(7,(.own 0)),(8,(.int .i64))],mem:=[.row true 156 tT19] })],ro:=[] }
def wD (a0:List vV6) (a1:List (List UInt8)) (a2:Int) (y3:(Int×List vV6×Unit)):Option ((Int×List vV6×Unit)⊕List vV6) :=
 cond (decide (y3.1<(a0.length:Int))) (
(atI a0 y3.1).bind fun x1 =>
(zcu x1.2.1.1).bind fun r2 =>
 cond (decide (r2=a2)) ((atI a0 y3.1).bind fun x3 =>
(zbd x3.2.1.2.1 a1).bind fun r4 =>
 cond (decide (r4=0)) (
(atI a0 y3.1).bind fun x5 =>
(ck (y3.2.1.length+([x5]:List vV6).length)).bind fun u6 =>
 some (.inl ((IntKind.wrap .i64 (y3.1+1)),(y3.2.1++([x5]:List vV6)),()))) (
 some (.inl ((IntKind.wrap .i64 (y3.1+1)),y3.2.1,())))) (some (.inl ((IntKind.wrap .i64 (y3.1+1)),y3.2.1,())))) (
 some (.inr y3.2.1))
def zdo (a0:List vV6) (a1:List (List UInt8)) (a2:Int):Option (List vV6) :=
 aI (wD a0 a1 a2) (0,[],())
def uE:TFn:={ ps:=(.cons (.sl tT19) (.cons (.sl .str) tT16)),res:=(.sl tT19),fn:=fun v=>zdo v.1 v.2.1 v.2.2.1 }
def aoJ:TEnv:={ pure:=[(207,yU),(273,uL)],look:=[],glob:=G0T,ty:=[(156,tT19)],raw:=[],fresh:=[] }
theorem aoI:runY Tryz.prog aim aoK aoJ awY Tryz.f285 uE.ps uE.res=uE.fn:=by kernel_rfl
theorem uF:aA Tryz.prog G0 285 aaZ:=ai (ak ⟨au,(aj abk (aj uM ae)),ap,ae,an⟩ Tryz.func285 rfl (by kernel_rfl))
theorem aaY:TOk aaZ uE:=az (E:=aim) (ET:=aoJ) (EnvT.ofX (ax (ah ahs (ah acd al))) am ar aL aq) aoI rfl
def amO:Env:=(eZ [(322,afs),(352,afw)] [274])
def avz:Hints:=(hZ [] [])
def amN:PFn:=aH (runF Tryz.prog amO avz Tryz.f329)
def ayH:TH:={ loops:=[],ro:=[2,3] }
def za9 (a0:vV3) (a1:vV3):Option Int :=
 cond (!decide (a0.1=a1.1)) (
(zc1 a0.1 a1.1).bind fun r1 =>
 some r1) (
 cond (!decide (a0.2.1=a1.2.1)) (
(zc1 a0.2.1 a1.2.1).bind fun r2 =>
 some r2) (
(zcd a0.2.2.1 a1.2.2.1).bind fun r3 =>
 some r3))
def acK:TFn:={ ps:=(.cons tT15 (.cons tT15 .unit)),res:=(.int .i64),fn:=fun v=>za9 v.1 v.2.1 }
def avy:TEnv:=(vZ [(322,yX),(352,ze)])
theorem avx:runY Tryz.prog amO avz avy ayH Tryz.f329 acK.ps acK.res=acK.fn:=by kernel_rfl
theorem amM:aA Tryz.prog G0 329 amN:=ai (ak ⟨au,(aj abB (aj abN ae)),ap,ae,an⟩ Tryz.func329 rfl (by kernel_rfl))
theorem avw:TOk amN acK:=az (E:=amO) (ET:=avy) (EnvT.ofX (ax (ah ahv (ah ahz al))) am ar aL aq) avx rfl
def akO:Env:=(eZ [(329,amN)] [274])
def asF:Hints:=(hZ [(4,[0,3,5,6,7])] [])
def afB:PFn:=aH (runF Tryz.prog akO asF Tryz.f286)
def ax1:TH:={ joins:=[(13,{ keep:=[(3,(.bx 0 0)),(5,(.own 1)),(6,.bool)],mem:=[.same,.row true 132 tT15] }),(12,{ keep:=[(3,(.bx 0 0)),(5,(.own 1)),(6,.bool)],mem:=[.same,.row true 132 tT15] })],loops:=[(4,{ keep:=[(3,(.bx 0 0)),(5,(.own 1)),(6,.bool),(7,(.int .i64))],mem:=[.same,.row true 132 tT15] })],ro:=[3] }
def rS (a0:List vV3) (a1:vV3) (y4:(Bool×Int×List vV3×Unit)):Option ((Bool×Int×List vV3×Unit)⊕((Bool×List vV3×Unit)⊕List vV3)) :=
 cond (decide (y4.2.1<(a0.length:Int))) (
(atI a0 y4.2.1).bind fun x1 =>
(za9 a1 x1).bind fun r2 =>
 cond (decide (r2=0)) (
 some (.inr (.inr a0))) (
(cond (decide (r2<0)) (cond (!y4.1) (
(ck (y4.2.2.1.length+([a1]:List vV3).length)).bind fun u3 =>
 some (.inl (true,(y4.2.2.1++([a1]:List vV3)),()))) (
 some (.inl (y4.1,y4.2.2.1,())))) (some (.inl (y4.1,y4.2.2.1,()))):Option ((Bool×List vV3×Unit)⊕((Bool×Int×List vV3×Unit)⊕((Bool×List vV3×Unit)⊕List vV3)))).bind (aV fun v4 =>
(atI a0 y4.2.1).bind fun x5 =>
(ck (v4.2.1.length+([x5]:List vV3).length)).bind fun u6 =>
 some (.inl (v4.1,(IntKind.wrap .i64 (y4.2.1+1)),(v4.2.1++([x5]:List vV3)),()))))) (
 some (.inr (.inl (y4.1,y4.2.2.1,()))))
def zbl (a0:List vV3) (a1:vV3):Option (List vV3) :=
(aI (rS a0 a1) (false,0,[],()):Option ((Bool×List vV3×Unit)⊕List vV3)).bind (aV fun v7 =>
 cond (!v7.1) (
(ck (v7.2.1.length+([a1]:List vV3).length)).bind fun u8 =>
 some (v7.2.1++([a1]:List vV3))) (
 some v7.2.1))
def zo:TFn:={ ps:=(.cons (.sl tT15) (.cons tT15 .unit)),res:=(.sl tT15),fn:=fun v=>zbl v.1 v.2.1 }
def asE:TEnv:={ pure:=[(329,acK)],look:=[],glob:=G0T,ty:=[(132,tT15)],raw:=[],fresh:=[] }
theorem asD:runY Tryz.prog akO asF asE ax1 Tryz.f286 zo.ps zo.res=zo.fn:=by kernel_rfl
theorem ab4:aA Tryz.prog G0 286 afB:=ai (ak ⟨au,(aj amM ae),ap,ae,an⟩ Tryz.func286 rfl (by kernel_rfl))
theorem ahE:TOk afB zo:=az (E:=akO) (ET:=asE) (EnvT.ofX (ax (ah avw al)) am ar aL aq) asD rfl
def ak4:Env:=(eZ [(285,aaZ),(286,afB)] [274])
def as4:Hints:=(hZ [(4,[5,6,7])] [])
def ak3:PFn:=aH (runF Tryz.prog ak4 as4 Tryz.f219)
def ax7:TH:={ loops:=[(4,{ keep:=[(5,(.sl tT15)),(7,(.int .i64))],mem:=[] })],ro:=[] }
def xc (r1:List vV6) (y4:(List vV3×Int×Unit)):Option ((List vV3×Int×Unit)⊕List vV3) :=
 cond (decide (y4.2.1<(r1.length:Int))) (
(atI r1 y4.2.1).bind fun x2 =>
(zbl y4.1 x2.2.1.2.2.1).bind fun r3 =>
 some (.inl (r3,(IntKind.wrap .i64 (y4.2.1+1)),()))) (
 some (.inr y4.1))
def zbf (a0:List vV6) (a1:List (List UInt8)):Option (List vV3) :=
(zdo a0 a1 1).bind fun r1 =>
 aI (xc r1) ([],0,())
def aca:TFn:={ ps:=(.cons (.sl tT19) tT22),res:=(.sl tT15),fn:=fun v=>zbf v.1 v.2.1 }
def as3:TEnv:=(vZ [(285,uE),(286,zo)])
theorem as0:runY Tryz.prog ak4 as4 as3 ax7 Tryz.f219 aca.ps aca.res=aca.fn:=by kernel_rfl
theorem ak2:aA Tryz.prog G0 219 ak3:=ai (ak ⟨au,(aj uF (aj ab4 ae)),ap,ae,an⟩ Tryz.func219 rfl (by kernel_rfl))
theorem asZ:TOk ak3 aca:=az (E:=ak4) (ET:=as3) (EnvT.ofX (ax (ah aaY (ah ahE al))) am ar aL aq) as0 rfl
def akE:Env:=(eZ [(285,aaZ),(286,afB)] [274])
def asn:Hints:=(hZ [(4,[5,6,7])] [])
def akD:PFn:=aH (runF Tryz.prog akE asn Tryz.f220)
def axW:TH:={ loops:=[(4,{ keep:=[(5,(.sl tT15)),(7,(.int .i64))],mem:=[] })],ro:=[] }
def wZ (r1:List vV6) (y4:(List vV3×Int×Unit)):Option ((List vV3×Int×Unit)⊕List vV3) :=
 cond (decide (y4.2.1<(r1.length:Int))) (
(atI r1 y4.2.1).bind fun x2 =>
(zbl y4.1 x2.2.1.2.2.1).bind fun r3 =>
 some (.inl (r3,(IntKind.wrap .i64 (y4.2.1+1)),()))) (
 some (.inr y4.1))
def zbq (a0:List vV6) (a1:List (List UInt8)):Option (List vV3) :=
(zdo a0 a1 2).bind fun r1 =>
 aI (wZ r1) ([],0,())
def abY:TFn:={ ps:=(.cons (.sl tT19) tT22),res:=(.sl tT15),fn:=fun v=>zbq v.1 v.2.1 }
def asm:TEnv:=(vZ [(285,uE),(286,zo)])
theorem asl:runY Tryz.prog akE asn asm axW Tryz.f220 abY.ps abY.res=abY.fn:=by kernel_rfl
theorem akC:aA Tryz.prog G0 220 akD:=ai (ak ⟨au,(aj uF (aj ab4 ae)),ap,ae,an⟩ Tryz.func220 rfl (by kernel_rfl))
theorem ask:TOk akD abY:=az (E:=akE) (ET:=asm) (EnvT.ofX (ax (ah aaY (ah ahE al))) am ar aL aq) asl rfl
def alC:Env:=(eZ [(285,aaZ)] [274])
def atR:Hints:=(hZ [(4,[7,8,9,10])] [])
def alB:PFn:=aH (runF Tryz.prog alC atR Tryz.f221)
def ayk:TH:={ joins:=[(11,{ keep:=[(7,(.int .i64)),(8,(.int .i64))],mem:=[] }),(9,{ keep:=[(7,(.int .i64))],mem:=[] })],loops:=[(4,{ keep:=[(7,(.int .i64)),(8,(.int .i64)),(10,(.int .i64))],mem:=[] })],ro:=[] }
def xf (r1:List vV6) (y4:(Int×Int×Int×Unit)):Option ((Int×Int×Int×Unit)⊕((Int×Int×Unit)⊕(Int×Int×Int×Unit))) :=
 cond (decide (y4.2.2.1<(r1.length:Int))) (
(atI r1 y4.2.2.1).bind fun x2 =>
(cond (decide (x2.2.1.2.2.2.1>0)) (
 some (.inl ((IntKind.wrap .i64 (y4.1+x2.2.1.2.2.2.1)),()))) (
 some (.inl (y4.1,()))):Option ((Int×Unit)⊕((Int×Int×Int×Unit)⊕((Int×Int×Unit)⊕(Int×Int×Int×Unit))))).bind (aV fun v3 =>
 cond (decide (x2.2.1.2.2.2.1<0)) (
 some (.inl (v3.1,(IntKind.wrap .i64 (y4.2.1-x2.2.1.2.2.2.1)),(IntKind.wrap .i64 (y4.2.2.1+1)),()))) (
 some (.inl (v3.1,y4.2.1,(IntKind.wrap .i64 (y4.2.2.1+1)),()))))) (
 some (.inr (.inl (y4.1,y4.2.1,()))))
def zb2 (a0:List vV6) (a1:List (List UInt8)):Option (Int×Int×Int×Unit) :=
(zdo a0 a1 3).bind fun r1 =>
(aI (xf r1) (0,0,0,()):Option ((Int×Int×Unit)⊕(Int×Int×Int×Unit))).bind (aV fun v4 =>
 some (v4.1,v4.2.1,(r1.length:Int),()))
def acr:TFn:={ ps:=(.cons (.sl tT19) tT22),res:=(.tup (.cons (.int .i64) (.cons (.int .i64) tT16))),fn:=fun v=>zb2 v.1 v.2.1 }
def atQ:TEnv:=(vZ [(285,uE)])
theorem atP:runY Tryz.prog alC atR atQ ayk Tryz.f221 acr.ps acr.res=acr.fn:=by kernel_rfl
theorem alA:aA Tryz.prog G0 221 alB:=ai (ak ⟨au,(aj uF ae),ap,ae,an⟩ Tryz.func221 rfl (by kernel_rfl))
theorem atO:TOk alB acr:=az (E:=alC) (ET:=atQ) (EnvT.ofX (ax (ah aaY al)) am ar aL aq) atP rfl
def aiq:Env:=(eZ [(219,ak3),(220,akD),(221,alB)] [274])
def aoR:Hints:=(hZ [] [])
def aip:PFn:=aH (runF Tryz.prog aiq aoR Tryz.f147)
def aw0:TH:={ joins:=[(4,{ keep:=[(6,(.bx 0 0)),(7,(.bx 1 0))],mem:=[.box 150 (.agg (.cons .nilsl (.cons (.int .i64) (.cons .nilsl tT16)))),.box 150 tT12] }),(6,{ keep:=[(6,(.bx 0 0)),(7,(.bx 1 0))],mem:=[.box 150 (.agg (.cons .nilsl (.cons (.int .i64) (.cons .nilsl tT16)))),.box 150 tT12] })],loops:=[],ro:=[] }
def zdm (a0:List vV6) (a1:List (List UInt8)) (a2:Int):Option vV0 :=
(cond (decide (a2=1)) (
(zbf a0 a1).bind fun r1 =>
 some (.inl (((),0,(),0,()),(a1,a2,r1,0,()),()))) (
 some (.inl (((),0,(),0,()),(a1,a2,[],0,()),()))):Option (((Unit×Int×Unit×Int×Unit)×vV0×Unit)⊕vV0)).bind (aV fun v2 =>
(cond (decide (a2=2)) (
(zbq a0 a1).bind fun r3 =>
 some (.inl (v2.1,(v2.2.1.1,v2.2.1.2.1,r3,v2.2.1.2.2.2.1,()),()))) (
 some (.inl (v2.1,v2.2.1,()))):Option (((Unit×Int×Unit×Int×Unit)×vV0×Unit)⊕vV0)).bind (aV fun v4 =>
 cond (decide (a2=3)) (
(zb2 a0 a1).bind fun r5 =>
 some (v4.2.1.1,v4.2.1.2.1,v4.2.1.2.2.1,(IntKind.wrap .i64 (r5.1-r5.2.1)),())) (
 some v4.2.1)))
def aa1:TFn:={ ps:=(.cons (.sl tT19) (.cons (.sl .str) tT16)),res:=tT12,fn:=fun v=>zdm v.1 v.2.1 v.2.2.1 }
def aoQ:TEnv:=(vZ [(219,aca),(220,abY),(221,acr)])
theorem aoP:runY Tryz.prog aiq aoR aoQ aw0 Tryz.f147 aa1.ps aa1.res=aa1.fn:=by kernel_rfl
theorem aio:aA Tryz.prog G0 147 aip:=ai (ak ⟨au,(aj ak2 (aj akC (aj alA ae))),ap,ae,an⟩ Tryz.func147 rfl (by kernel_rfl))
theorem aoO:TOk aip aa1:=az (E:=aiq) (ET:=aoQ) (EnvT.ofX (ax (ah asZ (ah ask (ah atO al)))) am ar aL aq) aoP rfl
def aka:Env:=(eZ [(136,akQ),(146,akl),(147,aip)] [274])
def arz:Hints:=(hZ [(4,[0,1,5,6,7])] [29,34])
def aj9:PFn:=aH (runF Tryz.prog aka arz Tryz.f77)
def axI:TH:={ loops:=[(4,{ keep:=[(6,(.own 0)),(7,(.int .i64))],mem:=[.row true 150 tT12] })],ro:=[] }
def wT (a0:List vV6) (a1:List (List UInt8)) (r1:List vV4) (y4:(Int×List vV0×Unit)):Option ((Int×List vV0×Unit)⊕List vV0) :=
 cond (decide (y4.1<(r1.length:Int))) (
(atI r1 y4.1).bind fun x2 =>
(zby a1 x2.1).bind fun r3 =>
 cond r3 (
(atI r1 y4.1).bind fun x4 =>
(atI r1 y4.1).bind fun x5 =>
(zdm a0 x4.1 x5.2.1).bind fun r6 =>
(ck (y4.2.1.length+([r6]:List vV0).length)).bind fun u7 =>
 some (.inl ((IntKind.wrap .i64 (y4.1+1)),(y4.2.1++([r6]:List vV0)),()))) (
 some (.inl ((IntKind.wrap .i64 (y4.1+1)),y4.2.1,())))) (
 some (.inr y4.2.1))
def zc4 (a0:List vV6) (a1:List (List UInt8)):Option (List vV0) :=
(zbk a0).bind fun r1 =>
 aI (wT a0 a1 r1) (0,[],())
def abJ:TFn:={ ps:=(.cons (.sl tT19) tT22),res:=(.sl tT12),fn:=fun v=>zc4 v.1 v.2.1 }
def ary:TEnv:={ pure:=[(136,ab5),(146,abQ),(147,aa1)],look:=[],glob:=G0T,ty:=[(150,tT12)],raw:=[],fresh:=[] }
theorem arx:runY Tryz.prog aka arz ary axI Tryz.f77 abJ.ps abJ.res=abJ.fn:=by kernel_rfl
theorem aj8:aA Tryz.prog G0 77 aj9:=ai (ak ⟨au,(aj akP (aj akk (aj aio ae))),ap,ae,an⟩ Tryz.func77 rfl (by kernel_rfl))
theorem arw:TOk aj9 abJ:=az (E:=aka) (ET:=ary) (EnvT.ofX (ax (ah asG (ah arR (ah aoO al)))) am ar aL aq) arx rfl
def amX:Env:=(eZ [(273,ace)] [274])
def avN:Hints:=(hZ [] [])
def afY:PFn:=aH (runF Tryz.prog amX avN Tryz.f222)
def ayL:TH:={ loops:=[],ro:=[2,3] }
def za5 (a0:vV0) (a1:vV0):Option Int :=
(zbd a0.1 a1.1).bind fun r1 =>
 cond (!decide (r1=0)) (
 some r1) (
 cond (decide (a0.2.1<a1.2.1)) (
 some (-1)) (
 cond (decide (a0.2.1>a1.2.1)) (
 some 1) (
 some 0)))
def zx:TFn:={ ps:=(.cons tT12 (.cons tT12 .unit)),res:=(.int .i64),fn:=fun v=>za5 v.1 v.2.1 }
def avM:TEnv:=(vZ [(273,uL)])
theorem avL:runY Tryz.prog amX avN avM ayL Tryz.f222 zx.ps zx.res=zx.fn:=by kernel_rfl
theorem acP:aA Tryz.prog G0 222 afY:=ai (ak ⟨au,(aj uM ae),ap,ae,an⟩ Tryz.func222 rfl (by kernel_rfl))
theorem ahL:TOk afY zx:=az (E:=amX) (ET:=avM) (EnvT.ofX (ax (ah acd al)) am ar aL aq) avL rfl
def ajG:Env:=(eZ [(222,afY)] [274])
def aqI:Hints:=(hZ [(2,[0,3,5])] [])
def ajF:PFn:=aH (runF Tryz.prog ajG aqI Tryz.f148)
def axu:TH:={ loops:=[(2,{ keep:=[(3,(.bx 0 0)),(5,(.int .i64))],mem:=[.same] })],ro:=[3] }
def oA (a0:List vV0) (a1:vV0) (y2:(Int×Unit)):Option ((Int×Unit)⊕Int) :=
 cond (decide (y2.1<(a0.length:Int))) (
(atI a0 y2.1).bind fun x1 =>
(za5 x1 a1).bind fun r2 =>
 cond (decide (r2=0)) (
 some (.inr y2.1)) (
 some (.inl ((IntKind.wrap .i64 (y2.1+1)),())))) (
 some (.inr (-1)))
def zci (a0:List vV0) (a1:vV0):Option Int :=
 aI (oA a0 a1) (0,())
def abw:TFn:={ ps:=(.cons (.sl tT12) (.cons tT12 .unit)),res:=(.int .i64),fn:=fun v=>zci v.1 v.2.1 }
def aqH:TEnv:=(vZ [(222,zx)])
theorem aqG:runY Tryz.prog ajG aqI aqH axu Tryz.f148 abw.ps abw.res=abw.fn:=by kernel_rfl
theorem ajE:aA Tryz.prog G0 148 ajF:=ai (ak ⟨au,(aj acP ae),ap,ae,an⟩ Tryz.func148 rfl (by kernel_rfl))
theorem aqF:TOk ajF abw:=az (E:=ajG) (ET:=aqH) (EnvT.ofX (ax (ah ahL al)) am ar aL aq) aqG rfl
def ajl:Env:=(eZ [] [274])
def aqg:Hints:=(hZ [] [])
def ajk:PFn:=aH (runF Tryz.prog ajl aqg Tryz.f223)
def axn:TH:={ loops:=[],ro:=[1] }
def zcp (a0:vV7):Option vV0 :=
 cond (decide (a0.1=1)) (
 some a0.2.2.1) (
 some a0.2.1)
def abp:TFn:={ ps:=(.cons tT18 .unit),res:=tT12,fn:=fun v=>zcp v.1 }
def aqf:TEnv:=(vZ [])
theorem aqe:runY Tryz.prog ajl aqg aqf axn Tryz.f223 abp.ps abp.res=abp.fn:=by kernel_rfl
theorem ajj:aA Tryz.prog G0 223 ajk:=ai (ak ⟨au,ae,ap,ae,an⟩ Tryz.func223 rfl (by kernel_rfl))
theorem aqd:TOk ajk abp:=az (E:=ajl) (ET:=aqf) (EnvT.ofX (ax al) am ar aL aq) aqe rfl
def akY:Env:=(eZ [(222,afY),(223,ajk)] [274])
def asU:Hints:=(hZ [(4,[0,3,5,6,7])] [])
def akX:PFn:=aH (runF Tryz.prog akY asU Tryz.f149)
def ax5:TH:={ joins:=[(10,{ keep:=[(3,(.bx 0 0)),(5,(.own 1)),(6,.bool)],mem:=[.same,.row true 152 tT18] }),(9,{ keep:=[(3,(.bx 0 0)),(5,(.own 1)),(6,.bool)],mem:=[.same,.row true 152 tT18] })],loops:=[(4,{ keep:=[(3,(.bx 0 0)),(5,(.own 1)),(6,.bool),(7,(.int .i64))],mem:=[.same,.row true 152 tT18] })],ro:=[3] }
def gv (a0:List vV7) (a1:vV7) (y4:(Bool×Int×List vV7×Unit)):Option ((Bool×Int×List vV7×Unit)⊕((Bool×List vV7×Unit)⊕List vV7)) :=
 cond (decide (y4.2.1<(a0.length:Int))) (
(cond (!y4.1) ((zcp a1).bind fun r1 =>
(atI a0 y4.2.1).bind fun x2 =>
(zcp x2).bind fun r3 =>
(za5 r1 r3).bind fun r4 =>
 cond (decide (r4<0)) (
(ck (y4.2.2.1.length+([a1]:List vV7).length)).bind fun u5 =>
 some (.inl (true,(y4.2.2.1++([a1]:List vV7)),()))) (
 some (.inl (y4.1,y4.2.2.1,())))) (some (.inl (y4.1,y4.2.2.1,()))):Option ((Bool×List vV7×Unit)⊕((Bool×Int×List vV7×Unit)⊕((Bool×List vV7×Unit)⊕List vV7)))).bind (aV fun v6 =>
(atI a0 y4.2.1).bind fun x7 =>
(ck (v6.2.1.length+([x7]:List vV7).length)).bind fun u8 =>
 some (.inl (v6.1,(IntKind.wrap .i64 (y4.2.1+1)),(v6.2.1++([x7]:List vV7)),())))) (
 some (.inr (.inl (y4.1,y4.2.2.1,()))))
def zbh (a0:List vV7) (a1:vV7):Option (List vV7) :=
(aI (gv a0 a1) (false,0,[],()):Option ((Bool×List vV7×Unit)⊕List vV7)).bind (aV fun v9 =>
 cond (!v9.1) (
(ck (v9.2.1.length+([a1]:List vV7).length)).bind fun u10 =>
 some (v9.2.1++([a1]:List vV7))) (
 some v9.2.1))
def ab9:TFn:={ ps:=(.cons (.sl tT18) (.cons tT18 .unit)),res:=(.sl tT18),fn:=fun v=>zbh v.1 v.2.1 }
def asT:TEnv:={ pure:=[(222,zx),(223,abp)],look:=[],glob:=G0T,ty:=[(152,tT18)],raw:=[],fresh:=[] }
theorem asS:runY Tryz.prog akY asU asT ax5 Tryz.f149 ab9.ps ab9.res=ab9.fn:=by kernel_rfl
theorem akW:aA Tryz.prog G0 149 akX:=ai (ak ⟨au,(aj acP (aj ajj ae)),ap,ae,an⟩ Tryz.func149 rfl (by kernel_rfl))
theorem asR:TOk akX ab9:=az (E:=akY) (ET:=asT) (EnvT.ofX (ax (ah ahL (ah aqd al))) am ar aL aq) asS rfl
def ajh:Env:=(eZ [] [274])
def ap9:Hints:=(hZ [(4,[0,1,5])] [])
def ajg:PFn:=aH (runF Tryz.prog ajh ap9 Tryz.f58)
def axl:TH:={ loops:=[(4,{ keep:=[(5,(.int .i64))],mem:=[] })],ro:=[] }
def wL (a0:List (List UInt8)) (a1:List (List UInt8)) (y4:(Int×Unit)):Option ((Int×Unit)⊕Bool) :=
 cond (decide (y4.1<(a0.length:Int))) (
(atI a0 y4.1).bind fun x1 =>
(atI a1 y4.1).bind fun x2 =>
 cond (!decide (x1=x2)) (
 some (.inr false)) (
 some (.inl ((IntKind.wrap .i64 (y4.1+1)),())))) (
 some (.inr true))
def zcr (a0:List (List UInt8)) (a1:List (List UInt8)):Option Bool :=
 cond (!decide ((a0.length:Int)=(a1.length:Int))) (
 some false) (
 aI (wL a0 a1) (0,()))
def abn:TFn:={ ps:=(.cons (.sl .str) tT22),res:=.bool,fn:=fun v=>zcr v.1 v.2.1 }
def ap8:TEnv:=(vZ [])
theorem ap7:runY Tryz.prog ajh ap9 ap8 axl Tryz.f58 abn.ps abn.res=abn.fn:=by kernel_rfl
theorem ajf:aA Tryz.prog G0 58 ajg:=ai (ak ⟨au,ae,ap,ae,an⟩ Tryz.func58 rfl (by kernel_rfl))
theorem ap6:TOk ajg abn:=az (E:=ajh) (ET:=ap8) (EnvT.ofX (ax al) am ar aL aq) ap7 rfl
def ai0:Env:=(eZ [] [274])
def apJ:Hints:=(hZ [(4,[0,1,5])] [])
def aiZ:PFn:=aH (runF Tryz.prog ai0 apJ Tryz.f80)
def axe:TH:={ loops:=[(4,{ keep:=[(5,(.int .i64))],mem:=[] })],ro:=[] }
def wJ (a0:List vV3) (a1:List vV3) (y4:(Int×Unit)):Option ((Int×Unit)⊕Bool) :=
 cond (decide (y4.1<(a0.length:Int))) (
(atI a0 y4.1).bind fun x1 =>
(atI a1 y4.1).bind fun x2 =>
 cond (!(eqV tT15 x1 x2)) (
 some (.inr false)) (
 some (.inl ((IntKind.wrap .i64 (y4.1+1)),())))) (
 some (.inr true))
def zcy (a0:List vV3) (a1:List vV3):Option Bool :=
 cond (!decide ((a0.length:Int)=(a1.length:Int))) (
 some false) (
 aI (wJ a0 a1) (0,()))
def abg:TFn:={ ps:=(.cons (.sl tT15) (.cons (.sl tT15) .unit)),res:=.bool,fn:=fun v=>zcy v.1 v.2.1 }
def apI:TEnv:=(vZ [])
theorem apH:runY Tryz.prog ai0 apJ apI axe Tryz.f80 abg.ps abg.res=abg.fn:=by kernel_rfl
theorem aiY:aA Tryz.prog G0 80 aiZ:=ai (ak ⟨au,ae,ap,ae,an⟩ Tryz.func80 rfl (by kernel_rfl))
theorem apG:TOk aiZ abg:=az (E:=ai0) (ET:=apI) (EnvT.ofX (ax al) am ar aL aq) apH rfl
def akb:Env:=(eZ [(58,ajg),(80,aiZ)] [274])
def arC:Hints:=(hZ [(4,[0,1,5])] [])
def abL:PFn:=aH (runF Tryz.prog akb arC Tryz.f25)
def axJ:TH:={ loops:=[(4,{ keep:=[(5,(.int .i64))],mem:=[] })],cuts:=[(6,[(24,{ keep:=[(40,.bool)],mem:=[] }),(14,{ keep:=[(54,.bool)],mem:=[] })])],ro:=[],news:=[] }
def wU (a0:List vV0) (a1:List vV0) (y4:(Int×Unit)):Option ((Int×Unit)⊕Bool) :=
 cond (decide (y4.1<(a0.length:Int))) (
((atI a0 y4.1).bind fun x1 =>
(atI a1 y4.1).bind fun x2 =>
 cond (!decide (x1.2.1=x2.2.1)) (some (true,())) ((atI a0 y4.1).bind fun x3 =>
(atI a1 y4.1).bind fun x4 =>
 some ((!decide (x3.2.2.2.1=x4.2.2.2.1)),())):Option (Bool×Unit)).bind fun v5 =>
(cond v5.1 (some (true,())) ((atI a0 y4.1).bind fun x6 =>
(atI a1 y4.1).bind fun x7 =>
(zcr x6.1 x7.1).bind fun r8 =>
 some ((!r8),())):Option (Bool×Unit)).bind fun v9 =>
 cond v9.1 (some (.inr false)) ((atI a0 y4.1).bind fun x10 =>
(atI a1 y4.1).bind fun x11 =>
(zcy x10.2.2.1 x11.2.2.1).bind fun r12 =>
 cond (!r12) (
 some (.inr false)) (
 some (.inl ((IntKind.wrap .i64 (y4.1+1)),()))))) (
 some (.inr true))
def zc3 (a0:List vV0) (a1:List vV0):Option Bool :=
 cond (!decide ((a0.length:Int)=(a1.length:Int))) (
 some false) (
 aI (wU a0 a1) (0,()))
def uH:TFn:={ ps:=(.cons (.sl tT12) (.cons (.sl tT12) .unit)),res:=.bool,fn:=fun v=>zc3 v.1 v.2.1 }
def arB:TEnv:=(vZ [(58,abn),(80,abg)])
theorem arA:runY Tryz.prog akb arC arB axJ Tryz.f25 uH.ps uH.res=uH.fn:=by kernel_rfl
theorem uI:aA Tryz.prog G0 25 abL:=ai (ak ⟨au,(aj ajf (aj aiY ae)),ap,ae,an⟩ Tryz.func25 rfl (by kernel_rfl))
theorem abK:TOk abL uH:=az (E:=akb) (ET:=arB) (EnvT.ofX (ax (ah ap6 (ah apG al))) am ar aL aq) arA rfl
def ai3:Env:=(eZ [(25,abL)] [274])
def apN:Hints:=(hZ [] [])
def ai2:PFn:=aH (runF Tryz.prog ai3 apN Tryz.f150)
def axf:TH:={ loops:=[],ro:=[2,3] }
def zcx (a0:vV0) (a1:vV0):Option Bool :=
(zc3 ([a0]:List vV0) ([a1]:List vV0)).bind fun r1 =>
 some r1
def abh:TFn:={ ps:=(.cons tT12 (.cons tT12 .unit)),res:=.bool,fn:=fun v=>zcx v.1 v.2.1 }
def apM:TEnv:={ pure:=[(25,uH)],look:=[],glob:=G0T,ty:=[(150,tT12)],raw:=[],fresh:=[] }
theorem apL:runY Tryz.prog ai3 apN apM axf Tryz.f150 abh.ps abh.res=abh.fn:=by kernel_rfl
theorem ai1:aA Tryz.prog G0 150 ai2:=ai (ak ⟨au,(aj uI ae),ap,ae,an⟩ Tryz.func150 rfl (by kernel_rfl))
theorem apK:TOk ai2 abh:=az (E:=ai3) (ET:=apM) (EnvT.ofX (ax (ah abK al)) am ar aL aq) apL rfl
def aki:Env:=(eZ [(148,ajF),(149,akX),(150,ai2)] [274])
def arN:Hints:=(hZ [(3,[0,1,5,6]),(11,[0,1,5,8])] [])
def akh:PFn:=aH (runF Tryz.prog aki arN Tryz.f78)
def axM:TH:={ joins:=[(10,{ keep:=[(5,(.sl tT18))],mem:=[] })],loops:=[(3,{ keep:=[(5,(.sl tT18)),(6,(.int .i64))],mem:=[] }),(11,{ keep:=[(5,(.sl tT18)),(8,(.int .i64))],mem:=[] })],ro:=[] }
def rQ (a0:List vV0) (a1:List vV0) (y3:(List vV7×Int×Unit)):Option ((List vV7×Int×Unit)⊕((List vV7×Unit)⊕List vV7)) :=
 cond (decide (y3.2.1<(a0.length:Int))) (
(atI a0 y3.2.1).bind fun x1 =>
(zci a1 x1).bind fun r2 =>
 cond (decide (r2<0)) (
(atI a0 y3.2.1).bind fun x3 =>
(zbh y3.1 (2,x3,([],0,[],0,()),())).bind fun r4 =>
 some (.inl (r4,(IntKind.wrap .i64 (y3.2.1+1)),()))) (
(atI a0 y3.2.1).bind fun x5 =>
(atI a1 r2).bind fun x6 =>
(zcx x5 x6).bind fun r7 =>
 cond (!r7) (
(atI a0 y3.2.1).bind fun x8 =>
(atI a1 r2).bind fun x9 =>
(zbh y3.1 (3,x8,x9,())).bind fun r10 =>
 some (.inl (r10,(IntKind.wrap .i64 (y3.2.1+1)),()))) (
 some (.inl (y3.1,(IntKind.wrap .i64 (y3.2.1+1)),()))))) (
 some (.inr (.inl (y3.1,()))))
def lO (a0:List vV0) (a1:List vV0) (y11:(List vV7×Int×Unit)):Option ((List vV7×Int×Unit)⊕List vV7) :=
 cond (decide (y11.2.1<(a1.length:Int))) (
(atI a1 y11.2.1).bind fun x12 =>
(zci a0 x12).bind fun r13 =>
 cond (decide (r13<0)) (
(atI a1 y11.2.1).bind fun x14 =>
(zbh y11.1 (1,([],0,[],0,()),x14,())).bind fun r15 =>
 some (.inl (r15,(IntKind.wrap .i64 (y11.2.1+1)),()))) (
 some (.inl (y11.1,(IntKind.wrap .i64 (y11.2.1+1)),())))) (
 some (.inr y11.1))
def zc0 (a0:List vV0) (a1:List vV0):Option (List vV7) :=
(aI (rQ a0 a1) ([],0,()):Option ((List vV7×Unit)⊕List vV7)).bind (aV fun v11 =>
 aI (lO a0 a1) (v11.1,0,()))
def abO:TFn:={ ps:=(.cons (.sl tT12) (.cons (.sl tT12) .unit)),res:=(.sl tT18),fn:=fun v=>zc0 v.1 v.2.1 }
def arM:TEnv:=(vZ [(148,abw),(149,ab9),(150,abh)])
theorem arL:runY Tryz.prog aki arN arM axM Tryz.f78 abO.ps abO.res=abO.fn:=by kernel_rfl
theorem akg:aA Tryz.prog G0 78 akh:=ai (ak ⟨au,(aj ajE (aj akW (aj ai1 ae))),ap,ae,an⟩ Tryz.func78 rfl (by kernel_rfl))
theorem arK:TOk akh abO:=az (E:=aki) (ET:=arM) (EnvT.ofX (ax (ah aqF (ah asR (ah apK al)))) am ar aL aq) arL rfl
def alM:Env:=(eZ [(77,aj9),(78,akh)] [274])
def aua:Hints:=(hZ [] [])
def alL:SFn:=runF Tryz.prog alM aua Tryz.f23
def ayo:TH:=yZ
def zay (a1:List vV6) (w0:vV8):Option (List vV7×vV8×Unit) :=
(zc4 a1 w0.1).bind fun r1 =>
(zc0 w0.2.1 r1).bind fun r2 =>
 some (r2,(w0.1,r1,(IntKind.wrap .i64 (w0.2.2.1+1)),()),())
def uP:TRaw:={ ps:=(.cons (.bx 0 0) (.cons (.sl tT19) .unit)),ins:=[.box 36 tT21],res:=(.sl tT18),outs:=[.box 36 tT21],fn:=fun v w=>zay v.2.1 w.1 }
def at9:TEnv:=(vZ [(77,abJ),(78,abO)])
theorem at8:rawY Tryz.prog alM aua at9 ayo [(0,0)] Tryz.f23 uP.ps uP.ins uP.res uP.outs=uP.fn:=by kernel_rfl
theorem alK:cE Tryz.prog G0 23 alL:=ak ⟨au,(aj aj8 (aj akg ae)),ap,ae,an⟩ Tryz.func23 rfl (by kernel_rfl)
theorem at7:TRawOk alL uP:=mK (E:=alM) (ET:=at9) (EnvT.ofX (ax (ah arw (ah arK al))) am ar aL aq) at8
def akN:Env:=(eZ [] [274])
def asC:Hints:=(hZ [(3,[0,3,4])] [16,21,26,31])
def afA:PFn:=aH (runF Tryz.prog akN asC Tryz.f26)
def ax0:TH:={ loops:=[(3,{ keep:=[(3,(.own 0)),(4,(.int .i64))],mem:=[.row true 150 tT12] })],ro:=[] }
def w8 (a0:List vV0) (y3:(Int×List vV0×Unit)):Option ((Int×List vV0×Unit)⊕List vV0) :=
 cond (decide (y3.1<(a0.length:Int))) (
(atI a0 y3.1).bind fun x1 =>
(atI a0 y3.1).bind fun x2 =>
(atI a0 y3.1).bind fun x3 =>
(atI a0 y3.1).bind fun x4 =>
(ck (y3.2.1.length+([(x1.1,x2.2.1,x3.2.2.1,x4.2.2.2.1,())]:List vV0).length)).bind fun u5 =>
 some (.inl ((IntKind.wrap .i64 (y3.1+1)),(y3.2.1++([(x1.1,x2.2.1,x3.2.2.1,x4.2.2.2.1,())]:List vV0)),()))) (
 some (.inr y3.2.1))
def zbm (a0:List vV0):Option (List vV0) :=
 aI (w8 a0) (0,[],())
def zk:TFn:={ ps:=(.cons (.sl tT12) .unit),res:=(.sl tT12),fn:=fun v=>zbm v.1 }
def asB:TEnv:={ pure:=[],look:=[],glob:=G0T,ty:=[(150,tT12)],raw:=[],fresh:=[] }
theorem asA:runY Tryz.prog akN asC asB ax0 Tryz.f26 zk.ps zk.res=zk.fn:=by kernel_rfl
theorem ab3:aA Tryz.prog G0 26 afA:=ai (ak ⟨au,ae,ap,ae,an⟩ Tryz.func26 rfl (by kernel_rfl))
theorem ahD:TOk afA zk:=az (E:=akN) (ET:=asB) (EnvT.ofX (ax al) am ar aL aq) asA rfl
def aje:Env:=(eZ [(25,abL),(26,afA)] [274])
def ap5:Hints:=(hZ [(4,[0,1,5])] [21,26,33,38,45,50])
def ajd:PFn:=aH (runF Tryz.prog aje ap5 Tryz.f22)
def axk:TH:={ loops:=[(4,{ keep:=[(5,(.int .i64))],mem:=[] })],ro:=[] }
def wK (a0:List vV7) (a1:List vV7) (y4:(Int×Unit)):Option ((Int×Unit)⊕Bool) :=
 cond (decide (y4.1<(a0.length:Int))) (
(atI a0 y4.1).bind fun x1 =>
(atI a1 y4.1).bind fun x2 =>
 cond (!decide (x1.1=x2.1)) (some (.inr false)) ((atI a0 y4.1).bind fun x3 =>
(atI a0 y4.1).bind fun x4 =>
(zbm ([x3.2.1,x4.2.2.1]:List vV0)).bind fun r5 =>
(atI a1 y4.1).bind fun x6 =>
(atI a1 y4.1).bind fun x7 =>
(zc3 r5 ([x6.2.1,x7.2.2.1]:List vV0)).bind fun r8 =>
 cond (!r8) (
 some (.inr false)) (
 some (.inl ((IntKind.wrap .i64 (y4.1+1)),()))))) (
 some (.inr true))
def zcs (a0:List vV7) (a1:List vV7):Option Bool :=
 cond (!decide ((a0.length:Int)=(a1.length:Int))) (
 some false) (
 aI (wK a0 a1) (0,()))
def abm:TFn:={ ps:=(.cons (.sl tT18) (.cons (.sl tT18) .unit)),res:=.bool,fn:=fun v=>zcs v.1 v.2.1 }
def ap4:TEnv:={ pure:=[(25,uH),(26,zk)],look:=[],glob:=G0T,ty:=[(125,tT12),(150,tT12)],raw:=[],fresh:=[] }
theorem ap3:runY Tryz.prog aje ap5 ap4 axk Tryz.f22 abm.ps abm.res=abm.fn:=by kernel_rfl
theorem ajc:aA Tryz.prog G0 22 ajd:=ai (ak ⟨au,(aj uI (aj ab3 ae)),ap,ae,an⟩ Tryz.func22 rfl (by kernel_rfl))
theorem ap2:TOk ajd abm:=az (E:=aje) (ET:=ap4) (EnvT.ofX (ax (ah abK (ah ahD al))) am ar aL aq) ap3 rfl
def amk:Go.Shelf.Ren:=⟨fun | 41=>81 | n=>n,fun | 22=>52 | 23=>125 | 4=>4 | n=>n,fun | n=>n⟩
theorem afU:Go.Proofs.SlLaysE0.n41 Tryz.prog amk:={
 mixed:=by kernel_rfl
 f41:=⟨Tryz.f81.name,by decide,Tryz.func81.trans (congrArg some (by kernel_rfl))⟩
 t4:=Tryz.underlying4
 a4:=Tryz.isAgg4
 z4:=Tryz.sizeOf4
 v4:=Tryz.zeroValue4
 t22:=Tryz.underlying52
 a22:=Tryz.isAgg52
 z22:=Tryz.sizeOf52
 v22:=Tryz.zeroValue52 }
def amm:PFn:=(kV 4)
theorem aml:aA Tryz.prog G0 81 amm:=kD afU 4 ⟨Tryz.f81,Tryz.func81,rfl,by kernel_rfl⟩ (by kernel_rfl) (by kernel_rfl) (by kernel_rfl) (by kernel_rfl) (by kernel_rfl) (by decide) (fun w=>Tryz.sizeOf125 w)
def zai (a0:List vV0):Option (List vV0):=iI a0
def au2:TFn:=f8 tT12
theorem au1:TOk amm au2:=nJ rfl rfl rfl
def alS:Env:=(eZ [(81,amm)] [274])
def auq:Hints:=(hZ [] [4])
def afL:SFn:=runF Tryz.prog alS auq Tryz.f27
def ays:TH:=yZ
def zau (w0:vV8):Option (List vV0×vV8×Unit) :=
(zai w0.2.1).bind fun r1 =>
 some (r1,w0,())
def uR:TRaw:={ ps:=(.cons (.bx 0 0) .unit),ins:=[.box 139 tT21],res:=(.sl tT12),outs:=[.box 139 tT21],fn:=fun v w=>zau w.1 }
def aup:TEnv:=(vZ [(81,au2)])
theorem auo:rawY Tryz.prog alS auq aup ays [(0,0)] Tryz.f27 uR.ps uR.ins uR.res uR.outs=uR.fn:=by kernel_rfl
theorem alR:cE Tryz.prog G0 27 afL:=ak ⟨au,(aj aml ae),ap,ae,an⟩ Tryz.func27 rfl (by kernel_rfl)
theorem aum:TRawOk afL uR:=mK (E:=alS) (ET:=aup) (EnvT.ofX (ax (ah au1 al)) am ar aL aq) auo
theorem gq:∀ xs st p,afL xs st=some p→p.2=st:=fun xs st p hp=>j6 (by kernel_rfl) hp
def alO:Env:={ pure:=[(14,ajC),(15,afG),(16,ajM),(18,afr),(19,afk),(22,ajd),(24,aix),(25,abL),(26,afA)],raw:=[(17,afl),(20,afM),(21,afI),(23,alL),(27,afL),(28,acy)],glob:=G0,same:=[274],look:=[],ext:=[],quiet:=[20,27,28] }
def aug:Hints:=(hZ [(10,[0,1,7,9,10])] [35])
def auh:PFn:=aH (runF Tryz.prog alO aug Tryz.f3)
def ayq:TH:={ loops:=[(10,{ keep:=[(7,(.bx 0 0)),(9,(.bx 1 0)),(10,(.int .i64))],mem:=[.box 139 tT21,.box 36 tT21] })],cuts:=[(15,[(23,{ keep:=[(7,(.bx 0 0)),(9,(.bx 1 0)),(87,.bool)],mem:=[.box 139 tT21,.box 36 tT21] })])],ro:=[],news:=[] }
def jY (a0:List vV5) (a1:List (List vV2×Unit)) (y10:(Int×vV8×vV8×Unit)):Option ((Int×vV8×vV8×Unit)⊕Bool) :=
 cond (decide (y10.1<(a1.length:Int))) (
(atI a1 y10.1).bind fun x9 =>
(zdn a0 x9.1).bind fun r10 =>
(zat r10 y10.2.1).bind fun q11 =>
(zax r10 q11.2.1).bind fun q12 =>
((atI a1 y10.1).bind fun x13 =>
(zdi a0 x13.1).bind fun r14 =>
(zay r14 y10.2.2.1).bind fun q15 =>
(zcs q12.1 q15.1).bind fun r16 =>
 cond (!r16) (some (true,q12.2.1,q15.2.1,())) ((zau q12.2.1).bind fun q17 =>
(zbm q17.1).bind fun r18 =>
(zc3 r18 q15.2.1.2.1).bind fun r19 =>
 some ((!r19),q17.2.1,q15.2.1,())):Option (Bool×vV8×vV8×Unit)).bind fun v20 =>
 cond v20.1 (some (.inr false)) ((zas v20.2.1).bind fun q21 =>
 cond (!decide (q21.1=v20.2.2.1.2.2.1)) (some (.inr false)) (cond (!(q11.1==(decide ((q12.1.length:Int)>0)))) (
 some (.inr false)) (
 some (.inl ((IntKind.wrap .i64 (y10.1+1)),q21.2.1,v20.2.2.1,())))))) (
((zcf).bind fun r22 =>
 some r22).map .inr)
def zaw (a0:List vV5) (a1:List (List vV2×Unit)) (a2:List (List UInt8)):Option Bool :=
(zcj a0 a1).bind fun r1 =>
 cond (!r1) ((zcf).bind fun r2 =>
 some r2) ((zb4 a2).bind fun r3 =>
 cond (!r3) (
(zcf).bind fun r4 =>
 some r4) (
(zdl a2).bind fun p5 =>
 cond p5.1.isEmpty (
(zch a2).bind fun r23 =>
 cond (!decide (p5.2.1=r23)) (some false) (cond (!(true==(!decide (p5.2.1=0)))) (
 some false) (
 cond (!decide (p5.2.1=0)) (
(zcf).bind fun r24 =>
 some r24) (
 none)))) (
((p5.1.head? : Option vV8)).bind fun x6 =>
(zch a2).bind fun r7 =>
 cond (!decide (p5.2.1=r7)) (some false) (cond (!(false==(!decide (p5.2.1=0)))) (
 some false) (
 cond (!decide (p5.2.1=0)) (
(zcf).bind fun r8 =>
 some r8) (
 aI (jY a0 a1) (0,x6,(a2,[],0,()),())))))))
def uQ:TFn:={ ps:=(.cons (.sl tT17) (.cons (.sl (.agg (.cons (.sl tT14) .unit))) tT22)),res:=.bool,fn:=fun v=>zaw v.1 v.2.1 v.2.2.1 }
def auf:TEnv:={ pure:=[(14,abv),(15,zr),(16,abz),(18,yW),(19,yQ),(22,abm),(24,aa6),(25,uH),(26,zk)],look:=[],glob:=G0T,ty:=[],raw:=[(20,uS),(21,rV),(23,uP),(27,uR),(28,rW)],fresh:=[(17,aa3)] }
theorem aue:runY Tryz.prog alO aug auf ayq Tryz.f3 uQ.ps uQ.res=uQ.fn:=by kernel_rfl
theorem zaw_Fok:aA Tryz.prog G0 3 auh:=ai (ak ⟨au,(aj ajB (aj acp (aj ajL (aj abx (aj aa0 (aj ajc (aj aiw (aj uI (aj ab3 ae))))))))),(bP aa2 (bP alT (bP acv (bP alK (bP alR (bP acx ap)))))),ae,an⟩ Tryz.func3 rfl (by kernel_rfl))
theorem zaw_ok:TOk auh uQ:=az (E:=alO) (ET:=auf) (EnvT.ofX (ax (ah aqB (ah ahG (ah aqQ (ah ahu (ah ahn (ah ap2 (ah ao2 (ah abK (ah ahD al)))))))))) am (mJ (cq aur rfl rfl (cq ahI rfl rfl (cq at7 rfl rfl (cq aum rfl rfl (cq ahJ rfl rfl ar))))) rfl) aL (mY aho rfl rfl rfl aq) (hY gr rfl rfl rfl (hY gq rfl rfl rfl (hY dn rfl rfl rfl mL)))) aue rfl
end
end Go.Proofs.YtnbgkhdcidbkaaaGreatDoor.Y
