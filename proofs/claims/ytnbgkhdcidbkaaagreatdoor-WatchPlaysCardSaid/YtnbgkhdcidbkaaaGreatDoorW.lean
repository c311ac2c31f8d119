import Derived.Test.YtnbgkhdcidbkaaaGreatDoorS
import Derived.Test.YtnbgkhdcidbkaaaGreatDoorT29
import GoSem.PinnedTables
set_option linter.unusedVariables false
set_option maxRecDepth 100000
namespace Go.Proofs.YtnbgkhdcidbkaaaGreatDoor.Y
open Go.EM Go.TY Go.Proofs
theorem zb.{u,v}{A:Type u}{B:Type v} (a:A) (f:A→Option B):(some a).bind f=f a:=rfl
theorem zg.{u}{A:Type u}{l:List A}{i:Nat} (h:i<l.length):l[i]? = some l[i]:=List.getElem?_eq_getElem h
theorem zl.{u}{A:Type u}{a:A}{l:List A}:(a::l).length=l.length+1:=rfl
theorem zf {p:Prop} [Decidable p] (h:¬p):decide p=false:=decide_eq_false h
theorem zn.{u}{c:Prop}{h:Decidable c} (hc:¬c) {A:Sort u}{t e:A}:ite c t e=e:=if_neg hc
theorem zp.{u}{c:Prop}{h:Decidable c} (hc:c) {A:Sort u}{t e:A}:ite c t e=t:=if_pos hc
theorem zm.{u}{A:Type u}{l:List A}{n:Nat} (h:n<l.length):l[n]∈l:=List.getElem_mem h
theorem zt {p:Prop} [Decidable p] (h:p):decide p=true:=decide_eq_true h
noncomputable section
def gO:List Int:=Go.Pinned.utf8FirstZ.map fun (n:Nat)=>(n:Int)
def fq:List (Int×Int×Unit):=[(128,191,()),(160,191,()),(128,159,()),(144,191,()),(128,143,()),(0,0,()),(0,0,()),(0,0,()),(0,0,()),(0,0,()),(0,0,()),(0,0,()),(0,0,()),(0,0,()),(0,0,()),(0,0,())]
def G0:List (Nat×AVal):=[(0,.rptr (gO.map (AVal.int .u8))),(1,.rptr (fq.flatMap fun p=>[AVal.int .u8 p.1,AVal.int .u8 p.2.1]))]
def G0T:List (Nat×TV):=[(0,⟨.rp (.arr 256 (.int .u8)) 0,gO⟩),(1,⟨.rp (.arr 16 (.agg (.cons (.int .u8) (.cons (.int .u8) .unit)))) 0,fq⟩)]
theorem aJ:ko G0 G0T:=oV rfl rfl (ad3 (by kernel_rfl)) (oV rfl rfl (aae (by kernel_rfl)) ad2)
theorem au:∀ f,memN f [274]=true→Same Tryz.prog f:=by
 intro f h
 by_cases e274:f=274
 · subst e274; exact ⟨Tryz.f274,Tryz.func274,by kernel_rfl,by kernel_rfl,by kernel_rfl,by kernel_rfl⟩
 simp_all [memN]
def eZ (l:List (Nat×PFn)) (s:List Nat):Env:={ pure:=l,raw:=[],glob:=G0,same:=s,look:=[],ext:=[] }
def vZ (l:List (Nat×TFn)):TEnv:={ pure:=l,look:=[],glob:=G0T,ty:=[],raw:=[],fresh:=[] }
def hZ (l:List (Nat×List Nat)) (o:List Nat):Hints:={ seqs:=[],loops:=l,own:=o }
def yZ:TH:={ joins:=[],loops:=[],cuts:=[],ro:=[],news:=[] }
abbrev vV0:=(List (List UInt8)×Int×List (Int×Int×List UInt8×Unit)×Int×Unit)
abbrev vV1:=(Int×List (List UInt8)×(Int×Int×List UInt8×Unit)×Int×List ((Int×Int×Unit)×Int×Unit)×Unit)
abbrev vV2:=((Int×Int×Unit)×Int×Unit)
abbrev vV3:=(Int×Int×List UInt8×Unit)
abbrev vV4:=(List (List UInt8)×Int×Unit)
abbrev vV5:=((Int×Int×Unit)×Int×Int×Bool×List vV1×Unit)
abbrev vV6:=(vV2×vV1×Int×Unit)
abbrev vV7:=(Int×vV0×vV0×Unit)
abbrev vV8:=(List (List UInt8)×List vV0×Int×Unit)
abbrev vV9:=(List (List UInt8)×List (List UInt8)×Unit)
abbrev vV10:=(Int×List vV4×Unit)
abbrev vV11:=(Int×List (vV2×Bool)×Unit)
abbrev tT12:Ty:=(.agg (.cons (.sl .str) (.cons (.int .i64) (.cons (.sl (.agg (.cons (.int .i64) (.cons (.int .i64) (.cons .str .unit))))) (.cons (.int .i64) .unit)))))
abbrev tT13:Ty:=(.agg (.cons (.int .i64) (.cons (.sl .str) (.cons (.agg (.cons (.int .i64) (.cons (.int .i64) (.cons .str .unit)))) (.cons (.int .i64) (.cons (.sl (.agg (.cons (.agg (.cons (.int .i64) (.cons (.int .i64) .unit))) (.cons (.int .i64) .unit)))) .unit))))))
abbrev tT14:Ty:=(.agg (.cons (.agg (.cons (.int .i64) (.cons (.int .i64) .unit))) (.cons (.int .i64) .unit)))
abbrev tT15:Ty:=(.agg (.cons (.int .i64) (.cons (.int .i64) (.cons .str .unit))))
abbrev tT16:Ty:=(.cons (.int .i64) .unit)
abbrev tT17:Ty:=(.agg (.cons (.agg (.cons (.int .i64) tT16)) (.cons (.int .i64) (.cons (.int .i64) (.cons .bool (.cons (.sl tT13) .unit))))))
abbrev tT18:Ty:=(.agg (.cons (.int .i64) (.cons tT12 (.cons tT12 .unit))))
abbrev tT19:Ty:=(.agg (.cons tT14 (.cons tT13 tT16)))
abbrev tT20:Ty:=(.agg (.cons (.sl .str) tT16))
abbrev tT21:Ty:=(.agg (.cons (.sl .str) (.cons (.sl tT12) tT16)))
abbrev tT22:Ty:=(.cons (.sl .str) .unit)
abbrev tT23:Ty:=(.cons (.agg (.cons (.int .i64) tT16)) .unit)
def aj4:Env:=(eZ [] [274])
def arM:Hints:=(hZ [] [])
def afb:PFn:=aF (runF Tryz.prog aj4 arM Tryz.f172)
def axU:TH:=yZ
def zc0 (a0:Int) (a1:Int):Option Int :=
 cond (decide (a0<a1)) (
 some (-1)) (
 cond (decide (a0>a1)) (
 some 1) (
 some 0))
def yK:TFn:={ ps:=(.cons (.int .i64) tT16),res:=(.int .i64),fn:=fun v=>zc0 v.1 v.2.1 }
def arL:TEnv:=(vZ [])
theorem arK:runY Tryz.prog aj4 arM arL axU Tryz.f172 yK.ps yK.res=yK.fn:=by kernel_rfl
theorem abD:aA Tryz.prog G0 172 afb:=ai (ak ⟨au,ac,ap,ac,an⟩ Tryz.func172 rfl (by kernel_rfl))
theorem ahb:TOk afb yK:=az (E:=aj4) (ET:=arL) (EnvT.ofX (ax al) am ar aJ aq) arK rfl
def akW:Env:=(eZ [(172,afb)] [274])
def atg:Hints:=(hZ [] [])
def ab6:PFn:=aF (runF Tryz.prog akW atg Tryz.f101)
def ayj:TH:={ loops:=[],ro:=[2,3] }
def zbb (a0:(Int×Int×Unit)) (a1:(Int×Int×Unit)):Option Int :=
 cond (!decide (a0.1=a1.1)) (
(zc0 a0.1 a1.1).bind fun r1 =>
 some r1) (
(zc0 a0.2.1 a1.2.1).bind fun r2 =>
 some r2)
def uo:TFn:={ ps:=(.cons (.agg (.cons (.int .i64) tT16)) tT23),res:=(.int .i64),fn:=fun v=>zbb v.1 v.2.1 }
def atf:TEnv:=(vZ [(172,yK)])
theorem ate:runY Tryz.prog akW atg atf ayj Tryz.f101 uo.ps uo.res=uo.fn:=by kernel_rfl
theorem uq:aA Tryz.prog G0 101 ab6:=ai (ak ⟨au,(aj abD ac),ap,ac,an⟩ Tryz.func101 rfl (by kernel_rfl))
theorem ab5:TOk ab6 uo:=az (E:=akW) (ET:=atf) (EnvT.ofX (ax (ah ahb al)) am ar aJ aq) ate rfl
def ajy:Env:=(eZ [(101,ab6)] [274])
def aqZ:Hints:=(hZ [(2,[0,3])] [])
def ajx:PFn:=aF (runF Tryz.prog ajy aqZ Tryz.f152)
def axI:TH:={ loops:=[(2,{ keep:=[(3,(.int .i64))],mem:=[] })],ro:=[] }
def wC (a0:List vV5) (y2:(Int×Unit)):Option ((Int×Unit)⊕Bool) :=
 cond (decide (y2.1<(a0.length:Int))) (
(atI a0 (IntKind.wrap .i64 (y2.1-1))).bind fun x1 =>
(atI a0 y2.1).bind fun x2 =>
(zbb x1.1 x2.1).bind fun r3 =>
 cond (!decide (r3=(-1))) (
 some (.inr false)) (
 some (.inl ((IntKind.wrap .i64 (y2.1+1)),())))) (
 some (.inr true))
def zcc (a0:List vV5):Option Bool :=
 aH (wC a0) (1,())
def abs:TFn:={ ps:=(.cons (.sl tT17) .unit),res:=.bool,fn:=fun v=>zcc v.1 }
def aqY:TEnv:=(vZ [(101,uo)])
theorem aqX:runY Tryz.prog ajy aqZ aqY axI Tryz.f152 abs.ps abs.res=abs.fn:=by kernel_rfl
theorem ajw:aA Tryz.prog G0 152 ajx:=ai (ak ⟨au,(aj uq ac),ap,ac,an⟩ Tryz.func152 rfl (by kernel_rfl))
theorem aqW:TOk ajx abs:=az (E:=ajy) (ET:=aqY) (EnvT.ofX (ax (ah ab5 al)) am ar aJ aq) aqX rfl
def aja:Env:=(eZ [] [274])
def aqt:Hints:=(hZ [(4,[0,3])] [])
def ae9:PFn:=aF (runF Tryz.prog aja aqt Tryz.f15)
def axz:TH:={ loops:=[(4,{ keep:=[(3,(.int .i64))],mem:=[] })],ro:=[] }
def wz (a0:List (List UInt8)) (y4:(Int×Unit)):Option ((Int×Unit)⊕Bool) :=
 cond (decide (y4.1<(a0.length:Int))) (
(atI a0 y4.1).bind fun x1 =>
 cond (decide ((x1.length:Int)>120)) (
 some (.inr false)) (
 some (.inl ((IntKind.wrap .i64 (y4.1+1)),())))) (
 some (.inr true))
def zcl (a0:List (List UInt8)):Option Bool :=
 cond (decide ((a0.length:Int)>12)) (
 some false) (
 aH (wz a0) (0,()))
def yH:TFn:={ ps:=tT22,res:=.bool,fn:=fun v=>zcl v.1 }
def aqs:TEnv:=(vZ [])
theorem aqr:runY Tryz.prog aja aqt aqs axz Tryz.f15 yH.ps yH.res=yH.fn:=by kernel_rfl
theorem abh:aA Tryz.prog G0 15 ae9:=ai (ak ⟨au,ac,ap,ac,an⟩ Tryz.func15 rfl (by kernel_rfl))
theorem ag9:TOk ae9 yH:=az (E:=aja) (ET:=aqs) (EnvT.ofX (ax al) am ar aJ aq) aqr rfl
def ajj:Env:=(eZ [(15,ae9)] [274])
def aqF:Hints:=(hZ [] [])
def aji:PFn:=aF (runF Tryz.prog ajj aqF Tryz.f108)
def axC:TH:={ loops:=[],ro:=[1] }
def zci (a0:vV1):Option Bool :=
(zcl a0.2.1).bind fun r1 =>
 cond r1 (cond (decide ((a0.2.2.1.2.2.1.length:Int)≤200)) (some (decide ((a0.2.2.2.2.1.length:Int)≤300))) (some false)) (some false)
def abk:TFn:={ ps:=(.cons tT13 .unit),res:=.bool,fn:=fun v=>zci v.1 }
def aqE:TEnv:=(vZ [(15,yH)])
theorem aqD:runY Tryz.prog ajj aqF aqE axC Tryz.f108 abk.ps abk.res=abk.fn:=by kernel_rfl
theorem ajh:aA Tryz.prog G0 108 aji:=ai (ak ⟨au,(aj abh ac),ap,ac,an⟩ Tryz.func108 rfl (by kernel_rfl))
theorem aqC:TOk aji abk:=az (E:=ajj) (ET:=aqE) (EnvT.ofX (ax (ah ag9 al)) am ar aJ aq) aqD rfl
def ajE:Env:=(eZ [(108,aji)] [274])
def aq7:Hints:=(hZ [(4,[1,3])] [])
def ajD:PFn:=aF (runF Tryz.prog ajE aq7 Tryz.f41)
def axK:TH:={ loops:=[(4,{ keep:=[(1,(.bx 0 0)),(3,(.int .i64))],mem:=[.same] })],ro:=[1] }
def wD (a0:vV5) (y4:(Int×Unit)):Option ((Int×Unit)⊕Bool) :=
 cond (decide (y4.1<(a0.2.2.2.2.1.length:Int))) (
(atI a0.2.2.2.2.1 y4.1).bind fun x1 =>
(zci x1).bind fun r2 =>
 cond (!r2) (
 some (.inr false)) (
 some (.inl ((IntKind.wrap .i64 (y4.1+1)),())))) (
 some (.inr true))
def zca (a0:vV5):Option Bool :=
 cond (decide ((a0.2.2.2.2.1.length:Int)>20)) (
 some false) (
 aH (wD a0) (0,()))
def abu:TFn:={ ps:=(.cons tT17 .unit),res:=.bool,fn:=fun v=>zca v.1 }
def aq6:TEnv:=(vZ [(108,abk)])
theorem aq5:runY Tryz.prog ajE aq7 aq6 axK Tryz.f41 abu.ps abu.res=abu.fn:=by kernel_rfl
theorem ajC:aA Tryz.prog G0 41 ajD:=ai (ak ⟨au,(aj ajh ac),ap,ac,an⟩ Tryz.func41 rfl (by kernel_rfl))
theorem aq4:TOk ajD abu:=az (E:=ajE) (ET:=aq6) (EnvT.ofX (ax (ah aqC al)) am ar aJ aq) aq5 rfl
def ajv:Env:=(eZ [] [274])
def aqV:Hints:=(hZ [] [])
def abr:PFn:=aF (runF Tryz.prog ajv aqV Tryz.f109)
def axH:TH:={ loops:=[],ro:=[1] }
def zcd (a0:(Int×Int×Unit)):Option Bool :=
 cond (decide (a0.1≥0)) (cond (decide (a0.1≤15)) (cond (decide (a0.2.1≥1)) (some (decide (a0.2.1≤1048576))) (some false)) (some false)) (some false)
def uh:TFn:={ ps:=tT23,res:=.bool,fn:=fun v=>zcd v.1 }
def aqU:TEnv:=(vZ [])
theorem aqT:runY Tryz.prog ajv aqV aqU axH Tryz.f109 uh.ps uh.res=uh.fn:=by kernel_rfl
theorem ui:aA Tryz.prog G0 109 abr:=ai (ak ⟨au,ac,ap,ac,an⟩ Tryz.func109 rfl (by kernel_rfl))
theorem abq:TOk abr uh:=az (E:=ajv) (ET:=aqU) (EnvT.ofX (ax al) am ar aJ aq) aqT rfl
def ajH:Env:=(eZ [] [274])
def arb:Hints:=(hZ [(17,[0,4,5,6,7])] [])
def ajG:PFn:=aF (runF Tryz.prog ajH arb Tryz.f216)
def axL:TH:={ joins:=[(14,{ keep:=[(4,(.int .i64)),(5,(.int .i64)),(6,(.int .i64))],mem:=[] }),(9,{ keep:=[(18,.bool)],mem:=[] }),(22,{ keep:=[(4,(.int .i64))],mem:=[] }),(24,{ keep:=[],mem:=[] })],loops:=[(17,{ keep:=[(4,(.int .i64)),(7,(.int .i64))],mem:=[] })],ro:=[] }
def ge (a0:List UInt8) (v3:(Int×Int×Int×Unit)) (y17:(Int×Int×Unit)):Option ((Int×Int×Unit)⊕((Int×Unit)⊕(Int×Int×Unit))) :=
 cond (decide (y17.2.1<v3.2.1)) (
(atI a0 y17.2.1).bind fun b4 =>
 cond (decide ((b4.toNat:Int)<128)) (some (.inr (.inr (0,0,())))) ((atI a0 y17.2.1).bind fun b5 =>
 cond (decide ((b5.toNat:Int)>191)) (
 some (.inr (.inr (0,0,())))) (
(atI a0 y17.2.1).bind fun b6 =>
 some (.inl ((IntKind.wrap .i64 ((IntKind.wrap .i64 ((IntKind.wrap .i64 (64*y17.1))+(IntKind.wrap .i64 (b6.toNat:Int))))-128)),(IntKind.wrap .i64 (y17.2.1+1)),()))))) (
 some (.inr (.inl (y17.1,()))))
def zc9 (a0:List UInt8):Option (Int×Int×Unit) :=
 cond (decide ((a0.length:Int)=0)) (
 some (0,0,())) (
(atI a0 0).bind fun b1 =>
(cond (decide ((IntKind.wrap .i64 (b1.toNat:Int))<128)) (
 some (.inr ((IntKind.wrap .i64 (b1.toNat:Int)),1,()))) (
(cond (decide ((IntKind.wrap .i64 (b1.toNat:Int))≥194)) (some (.inl ((decide ((IntKind.wrap .i64 (b1.toNat:Int))<224)),()))) (some (.inl (false,()))):Option ((Bool×Unit)⊕((Int×Int×Int×Unit)⊕(Int×Int×Unit)))).bind (aU fun v2 =>
 cond v2.1 (
 some (.inl ((IntKind.wrap .i64 ((IntKind.wrap .i64 (b1.toNat:Int))-192)),2,128,()))) (
 cond (decide ((IntKind.wrap .i64 (b1.toNat:Int))≥224)) (cond (decide ((IntKind.wrap .i64 (b1.toNat:Int))<240)) (
 some (.inl ((IntKind.wrap .i64 ((IntKind.wrap .i64 (b1.toNat:Int))-224)),3,2048,()))) (
 cond (decide ((IntKind.wrap .i64 (b1.toNat:Int))≥240)) (cond (decide ((IntKind.wrap .i64 (b1.toNat:Int))<245)) (
 some (.inl ((IntKind.wrap .i64 ((IntKind.wrap .i64 (b1.toNat:Int))-240)),4,65536,()))) (
 some (.inr (0,0,())))) (some (.inr (0,0,()))))) (cond (decide ((IntKind.wrap .i64 (b1.toNat:Int))≥240)) (cond (decide ((IntKind.wrap .i64 (b1.toNat:Int))<245)) (
 some (.inl ((IntKind.wrap .i64 ((IntKind.wrap .i64 (b1.toNat:Int))-240)),4,65536,()))) (
 some (.inr (0,0,())))) (some (.inr (0,0,()))))))):Option ((Int×Int×Int×Unit)⊕(Int×Int×Unit))).bind (aU fun v3 =>
 cond (decide ((a0.length:Int)<v3.2.1)) (
 some (0,0,())) (
(aH (ge a0 v3) (v3.1,1,()):Option ((Int×Unit)⊕(Int×Int×Unit))).bind (aU fun v7 =>
(cond (decide (v7.1<v3.2.2.1)) (some (.inr (0,0,()))) (cond (decide (v7.1>1114111)) (some (.inr (0,0,()))) (cond (decide (v7.1≥55296)) (cond (decide (v7.1≤57343)) (
 some (.inr (0,0,()))) (
 some (.inl ()))) (some (.inl ())))):Option (Unit⊕(Int×Int×Unit))).bind (aU fun v8 =>
 some (v7.1,v3.2.1,()))))))
def abv:TFn:={ ps:=(.cons .str .unit),res:=(.tup (.cons (.int .i64) tT16)),fn:=fun v=>zc9 v.1 }
def ara:TEnv:=(vZ [])
theorem aq9:runY Tryz.prog ajH arb ara axL Tryz.f216 abv.ps abv.res=abv.fn:=by kernel_rfl
theorem ajF:aA Tryz.prog G0 216 ajG:=ai (ak ⟨au,ac,ap,ac,an⟩ Tryz.func216 rfl (by kernel_rfl))
theorem aq8:TOk ajG abv:=az (E:=ajH) (ET:=ara) (EnvT.ofX (ax al) am ar aJ aq) aq9 rfl
def ak7:Env:=(eZ [(216,ajG)] [274])
def aty:Hints:=(hZ [(3,[0,4,5])] [])
def yT:PFn:=aF (runF Tryz.prog ak7 aty Tryz.f144)
def ayo:TH:={ loops:=[(3,{ keep:=[(4,(.own 0)),(5,(.int .i64))],mem:=[.row true 3 (.int .i64)] })],ro:=[] }
def nY (a0:List UInt8) (y3:(Int×List Int×Unit)):Option ((Int×List Int×Unit)⊕(List Int×Bool×Unit)) :=
 cond (decide (y3.1<(a0.length:Int))) (
(subI a0 y3.1 (a0.length:Int)).bind fun s1 =>
(zc9 s1).bind fun r2 =>
 cond (decide (r2.2.1=0)) (
 some (.inr ([],false,()))) (
(ch (y3.2.1.length+([r2.1]:List Int).length)).bind fun u3 =>
 some (.inl ((IntKind.wrap .i64 (y3.1+r2.2.1)),(y3.2.1++([r2.1]:List Int)),())))) (
 some (.inr (y3.2.1,true,())))
def zb6 (a0:List UInt8):Option (List Int×Bool×Unit) :=
 aH (nY a0) (0,[],())
def rv:TFn:={ ps:=(.cons .str .unit),res:=(.tup (.cons (.sl (.int .i64)) (.cons .bool .unit))),fn:=fun v=>zb6 v.1 }
def atx:TEnv:={ pure:=[(216,abv)],look:=[],glob:=G0T,ty:=[(3,(.int .i64))],raw:=[],fresh:=[] }
theorem atw:runY Tryz.prog ak7 aty atx ayo Tryz.f144 rv.ps rv.res=rv.fn:=by kernel_rfl
theorem pw:aA Tryz.prog G0 144 yT:=ai (ak ⟨au,(aj ajF ac),ap,ac,an⟩ Tryz.func144 rfl (by kernel_rfl))
theorem wS:TOk yT rv:=az (E:=ak7) (ET:=atx) (EnvT.ofX (ax (ah aq8 al)) am ar aJ aq) atw rfl
def ah8:Env:=(eZ [] [274])
def aoJ:Hints:=(hZ [] [])
def ah7:PFn:=aF (runF Tryz.prog ah8 aoJ Tryz.f306)
def aw5:TH:=yZ
def zdp (a0:Int):Option Bool :=
 cond (decide (a0≥32)) (cond (decide (a0<127)) (some (!decide (a0=65533))) (cond (decide (a0>159)) (some (!decide (a0=65533))) (some false))) (some false)
def aaL:TFn:={ ps:=tT16,res:=.bool,fn:=fun v=>zdp v.1 }
def aoI:TEnv:=(vZ [])
theorem aoH:runY Tryz.prog ah8 aoJ aoI aw5 Tryz.f306 aaL.ps aaL.res=aaL.fn:=by kernel_rfl
theorem ah6:aA Tryz.prog G0 306 ah7:=ai (ak ⟨au,ac,ap,ac,an⟩ Tryz.func306 rfl (by kernel_rfl))
theorem aoG:TOk ah7 aaL:=az (E:=ah8) (ET:=aoI) (EnvT.ofX (ax al) am ar aJ aq) aoH rfl
def alj:Env:=(eZ [(144,yT),(306,ah7)] [274])
def atQ:Hints:=(hZ [(3,[3,4,5])] [])
def ali:PFn:=aF (runF Tryz.prog alj atQ Tryz.f253)
def ays:TH:={ joins:=[(7,{ keep:=[],mem:=[] })],loops:=[(3,{ keep:=[(5,(.int .i64))],mem:=[] })],ro:=[] }
def rx (r1:(List Int×Bool×Unit)) (y3:(Int×Unit)):Option ((Int×Unit)⊕(Unit⊕Bool)) :=
 cond (decide (y3.1<(r1.1.length:Int))) (
(atI r1.1 y3.1).bind fun x2 =>
(zdp x2).bind fun r3 =>
 cond (!r3) (
 some (.inr (.inr false))) (
 some (.inl ((IntKind.wrap .i64 (y3.1+1)),())))) (
 some (.inr (.inl ())))
def zb2 (a0:List UInt8):Option Bool :=
(zb6 a0).bind fun r1 =>
(aH (rx r1) (0,()):Option (Unit⊕Bool)).bind (aU fun v4 =>
 cond r1.2.1 (cond (decide ((r1.1.length:Int)≥1)) (some (decide ((r1.1.length:Int)≤24))) (some false)) (some false))
def acf:TFn:={ ps:=(.cons .str .unit),res:=.bool,fn:=fun v=>zb2 v.1 }
def atP:TEnv:=(vZ [(144,rv),(306,aaL)])
theorem atO:runY Tryz.prog alj atQ atP ays Tryz.f253 acf.ps acf.res=acf.fn:=by kernel_rfl
theorem alh:aA Tryz.prog G0 253 ali:=ai (ak ⟨au,(aj pw (aj ah6 ac)),ap,ac,an⟩ Tryz.func253 rfl (by kernel_rfl))
theorem atN:TOk ali acf:=az (E:=alj) (ET:=atP) (EnvT.ofX (ax (ah wS (ah aoG al))) am ar aJ aq) atO rfl
def alq:Env:=(eZ [(253,ali)] [274])
def atY:Hints:=(hZ [(6,[0,3])] [])
def alp:PFn:=aF (runF Tryz.prog alq atY Tryz.f183)
def ayu:TH:={ loops:=[(6,{ keep:=[(3,(.int .i64))],mem:=[] })],ro:=[] }
def wT (a0:List (List UInt8)) (y6:(Int×Unit)):Option ((Int×Unit)⊕Int) :=
 cond (decide (y6.1<(a0.length:Int))) (
(atI a0 y6.1).bind fun x1 =>
(zb2 x1).bind fun r2 =>
 cond (!r2) (
 some (.inr 8)) (
 some (.inl ((IntKind.wrap .i64 (y6.1+1)),())))) (
 some (.inr 0))
def zb0 (a0:List (List UInt8)):Option Int :=
 cond (decide ((a0.length:Int)=0)) (
 some 8) (
 cond (decide ((a0.length:Int)>8)) (
 some 9) (
 aH (wT a0) (0,())))
def ach:TFn:={ ps:=tT22,res:=(.int .i64),fn:=fun v=>zb0 v.1 }
def atX:TEnv:=(vZ [(253,acf)])
theorem atW:runY Tryz.prog alq atY atX ayu Tryz.f183 ach.ps ach.res=ach.fn:=by kernel_rfl
theorem alo:aA Tryz.prog G0 183 alp:=ai (ak ⟨au,(aj alh ac),ap,ac,an⟩ Tryz.func183 rfl (by kernel_rfl))
theorem atV:TOk alp ach:=az (E:=alq) (ET:=atX) (EnvT.ofX (ax (ah atN al)) am ar aJ aq) atW rfl
def aln:Env:=(eZ [(144,yT)] [274])
def atU:Hints:=(hZ [] [])
def alm:PFn:=aF (runF Tryz.prog aln atU Tryz.f184)
def ayt:TH:={ loops:=[],ro:=[1] }
def zb1 (a0:vV3):Option Bool :=
 cond (decide (a0.1=1)) (
 cond (decide (a0.2.2.1=[])) (cond (decide (a0.2.1≥(-2147483647))) (some (decide (a0.2.1≤2147483647))) (some false)) (some false)) (
 cond (decide (a0.1=2)) (
(zb6 a0.2.2.1).bind fun r1 =>
 cond (decide (a0.2.1=0)) (cond r1.2.1 (some (decide ((a0.2.2.1.length:Int)≤64))) (some false)) (some false)) (
 cond (decide (a0.1=3)) (cond (decide (a0.2.2.1=[])) (cond (decide (a0.2.1≥0)) (some (decide (a0.2.1≤1))) (some false)) (some false)) (some false)))
def acg:TFn:={ ps:=(.cons tT15 .unit),res:=.bool,fn:=fun v=>zb1 v.1 }
def atT:TEnv:=(vZ [(144,rv)])
theorem atS:runY Tryz.prog aln atU atT ayt Tryz.f184 acg.ps acg.res=acg.fn:=by kernel_rfl
theorem alk:aA Tryz.prog G0 184 alm:=ai (ak ⟨au,(aj pw ac),ap,ac,an⟩ Tryz.func184 rfl (by kernel_rfl))
theorem atR:TOk alm acg:=az (E:=aln) (ET:=atT) (EnvT.ofX (ax (ah wS al)) am ar aJ aq) atS rfl
def aiS:Env:=(eZ [(101,ab6),(172,afb)] [274])
def apV:Hints:=(hZ [] [])
def aiR:PFn:=aF (runF Tryz.prog aiS apV Tryz.f254)
def axp:TH:={ loops:=[],ro:=[2,3] }
def zcv (a0:vV2) (a1:vV2):Option Int :=
(zbb a0.1 a1.1).bind fun r1 =>
 cond (!decide (r1=0)) (
(zbb a0.1 a1.1).bind fun r2 =>
 some r2) (
(zc0 a0.2.1 a1.2.1).bind fun r3 =>
 some r3)
def aa7:TFn:={ ps:=(.cons tT14 (.cons tT14 .unit)),res:=(.int .i64),fn:=fun v=>zcv v.1 v.2.1 }
def apU:TEnv:=(vZ [(101,uo),(172,yK)])
theorem apT:runY Tryz.prog aiS apV apU axp Tryz.f254 aa7.ps aa7.res=aa7.fn:=by kernel_rfl
theorem aiQ:aA Tryz.prog G0 254 aiR:=ai (ak ⟨au,(aj uq (aj abD ac)),ap,ac,an⟩ Tryz.func254 rfl (by kernel_rfl))
theorem apS:TOk aiR aa7:=az (E:=aiS) (ET:=apU) (EnvT.ofX (ax (ah ab5 (ah ahb al))) am ar aJ aq) apT rfl
def aiA:Env:=(eZ [(109,abr),(254,aiR)] [274])
def aps:Hints:=(hZ [(2,[0,3])] [])
def aiz:PFn:=aF (runF Tryz.prog aiA aps Tryz.f185)
def axh:TH:={ loops:=[(2,{ keep:=[(3,(.int .i64))],mem:=[] })],ro:=[] }
def wq (a0:List vV2) (y2:(Int×Unit)):Option ((Int×Unit)⊕Bool) :=
 cond (decide (y2.1<(a0.length:Int))) (
(atI a0 y2.1).bind fun x1 =>
(zcd x1.1).bind fun r2 =>
 cond (!r2) (some (.inr false)) ((atI a0 y2.1).bind fun x3 =>
 cond (decide (x3.2.1<0)) (some (.inr false)) ((atI a0 y2.1).bind fun x4 =>
 cond (decide (x4.2.1>15)) (
 some (.inr false)) (
 cond (decide (y2.1>0)) ((atI a0 (IntKind.wrap .i64 (y2.1-1))).bind fun x5 =>
(atI a0 y2.1).bind fun x6 =>
(zcv x5 x6).bind fun r7 =>
 cond (!decide (r7=(-1))) (
 some (.inr false)) (
 some (.inl ((IntKind.wrap .i64 (y2.1+1)),())))) (some (.inl ((IntKind.wrap .i64 (y2.1+1)),()))))))) (
 some (.inr true))
def zdd (a0:List vV2):Option Bool :=
 aH (wq a0) (0,())
def aaY:TFn:={ ps:=(.cons (.sl tT14) .unit),res:=.bool,fn:=fun v=>zdd v.1 }
def apr:TEnv:=(vZ [(109,uh),(254,aa7)])
theorem apq:runY Tryz.prog aiA aps apr axh Tryz.f185 aaY.ps aaY.res=aaY.fn:=by kernel_rfl
theorem aiy:aA Tryz.prog G0 185 aiz:=ai (ak ⟨au,(aj ui (aj aiQ ac)),ap,ac,an⟩ Tryz.func185 rfl (by kernel_rfl))
theorem apo:TOk aiz aaY:=az (E:=aiA) (ET:=apr) (EnvT.ofX (ax (ah abq (ah apS al))) am ar aJ aq) apq rfl
def ak5:Env:=(eZ [(183,alp),(184,alm),(185,aiz)] [274])
def ats:Hints:=(hZ [] [])
def ak4:PFn:=aF (runF Tryz.prog ak5 ats Tryz.f110)
def aym:TH:={ joins:=[(9,{ keep:=[(1,(.bx 0 0))],mem:=[.same,.gone] }),(11,{ keep:=[(1,(.bx 0 0))],mem:=[.same,.gone] }),(13,{ keep:=[(1,(.bx 0 0))],mem:=[.same,.gone] }),(15,{ keep:=[(1,(.bx 0 0))],mem:=[.same,.gone] })],loops:=[],cuts:=[(11,[(8,{ keep:=[(1,(.bx 0 0)),(55,.bool)],mem:=[.same,.gone] })])],ro:=[1],news:=[] }
def zb8 (a0:vV1):Option Int :=
 cond (decide (a0.1<1)) (some 18) (cond (decide (a0.1>5)) (
 some 18) (
(zb0 a0.2.1).bind fun r1 =>
 cond (!decide (r1=0)) (
 some r1) (
(cond (decide (a0.1=3)) (cond (!(eqV tT15 a0.2.2.1 (0,0,[],()))) (
 some (.inr 2)) (
 some (.inl ()))) (cond (decide (a0.1=5)) (cond (!(eqV tT15 a0.2.2.1 (0,0,[],()))) (
 some (.inr 2)) (
 some (.inl ()))) (some (.inl ()))):Option (Unit⊕Int)).bind (aU fun v2 =>
(cond (!decide (a0.1=3)) (cond (!decide (a0.1=5)) ((zb1 a0.2.2.1).bind fun r3 =>
 cond (!r3) (
 some (.inr 2)) (
 some (.inl ()))) (some (.inl ()))) (some (.inl ())):Option (Unit⊕Int)).bind (aU fun v4 =>
((cond (!decide (a0.1=3)) (some ((!decide (a0.2.2.2.1=0)),())) (some (false,())):Option (Bool×Unit)).bind fun v5 =>
 cond v5.1 (some (.inr 2)) (cond (decide (a0.1=3)) (cond (decide (a0.2.2.2.1=0)) (some (.inr 2)) (cond (decide (a0.2.2.2.1>2147483647)) (some (.inr 2)) (cond (decide (a0.2.2.2.1<(-2147483647))) (
 some (.inr 2)) (
 some (.inl ()))))) (some (.inl ()))):Option (Unit⊕Int)).bind (aU fun v6 =>
(cond (decide (a0.1=2)) (cond (decide ((a0.2.2.2.2.1.length:Int)>0)) (
 some (.inr 2)) (
 some (.inl ()))) (cond (decide (a0.1=3)) (cond (decide ((a0.2.2.2.2.1.length:Int)>0)) (
 some (.inr 2)) (
 some (.inl ()))) (some (.inl ()))):Option (Unit⊕Int)).bind (aU fun v7 =>
 cond (decide ((a0.2.2.2.2.1.length:Int)>256)) (
 some 7) (
(zdd a0.2.2.2.2.1).bind fun r8 =>
 cond (!r8) (
 some 2) (
 some 0)))))))))
def ab9:TFn:={ ps:=(.cons tT13 .unit),res:=(.int .i64),fn:=fun v=>zb8 v.1 }
def atr:TEnv:=(vZ [(183,ach),(184,acg),(185,aaY)])
theorem atq:runY Tryz.prog ak5 ats atr aym Tryz.f110 ab9.ps ab9.res=ab9.fn:=by kernel_rfl
theorem ak3:aA Tryz.prog G0 110 ak4:=ai (ak ⟨au,(aj alo (aj alk (aj aiy ac))),ap,ac,an⟩ Tryz.func110 rfl (by kernel_rfl))
theorem atp:TOk ak4 ab9:=az (E:=ak5) (ET:=atr) (EnvT.ofX (ax (ah atV (ah atR (ah apo al)))) am ar aJ aq) atq rfl
def aj3:Env:=(eZ [] [274])
def arJ:Hints:=(hZ [] [])
def aj2:PFn:=aF (runF Tryz.prog aj3 arJ Tryz.f111)
def axT:TH:={ loops:=[],cuts:=[(2,[(9,{ keep:=[(1,(.bx 0 0)),(3,(.bx 1 0)),(13,.bool)],mem:=[.same,.box 132 tT15] })])],ro:=[1],news:=[] }
def zc1 (a0:vV1):Option Bool :=
(cond (decide (a0.1=0)) (some ((decide ((a0.2.1.length:Int)=0)),(0,0,[],()),())) (some (false,(0,0,[],()),())):Option (Bool×vV3×Unit)).bind fun v1 =>
 cond v1.1 (cond (eqV tT15 a0.2.2.1 v1.2.1) (cond (decide (a0.2.2.2.1=0)) (some (decide ((a0.2.2.2.2.1.length:Int)=0))) (some false)) (some false)) (some false)
def abC:TFn:={ ps:=(.cons tT13 .unit),res:=.bool,fn:=fun v=>zc1 v.1 }
def arI:TEnv:=(vZ [])
theorem arH:runY Tryz.prog aj3 arJ arI axT Tryz.f111 abC.ps abC.res=abC.fn:=by kernel_rfl
theorem aj1:aA Tryz.prog G0 111 aj2:=ai (ak ⟨au,ac,ap,ac,an⟩ Tryz.func111 rfl (by kernel_rfl))
theorem arG:TOk aj2 abC:=az (E:=aj3) (ET:=arI) (EnvT.ofX (ax al) am ar aJ aq) arH rfl
def ajr:Env:=(eZ [(109,abr),(110,ak4),(111,aj2)] [274])
def aqO:Hints:=(hZ [(8,[1,3])] [])
def ajq:PFn:=aF (runF Tryz.prog ajr aqO Tryz.f42)
def axF:TH:={ loops:=[(8,{ keep:=[(1,(.bx 0 0)),(3,(.int .i64))],mem:=[.same] })],cuts:=[(1,[(9,{ keep:=[(1,(.bx 0 0)),(13,.bool)],mem:=[.same] })])],ro:=[1],news:=[] }
def rn (a0:vV5) (y8:(Int×Unit)):Option ((Int×Unit)⊕Int) :=
 cond (decide (y8.1<(a0.2.2.2.2.1.length:Int))) (
(atI a0.2.2.2.2.1 y8.1).bind fun x3 =>
(zb8 x3).bind fun r4 =>
 cond (!decide (r4=0)) (cond a0.2.2.2.1 ((atI a0.2.2.2.2.1 y8.1).bind fun x5 =>
(zc1 x5).bind fun r6 =>
 cond (!r6) (
 some (.inr r4)) (
 some (.inl ((IntKind.wrap .i64 (y8.1+1)),())))) (some (.inr r4))) (some (.inl ((IntKind.wrap .i64 (y8.1+1)),())))) (
 some (.inr 0))
def zcf (a0:vV5):Option Int :=
((zcd a0.1).bind fun r1 =>
 cond (!r1) (some (true,())) (some ((decide (a0.2.1<0)),())):Option (Bool×Unit)).bind fun v2 =>
 cond v2.1 (some 2) (cond (decide (a0.2.1>7)) (some 2) (cond (decide (a0.2.2.1<1)) (some 2) (cond (decide (a0.2.2.1>1099511627776)) (
 some 2) (
 cond (decide ((a0.2.2.2.2.1.length:Int)=0)) (
 some 11) (
 cond (decide ((a0.2.2.2.2.1.length:Int)>16)) (
 some 7) (
 aH (rn a0) (0,())))))))
def abo:TFn:={ ps:=(.cons tT17 .unit),res:=(.int .i64),fn:=fun v=>zcf v.1 }
def aqN:TEnv:=(vZ [(109,uh),(110,ab9),(111,abC)])
theorem aqM:runY Tryz.prog ajr aqO aqN axF Tryz.f42 abo.ps abo.res=abo.fn:=by kernel_rfl
theorem ajp:aA Tryz.prog G0 42 ajq:=ai (ak ⟨au,(aj ui (aj ak3 (aj aj1 ac))),ap,ac,an⟩ Tryz.func42 rfl (by kernel_rfl))
theorem aqL:TOk ajq abo:=az (E:=ajr) (ET:=aqN) (EnvT.ofX (ax (ah abq (ah atp (ah arG al)))) am ar aJ aq) aqM rfl
def ajK:Env:=(eZ [(41,ajD),(42,ajq),(152,ajx)] [274])
def arh:Hints:=(hZ [(4,[0,5])] [])
def ajJ:PFn:=aF (runF Tryz.prog ajK arh Tryz.f82)
def axM:TH:={ loops:=[(4,{ keep:=[(5,(.int .i64))],mem:=[] })],ro:=[] }
def wE (a0:List vV5) (y4:(Int×Unit)):Option ((Int×Unit)⊕Bool) :=
 cond (decide (y4.1<(a0.length:Int))) (
(atI a0 y4.1).bind fun x2 =>
(zca x2).bind fun r3 =>
 cond (!r3) (some (.inr false)) ((atI a0 y4.1).bind fun x4 =>
(zcf x4).bind fun r5 =>
 cond (!decide (r5=0)) (
 some (.inr false)) (
 some (.inl ((IntKind.wrap .i64 (y4.1+1)),()))))) (
 some (.inr true))
def zc8 (a0:List vV5) (a1:Int):Option Bool :=
 cond (decide ((a0.length:Int)>a1)) (some false) ((zcc a0).bind fun r1 =>
 cond (!r1) (
 some false) (
 aH (wE a0) (0,())))
def abw:TFn:={ ps:=(.cons (.sl tT17) tT16),res:=.bool,fn:=fun v=>zc8 v.1 v.2.1 }
def arf:TEnv:=(vZ [(41,abu),(42,abo),(152,abs)])
theorem ard:runY Tryz.prog ajK arh arf axM Tryz.f82 abw.ps abw.res=abw.fn:=by kernel_rfl
theorem ajI:aA Tryz.prog G0 82 ajJ:=ai (ak ⟨au,(aj ajC (aj ajp (aj ajw ac))),ap,ac,an⟩ Tryz.func82 rfl (by kernel_rfl))
theorem arc:TOk ajJ abw:=az (E:=ajK) (ET:=arf) (EnvT.ofX (ax (ah aq4 (ah aqL (ah aqW al)))) am ar aJ aq) ard rfl
def ail:Env:=(eZ [(109,abr)] [274])
def ao2:Hints:=(hZ [] [])
def aik:PFn:=aF (runF Tryz.prog ail ao2 Tryz.f224)
def axa:TH:={ loops:=[],ro:=[1] }
def zdk (a0:vV2):Option Bool :=
(zcd a0.1).bind fun r1 =>
 cond r1 (cond (decide (a0.2.1≥1)) (some (decide (a0.2.1≤64))) (some false)) (some false)
def aaR:TFn:={ ps:=(.cons tT14 .unit),res:=.bool,fn:=fun v=>zdk v.1 }
def ao1:TEnv:=(vZ [(109,uh)])
theorem ao0:runY Tryz.prog ail ao2 ao1 axa Tryz.f224 aaR.ps aaR.res=aaR.fn:=by kernel_rfl
theorem aij:aA Tryz.prog G0 224 aik:=ai (ak ⟨au,(aj ui ac),ap,ac,an⟩ Tryz.func224 rfl (by kernel_rfl))
theorem aoZ:TOk aik aaR:=az (E:=ail) (ET:=ao1) (EnvT.ofX (ax (ah abq al)) am ar aJ aq) ao0 rfl
def ajg:Env:=(eZ [(101,ab6),(224,aik)] [274])
def aqB:Hints:=(hZ [(2,[0,3])] [])
def ajf:PFn:=aF (runF Tryz.prog ajg aqB Tryz.f153)
def axB:TH:={ loops:=[(2,{ keep:=[(3,(.int .i64))],mem:=[] })],ro:=[] }
def wB (a0:List vV2) (y2:(Int×Unit)):Option ((Int×Unit)⊕Bool) :=
 cond (decide (y2.1<(a0.length:Int))) (
(atI a0 y2.1).bind fun x1 =>
(zdk x1).bind fun r2 =>
 cond (!r2) (some (.inr false)) (cond (decide (y2.1>0)) ((atI a0 (IntKind.wrap .i64 (y2.1-1))).bind fun x3 =>
(atI a0 y2.1).bind fun x4 =>
(zbb x3.1 x4.1).bind fun r5 =>
 cond (!decide (r5=(-1))) (
 some (.inr false)) (
 some (.inl ((IntKind.wrap .i64 (y2.1+1)),())))) (some (.inl ((IntKind.wrap .i64 (y2.1+1)),()))))) (
 some (.inr true))
def zcj (a0:List vV2):Option Bool :=
 aH (wB a0) (0,())
def abj:TFn:={ ps:=(.cons (.sl tT14) .unit),res:=.bool,fn:=fun v=>zcj v.1 }
def aqA:TEnv:=(vZ [(101,uo),(224,aaR)])
theorem aqz:runY Tryz.prog ajg aqB aqA axB Tryz.f153 abj.ps abj.res=abj.fn:=by kernel_rfl
theorem aje:aA Tryz.prog G0 153 ajf:=ai (ak ⟨au,(aj uq (aj aij ac)),ap,ac,an⟩ Tryz.func153 rfl (by kernel_rfl))
theorem aqy:TOk ajf abj:=az (E:=ajg) (ET:=aqA) (EnvT.ofX (ax (ah ab5 (ah aoZ al))) am ar aJ aq) aqz rfl
def aiV:Env:=(eZ [(153,ajf)] [274])
def apZ:Hints:=(hZ [] [])
def aiU:PFn:=aF (runF Tryz.prog aiV apZ Tryz.f83)
def axq:TH:=yZ
def zcu (a0:List vV2):Option Bool :=
 cond (decide ((a0.length:Int)≤100)) ((zcj a0).bind fun r1 =>
 some r1) (some false)
def aa8:TFn:={ ps:=(.cons (.sl tT14) .unit),res:=.bool,fn:=fun v=>zcu v.1 }
def apY:TEnv:=(vZ [(153,abj)])
theorem apX:runY Tryz.prog aiV apZ apY axq Tryz.f83 aa8.ps aa8.res=aa8.fn:=by kernel_rfl
theorem aiT:aA Tryz.prog G0 83 aiU:=ai (ak ⟨au,(aj aje ac),ap,ac,an⟩ Tryz.func83 rfl (by kernel_rfl))
theorem apW:TOk aiU aa8:=az (E:=aiV) (ET:=apY) (EnvT.ofX (ax (ah aqy al)) am ar aJ aq) apX rfl
def ai8:Env:=(eZ [(82,ajJ),(83,aiU)] [274])
def aqn:Hints:=(hZ [] [])
def ae7:PFn:=aF (runF Tryz.prog ai8 aqn Tryz.f29)
def axx:TH:=yZ
def zcn (a0:List vV5) (a1:List vV2):Option Bool :=
(zc8 a0 20).bind fun r1 =>
 cond r1 ((zcu a1).bind fun r2 =>
 some r2) (some false)
def yF:TFn:={ ps:=(.cons (.sl tT17) (.cons (.sl tT14) .unit)),res:=.bool,fn:=fun v=>zcn v.1 v.2.1 }
def aqm:TEnv:=(vZ [(82,abw),(83,aa8)])
theorem aql:runY Tryz.prog ai8 aqn aqm axx Tryz.f29 yF.ps yF.res=yF.fn:=by kernel_rfl
theorem abf:aA Tryz.prog G0 29 ae7:=ai (ak ⟨au,(aj ajI (aj aiT ac)),ap,ac,an⟩ Tryz.func29 rfl (by kernel_rfl))
theorem ag7:TOk ae7 yF:=az (E:=ai8) (ET:=aqm) (EnvT.ofX (ax (ah arc (ah apW al))) am ar aJ aq) aql rfl
def aiM:Env:=(eZ [(29,ae7)] [274])
def apN:Hints:=(hZ [(4,[0,1,5])] [])
def aiL:PFn:=aF (runF Tryz.prog aiM apN Tryz.f14)
def axn:TH:={ loops:=[(4,{ keep:=[(5,(.int .i64))],mem:=[] })],ro:=[] }
def ww (a0:List vV5) (a1:List (List vV2×Unit)) (y4:(Int×Unit)):Option ((Int×Unit)⊕Bool) :=
 cond (decide (y4.1<(a1.length:Int))) (
(atI a1 y4.1).bind fun x1 =>
(zcn a0 x1.1).bind fun r2 =>
 cond (!r2) (
 some (.inr false)) (
 some (.inl ((IntKind.wrap .i64 (y4.1+1)),())))) (
 some (.inr true))
def zcx (a0:List vV5) (a1:List (List vV2×Unit)):Option Bool :=
 cond (decide ((a1.length:Int)>6)) (
 some false) (
 aH (ww a0 a1) (0,()))
def aa5:TFn:={ ps:=(.cons (.sl tT17) (.cons (.sl (.agg (.cons (.sl tT14) .unit))) .unit)),res:=.bool,fn:=fun v=>zcx v.1 v.2.1 }
def apM:TEnv:=(vZ [(29,yF)])
theorem apL:runY Tryz.prog aiM apN apM axn Tryz.f14 aa5.ps aa5.res=aa5.fn:=by kernel_rfl
theorem aiK:aA Tryz.prog G0 14 aiL:=ai (ak ⟨au,(aj abf ac),ap,ac,an⟩ Tryz.func14 rfl (by kernel_rfl))
theorem apK:TOk aiL aa5:=az (E:=aiM) (ET:=apM) (EnvT.ofX (ax (ah ag7 al)) am ar aJ aq) apL rfl
def amM:Env:=(eZ [] [274])
def avU:Hints:=(hZ [] [])
def amL:PFn:=aF (runF Tryz.prog amM avU Tryz.f328)
def ayU:TH:=yZ
def za3 (a0:List UInt8):Option Int :=
(atI a0 0).bind fun b1 =>
(atI a0 1).bind fun b2 =>
(shlT .u64 (IntKind.wrap .u64 (b2.toNat:Int)) 8).bind fun t3 =>
(atI a0 2).bind fun b4 =>
(shlT .u64 (IntKind.wrap .u64 (b4.toNat:Int)) 16).bind fun t5 =>
(atI a0 3).bind fun b6 =>
(shlT .u64 (IntKind.wrap .u64 (b6.toNat:Int)) 24).bind fun t7 =>
(atI a0 4).bind fun b8 =>
(shlT .u64 (IntKind.wrap .u64 (b8.toNat:Int)) 32).bind fun t9 =>
(atI a0 5).bind fun b10 =>
(shlT .u64 (IntKind.wrap .u64 (b10.toNat:Int)) 40).bind fun t11 =>
(atI a0 6).bind fun b12 =>
(shlT .u64 (IntKind.wrap .u64 (b12.toNat:Int)) 48).bind fun t13 =>
(atI a0 7).bind fun b14 =>
(shlT .u64 (IntKind.wrap .u64 (b14.toNat:Int)) 56).bind fun t15 =>
 some (IntKind.wrap .u64 ((BitVec.ofInt (IntKind.bits .u64) (IntKind.wrap .u64 ((BitVec.ofInt (IntKind.bits .u64) (IntKind.wrap .u64 ((BitVec.ofInt (IntKind.bits .u64) (IntKind.wrap .u64 ((BitVec.ofInt (IntKind.bits .u64) (IntKind.wrap .u64 ((BitVec.ofInt (IntKind.bits .u64) (IntKind.wrap .u64 ((BitVec.ofInt (IntKind.bits .u64) (IntKind.wrap .u64 ((BitVec.ofInt (IntKind.bits .u64) (IntKind.wrap .u64 (b1.toNat:Int)) ||| BitVec.ofInt (IntKind.bits .u64) t3).toNat)) ||| BitVec.ofInt (IntKind.bits .u64) t5).toNat)) ||| BitVec.ofInt (IntKind.bits .u64) t7).toNat)) ||| BitVec.ofInt (IntKind.bits .u64) t9).toNat)) ||| BitVec.ofInt (IntKind.bits .u64) t11).toNat)) ||| BitVec.ofInt (IntKind.bits .u64) t13).toNat)) ||| BitVec.ofInt (IntKind.bits .u64) t15).toNat))
def acD:TFn:={ ps:=(.cons .str .unit),res:=(.int .u64),fn:=fun v=>za3 v.1 }
def avT:TEnv:=(vZ [])
theorem avS:runY Tryz.prog amM avU avT ayU Tryz.f328 acD.ps acD.res=acD.fn:=by kernel_rfl
theorem amK:aA Tryz.prog G0 328 amL:=ai (ak ⟨au,ac,ap,ac,an⟩ Tryz.func328 rfl (by kernel_rfl))
theorem avR:TOk amL acD:=az (E:=amM) (ET:=avT) (EnvT.ofX (ax al) am ar aJ aq) avS rfl
def als:Env:=(eZ [(328,amL)] [274])
def at8:Hints:=(hZ [(1,[0]),(9,[0])] [])
def afq:PFn:=aF (runF Tryz.prog als at8 Tryz.f281)
def ayw:TH:={ joins:=[(11,{ keep:=[(0,.str),(3,(.int .u8))],mem:=[] })],loops:=[(1,{ keep:=[(0,.str)],mem:=[] }),(9,{ keep:=[(0,.str)],mem:=[] })],cuts:=[(21,[(10,{ keep:=[(6,(.bx 0 0)),(108,.bool)],mem:=[.box 367 (.agg (.cons (.int .u8) (.cons (.int .u8) .unit)))] })]),(25,[(10,{ keep:=[(6,(.bx 0 0)),(139,.bool)],mem:=[.box 367 (.agg (.cons (.int .u8) (.cons (.int .u8) .unit)))] }),(7,{ keep:=[(146,.bool)],mem:=[.gone] }),(5,{ keep:=[(151,.bool)],mem:=[.gone] })])],ro:=[],news:=[] }
def iR (y9:(List UInt8×Unit)):Option ((List UInt8×Unit)⊕((List UInt8×Int×Unit)⊕((List UInt8×Unit)⊕Bool))) :=
 cond (decide ((y9.1.length:Int)>32)) ((za3 y9.1).bind fun r9 =>
(subI y9.1 8 (y9.1.length:Int)).bind fun s10 =>
(za3 s10).bind fun r11 =>
(subI y9.1 16 (y9.1.length:Int)).bind fun s12 =>
(za3 s12).bind fun r13 =>
(subI y9.1 24 (y9.1.length:Int)).bind fun s14 =>
(za3 s14).bind fun r15 =>
 cond (decide ((IntKind.wrap .u64 ((BitVec.ofInt (IntKind.bits .u64) (IntKind.wrap .u64 ((BitVec.ofInt (IntKind.bits .u64) (IntKind.wrap .u64 ((BitVec.ofInt (IntKind.bits .u64) r9 ||| BitVec.ofInt (IntKind.bits .u64) r11).toNat)) ||| BitVec.ofInt (IntKind.bits .u64) (IntKind.wrap .u64 ((BitVec.ofInt (IntKind.bits .u64) r13 ||| BitVec.ofInt (IntKind.bits .u64) r15).toNat))).toNat)) &&& BitVec.ofInt (IntKind.bits .u64) 9259542123273814144).toNat))=0)) (
(subI y9.1 32 (y9.1.length:Int)).bind fun s16 =>
 some (.inl (s16,()))) (
 some (.inr (.inr (.inl (y9.1,())))))) (some (.inr (.inr (.inl (y9.1,())))))
def iS (y1:(List UInt8×Unit)):Option ((List UInt8×Unit)⊕Bool) :=
 cond (decide ((y1.1.length:Int)>0)) (
(atI y1.1 0).bind fun b1 =>
(cond (decide ((b1.toNat:Int)<128)) (
(subI y1.1 1 (y1.1.length:Int)).bind fun s2 =>
 cond (decide ((s2.length:Int)>8)) ((za3 s2).bind fun r3 =>
 cond (decide ((IntKind.wrap .u64 ((BitVec.ofInt (IntKind.bits .u64) r3 &&& BitVec.ofInt (IntKind.bits .u64) 9259542123273814144).toNat))=0)) (
(subI s2 8 (s2.length:Int)).bind fun s4 =>
 cond (decide ((s4.length:Int)>16)) ((za3 s4).bind fun r5 =>
(subI s4 8 (s4.length:Int)).bind fun s6 =>
(za3 s6).bind fun r7 =>
 cond (decide ((IntKind.wrap .u64 ((BitVec.ofInt (IntKind.bits .u64) (IntKind.wrap .u64 ((BitVec.ofInt (IntKind.bits .u64) r5 ||| BitVec.ofInt (IntKind.bits .u64) r7).toNat)) &&& BitVec.ofInt (IntKind.bits .u64) 9259542123273814144).toNat))=0)) (
(subI s4 16 (s4.length:Int)).bind fun s8 =>
 aH (iR) (s8,())) (
 some (.inr (.inl (s4,()))))) (some (.inr (.inl (s4,()))))) (
 some (.inr (.inl (s2,()))))) (some (.inr (.inl (s2,()))))) (
 some (.inl (y1.1,(b1.toNat:Int),()))):Option ((List UInt8×Int×Unit)⊕((List UInt8×Unit)⊕Bool))).bind (aU fun v17 =>
(atI gO v17.2.1).bind fun x18 =>
(shrT .u8 x18 4).bind fun t19 =>
(atI fq t19).bind fun x20 =>
 cond (decide ((IntKind.wrap .i64 (IntKind.wrap .u8 ((BitVec.ofInt (IntKind.bits .u8) x18 &&& BitVec.ofInt (IntKind.bits .u8) 7).toNat)))=2)) (
 cond (decide ((v17.1.length:Int)<2)) (some (.inr false)) ((atI v17.1 1).bind fun b21 =>
 cond (decide ((b21.toNat:Int)<x20.1)) (some (.inr false)) ((atI v17.1 1).bind fun b22 =>
 cond (decide (x20.2.1<(b22.toNat:Int))) (
 some (.inr false)) (
(subI v17.1 2 (v17.1.length:Int)).bind fun s23 =>
 some (.inl (s23,())))))) (
 cond (decide ((IntKind.wrap .i64 (IntKind.wrap .u8 ((BitVec.ofInt (IntKind.bits .u8) x18 &&& BitVec.ofInt (IntKind.bits .u8) 7).toNat)))=3)) (
(cond (decide ((v17.1.length:Int)<3)) (some (true,x20,())) ((atI v17.1 1).bind fun b24 =>
 some ((decide ((b24.toNat:Int)<x20.1)),x20,())):Option (Bool×(Int×Int×Unit)×Unit)).bind fun v25 =>
 cond v25.1 (some (.inr false)) ((atI v17.1 1).bind fun b26 =>
 cond (decide (v25.2.1.2.1<(b26.toNat:Int))) (some (.inr false)) ((atI v17.1 2).bind fun b27 =>
 cond (decide ((b27.toNat:Int)<128)) (some (.inr false)) ((atI v17.1 2).bind fun b28 =>
 cond (decide (191<(b28.toNat:Int))) (
 some (.inr false)) (
(subI v17.1 3 (v17.1.length:Int)).bind fun s29 =>
 some (.inl (s29,()))))))) (
 cond (decide ((IntKind.wrap .i64 (IntKind.wrap .u8 ((BitVec.ofInt (IntKind.bits .u8) x18 &&& BitVec.ofInt (IntKind.bits .u8) 7).toNat)))=4)) (
(cond (decide ((v17.1.length:Int)<4)) (some (true,x20,())) ((atI v17.1 1).bind fun b30 =>
 some ((decide ((b30.toNat:Int)<x20.1)),x20,())):Option (Bool×(Int×Int×Unit)×Unit)).bind fun v31 =>
(cond v31.1 (some (true,())) ((atI v17.1 1).bind fun b32 =>
 some ((decide (v31.2.1.2.1<(b32.toNat:Int))),())):Option (Bool×Unit)).bind fun v33 =>
(cond v33.1 (some (true,())) ((atI v17.1 2).bind fun b34 =>
 some ((decide ((b34.toNat:Int)<128)),())):Option (Bool×Unit)).bind fun v35 =>
 cond v35.1 (some (.inr false)) ((atI v17.1 2).bind fun b36 =>
 cond (decide (191<(b36.toNat:Int))) (some (.inr false)) ((atI v17.1 3).bind fun b37 =>
 cond (decide ((b37.toNat:Int)<128)) (some (.inr false)) ((atI v17.1 3).bind fun b38 =>
 cond (decide (191<(b38.toNat:Int))) (
 some (.inr false)) (
(subI v17.1 4 (v17.1.length:Int)).bind fun s39 =>
 some (.inl (s39,()))))))) (
 some (.inr false)))))) (
 some (.inr true))
def zay (a0:List UInt8):Option Bool :=
 aH (iS) (a0,())
def yU:TFn:={ ps:=(.cons .str .unit),res:=.bool,fn:=fun v=>zay v.1 }
def at7:TEnv:=(vZ [(328,acD)])
theorem at6:runY Tryz.prog als at8 at7 ayw Tryz.f281 yU.ps yU.res=yU.fn:=by kernel_rfl
theorem acj:aA Tryz.prog G0 281 afq:=ai (ak ⟨au,(aj amK ac),ap,ac,an⟩ Tryz.func281 rfl (by kernel_rfl))
theorem ahn:TOk afq yU:=az (E:=als) (ET:=at7) (EnvT.ofX (ax (ah avR al)) am ar aJ aq) at6 rfl
def alM:Env:=(eZ [] [274])
def auE:Hints:=(hZ [(2,[2,4])] [])
def alL:PFn:=aF (runF Tryz.prog alM auE Tryz.f282)
def ayE:TH:={ loops:=[(2,{ keep:=[(2,(.int .i64)),(4,(.it 0))],mem:=[.iter] })],ro:=[] }
def rA (a0:List UInt8) (y2:(Int×Nat×Unit)):Option ((Int×Nat×Unit)⊕Int) :=
 cond (decide (y2.2.1<a0.length)) (some (.inl ((IntKind.wrap .i64 (y2.1+1)),(y2.2.1+(Utf8.decode ⟨a0.toArray⟩ y2.2.1).2),()))) (some (.inr y2.1))
def zaq (a0:List UInt8):Option Int :=
 aH (rA a0) (0,0,())
def acr:TFn:={ ps:=(.cons .str .unit),res:=(.int .i64),fn:=fun v=>zaq v.1 }
def auD:TEnv:=(vZ [])
theorem auC:runY Tryz.prog alM auE auD ayE Tryz.f282 acr.ps acr.res=acr.fn:=by kernel_rfl
theorem alK:aA Tryz.prog G0 282 alL:=ai (ak ⟨au,ac,ap,ac,an⟩ Tryz.func282 rfl (by kernel_rfl))
theorem auB:TOk alL acr:=az (E:=alM) (ET:=auD) (EnvT.ofX (ax al) am ar aJ aq) auC rfl
def akz:Env:=(eZ [] [274])
def asB:Hints:=(hZ [] [])
def aky:PFn:=aF (runF Tryz.prog akz asB Tryz.f283)
def ax8:TH:=yZ
def zbm (a0:Int):Option Bool :=
 cond (decide (a0=42)) (some true) (cond (decide (a0=63)) (some true) (some (decide (a0=92))))
def abR:TFn:={ ps:=(.cons (.int .i32) .unit),res:=.bool,fn:=fun v=>zbm v.1 }
def asA:TEnv:=(vZ [])
theorem asz:runY Tryz.prog akz asB asA ax8 Tryz.f283 abR.ps abR.res=abR.fn:=by kernel_rfl
theorem akx:aA Tryz.prog G0 283 aky:=ai (ak ⟨au,ac,ap,ac,an⟩ Tryz.func283 rfl (by kernel_rfl))
theorem asy:TOk aky abR:=az (E:=akz) (ET:=asA) (EnvT.ofX (ax al) am ar aJ aq) asz rfl
def ai4:Env:=(eZ [(281,afq),(282,alL),(283,aky)] [274])
def aqg:Hints:=(hZ [(6,[4,5,17])] [])
def ae6:PFn:=aF (runF Tryz.prog ai4 aqg Tryz.f215)
def axv:TH:={ joins:=[(18,{ keep:=[(4,(.own 1)),(5,.bool)],mem:=[.gone,.row true 336 (.agg (.cons (.int .i64) (.cons (.int .i32) .unit)))] }),(10,{ keep:=[(4,(.own 1)),(17,(.it 0)),(25,.bool)],mem:=[.iter,.row true 336 (.agg (.cons (.int .i64) (.cons (.int .i32) .unit)))] })],loops:=[(6,{ keep:=[(4,(.own 1)),(5,.bool),(17,(.it 0))],mem:=[.iter,.row true 336 (.agg (.cons (.int .i64) (.cons (.int .i32) .unit)))] })],ro:=[] }
def fY (a0:List UInt8) (y6:(Bool×Nat×List (Int×Int×Unit)×Unit)):Option ((Bool×Nat×List (Int×Int×Unit)×Unit)⊕((Bool×List (Int×Int×Unit)×Unit)⊕(List (Int×Int×Unit)×Bool×Unit))) :=
 cond (decide (y6.2.1<a0.length)) ((cond y6.1 ((zbm ((Utf8.decode ⟨a0.toArray⟩ y6.2.1).1:Int)).bind fun r3 =>
 some (.inl ((!r3),(y6.2.1+(Utf8.decode ⟨a0.toArray⟩ y6.2.1).2),y6.2.2.1,()))) (some (.inl (false,(y6.2.1+(Utf8.decode ⟨a0.toArray⟩ y6.2.1).2),y6.2.2.1,()))):Option ((Bool×Nat×List (Int×Int×Unit)×Unit)⊕((Bool×Nat×List (Int×Int×Unit)×Unit)⊕((Bool×List (Int×Int×Unit)×Unit)⊕(List (Int×Int×Unit)×Bool×Unit))))).bind (aU fun v4 =>
 cond v4.1 (
 some (.inr (.inr ([],false,())))) (
 cond y6.1 ((ch (v4.2.2.1.length+([(0,((Utf8.decode ⟨a0.toArray⟩ y6.2.1).1:Int),())]:List (Int×Int×Unit)).length)).bind fun u5 =>
 some (.inl (false,v4.2.1,(v4.2.2.1++([(0,((Utf8.decode ⟨a0.toArray⟩ y6.2.1).1:Int),())]:List (Int×Int×Unit))),()))) ((zbm ((Utf8.decode ⟨a0.toArray⟩ y6.2.1).1:Int)).bind fun r6 =>
 cond (!r6) (
(ch (v4.2.2.1.length+([(0,((Utf8.decode ⟨a0.toArray⟩ y6.2.1).1:Int),())]:List (Int×Int×Unit)).length)).bind fun u7 =>
 some (.inl (false,v4.2.1,(v4.2.2.1++([(0,((Utf8.decode ⟨a0.toArray⟩ y6.2.1).1:Int),())]:List (Int×Int×Unit))),()))) (
 cond (decide (((Utf8.decode ⟨a0.toArray⟩ y6.2.1).1:Int)=92)) (
 some (.inl (true,v4.2.1,v4.2.2.1,()))) (
 cond (decide (((Utf8.decode ⟨a0.toArray⟩ y6.2.1).1:Int)=63)) (
(ch (v4.2.2.1.length+([(1,0,())]:List (Int×Int×Unit)).length)).bind fun u8 =>
 some (.inl (y6.1,v4.2.1,(v4.2.2.1++([(1,0,())]:List (Int×Int×Unit))),()))) (
(ch (v4.2.2.1.length+([(2,0,())]:List (Int×Int×Unit)).length)).bind fun u9 =>
 some (.inl (y6.1,v4.2.1,(v4.2.2.1++([(2,0,())]:List (Int×Int×Unit))),()))))))))) (some (.inr (.inl (y6.1,y6.2.2.1,()))))
def zcp (a0:List UInt8):Option (List (Int×Int×Unit)×Bool×Unit) :=
(zay a0).bind fun r1 =>
 cond (!r1) (some ([],false,())) ((zaq a0).bind fun r2 =>
 cond (decide (r2>64)) (
 some ([],false,())) (
(aH (fY a0) (false,0,[],()):Option ((Bool×List (Int×Int×Unit)×Unit)⊕(List (Int×Int×Unit)×Bool×Unit))).bind (aU fun v10 =>
 cond v10.1 (
 some ([],false,())) (
 some (v10.2.1,true,())))))
def yE:TFn:={ ps:=(.cons .str .unit),res:=(.tup (.cons (.sl (.agg (.cons (.int .i64) (.cons (.int .i32) .unit)))) (.cons .bool .unit))),fn:=fun v=>zcp v.1 }
def aqf:TEnv:={ pure:=[(281,yU),(282,acr),(283,abR)],look:=[],glob:=G0T,ty:=[(336,(.agg (.cons (.int .i64) (.cons (.int .i32) .unit))))],raw:=[],fresh:=[] }
theorem aqe:runY Tryz.prog ai4 aqg aqf axv Tryz.f215 yE.ps yE.res=yE.fn:=by kernel_rfl
theorem abd:aA Tryz.prog G0 215 ae6:=ai (ak ⟨au,(aj acj (aj alK (aj akx ac))),ap,ac,an⟩ Tryz.func215 rfl (by kernel_rfl))
theorem ag6:TOk ae6 yE:=az (E:=ai4) (ET:=aqf) (EnvT.ofX (ax (ah ahn (ah auB (ah asy al)))) am ar aJ aq) aqe rfl
def aix:Env:=(eZ [(215,ae6)] [274])
def apn:Hints:=(hZ [] [])
def aiw:PFn:=aF (runF Tryz.prog aix apn Tryz.f143)
def axg:TH:=yZ
def zde (a0:List UInt8):Option Bool :=
(zcp a0).bind fun r1 =>
 some r1.2.1
def aaX:TFn:={ ps:=(.cons .str .unit),res:=.bool,fn:=fun v=>zde v.1 }
def apm:TEnv:=(vZ [(215,yE)])
theorem apl:runY Tryz.prog aix apn apm axg Tryz.f143 aaX.ps aaX.res=aaX.fn:=by kernel_rfl
theorem aiv:aA Tryz.prog G0 143 aiw:=ai (ak ⟨au,(aj abd ac),ap,ac,an⟩ Tryz.func143 rfl (by kernel_rfl))
theorem apk:TOk aiw aaX:=az (E:=aix) (ET:=apm) (EnvT.ofX (ax (ah ag6 al)) am ar aJ aq) apl rfl
def akZ:Env:=(eZ [(143,aiw)] [274])
def atk:Hints:=(hZ [] [])
def akY:PFn:=aF (runF Tryz.prog akZ atk Tryz.f142)
def ayk:TH:=yZ
def zba (a0:List UInt8):Option Bool :=
 cond (decide (a0=[])) (some true) ((zde a0).bind fun r1 =>
 some (!r1))
def ab7:TFn:={ ps:=(.cons .str .unit),res:=.bool,fn:=fun v=>zba v.1 }
def atj:TEnv:=(vZ [(143,aaX)])
theorem ati:runY Tryz.prog akZ atk atj ayk Tryz.f142 ab7.ps ab7.res=ab7.fn:=by kernel_rfl
theorem akX:aA Tryz.prog G0 142 akY:=ai (ak ⟨au,(aj aiv ac),ap,ac,an⟩ Tryz.func142 rfl (by kernel_rfl))
theorem ath:TOk akY ab7:=az (E:=akZ) (ET:=atj) (EnvT.ofX (ax (ah apk al)) am ar aJ aq) ati rfl
def amb:Env:=(eZ [(142,akY)] [274])
def au5:Hints:=(hZ [(2,[0,1,7,8])] [])
def ama:PFn:=aF (runF Tryz.prog amb au5 Tryz.f214)
def ayJ:TH:={ loops:=[(2,{ keep:=[(8,(.int .i64))],mem:=[] })],ro:=[] }
def rB (a0:List (List UInt8)) (y2:(Int×Unit)):Option ((Int×Unit)⊕Int) :=
 cond (decide (y2.1<(a0.length:Int))) (
(atI a0 y2.1).bind fun x1 =>
(zba x1).bind fun r2 =>
 cond r2 (
 some (.inr y2.1)) (
 some (.inl ((IntKind.wrap .i64 (y2.1+1)),())))) (
 some (.inr (-1)))
def zah (a0:List (List UInt8)) (a1:Unit):Option Int :=
 aH (rB a0) (0,())
def acw:TFn:={ ps:=(.cons (.sl .str) (.cons (.fn 142) .unit)),res:=(.int .i64),fn:=fun v=>zah v.1 v.2.1 }
def au4:TEnv:=(vZ [(142,ab7)])
theorem au3:runY Tryz.prog amb au5 au4 ayJ Tryz.f214 acw.ps acw.res=acw.fn:=by kernel_rfl
theorem al9:aA Tryz.prog G0 214 ama:=ai (ak ⟨au,(aj akX ac),ap,ac,an⟩ Tryz.func214 rfl (by kernel_rfl))
theorem au2:TOk ama acw:=az (E:=amb) (ET:=au4) (EnvT.ofX (ax (ah ath al)) am ar aJ aq) au3 rfl
def ame:Env:=(eZ [(214,ama)] [274])
def au9:Hints:=(hZ [] [])
def amd:PFn:=aF (runF Tryz.prog ame au9 Tryz.f141)
def ayK:TH:=yZ
def zag (a0:List (List UInt8)) (a1:Unit):Option Bool :=
(zah a0 a1).bind fun r1 =>
 some (decide (r1≥0))
def acx:TFn:={ ps:=(.cons (.sl .str) (.cons (.fn 142) .unit)),res:=.bool,fn:=fun v=>zag v.1 v.2.1 }
def au8:TEnv:=(vZ [(214,acw)])
theorem au7:runY Tryz.prog ame au9 au8 ayK Tryz.f141 acx.ps acx.res=acx.fn:=by kernel_rfl
theorem amc:aA Tryz.prog G0 141 amd:=ai (ak ⟨au,(aj al9 ac),ap,ac,an⟩ Tryz.func141 rfl (by kernel_rfl))
theorem au6:TOk amd acx:=az (E:=ame) (ET:=au8) (EnvT.ofX (ax (ah au2 al)) am ar aJ aq) au7 rfl
def aj7:Env:=(eZ [(141,amd)] [274])
def arV:Hints:=(hZ [] [])
def afe:PFn:=aF (runF Tryz.prog aj7 arV Tryz.f71)
def axX:TH:=yZ
def zbx (a0:List (List UInt8)):Option Int :=
 cond (decide ((a0.length:Int)=0)) (
 some 8) (
 cond (decide ((a0.length:Int)>8)) (
 some 9) (
(zag a0 ()).bind fun r1 =>
 cond r1 (
 some 8) (
 some 0)))
def yN:TFn:={ ps:=tT22,res:=(.int .i64),fn:=fun v=>zbx v.1 }
def arU:TEnv:=(vZ [(141,acx)])
theorem arT:runY Tryz.prog aj7 arV arU axX Tryz.f71 yN.ps yN.res=yN.fn:=by kernel_rfl
theorem abG:aA Tryz.prog G0 71 afe:=ai (ak ⟨au,(aj amc ac),ap,ac,an⟩ Tryz.func71 rfl (by kernel_rfl))
theorem ahe:TOk afe yN:=az (E:=aj7) (ET:=arU) (EnvT.ofX (ax (ah au6 al)) am ar aJ aq) arT rfl
def alN:Go.Shelf.Ren:=⟨fun | 41=>72 | n=>n,fun | 22=>24 | 23=>9 | 4=>4 | n=>n,fun | n=>n⟩
theorem afu:Go.Proofs.SlLaysE0.n41 Tryz.prog alN:={
 mixed:=by kernel_rfl
 f41:=⟨Tryz.f72.name,by decide,Tryz.func72.trans (congrArg some (by kernel_rfl))⟩
 t4:=Tryz.underlying4
 a4:=Tryz.isAgg4
 z4:=Tryz.sizeOf4
 v4:=Tryz.zeroValue4
 t22:=Tryz.underlying24
 a22:=Tryz.isAgg24
 z22:=Tryz.sizeOf24
 v22:=Tryz.zeroValue24 }
def yV:PFn:=(kF 1)
theorem px:aA Tryz.prog G0 72 yV:=clone_lays afu 1 ⟨Tryz.f72,Tryz.func72,rfl,by kernel_rfl⟩ (by kernel_rfl) (by kernel_rfl) (by kernel_rfl) (by kernel_rfl) (by kernel_rfl) (by decide) (fun w=>Tryz.sizeOf9 w)
def zap (a0:List (List UInt8)):Option (List (List UInt8)):=iv a0
def acs:TFn:=fR .str
theorem wU:TOk yV acs:=nf rfl rfl rfl
def aii:Env:=(eZ [(71,afe),(72,yV)] [274])
def aoY:Hints:=(hZ [] [])
def ae0:SFn:=runF Tryz.prog aii aoY Tryz.f17
def aw9:TH:=yZ
def zdl (a0:List (List UInt8)):Option (List vV8×Int×Unit) :=
(zbx a0).bind fun r1 =>
 cond (!decide (r1=0)) (
 some ([],r1,())) (
(zap a0).bind fun r2 =>
 some ([(r2,[],0,())],0,()))
def aaQ:TNew:={ ps:=tT22,e:=139,t:=(.cons (.sl tT21) tT16),fn:=fun v=>zdl v.1,pair:=true }
def aoX:TEnv:=(vZ [(71,yN),(72,acs)])
theorem aoW:awq Tryz.prog aii aoY aoX aw9 Tryz.f17 aaQ.ps 139 tT21 tT16=aaQ.fn:=by kernel_rfl
theorem aaP:cB Tryz.prog G0 17 ae0:=ak ⟨au,(aj abG (aj px ac)),ap,ac,an⟩ Tryz.func17 rfl (by kernel_rfl)
theorem ag0:TNewOk ae0 aaQ:=agk (E:=aii) (ET:=aoX) (EnvT.ofX (ax (ah ahe (ah wU al))) am ar aJ aq) aoW
def akN:Env:=(eZ [] [274])
def as0:Hints:=(hZ [] [])
def afm:PFn:=aF (runF Tryz.prog akN as0 Tryz.f226)
def ayf:TH:=yZ
def zbf (a0:Int):Option Bool :=
 some (!decide (a0=a0))
def ab0:TFn:={ ps:=tT16,res:=.bool,fn:=fun v=>zbf v.1 }
def asZ:TEnv:=(vZ [])
theorem asY:runY Tryz.prog akN as0 asZ ayf Tryz.f226 ab0.ps ab0.res=ab0.fn:=by kernel_rfl
theorem akM:aA Tryz.prog G0 226 afm:=ai (ak ⟨au,ac,ap,ac,an⟩ Tryz.func226 rfl (by kernel_rfl))
theorem asX:TOk afm ab0:=az (E:=akN) (ET:=asZ) (EnvT.ofX (ax al) am ar aJ aq) asY rfl
def amF:Env:=(eZ [(226,afm)] [274])
def avH:Hints:=(hZ [] [])
def ut:PFn:=aF (runF Tryz.prog amF avH Tryz.f156)
def ayR:TH:=yZ
def za6 (a0:Int) (a1:Int):Option Int :=
(zbf a0).bind fun r1 =>
(zbf a1).bind fun r2 =>
 cond r1 (
 cond r2 (
 some 0) (
 some (-1))) (
 cond r2 (
 some 1) (
 cond (decide (a0<a1)) (
 some (-1)) (
 cond (decide (a0>a1)) (
 some 1) (
 some 0))))
def rC:TFn:={ ps:=(.cons (.int .i64) tT16),res:=(.int .i64),fn:=fun v=>za6 v.1 v.2.1 }
def avG:TEnv:=(vZ [(226,ab0)])
theorem avF:runY Tryz.prog amF avH avG ayR Tryz.f156 rC.ps rC.res=rC.fn:=by kernel_rfl
theorem py:aA Tryz.prog G0 156 ut:=ai (ak ⟨au,(aj akM ac),ap,ac,an⟩ Tryz.func156 rfl (by kernel_rfl))
theorem wZ:TOk ut rC:=az (E:=amF) (ET:=avG) (EnvT.ofX (ax (ah asX al)) am ar aJ aq) avF rfl
def aiu:Env:=(eZ [] [274])
def apj:Hints:=(hZ [(3,[3,6,7,8])] [])
def ud:PFn:=aF (runF Tryz.prog aiu apj Tryz.f154)
def axf:TH:={ loops:=[(3,{ keep:=[(8,(.int .i64))],mem:=[] })],ro:=[] }
def fX (a0:List Int) (y3:(Int×Unit)):Option ((Int×Unit)⊕Int) :=
 cond (decide (y3.1<(a0.length:Int))) (
(atI a0 y3.1).bind fun x1 =>
 cond (!decide (x1=0)) (
 some (.inr x1)) (
 some (.inl ((IntKind.wrap .i64 (y3.1+1)),())))) (
 some (.inr 0))
def zdf (a0:List Int):Option Int :=
 aH (fX a0) (0,())
def rg:TFn:={ ps:=(.cons (.sl (.int .i64)) .unit),res:=(.int .i64),fn:=fun v=>zdf v.1 }
def api:TEnv:=(vZ [])
theorem aph:runY Tryz.prog aiu apj api axf Tryz.f154 rg.ps rg.res=rg.fn:=by kernel_rfl
theorem po:aA Tryz.prog G0 154 ud:=ai (ak ⟨au,ac,ap,ac,an⟩ Tryz.func154 rfl (by kernel_rfl))
theorem wn:TOk ud rg:=az (E:=aiu) (ET:=api) (EnvT.ofX (ax al) am ar aJ aq) aph rfl
def alg:Env:=(eZ [(154,ud),(156,ut)] [274])
def atL:Hints:=(hZ [] [])
def alf:PFn:=aF (runF Tryz.prog alg atL Tryz.f171)
def ayr:TH:={ loops:=[],ro:=[2,3] }
def zb3 (a0:(Int×Int×Unit)) (a1:(Int×Int×Unit)):Option Int :=
(za6 a0.1 a1.1).bind fun r1 =>
(za6 a0.2.1 a1.2.1).bind fun r2 =>
(zdf ([r1,r2]:List Int)).bind fun r3 =>
 some r3
def ace:TFn:={ ps:=(.cons (.agg (.cons (.int .i64) tT16)) tT23),res:=(.int .i64),fn:=fun v=>zb3 v.1 v.2.1 }
def atK:TEnv:={ pure:=[(154,rg),(156,rC)],look:=[],glob:=G0T,ty:=[(3,(.int .i64))],raw:=[],fresh:=[] }
theorem atJ:runY Tryz.prog alg atL atK ayr Tryz.f171 ace.ps ace.res=ace.fn:=by kernel_rfl
theorem ale:aA Tryz.prog G0 171 alf:=ai (ak ⟨au,(aj po (aj py ac)),ap,ac,an⟩ Tryz.func171 rfl (by kernel_rfl))
theorem atH:TOk alf ace:=az (E:=alg) (ET:=atK) (EnvT.ofX (ax (ah wn (ah wZ al))) am ar aJ aq) atJ rfl
def akV:Env:=(eZ [(171,alf)] [274])
def atd:Hints:=(hZ [] [])
def akU:PFn:=aF (runF Tryz.prog akV atd Tryz.f242)
def ayi:TH:={ loops:=[],ro:=[2,3] }
def zbc (a0:vV2) (a1:vV2):Option Int :=
(zb3 a0.1 a1.1).bind fun r1 =>
 some r1
def ab4:TFn:={ ps:=(.cons tT14 (.cons tT14 .unit)),res:=(.int .i64),fn:=fun v=>zbc v.1 v.2.1 }
def atc:TEnv:=(vZ [(171,ace)])
theorem atb:runY Tryz.prog akV atd atc ayi Tryz.f242 ab4.ps ab4.res=ab4.fn:=by kernel_rfl
theorem akT:aA Tryz.prog G0 242 akU:=ai (ak ⟨au,(aj ale ac),ap,ac,an⟩ Tryz.func242 rfl (by kernel_rfl))
theorem ata:TOk akU ab4:=az (E:=akV) (ET:=atc) (EnvT.ofX (ax (ah atH al)) am ar aJ aq) atb rfl
def amr:Env:=(eZ [(242,akU)] [274])
def avm:Hints:=(hZ [(3,[0,2,4,8,9,10])] [])
def amq:PFn:=aF (runF Tryz.prog amr avm Tryz.f284)
def ayM:TH:={ joins:=[(8,{ keep:=[(4,(.bx 0 0)),(9,(.int .i64))],mem:=[.same] })],loops:=[(3,{ keep:=[(4,(.bx 0 0)),(9,(.int .i64)),(10,(.int .i64))],mem:=[.same] })],ro:=[4] }
def oc (a0:List vV2) (a1:vV2) (y3:(Int×Int×Unit)):Option ((Int×Int×Unit)⊕((Int×Unit)⊕(Int×Bool×Unit))) :=
 cond (decide (y3.1<y3.2.1)) (
(shrT .u64 (IntKind.wrap .u64 (IntKind.wrap .i64 (y3.1+y3.2.1))) 1).bind fun t1 =>
(atI a0 (IntKind.wrap .i64 t1)).bind fun x2 =>
(zbc x2 a1).bind fun r3 =>
 cond (decide (r3<0)) (
 some (.inl ((IntKind.wrap .i64 ((IntKind.wrap .i64 t1)+1)),y3.2.1,()))) (
 some (.inl (y3.1,(IntKind.wrap .i64 t1),())))) (
 some (.inr (.inl (y3.1,()))))
def zac (a0:List vV2) (a1:vV2) (a2:Unit):Option (Int×Bool×Unit) :=
(aH (oc a0 a1) (0,(a0.length:Int),()):Option ((Int×Unit)⊕(Int×Bool×Unit))).bind (aU fun v4 =>
 cond (decide (v4.1<(a0.length:Int))) ((atI a0 v4.1).bind fun x5 =>
(zbc x5 a1).bind fun r6 =>
 some (v4.1,(decide (r6=0)),())) (some (v4.1,false,())))
def acy:TFn:={ ps:=(.cons (.sl tT14) (.cons tT14 (.cons (.fn 242) .unit))),res:=(.tup (.cons (.int .i64) (.cons .bool .unit))),fn:=fun v=>zac v.1 v.2.1 v.2.2.1 }
def avl:TEnv:=(vZ [(242,ab4)])
theorem avk:runY Tryz.prog amr avm avl ayM Tryz.f284 acy.ps acy.res=acy.fn:=by kernel_rfl
theorem amp:aA Tryz.prog G0 284 amq:=ai (ak ⟨au,(aj akT ac),ap,ac,an⟩ Tryz.func284 rfl (by kernel_rfl))
theorem avj:TOk amq acy:=az (E:=amr) (ET:=avl) (EnvT.ofX (ax (ah ata al)) am ar aJ aq) avk rfl
def ah0:Env:=(eZ [(284,amq)] [274])
def aov:Hints:=(hZ [] [])
def ahZ:PFn:=aF (runF Tryz.prog ah0 aov Tryz.f217)
def aw1:TH:={ loops:=[],ro:=[3] }
def zdt (a0:List vV2) (a1:(Int×Int×Unit)):Option (Int×Bool×Unit) :=
(zac a0 (a1,0,()) ()).bind fun r1 =>
 some (r1.1,r1.2.1,())
def aaF:TFn:={ ps:=(.cons (.sl tT14) tT23),res:=(.tup (.cons (.int .i64) (.cons .bool .unit))),fn:=fun v=>zdt v.1 v.2.1 }
def aou:TEnv:=(vZ [(284,acy)])
theorem aot:runY Tryz.prog ah0 aov aou aw1 Tryz.f217 aaF.ps aaF.res=aaF.fn:=by kernel_rfl
theorem ahY:aA Tryz.prog G0 217 ahZ:=ai (ak ⟨au,(aj amp ac),ap,ac,an⟩ Tryz.func217 rfl (by kernel_rfl))
theorem aos:TOk ahZ aaF:=az (E:=ah0) (ET:=aou) (EnvT.ofX (ax (ah avj al)) am ar aJ aq) aot rfl
def aip:Env:=(eZ [(217,ahZ)] [274])
def ao9:Hints:=(hZ [] [])
def aio:PFn:=aF (runF Tryz.prog aip ao9 Tryz.f145)
def axc:TH:={ loops:=[],ro:=[3] }
def zdi (a0:List vV2) (a1:(Int×Int×Unit)):Option Int :=
(zdt a0 a1).bind fun r1 =>
 cond r1.2.1 (
(atI a0 r1.1).bind fun x2 =>
 some x2.2.1) (
 some 0)
def aaT:TFn:={ ps:=(.cons (.sl tT14) tT23),res:=(.int .i64),fn:=fun v=>zdi v.1 v.2.1 }
def ao8:TEnv:=(vZ [(217,aaF)])
theorem ao7:runY Tryz.prog aip ao9 ao8 axc Tryz.f145 aaT.ps aaT.res=aaT.fn:=by kernel_rfl
theorem ain:aA Tryz.prog G0 145 aio:=ai (ak ⟨au,(aj ahY ac),ap,ac,an⟩ Tryz.func145 rfl (by kernel_rfl))
theorem ao6:TOk aio aaT:=az (E:=aip) (ET:=ao8) (EnvT.ofX (ax (ah aos al)) am ar aJ aq) ao7 rfl
def aiJ:Env:=(eZ [(145,aio)] [274])
def apJ:Hints:=(hZ [] [])
def ae3:PFn:=aF (runF Tryz.prog aiJ apJ Tryz.f75)
def axm:TH:={ loops:=[],ro:=[3] }
def zcy (a0:List vV2) (a1:(Int×Int×Unit)):Option Bool :=
(zdi a0 a1).bind fun r1 =>
(remT r1 2).bind fun t2 =>
 some (decide (t2=0))
def yB:TFn:={ ps:=(.cons (.sl tT14) tT23),res:=.bool,fn:=fun v=>zcy v.1 v.2.1 }
def apI:TEnv:=(vZ [(145,aaT)])
theorem apH:runY Tryz.prog aiJ apJ apI axm Tryz.f75 yB.ps yB.res=yB.fn:=by kernel_rfl
theorem aa4:aA Tryz.prog G0 75 ae3:=ai (ak ⟨au,(aj ain ac),ap,ac,an⟩ Tryz.func75 rfl (by kernel_rfl))
theorem ag3:TOk ae3 yB:=az (E:=aiJ) (ET:=apI) (EnvT.ofX (ax (ah ao6 al)) am ar aJ aq) apH rfl
def aka:Env:=(eZ [(75,ae3)] [274])
def arZ:Hints:=(hZ [(3,[1,5,13,14,15]),(7,[1,5,13,14,15,25,26,27]),(10,[1,5,13,14,15,25,26,27,32,33,34])] [])
def aj9:SFn:=runF Tryz.prog aka arZ Tryz.f74
def axY:TH:={ loops:=[(3,{ keep:=[(5,(.mp 0)),(15,(.int .i64))],mem:=[.map tT14 .bool] }),(7,{ keep:=[(5,(.mp 0)),(27,(.int .i64))],mem:=[.map tT14 .bool,.gone] }),(10,{ keep:=[(5,(.mp 0)),(34,(.int .i64))],mem:=[.map tT14 .bool,.gone,.gone] })],ro:=[] }
def pr (y7:vV11) (x3:vV1) (y10:vV11):Option (vV11⊕(vV11⊕(vV11⊕(List (vV2×Bool))))) :=
 cond (decide (y10.1<(x3.2.2.2.2.1.length:Int))) (
(atI x3.2.2.2.2.1 y10.1).bind fun x4 =>
 some (.inl ((IntKind.wrap .i64 (y10.1+1)),(putK tT14 x4 true y10.2.1),()))) (
 some (.inr (.inl ((IntKind.wrap .i64 (y7.1+1)),y10.2.1,()))))
def wK (y3:vV11) (x1:vV5) (y7:vV11):Option (vV11⊕(vV11⊕(List (vV2×Bool)))) :=
 cond (decide (y7.1<(x1.2.2.2.2.1.length:Int))) (
(atI x1.2.2.2.2.1 y7.1).bind fun x3 =>
 aH (pr y7 x3) (0,y7.2.1,())) (
 some (.inr (.inl ((IntKind.wrap .i64 (y3.1+1)),y7.2.1,()))))
def wL (a0:List vV5) (a1:List vV2) (y3:vV11):Option (vV11⊕(List (vV2×Bool))) :=
 cond (decide (y3.1<(a0.length:Int))) (
(atI a0 y3.1).bind fun x1 =>
(zcy a1 x1.1).bind fun r2 =>
 cond (!r2) (
 some (.inl ((IntKind.wrap .i64 (y3.1+1)),y3.2.1,()))) (
 aH (wK y3 x1) (0,y3.2.1,()))) (
 some (.inr y3.2.1))
def zbw (a0:List vV5) (a1:List vV2):Option (List (vV2×Bool)) :=
 aH (wL a0 a1) (0,[],())
def aff:TNew:={ ps:=(.cons (.sl tT17) (.cons (.sl tT14) .unit)),e:=143,t:=(.sl (.cons tT14 .bool)),fn:=fun v=>zbw v.1 v.2.1,mp:=true }
def arY:TEnv:={ pure:=[(75,yB)],look:=[],glob:=G0T,ty:=[(4,.bool),(146,tT14)],raw:=[],fresh:=[] }
theorem arX:awr Tryz.prog aka arZ arY axY Tryz.f74 aff.ps tT14 .bool=aff.fn:=by kernel_rfl
theorem aj8:cB Tryz.prog G0 74 aj9:=ak ⟨au,(aj aa4 ac),ap,ac,an⟩ Tryz.func74 rfl (by kernel_rfl)
theorem arW:TNewOk aj9 aff:=agl (E:=aka) (ET:=arY) (EnvT.ofX (ax (ah ag3 al)) am ar aJ aq) arX
def ah2:Env:={ pure:=[(75,ae3)],raw:=[(74,aj9)],glob:=G0,same:=[274],look:=[],ext:=[] }
def aoB:Hints:=(hZ [(4,[1,5,6,15,16,17]),(8,[1,5,6,8,15,16,17,27,28,29])] [])
def aaJ:PFn:=aF (runF Tryz.prog ah2 aoB Tryz.f19)
def aw3:TH:={ loops:=[(4,{ keep:=[(5,(.mp 0)),(6,(.own 4)),(17,(.int .i64))],mem:=[.map tT14 .bool,.gone,.gone,.gone,.row true 148 tT19] }),(8,{ keep:=[(5,(.mp 0)),(6,(.own 4)),(8,(.bx 5 0)),(29,(.int .i64))],mem:=[.map tT14 .bool,.gone,.gone,.gone,.row true 148 tT19,.box 78 tT17] })],ro:=[] }
def wj (y4:(Int×List (vV2×Bool)×List vV6×Unit)) (x2:vV5) (y8:(Int×List (vV2×Bool)×List vV6×vV5×Unit)):Option ((Int×List (vV2×Bool)×List vV6×vV5×Unit)⊕((Int×List (vV2×Bool)×List vV6×Unit)⊕List vV6)) :=
 cond (decide (y8.1<(x2.2.2.2.2.1.length:Int))) (
(atI x2.2.2.2.2.1 y8.1).bind fun x4 =>
 cond (decide (x4.1=1)) (cond (!((getK tT14 false (y8.2.2.2.1.1,y8.1,()) y8.2.1).1)) (
(ch (y8.2.2.1.length+([((y8.2.2.2.1.1,y8.1,()),x4,y8.2.2.2.1.2.2.1,())]:List vV6).length)).bind fun u5 =>
 some (.inl ((IntKind.wrap .i64 (y8.1+1)),y8.2.1,(y8.2.2.1++([((y8.2.2.2.1.1,y8.1,()),x4,y8.2.2.2.1.2.2.1,())]:List vV6)),y8.2.2.2.1,()))) (
 some (.inl ((IntKind.wrap .i64 (y8.1+1)),y8.2.1,y8.2.2.1,y8.2.2.2.1,())))) (cond (decide (x4.1=2)) (cond (!((getK tT14 false (y8.2.2.2.1.1,y8.1,()) y8.2.1).1)) (
(ch (y8.2.2.1.length+([((y8.2.2.2.1.1,y8.1,()),x4,y8.2.2.2.1.2.2.1,())]:List vV6).length)).bind fun u6 =>
 some (.inl ((IntKind.wrap .i64 (y8.1+1)),y8.2.1,(y8.2.2.1++([((y8.2.2.2.1.1,y8.1,()),x4,y8.2.2.2.1.2.2.1,())]:List vV6)),y8.2.2.2.1,()))) (
 some (.inl ((IntKind.wrap .i64 (y8.1+1)),y8.2.1,y8.2.2.1,y8.2.2.2.1,())))) (cond (decide (x4.1=3)) (cond (!((getK tT14 false (y8.2.2.2.1.1,y8.1,()) y8.2.1).1)) (
(ch (y8.2.2.1.length+([((y8.2.2.2.1.1,y8.1,()),x4,y8.2.2.2.1.2.2.1,())]:List vV6).length)).bind fun u7 =>
 some (.inl ((IntKind.wrap .i64 (y8.1+1)),y8.2.1,(y8.2.2.1++([((y8.2.2.2.1.1,y8.1,()),x4,y8.2.2.2.1.2.2.1,())]:List vV6)),y8.2.2.2.1,()))) (
 some (.inl ((IntKind.wrap .i64 (y8.1+1)),y8.2.1,y8.2.2.1,y8.2.2.2.1,())))) (some (.inl ((IntKind.wrap .i64 (y8.1+1)),y8.2.1,y8.2.2.1,y8.2.2.2.1,())))))) (
 some (.inr (.inl ((IntKind.wrap .i64 (y4.1+1)),y8.2.1,y8.2.2.1,()))))
def wk (a0:List vV5) (a1:List vV2) (y4:(Int×List (vV2×Bool)×List vV6×Unit)):Option ((Int×List (vV2×Bool)×List vV6×Unit)⊕List vV6) :=
 cond (decide (y4.1<(a0.length:Int))) (
(atI a0 y4.1).bind fun x2 =>
(zcy a1 x2.1).bind fun r3 =>
 cond (!r3) (
 some (.inl ((IntKind.wrap .i64 (y4.1+1)),y4.2.1,y4.2.2.1,()))) (
 aH (wj y4 x2) (0,y4.2.1,y4.2.2.1,x2,()))) (
 some (.inr y4.2.2.1))
def zdr (a0:List vV5) (a1:List vV2):Option (List vV6) :=
(zbw a0 a1).bind fun n1 =>
 aH (wk a0 a1) (0,n1,[],())
def tX:TFn:={ ps:=(.cons (.sl tT17) (.cons (.sl tT14) .unit)),res:=(.sl tT19),fn:=fun v=>zdr v.1 v.2.1 }
def aoA:TEnv:={ pure:=[(75,yB)],look:=[],glob:=G0T,ty:=[(148,tT19)],raw:=[],fresh:=[(74,aff)] }
theorem aoz:runY Tryz.prog ah2 aoB aoA aw3 Tryz.f19 tX.ps tX.res=tX.fn:=by kernel_rfl
theorem tY:aA Tryz.prog G0 19 aaJ:=ai (ak ⟨au,(aj aa4 ac),(bN aj8 ap),ac,an⟩ Tryz.func19 rfl (by kernel_rfl))
theorem aaI:TOk aaJ tX:=az (E:=ah2) (ET:=aoA) (EnvT.ofX (ax (ah ag3 al)) am (mh ar rfl) aJ (mD arW rfl rfl rfl aq)) aoz rfl
def ahR:Env:=(eZ [] [274])
def aoi:Hints:=(hZ [] [])
def aeZ:PFn:=aF (runF Tryz.prog ahR aoi Tryz.f124)
def awY:TH:={ joins:=[(6,{ keep:=[(6,.bool)],mem:=[] })],loops:=[],ro:=[] }
def zdw (a0:Int):Option Int :=
 cond (decide (a0=1)) (
 some 1) (
(cond (decide (a0=2)) (
 some (.inl ((decide (a0=2)),()))) (
 some (.inl ((decide (a0=4)),()))):Option ((Bool×Unit)⊕Int)).bind (aU fun v1 =>
 cond v1.1 (
 some 2) (
 cond (decide (a0=3)) (
 some 3) (
 some 0))))
def yy:TFn:={ ps:=tT16,res:=(.int .i64),fn:=fun v=>zdw v.1 }
def aoh:TEnv:=(vZ [])
theorem aog:runY Tryz.prog ahR aoi aoh awY Tryz.f124 yy.ps yy.res=yy.fn:=by kernel_rfl
theorem aaC:aA Tryz.prog G0 124 aeZ:=ai (ak ⟨au,ac,ap,ac,an⟩ Tryz.func124 rfl (by kernel_rfl))
theorem agZ:TOk aeZ yy:=az (E:=ahR) (ET:=aoh) (EnvT.ofX (ax al) am ar aJ aq) aog rfl
def amO:Env:=(eZ [] [274])
def avY:Hints:=(hZ [] [])
def afG:PFn:=aF (runF Tryz.prog amO avY Tryz.f330)
def ayV:TH:=yZ
def za2 (a0:List UInt8):Option Bool :=
 some (!decide (a0=a0))
def acE:TFn:={ ps:=(.cons .str .unit),res:=.bool,fn:=fun v=>za2 v.1 }
def avX:TEnv:=(vZ [])
theorem avW:runY Tryz.prog amO avY avX ayV Tryz.f330 acE.ps acE.res=acE.fn:=by kernel_rfl
theorem amN:aA Tryz.prog G0 330 afG:=ai (ak ⟨au,ac,ap,ac,an⟩ Tryz.func330 rfl (by kernel_rfl))
theorem avV:TOk afG acE:=az (E:=amO) (ET:=avX) (EnvT.ofX (ax al) am ar aJ aq) avW rfl
def alx:Env:=(eZ [(330,afG)] [274])
def auj:Hints:=(hZ [] [])
def aft:PFn:=aF (runF Tryz.prog alx auj Tryz.f287)
def ayz:TH:=yZ
def zav (a0:List UInt8) (a1:List UInt8):Option Int :=
(za2 a0).bind fun r1 =>
(za2 a1).bind fun r2 =>
 cond r1 (
 cond r2 (
 some 0) (
 some (-1))) (
 cond r2 (
 some 1) (
 cond (Op.bytesLess a0 a1) (
 some (-1)) (
 cond (!(Op.bytesLess a0 a1||decide (a0=a1))) (
 some 1) (
 some 0))))
def acm:TFn:={ ps:=(.cons .str (.cons .str .unit)),res:=(.int .i64),fn:=fun v=>zav v.1 v.2.1 }
def aui:TEnv:=(vZ [(330,acE)])
theorem auh:runY Tryz.prog alx auj aui ayz Tryz.f287 acm.ps acm.res=acm.fn:=by kernel_rfl
theorem alw:aA Tryz.prog G0 287 aft:=ai (ak ⟨au,(aj amN ac),ap,ac,an⟩ Tryz.func287 rfl (by kernel_rfl))
theorem aug:TOk aft acm:=az (E:=alx) (ET:=aui) (EnvT.ofX (ax (ah avV al)) am ar aJ aq) auh rfl
def alS:Env:=(eZ [(287,aft)] [274])
def auM:Hints:=(hZ [(2,[0,1,9,10,11])] [])
def afw:PFn:=aF (runF Tryz.prog alS auM Tryz.f225)
def ayG:TH:={ joins:=[(11,{ keep:=[],mem:=[] })],loops:=[(2,{ keep:=[(11,(.int .i64))],mem:=[] })],ro:=[] }
def iT (a0:List (List UInt8)) (a1:List (List UInt8)) (y2:(Int×Unit)):Option ((Int×Unit)⊕(Unit⊕Int)) :=
 cond (decide (y2.1<(a0.length:Int))) (
(atI a0 y2.1).bind fun x1 =>
 cond (decide (y2.1≥(a1.length:Int))) (
 some (.inr (.inr 1))) (
(atI a1 y2.1).bind fun x2 =>
(zav x1 x2).bind fun r3 =>
 cond (!decide (r3=0)) (
 some (.inr (.inr r3))) (
 some (.inl ((IntKind.wrap .i64 (y2.1+1)),()))))) (
 some (.inr (.inl ())))
def zan (a0:List (List UInt8)) (a1:List (List UInt8)):Option Int :=
(aH (iT a0 a1) (0,()):Option (Unit⊕Int)).bind (aU fun v4 =>
 cond (decide ((a0.length:Int)<(a1.length:Int))) (
 some (-1)) (
 some 0))
def acu:TFn:={ ps:=(.cons (.sl .str) tT22),res:=(.int .i64),fn:=fun v=>zan v.1 v.2.1 }
def auL:TEnv:=(vZ [(287,acm)])
theorem auK:runY Tryz.prog alS auM auL ayG Tryz.f225 acu.ps acu.res=acu.fn:=by kernel_rfl
theorem alR:aA Tryz.prog G0 225 afw:=ai (ak ⟨au,(aj alw ac),ap,ac,an⟩ Tryz.func225 rfl (by kernel_rfl))
theorem auJ:TOk afw acu:=az (E:=alS) (ET:=auL) (EnvT.ofX (ax (ah aug al)) am ar aJ aq) auK rfl
def akD:Env:=(eZ [(225,afw)] [274])
def asI:Hints:=(hZ [] [])
def abU:PFn:=aF (runF Tryz.prog akD asI Tryz.f155)
def aya:TH:=yZ
def zbk (a0:List (List UInt8)) (a1:List (List UInt8)):Option Int :=
(zan a0 a1).bind fun r1 =>
 some r1
def yQ:TFn:={ ps:=(.cons (.sl .str) tT22),res:=(.int .i64),fn:=fun v=>zbk v.1 v.2.1 }
def asH:TEnv:=(vZ [(225,acu)])
theorem asG:runY Tryz.prog akD asI asH aya Tryz.f155 yQ.ps yQ.res=yQ.fn:=by kernel_rfl
theorem abT:aA Tryz.prog G0 155 abU:=ai (ak ⟨au,(aj alR ac),ap,ac,an⟩ Tryz.func155 rfl (by kernel_rfl))
theorem ahi:TOk abU yQ:=az (E:=akD) (ET:=asH) (EnvT.ofX (ax (ah auJ al)) am ar aJ aq) asG rfl
def akj:Env:=(eZ [(154,ud),(155,abU),(156,ut)] [274])
def asd:Hints:=(hZ [] [])
def abL:PFn:=aF (runF Tryz.prog akj asd Tryz.f126)
def ax2:TH:={ loops:=[],ro:=[2,3] }
def zbs (a0:vV4) (a1:vV4):Option Int :=
(zbk a0.1 a1.1).bind fun r1 =>
(za6 a0.2.1 a1.2.1).bind fun r2 =>
(zdf ([r1,r2]:List Int)).bind fun r3 =>
 some r3
def abK:TFn:={ ps:=(.cons tT20 (.cons tT20 .unit)),res:=(.int .i64),fn:=fun v=>zbs v.1 v.2.1 }
def asc:TEnv:={ pure:=[(154,rg),(155,yQ),(156,rC)],look:=[],glob:=G0T,ty:=[(3,(.int .i64))],raw:=[],fresh:=[] }
theorem asb:runY Tryz.prog akj asd asc ax2 Tryz.f126 abK.ps abK.res=abK.fn:=by kernel_rfl
theorem aki:aA Tryz.prog G0 126 abL:=ai (ak ⟨au,(aj po (aj abT (aj py ac))),ap,ac,an⟩ Tryz.func126 rfl (by kernel_rfl))
theorem ahg:TOk abL abK:=az (E:=akj) (ET:=asc) (EnvT.ofX (ax (ah wn (ah ahi (ah wZ al)))) am ar aJ aq) asb rfl
theorem afl : @aA ⟨True⟩ Tryz.prog G0 226 afm:=by
 letI:Drawn:=⟨True⟩
 exact ai (ak ⟨au,ac,ap,ac,an⟩ Tryz.func226 rfl (by kernel_rfl))
theorem w7 : @aA ⟨True⟩ Tryz.prog G0 156 ut:=by
 letI:Drawn:=⟨True⟩
 exact ai (ak ⟨au,(aj afl ac),ap,ac,an⟩ Tryz.func156 rfl (by kernel_rfl))
theorem wo : @aA ⟨True⟩ Tryz.prog G0 154 ud:=by
 letI:Drawn:=⟨True⟩
 exact ai (ak ⟨au,ac,ap,ac,an⟩ Tryz.func154 rfl (by kernel_rfl))
theorem afF : @aA ⟨True⟩ Tryz.prog G0 330 afG:=by
 letI:Drawn:=⟨True⟩
 exact ai (ak ⟨au,ac,ap,ac,an⟩ Tryz.func330 rfl (by kernel_rfl))
theorem afs : @aA ⟨True⟩ Tryz.prog G0 287 aft:=by
 letI:Drawn:=⟨True⟩
 exact ai (ak ⟨au,(aj afF ac),ap,ac,an⟩ Tryz.func287 rfl (by kernel_rfl))
theorem afv : @aA ⟨True⟩ Tryz.prog G0 225 afw:=by
 letI:Drawn:=⟨True⟩
 exact ai (ak ⟨au,(aj afs ac),ap,ac,an⟩ Tryz.func225 rfl (by kernel_rfl))
theorem afj : @aA ⟨True⟩ Tryz.prog G0 155 abU:=by
 letI:Drawn:=⟨True⟩
 exact ai (ak ⟨au,(aj afv ac),ap,ac,an⟩ Tryz.func155 rfl (by kernel_rfl))
theorem afh : @aA ⟨True⟩ Tryz.prog G0 126 abL:=by
 letI:Drawn:=⟨True⟩
 exact ai (ak ⟨au,(aj wo (aj afj (aj w7 ac))),ap,ac,an⟩ Tryz.func126 rfl (by kernel_rfl))
def amf:Go.Shelf.Ren:=⟨fun | 6=>125 | 14=>200 | 15=>201 | 20=>260 | 21=>261 | 22=>262 | 23=>263 | 24=>264 | 25=>265 | 26=>266 | 27=>267 | 28=>268 | 29=>269 | 46=>315 | 47=>316 | 48=>317 | 49=>318 | 50=>319 | 57=>351 | n=>n,fun | 0=>0 | 3=>3 | 4=>4 | 5=>5 | 9=>9 | 22=>104 | 24=>109 | 25=>199 | 39=>230 | 45=>314 | 46=>315 | 50=>161 | 53=>321 | 55=>323 | 66=>354 | 70=>358 | 76=>378 | 77=>283 | n=>n,fun | n=>n⟩
theorem afA:Go.Proofs.SlLaysF0.n6 Tryz.prog amf:={
 mixed:=by kernel_rfl
 f6:=⟨Tryz.f125.name,by decide,Tryz.func125.trans (congrArg some (by kernel_rfl))⟩
 f14:=⟨Tryz.f200.name,by decide,Tryz.func200.trans (congrArg some (by kernel_rfl))⟩
 f15:=Tryz.func201.trans (congrArg some (by kernel_rfl))
 f20:=⟨Tryz.f260.name,by decide,Tryz.func260.trans (congrArg some (by kernel_rfl))⟩
 f21:=⟨Tryz.f261.name,by decide,Tryz.func261.trans (congrArg some (by kernel_rfl))⟩
 f22:=⟨Tryz.f262.name,by decide,Tryz.func262.trans (congrArg some (by kernel_rfl))⟩
 f23:=⟨Tryz.f263.name,by decide,Tryz.func263.trans (congrArg some (by kernel_rfl))⟩
 f24:=⟨Tryz.f264.name,by decide,Tryz.func264.trans (congrArg some (by kernel_rfl))⟩
 f25:=⟨Tryz.f265.name,by decide,Tryz.func265.trans (congrArg some (by kernel_rfl))⟩
 f26:=⟨Tryz.f266.name,by decide,Tryz.func266.trans (congrArg some (by kernel_rfl))⟩
 f27:=⟨Tryz.f267.name,by decide,Tryz.func267.trans (congrArg some (by kernel_rfl))⟩
 f28:=Tryz.func268.trans (congrArg some (by kernel_rfl))
 f29:=Tryz.func269.trans (congrArg some (by kernel_rfl))
 f46:=⟨Tryz.f315.name,by decide,Tryz.func315.trans (congrArg some (by kernel_rfl))⟩
 f47:=Tryz.func316.trans (congrArg some (by kernel_rfl))
 f48:=Tryz.func317.trans (congrArg some (by kernel_rfl))
 f49:=⟨Tryz.f318.name,by decide,Tryz.func318.trans (congrArg some (by kernel_rfl))⟩
 f50:=⟨Tryz.f319.name,by decide,Tryz.func319.trans (congrArg some (by kernel_rfl))⟩
 f57:=⟨Tryz.f351.name,by decide,Tryz.func351.trans (congrArg some (by kernel_rfl))⟩
 t0:=Tryz.underlying0
 a0:=Tryz.isAgg0
 z0:=Tryz.sizeOf0
 v0:=Tryz.zeroValue0
 t3:=Tryz.underlying3
 a3:=Tryz.isAgg3
 z3:=Tryz.sizeOf3
 v3:=Tryz.zeroValue3
 t4:=Tryz.underlying4
 a4:=Tryz.isAgg4
 z4:=Tryz.sizeOf4
 v4:=Tryz.zeroValue4
 t5:=Tryz.underlying5
 a5:=Tryz.isAgg5
 z5:=Tryz.sizeOf5
 v5:=Tryz.zeroValue5
 t9:=Tryz.underlying9
 a9:=Tryz.isAgg9
 z9:=Tryz.sizeOf9
 v9:=Tryz.zeroValue9
 t22:=Tryz.underlying104
 a22:=Tryz.isAgg104
 z22:=Tryz.sizeOf104
 v22:=Tryz.zeroValue104
 t25:=Tryz.underlying199
 a25:=Tryz.isAgg199
 z25:=Tryz.sizeOf199
 v25:=Tryz.zeroValue199
 t39:=Tryz.underlying230
 a39:=Tryz.isAgg230
 z39:=Tryz.sizeOf230
 v39:=Tryz.zeroValue230
 t45:=Tryz.underlying314
 a45:=Tryz.isAgg314
 z45:=Tryz.sizeOf314
 v45:=Tryz.zeroValue314
 t46:=Tryz.underlying315
 a46:=Tryz.isAgg315
 z46:=Tryz.sizeOf315
 v46:=Tryz.zeroValue315
 t50:=Tryz.underlying161
 a50:=Tryz.isAgg161
 z50:=Tryz.sizeOf161
 v50:=Tryz.zeroValue161
 t53:=Tryz.underlying321
 a53:=Tryz.isAgg321
 z53:=Tryz.sizeOf321
 v53:=Tryz.zeroValue321
 t55:=Tryz.underlying323
 a55:=Tryz.isAgg323
 z55:=Tryz.sizeOf323
 v55:=Tryz.zeroValue323
 t66:=Tryz.underlying354
 a66:=Tryz.isAgg354
 z66:=Tryz.sizeOf354
 v66:=Tryz.zeroValue354
 t70:=Tryz.underlying358
 a70:=Tryz.isAgg358
 z70:=Tryz.sizeOf358
 v70:=Tryz.zeroValue358
 t76:=Tryz.underlying378
 a76:=Tryz.isAgg378
 z76:=Tryz.sizeOf378
 v76:=Tryz.zeroValue378
 t77:=Tryz.underlying283
 a77:=Tryz.isAgg283
 z77:=Tryz.sizeOf283
 v77:=Tryz.zeroValue283 }
def amh:SFn:=pH abL 126 2 109
theorem amg:cB Tryz.prog G0 125 amh:=lN (M:=2) (g:=126) afA (by decide) (fun w=>Tryz.isAgg109 w) (fun w=>Tryz.sizeOf109 w) afh ⟨Tryz.f125,Tryz.func125,rfl,by kernel_rfl⟩
def zaf (w0:List vV4):Option (Unit×List vV4×Unit):=(nF (fun x y=>zbs x y) w0).map fun l=>((),(l,()))
def avb:TRaw:=acP false 126 109 tT20 (fun x y=>zbs x y)
theorem ava:TRawOk amh avb:=xc rfl rfl rfl rfl ahg
def akG:Env:=(eZ [(126,abL)] [274])
def asM:Hints:=(hZ [] [])
def akF:PFn:=aF (runF Tryz.prog akG asM Tryz.f128)
def ayb:TH:={ loops:=[],ro:=[2,3] }
def zbj (a0:vV4) (a1:vV4):Option Bool :=
(zbs a0 a1).bind fun r1 =>
 some (decide (r1=0))
def abV:TFn:={ ps:=(.cons tT20 (.cons tT20 .unit)),res:=.bool,fn:=fun v=>zbj v.1 v.2.1 }
def asL:TEnv:=(vZ [(126,abK)])
theorem asK:runY Tryz.prog akG asM asL ayb Tryz.f128 abV.ps abV.res=abV.fn:=by kernel_rfl
theorem akE:aA Tryz.prog G0 128 akF:=ai (ak ⟨au,(aj aki ac),ap,ac,an⟩ Tryz.func128 rfl (by kernel_rfl))
theorem asJ:TOk akF abV:=az (E:=akG) (ET:=asL) (EnvT.ofX (ax (ah ahg al)) am ar aJ aq) asK rfl
def amo:Env:=(eZ [(128,akF)] [274])
def avi:Hints:=(hZ [(4,[0,1,5]),(9,[0,1,5,6,7])] [])
def amn:SFn:=qB (runF Tryz.prog amo avi Tryz.f127)
def ayL:TH:={ joins:=[(14,{ keep:=[(0,(.own 0)),(5,(.int .i64))],mem:=[.row false 109 tT20] })],loops:=[(4,{ keep:=[(0,(.own 0)),(5,(.int .i64))],mem:=[.row false 109 tT20] }),(9,{ keep:=[(0,(.own 0)),(5,(.int .i64)),(6,(.vw 0)),(7,(.int .i64))],mem:=[.row false 109 tT20] })],ro:=[] }
def ob (y9:(Int×(Nat×Nat)×Int×List vV4×Unit)):Option ((Int×(Nat×Nat)×Int×List vV4×Unit)⊕(vV10⊕(vV10⊕(List vV4)))) :=
 cond (decide (y9.2.2.1<(y9.2.1.2:Int))) (
 cond y9.2.2.2.1.isEmpty (none) ((inI y9.2.1.2 y9.2.2.1).bind fun i7 =>
(y9.2.2.2.1[(y9.2.1.1+i7)]?).bind fun x8 =>
 cond y9.2.2.2.1.isEmpty (none) ((inI y9.2.1.2 (IntKind.wrap .i64 (y9.2.2.1-1))).bind fun i9 =>
(y9.2.2.2.1[(y9.2.1.1+i9)]?).bind fun x10 =>
(zbj x8 x10).bind fun r11 =>
 cond (!r11) (
 cond y9.2.2.2.1.isEmpty (none) ((inI y9.2.1.2 y9.2.2.1).bind fun i12 =>
(y9.2.2.2.1[(y9.2.1.1+i12)]?).bind fun x13 =>
(inI y9.2.2.2.1.length y9.1).bind fun i14 =>
(y9.2.2.2.1[i14]?).bind fun x15 =>
 some (.inl ((IntKind.wrap .i64 (y9.1+1)),y9.2.1,(IntKind.wrap .i64 (y9.2.2.1+1)),(y9.2.2.2.1.set i14 x13),())))) (
 some (.inl (y9.1,y9.2.1,(IntKind.wrap .i64 (y9.2.2.1+1)),y9.2.2.2.1,())))))) (
 some (.inr (.inl (y9.1,y9.2.2.2.1,()))))
def lw (y4:vV10):Option (vV10⊕(List vV4)) :=
 cond (decide (y4.1<(y4.2.1.length:Int))) (
(inI y4.2.1.length y4.1).bind fun i1 =>
(y4.2.1[i1]?).bind fun x2 =>
(inI y4.2.1.length (IntKind.wrap .i64 (y4.1-1))).bind fun i3 =>
(y4.2.1[i3]?).bind fun x4 =>
(zbj x2 x4).bind fun r5 =>
 cond r5 (
 cond y4.2.1.isEmpty (none) ((lG (y4.2.1.length) y4.1 (y4.2.1.length:Int)).bind fun p6 =>
(aH (ob) (y4.1,p6,1,y4.2.1,()):Option (vV10⊕(vV10⊕(List vV4)))).bind (aU fun v16 =>
 cond v16.2.1.isEmpty (none) ((lG (v16.2.1.length) v16.1 (v16.2.1.length:Int)).bind fun p17 =>
 cond v16.2.1.isEmpty (none) ((if p17.1+p17.2≤v16.2.1.length then some () else none).bind fun u18 =>
 cond (v16.2.1.take p17.1++List.replicate p17.2 ([],0,())++v16.2.1.drop (p17.1+p17.2)).isEmpty (none) ((lG ((v16.2.1.take p17.1++List.replicate p17.2 ([],0,())++v16.2.1.drop (p17.1+p17.2)).length) 0 v16.1).bind fun p19 =>
(cond (v16.2.1.take p17.1++List.replicate p17.2 ([],0,())++v16.2.1.drop (p17.1+p17.2)).isEmpty none (if p19.1+p19.2≤(v16.2.1.take p17.1++List.replicate p17.2 ([],0,())++v16.2.1.drop (p17.1+p17.2)).length then some (((v16.2.1.take p17.1++List.replicate p17.2 ([],0,())++v16.2.1.drop (p17.1+p17.2)).drop p19.1).take p19.2) else none)).map .inr)))))) (
 some (.inl ((IntKind.wrap .i64 (y4.1+1)),y4.2.1,())))) (
 some (.inr y4.2.1))
def aml (w0:List vV4):Option (List vV4) :=
 cond (decide ((w0.length:Int)<2)) (
 some w0) (
 aH (lw) (1,w0,()))
def zad (w0:List vV4):Option (List vV4×Unit):=(aml w0).map fun l=>(l,())
def avh:TRaw:={ ps:=(.cons (.own 0) (.cons (.fn 128) .unit)),ins:=[.row false 109 tT20],res:=(.sl tT20),outs:=[.gone],fn:=fun v w=>zad w.1 }
def avg:TEnv:=(vZ [(128,abV)])
theorem avf:agC Tryz.prog amo avi avg ayL Tryz.f127 (.cons (.own 0) (.cons (.fn 128) .unit)) false 109 tT20=fun _ w=>aml w:=by kernel_rfl
theorem amm:cB Tryz.prog G0 127 amn:=mT (ak ⟨au,(aj akE ac),ap,ac,an⟩ Tryz.func127 rfl (by kernel_rfl))
theorem ave:TRawOk amn avh:=xN (E:=amo) (ET:=avg) (EnvT.ofX (ax (ah asJ al)) am ar aJ aq) avf
def ajd:Env:={ pure:=[(72,yV),(124,aeZ)],raw:=[(125,amh),(127,amn)],glob:=G0,same:=[274],look:=[],ext:=[] }
def aqx:Hints:=(hZ [(3,[3,6,7,8])] [])
def ajc:PFn:=aF (runF Tryz.prog ajd aqx Tryz.f55)
def axA:TH:={ joins:=[(7,{ keep:=[(3,(.own 1))],mem:=[.gone,.row true 109 tT20] })],loops:=[(3,{ keep:=[(3,(.own 1)),(8,(.int .i64))],mem:=[.gone,.row true 109 tT20] })],ro:=[] }
def wA (a0:List vV6) (y3:vV10):Option (vV10⊕((List vV4×Unit)⊕List vV4)) :=
 cond (decide (y3.1<(a0.length:Int))) (
(atI a0 y3.1).bind fun x1 =>
(zap x1.2.1.2.1).bind fun r2 =>
(zdw x1.2.1.1).bind fun r3 =>
(ch (y3.2.1.length+([(r2,r3,())]:List vV4).length)).bind fun u4 =>
 some (.inl ((IntKind.wrap .i64 (y3.1+1)),(y3.2.1++([(r2,r3,())]:List vV4)),()))) (
 some (.inr (.inl (y3.2.1,()))))
def zck (a0:List vV6):Option (List vV4) :=
(aH (wA a0) (0,[],()):Option ((List vV4×Unit)⊕List vV4)).bind (aU fun v5 =>
(zaf v5.1).bind fun q6 =>
(zad q6.2.1).bind fun q7 =>
 some q7.1)
def abi:TFn:={ ps:=(.cons (.sl tT19) .unit),res:=(.sl tT20),fn:=fun v=>zck v.1 }
def aqw:TEnv:={ pure:=[(72,acs),(124,yy)],look:=[],glob:=G0T,ty:=[(109,tT20)],raw:=[(125,avb),(127,avh)],fresh:=[] }
theorem aqv:runY Tryz.prog ajd aqx aqw axA Tryz.f55 abi.ps abi.res=abi.fn:=by kernel_rfl
theorem ajb:aA Tryz.prog G0 55 ajc:=ai (ak ⟨au,(aj px (aj aaC ac)),(bN amg (bN amm ap)),ac,an⟩ Tryz.func55 rfl (by kernel_rfl))
theorem aqu:TOk ajc abi:=az (E:=ajd) (ET:=aqw) (EnvT.ofX (ax (ah wU (ah agZ al))) am (ck ava rfl rfl (ck ave rfl rfl ar)) aJ aq) aqv rfl
def ah5:Env:=(eZ [] [274])
def aoF:Hints:=(hZ [(3,[0,1,5,6,7,8]),(14,[0,5])] [])
def ah4:PFn:=aF (runF Tryz.prog ah5 aoF Tryz.f331)
def aw4:TH:={ joins:=[(14,{ keep:=[(5,(.int .i64))],mem:=[] }),(12,{ keep:=[(6,(.int .i64)),(7,(.int .i64))],mem:=[] }),(5,{ keep:=[(13,.bool)],mem:=[] }),(16,{ keep:=[(5,(.int .i64))],mem:=[] })],loops:=[(3,{ keep:=[(5,(.int .i64)),(6,(.int .i64)),(7,(.int .i64)),(8,(.int .i64))],mem:=[] }),(14,{ keep:=[(5,(.int .i64))],mem:=[] })],ro:=[] }
def d7 (a0:List (Int×Int×Unit)) (a1:List Int) (y3:(Int×Int×Int×Int×Unit)):Option ((Int×Int×Int×Int×Unit)⊕((Int×Unit)⊕Bool)) :=
 cond (decide (y3.2.2.2.1<(a1.length:Int))) (
((cond (decide (y3.1<(a0.length:Int))) ((atI a0 y3.1).bind fun x1 =>
 some (.inl ((decide (x1.1=2)),()))) (some (.inl (false,()))):Option ((Bool×Unit)⊕((Int×Int×Unit)⊕((Int×Int×Int×Int×Unit)⊕((Int×Unit)⊕Bool))))).bind (aU fun v2 =>
 cond v2.1 (
 some (.inr (.inl ((IntKind.wrap .i64 (y3.1+1)),y3.1,y3.2.2.2.1,y3.2.2.2.1,())))) (
 cond (decide (y3.1<(a0.length:Int))) ((atI a0 y3.1).bind fun x3 =>
 cond (decide (x3.1=1)) (some (.inr (.inl ((IntKind.wrap .i64 (y3.1+1)),y3.2.1,y3.2.2.1,(IntKind.wrap .i64 (y3.2.2.2.1+1)),())))) ((atI a0 y3.1).bind fun x4 =>
(atI a1 y3.2.2.2.1).bind fun x5 =>
 cond (decide (x4.2.1=x5)) (
 some (.inr (.inl ((IntKind.wrap .i64 (y3.1+1)),y3.2.1,y3.2.2.1,(IntKind.wrap .i64 (y3.2.2.2.1+1)),())))) (
 cond (decide (y3.2.1<0)) (
 some (.inr (.inr (.inr false)))) (
 some (.inl (y3.2.1,y3.2.2.1,())))))) (cond (decide (y3.2.1<0)) (
 some (.inr (.inr (.inr false)))) (
 some (.inl (y3.2.1,y3.2.2.1,())))))):Option ((Int×Int×Unit)⊕((Int×Int×Int×Int×Unit)⊕((Int×Unit)⊕Bool)))).bind (aU fun v6 =>
 some (.inl ((IntKind.wrap .i64 (v6.1+1)),v6.1,(IntKind.wrap .i64 (v6.2.1+1)),(IntKind.wrap .i64 (v6.2.1+1)),())))) (
 some (.inr (.inl (y3.1,()))))
def jI (a0:List (Int×Int×Unit)) (y14:(Int×Unit)):Option ((Int×Unit)⊕((Int×Unit)⊕Bool)) :=
 cond (decide (y14.1<(a0.length:Int))) ((atI a0 y14.1).bind fun x8 =>
 cond (decide (x8.1=2)) (
 some (.inl ((IntKind.wrap .i64 (y14.1+1)),()))) (
 some (.inr (.inl (y14.1,()))))) (some (.inr (.inl (y14.1,()))))
def zdq (a0:List (Int×Int×Unit)) (a1:List Int):Option Bool :=
(aH (d7 a0 a1) (0,(-1),0,0,()):Option ((Int×Unit)⊕Bool)).bind (aU fun v7 =>
(aH (jI a0) (v7.1,()):Option ((Int×Unit)⊕Bool)).bind (aU fun v9 =>
 some (decide (v9.1=(a0.length:Int)))))
def aaK:TFn:={ ps:=(.cons (.sl (.agg (.cons (.int .i64) (.cons (.int .i32) .unit)))) (.cons (.sl (.int .i32)) .unit)),res:=.bool,fn:=fun v=>zdq v.1 v.2.1 }
def aoE:TEnv:=(vZ [])
theorem aoD:runY Tryz.prog ah5 aoF aoE aw4 Tryz.f331 aaK.ps aaK.res=aaK.fn:=by kernel_rfl
theorem ah3:aA Tryz.prog G0 331 ah4:=ai (ak ⟨au,ac,ap,ac,an⟩ Tryz.func331 rfl (by kernel_rfl))
theorem aoC:TOk ah4 aaK:=az (E:=ah5) (ET:=aoE) (EnvT.ofX (ax al) am ar aJ aq) aoD rfl
def ai7:Env:={ pure:=[(215,ae6),(281,afq)],raw:=[],glob:=G0,same:=[274],look:=[(331,ah4)],ext:=[] }
def aqk:Hints:=(hZ [] [20])
def ai6:PFn:=aF (runF Tryz.prog ai7 aqk Tryz.f289)
def axw:TH:=yZ
def zco (a0:List UInt8) (a1:List UInt8):Option Bool :=
(zcp a0).bind fun r1 =>
 cond r1.2.1 ((zay a1).bind fun r2 =>
 cond r2 ((zdq r1.1 (rU a1)).bind fun r3 =>
 some r3) (some false)) (some false)
def abe:TFn:={ ps:=(.cons .str (.cons .str .unit)),res:=.bool,fn:=fun v=>zco v.1 v.2.1 }
def aqj:TEnv:={ pure:=[(215,yE),(281,yU)],look:=[(331,aaK)],glob:=G0T,ty:=[],raw:=[],fresh:=[] }
theorem aqi:runY Tryz.prog ai7 aqk aqj axw Tryz.f289 abe.ps abe.res=abe.fn:=by kernel_rfl
theorem ai5:aA Tryz.prog G0 289 ai6:=ai (ak ⟨au,(aj abd (aj acj ac)),ap,(aj ah3 ac),an⟩ Tryz.func289 rfl (by kernel_rfl))
theorem aqh:TOk ai6 abe:=az (E:=ai7) (ET:=aqj) (EnvT.ofX (ax (ah ag6 (ah ahn al))) (oN aoC rfl am) ar aJ aq) aqi rfl
def abn (F:PFn):Env:=(eZ [(289,ai6),(228,F)] [274])
def ajm:Hints:=(hZ [(1,[0,1]),(4,[0,1,15,16])] [])
def pV (F:PFn):PFn:=aF (runF Tryz.prog (abn F) ajm Tryz.f228)
def axE:TH:={ joins:=[(13,{ keep:=[(1,(.sl .str))],mem:=[] }),(10,{ keep:=[],mem:=[] })],loops:=[(1,{ keep:=[(0,(.sl .str)),(1,(.sl .str))],mem:=[] }),(4,{ keep:=[(16,(.int .i64))],mem:=[] })],ro:=[] }
def lp (y1:vV9) (rec:(List (List UInt8)×List (List UInt8)×Unit→Option Bool)) (y4:(Int×Unit)):Option ((Int×Unit)⊕(Unit⊕(vV9⊕((List (List UInt8)×Unit)⊕Bool)))) :=
 cond (decide (y4.1<(IntKind.wrap .i64 ((y1.2.1.length:Int)+1)))) (
(subI y1.1 1 (y1.1.length:Int)).bind fun s2 =>
(subI y1.2.1 y4.1 (y1.2.1.length:Int)).bind fun s3 =>
(rec (s2,s3,())).bind fun r4 =>
 cond r4 (
 some (.inr (.inr (.inr (.inr true))))) (
 some (.inl ((IntKind.wrap .i64 (y4.1+1)),())))) (
 some (.inr (.inr (.inr (.inr false)))))
def lq (rec:(List (List UInt8)×List (List UInt8)×Unit→Option Bool)) (y1:vV9):Option (vV9⊕((List (List UInt8)×Unit)⊕Bool)) :=
 cond (decide ((y1.1.length:Int)>0)) (
((atI y1.1 0).bind fun x1 =>
 cond (decide (x1=[42,42])) (
 aH (lp y1 rec) (0,())) (
 some (.inl ())):Option (Unit⊕(vV9⊕((List (List UInt8)×Unit)⊕Bool)))).bind (aU fun v5 =>
 cond (decide ((y1.2.1.length:Int)=0)) (some (.inr (.inr false))) ((atI y1.1 0).bind fun x6 =>
(atI y1.2.1 0).bind fun x7 =>
(zco x6 x7).bind fun r8 =>
 cond (!r8) (
 some (.inr (.inr false))) (
(subI y1.1 1 (y1.1.length:Int)).bind fun s9 =>
(subI y1.2.1 1 (y1.2.1.length:Int)).bind fun s10 =>
 some (.inl (s9,s10,())))))) (
 some (.inr (.inl (y1.2.1,()))))
def bT (rec:(vV9→Option Bool)) (a0:List (List UInt8)) (a1:List (List UInt8)):Option Bool :=
(aH (lq rec) (a0,a1,()):Option ((List (List UInt8)×Unit)⊕Bool)).bind (aU fun v11 =>
 some (decide ((v11.1.length:Int)=0)))
def gt:(vV9→Option Bool):=fixT fun rec v=>bT rec v.1 v.2.1
def zcg (a0:List (List UInt8)) (a1:List (List UInt8)):Option Bool:=gt (a0,a1,())
def abm:TFn:={ ps:=(.cons (.sl .str) tT22),res:=.bool,fn:=fixT fun (rec:(vV9→Option Bool)) v=>bT rec v.1 v.2.1 }
def ajo:PFn:=fixF pV abm
def ajl (rec:(vV9→Option Bool)):TEnv:=(vZ [(289,abe),(228,{ ps:=(.cons (.sl .str) tT22),res:=.bool,fn:=rec })])
theorem aqK (F:PFn) (rec:(vV9→Option Bool)):runY Tryz.prog (abn F) ajm (ajl rec) axE Tryz.f228 abm.ps abm.res=fun v=>bT rec v.1 v.2.1:=by kernel_rfl
theorem ajn:aA Tryz.prog G0 228 ajo:=adb ⟨Tryz.f228,Tryz.func228,rfl,by kernel_rfl⟩ fun F hF=>ai (ak (P:=Tryz.prog) (E:=abn F) (h:=ajm) (f:=228) (fn:=Tryz.f228) ⟨au,(aj ai5 (aj hF ac)),ap,ac,an⟩ Tryz.func228 rfl (by kernel_rfl))
theorem aqJ:TOk ajo abm:=awh rfl fun F rec hF=>az (E:=abn F) (ET:=ajl rec) (EnvT.ofX (E:=abn F) (ET:=ajl rec) (ax (ah aqh (ah hF al))) am ar aJ aq) (aqK F rec) rfl
def ala:Env:=(eZ [(71,afe),(228,ajo)] [274])
def atC:Hints:=(hZ [] [])
def ak9:PFn:=aF (runF Tryz.prog ala atC Tryz.f162)
def ayp:TH:=yZ
def zb5 (a0:List (List UInt8)) (a1:List (List UInt8)):Option Bool :=
(zbx a0).bind fun r1 =>
 cond (decide (r1=0)) ((zcg a0 a1).bind fun r2 =>
 some r2) (some false)
def acb:TFn:={ ps:=(.cons (.sl .str) tT22),res:=.bool,fn:=fun v=>zb5 v.1 v.2.1 }
def atB:TEnv:=(vZ [(71,yN),(228,abm)])
theorem atA:runY Tryz.prog ala atC atB ayp Tryz.f162 acb.ps acb.res=acb.fn:=by kernel_rfl
theorem ak8:aA Tryz.prog G0 162 ak9:=ai (ak ⟨au,(aj abG (aj ajn ac)),ap,ac,an⟩ Tryz.func162 rfl (by kernel_rfl))
theorem atz:TOk ak9 acb:=az (E:=ala) (ET:=atB) (EnvT.ofX (ax (ah ahe (ah aqJ al))) am ar aJ aq) atA rfl
def akt:Env:=(eZ [(55,ajc),(162,ak9)] [274])
def ast:Hints:=(hZ [(3,[1,5,9,10,11])] [])
def aks:PFn:=aF (runF Tryz.prog akt ast Tryz.f93)
def ax6:TH:={ loops:=[(3,{ keep:=[(5,(.own 1)),(11,(.int .i64))],mem:=[.gone,.row true 109 tT20] })],ro:=[] }
def wP (a1:List (List UInt8)) (r1:List vV4) (y3:vV10):Option (vV10⊕List vV4) :=
 cond (decide (y3.1<(r1.length:Int))) (
(atI r1 y3.1).bind fun x2 =>
(zb5 a1 x2.1).bind fun r3 =>
 cond r3 (
(ch (y3.2.1.length+([x2]:List vV4).length)).bind fun u4 =>
 some (.inl ((IntKind.wrap .i64 (y3.1+1)),(y3.2.1++([x2]:List vV4)),()))) (
 some (.inl ((IntKind.wrap .i64 (y3.1+1)),y3.2.1,())))) (
 some (.inr y3.2.1))
def zbo (a0:List vV6) (a1:List (List UInt8)):Option (List vV4) :=
(zck a0).bind fun r1 =>
 aH (wP a1 r1) (0,[],())
def abP:TFn:={ ps:=(.cons (.sl tT19) tT22),res:=(.sl tT20),fn:=fun v=>zbo v.1 v.2.1 }
def ass:TEnv:={ pure:=[(55,abi),(162,acb)],look:=[],glob:=G0T,ty:=[(109,tT20)],raw:=[],fresh:=[] }
theorem asr:runY Tryz.prog akt ast ass ax6 Tryz.f93 abP.ps abP.res=abP.fn:=by kernel_rfl
theorem akr:aA Tryz.prog G0 93 aks:=ai (ak ⟨au,(aj ajb (aj ak8 ac)),ap,ac,an⟩ Tryz.func93 rfl (by kernel_rfl))
theorem asq:TOk aks abP:=az (E:=akt) (ET:=ass) (EnvT.ofX (ax (ah aqu (ah atz al))) am ar aJ aq) asr rfl
def alQ:Env:=(eZ [] [274])
def auI:Hints:=(hZ [(4,[0,1,12,13])] [])
def alP:PFn:=aF (runF Tryz.prog alQ auI Tryz.f196)
def ayF:TH:={ loops:=[(4,{ keep:=[(13,(.int .i64))],mem:=[] })],ro:=[] }
def wV (a0:List (List UInt8)) (a1:List (List UInt8)) (y4:(Int×Unit)):Option ((Int×Unit)⊕Bool) :=
 cond (decide (y4.1<(a0.length:Int))) (
(atI a0 y4.1).bind fun x1 =>
(atI a1 y4.1).bind fun x2 =>
 cond (!decide (x1=x2)) (
 some (.inr false)) (
 some (.inl ((IntKind.wrap .i64 (y4.1+1)),())))) (
 some (.inr true))
def zao (a0:List (List UInt8)) (a1:List (List UInt8)):Option Bool :=
 cond (!decide ((a0.length:Int)=(a1.length:Int))) (
 some false) (
 aH (wV a0 a1) (0,()))
def act:TFn:={ ps:=(.cons (.sl .str) tT22),res:=.bool,fn:=fun v=>zao v.1 v.2.1 }
def auH:TEnv:=(vZ [])
theorem auG:runY Tryz.prog alQ auI auH ayF Tryz.f196 act.ps act.res=act.fn:=by kernel_rfl
theorem alO:aA Tryz.prog G0 196 alP:=ai (ak ⟨au,ac,ap,ac,an⟩ Tryz.func196 rfl (by kernel_rfl))
theorem auF:TOk alP act:=az (E:=alQ) (ET:=auH) (EnvT.ofX (ax al) am ar aJ aq) auG rfl
def aim:Env:=(eZ [(196,alP)] [274])
def ao5:Hints:=(hZ [] [])
def ae1:PFn:=aF (runF Tryz.prog aim ao5 Tryz.f160)
def axb:TH:=yZ
def zdj (a0:List (List UInt8)) (a1:List (List UInt8)):Option Bool :=
(zao a0 a1).bind fun r1 =>
 some r1
def yz:TFn:={ ps:=(.cons (.sl .str) tT22),res:=.bool,fn:=fun v=>zdj v.1 v.2.1 }
def ao4:TEnv:=(vZ [(196,act)])
theorem ao3:runY Tryz.prog aim ao5 ao4 axb Tryz.f160 yz.ps yz.res=yz.fn:=by kernel_rfl
theorem aaS:aA Tryz.prog G0 160 ae1:=ai (ak ⟨au,(aj alO ac),ap,ac,an⟩ Tryz.func160 rfl (by kernel_rfl))
theorem ag1:TOk ae1 yz:=az (E:=aim) (ET:=ao4) (EnvT.ofX (ax (ah auF al)) am ar aJ aq) ao3 rfl
def ahQ:Env:=(eZ [(124,aeZ),(160,ae1)] [274])
def aof:Hints:=(hZ [(3,[1,2,7,10,11,12])] [])
def aaB:PFn:=aF (runF Tryz.prog ahQ aof Tryz.f229)
def awX:TH:={ loops:=[(3,{ keep:=[(7,(.own 1)),(12,(.int .i64))],mem:=[.gone,.row true 148 tT19] })],ro:=[] }
def wh (a0:List vV6) (a1:List (List UInt8)) (a2:Int) (y3:(Int×List vV6×Unit)):Option ((Int×List vV6×Unit)⊕List vV6) :=
 cond (decide (y3.1<(a0.length:Int))) (
(atI a0 y3.1).bind fun x1 =>
(zdw x1.2.1.1).bind fun r2 =>
 cond (decide (r2=a2)) ((zdj x1.2.1.2.1 a1).bind fun r3 =>
 cond r3 (
(ch (y3.2.1.length+([x1]:List vV6).length)).bind fun u4 =>
 some (.inl ((IntKind.wrap .i64 (y3.1+1)),(y3.2.1++([x1]:List vV6)),()))) (
 some (.inl ((IntKind.wrap .i64 (y3.1+1)),y3.2.1,())))) (some (.inl ((IntKind.wrap .i64 (y3.1+1)),y3.2.1,())))) (
 some (.inr y3.2.1))
def zdx (a0:List vV6) (a1:List (List UInt8)) (a2:Int):Option (List vV6) :=
 aH (wh a0 a1 a2) (0,[],())
def tT:TFn:={ ps:=(.cons (.sl tT19) (.cons (.sl .str) tT16)),res:=(.sl tT19),fn:=fun v=>zdx v.1 v.2.1 v.2.2.1 }
def aoe:TEnv:={ pure:=[(124,yy),(160,yz)],look:=[],glob:=G0T,ty:=[(148,tT19)],raw:=[],fresh:=[] }
theorem aod:runY Tryz.prog ahQ aof aoe awX Tryz.f229 tT.ps tT.res=tT.fn:=by kernel_rfl
theorem tU:aA Tryz.prog G0 229 aaB:=ai (ak ⟨au,(aj aaC (aj aaS ac)),ap,ac,an⟩ Tryz.func229 rfl (by kernel_rfl))
theorem aaA:TOk aaB tT:=az (E:=ahQ) (ET:=aoe) (EnvT.ofX (ax (ah agZ (ah ag1 al))) am ar aJ aq) aod rfl
def afD:PFn:=cmpF
theorem amE:aA Tryz.prog G0 291 afD:=tm ⟨Tryz.f291,Tryz.func291,rfl,by kernel_rfl⟩ Tryz.strings_Compare
def za7 (a0:List UInt8) (a1:List UInt8):Option Int:=cmpT a0 a1
def avE:TFn:=aex
theorem avD:TOk afD avE:=anV
def akP:Env:=(eZ [(154,ud),(156,ut),(291,afD)] [274])
def as5:Hints:=(hZ [] [])
def ab2:PFn:=aF (runF Tryz.prog akP as5 Tryz.f231)
def ayg:TH:={ loops:=[],ro:=[2,3] }
def zbe (a0:vV3) (a1:vV3):Option Int :=
(za6 a0.1 a1.1).bind fun r1 =>
(za6 a0.2.1 a1.2.1).bind fun r2 =>
(za7 a0.2.2.1 a1.2.2.1).bind fun r3 =>
(zdf ([r1,r2,r3]:List Int)).bind fun r4 =>
 some r4
def ab1:TFn:={ ps:=(.cons tT15 (.cons tT15 .unit)),res:=(.int .i64),fn:=fun v=>zbe v.1 v.2.1 }
def as4:TEnv:={ pure:=[(154,rg),(156,rC),(291,avE)],look:=[],glob:=G0T,ty:=[(3,(.int .i64))],raw:=[],fresh:=[] }
theorem as3:runY Tryz.prog akP as5 as4 ayg Tryz.f231 ab1.ps ab1.res=ab1.fn:=by kernel_rfl
theorem akO:aA Tryz.prog G0 231 ab2:=ai (ak ⟨au,(aj po (aj py (aj amE ac))),ap,ac,an⟩ Tryz.func231 rfl (by kernel_rfl))
theorem ahk:TOk ab2 ab1:=az (E:=akP) (ET:=as4) (EnvT.ofX (ax (ah wn (ah wZ (ah avD al)))) am ar aJ aq) as3 rfl
theorem afC : @aA ⟨True⟩ Tryz.prog G0 291 afD:=by
 letI:Drawn:=⟨True⟩
 exact tm ⟨Tryz.f291,Tryz.func291,rfl,by kernel_rfl⟩ Tryz.strings_Compare
theorem afn : @aA ⟨True⟩ Tryz.prog G0 231 ab2:=by
 letI:Drawn:=⟨True⟩
 exact ai (ak ⟨au,(aj wo (aj w7 (aj afC ac))),ap,ac,an⟩ Tryz.func231 rfl (by kernel_rfl))
def ami:Go.Shelf.Ren:=⟨fun | 6=>230 | 14=>290 | 15=>201 | 20=>332 | 21=>333 | 22=>334 | 23=>335 | 24=>336 | 25=>337 | 26=>338 | 27=>339 | 28=>268 | 29=>269 | 46=>359 | 47=>316 | 48=>317 | 49=>360 | 50=>361 | 57=>374 | n=>n,fun | 0=>0 | 3=>3 | 4=>4 | 5=>5 | 9=>9 | 22=>123 | 24=>132 | 25=>296 | 39=>230 | 45=>314 | 46=>315 | 50=>161 | 53=>321 | 55=>323 | 66=>354 | 70=>358 | 76=>378 | 77=>283 | n=>n,fun | n=>n⟩
theorem afB:Go.Proofs.SlLaysF0.n6 Tryz.prog ami:={
 mixed:=by kernel_rfl
 f6:=⟨Tryz.f230.name,by decide,Tryz.func230.trans (congrArg some (by kernel_rfl))⟩
 f14:=⟨Tryz.f290.name,by decide,Tryz.func290.trans (congrArg some (by kernel_rfl))⟩
 f15:=Tryz.func201.trans (congrArg some (by kernel_rfl))
 f20:=⟨Tryz.f332.name,by decide,Tryz.func332.trans (congrArg some (by kernel_rfl))⟩
 f21:=⟨Tryz.f333.name,by decide,Tryz.func333.trans (congrArg some (by kernel_rfl))⟩
 f22:=⟨Tryz.f334.name,by decide,Tryz.func334.trans (congrArg some (by kernel_rfl))⟩
 f23:=⟨Tryz.f335.name,by decide,Tryz.func335.trans (congrArg some (by kernel_rfl))⟩
 f24:=⟨Tryz.f336.name,by decide,Tryz.func336.trans (congrArg some (by kernel_rfl))⟩
 f25:=⟨Tryz.f337.name,by decide,Tryz.func337.trans (congrArg some (by kernel_rfl))⟩
 f26:=⟨Tryz.f338.name,by decide,Tryz.func338.trans (congrArg some (by kernel_rfl))⟩
 f27:=⟨Tryz.f339.name,by decide,Tryz.func339.trans (congrArg some (by kernel_rfl))⟩
 f28:=Tryz.func268.trans (congrArg some (by kernel_rfl))
 f29:=Tryz.func269.trans (congrArg some (by kernel_rfl))
 f46:=⟨Tryz.f359.name,by decide,Tryz.func359.trans (congrArg some (by kernel_rfl))⟩
 f47:=Tryz.func316.trans (congrArg some (by kernel_rfl))
 f48:=Tryz.func317.trans (congrArg some (by kernel_rfl))
 f49:=⟨Tryz.f360.name,by decide,Tryz.func360.trans (congrArg some (by kernel_rfl))⟩
 f50:=⟨Tryz.f361.name,by decide,Tryz.func361.trans (congrArg some (by kernel_rfl))⟩
 f57:=⟨Tryz.f374.name,by decide,Tryz.func374.trans (congrArg some (by kernel_rfl))⟩
 t0:=Tryz.underlying0
 a0:=Tryz.isAgg0
 z0:=Tryz.sizeOf0
 v0:=Tryz.zeroValue0
 t3:=Tryz.underlying3
 a3:=Tryz.isAgg3
 z3:=Tryz.sizeOf3
 v3:=Tryz.zeroValue3
 t4:=Tryz.underlying4
 a4:=Tryz.isAgg4
 z4:=Tryz.sizeOf4
 v4:=Tryz.zeroValue4
 t5:=Tryz.underlying5
 a5:=Tryz.isAgg5
 z5:=Tryz.sizeOf5
 v5:=Tryz.zeroValue5
 t9:=Tryz.underlying9
 a9:=Tryz.isAgg9
 z9:=Tryz.sizeOf9
 v9:=Tryz.zeroValue9
 t22:=Tryz.underlying123
 a22:=Tryz.isAgg123
 z22:=Tryz.sizeOf123
 v22:=Tryz.zeroValue123
 t25:=Tryz.underlying296
 a25:=Tryz.isAgg296
 z25:=Tryz.sizeOf296
 v25:=Tryz.zeroValue296
 t39:=Tryz.underlying230
 a39:=Tryz.isAgg230
 z39:=Tryz.sizeOf230
 v39:=Tryz.zeroValue230
 t45:=Tryz.underlying314
 a45:=Tryz.isAgg314
 z45:=Tryz.sizeOf314
 v45:=Tryz.zeroValue314
 t46:=Tryz.underlying315
 a46:=Tryz.isAgg315
 z46:=Tryz.sizeOf315
 v46:=Tryz.zeroValue315
 t50:=Tryz.underlying161
 a50:=Tryz.isAgg161
 z50:=Tryz.sizeOf161
 v50:=Tryz.zeroValue161
 t53:=Tryz.underlying321
 a53:=Tryz.isAgg321
 z53:=Tryz.sizeOf321
 v53:=Tryz.zeroValue321
 t55:=Tryz.underlying323
 a55:=Tryz.isAgg323
 z55:=Tryz.sizeOf323
 v55:=Tryz.zeroValue323
 t66:=Tryz.underlying354
 a66:=Tryz.isAgg354
 z66:=Tryz.sizeOf354
 v66:=Tryz.zeroValue354
 t70:=Tryz.underlying358
 a70:=Tryz.isAgg358
 z70:=Tryz.sizeOf358
 v70:=Tryz.zeroValue358
 t76:=Tryz.underlying378
 a76:=Tryz.isAgg378
 z76:=Tryz.sizeOf378
 v76:=Tryz.zeroValue378
 t77:=Tryz.underlying283
 a77:=Tryz.isAgg283
 z77:=Tryz.sizeOf283
 v77:=Tryz.zeroValue283 }
def amk:SFn:=pH ab2 231 3 132
theorem amj:cB Tryz.prog G0 230 amk:=lN (M:=3) (g:=231) afB (by decide) (fun w=>Tryz.isAgg132 w) (fun w=>Tryz.sizeOf132 w) afn ⟨Tryz.f230,Tryz.func230,rfl,by kernel_rfl⟩
def zae (w0:List vV3):Option (Unit×List vV3×Unit):=(nF (fun x y=>zbe x y) w0).map fun l=>((),(l,()))
def avd:TRaw:=acP false 231 132 tT15 (fun x y=>zbe x y)
theorem avc:TRawOk amk avd:=xc rfl rfl rfl rfl ahk
def al5:Env:=(eZ [] [274])
def auZ:Hints:=(hZ [(4,[0,3]),(9,[0,3,4,5])] [])
def al4:SFn:=qB (runF Tryz.prog al5 auZ Tryz.f232)
def ayI:TH:={ joins:=[(14,{ keep:=[(0,(.own 0)),(3,(.int .i64))],mem:=[.row false 132 tT15] })],loops:=[(4,{ keep:=[(0,(.own 0)),(3,(.int .i64))],mem:=[.row false 132 tT15] }),(9,{ keep:=[(0,(.own 0)),(3,(.int .i64)),(4,(.vw 0)),(5,(.int .i64))],mem:=[.row false 132 tT15] })],ro:=[] }
def oa (y9:(Int×(Nat×Nat)×Int×List vV3×Unit)):Option ((Int×(Nat×Nat)×Int×List vV3×Unit)⊕((Int×List vV3×Unit)⊕((Int×List vV3×Unit)⊕(List vV3)))) :=
 cond (decide (y9.2.2.1<(y9.2.1.2:Int))) (
 cond y9.2.2.2.1.isEmpty (none) ((inI y9.2.1.2 y9.2.2.1).bind fun i6 =>
(y9.2.2.2.1[(y9.2.1.1+i6)]?).bind fun x7 =>
 cond y9.2.2.2.1.isEmpty (none) ((inI y9.2.1.2 (IntKind.wrap .i64 (y9.2.2.1-1))).bind fun i8 =>
(y9.2.2.2.1[(y9.2.1.1+i8)]?).bind fun x9 =>
 cond (!(eqV tT15 x7 x9)) (
 cond y9.2.2.2.1.isEmpty (none) ((inI y9.2.1.2 y9.2.2.1).bind fun i10 =>
(y9.2.2.2.1[(y9.2.1.1+i10)]?).bind fun x11 =>
(inI y9.2.2.2.1.length y9.1).bind fun i12 =>
(y9.2.2.2.1[i12]?).bind fun x13 =>
 some (.inl ((IntKind.wrap .i64 (y9.1+1)),y9.2.1,(IntKind.wrap .i64 (y9.2.2.1+1)),(y9.2.2.2.1.set i12 x11),())))) (
 some (.inl (y9.1,y9.2.1,(IntKind.wrap .i64 (y9.2.2.1+1)),y9.2.2.2.1,())))))) (
 some (.inr (.inl (y9.1,y9.2.2.2.1,()))))
def lu (y4:(Int×List vV3×Unit)):Option ((Int×List vV3×Unit)⊕(List vV3)) :=
 cond (decide (y4.1<(y4.2.1.length:Int))) (
(inI y4.2.1.length y4.1).bind fun i1 =>
(y4.2.1[i1]?).bind fun x2 =>
(inI y4.2.1.length (IntKind.wrap .i64 (y4.1-1))).bind fun i3 =>
(y4.2.1[i3]?).bind fun x4 =>
 cond (eqV tT15 x2 x4) (
 cond y4.2.1.isEmpty (none) ((lG (y4.2.1.length) y4.1 (y4.2.1.length:Int)).bind fun p5 =>
(aH (oa) (y4.1,p5,1,y4.2.1,()):Option ((Int×List vV3×Unit)⊕((Int×List vV3×Unit)⊕(List vV3)))).bind (aU fun v14 =>
 cond v14.2.1.isEmpty (none) ((lG (v14.2.1.length) v14.1 (v14.2.1.length:Int)).bind fun p15 =>
 cond v14.2.1.isEmpty (none) ((if p15.1+p15.2≤v14.2.1.length then some () else none).bind fun u16 =>
 cond (v14.2.1.take p15.1++List.replicate p15.2 (0,0,[],())++v14.2.1.drop (p15.1+p15.2)).isEmpty (none) ((lG ((v14.2.1.take p15.1++List.replicate p15.2 (0,0,[],())++v14.2.1.drop (p15.1+p15.2)).length) 0 v14.1).bind fun p17 =>
(cond (v14.2.1.take p15.1++List.replicate p15.2 (0,0,[],())++v14.2.1.drop (p15.1+p15.2)).isEmpty none (if p17.1+p17.2≤(v14.2.1.take p15.1++List.replicate p15.2 (0,0,[],())++v14.2.1.drop (p15.1+p15.2)).length then some (((v14.2.1.take p15.1++List.replicate p15.2 (0,0,[],())++v14.2.1.drop (p15.1+p15.2)).drop p17.1).take p17.2) else none)).map .inr)))))) (
 some (.inl ((IntKind.wrap .i64 (y4.1+1)),y4.2.1,())))) (
 some (.inr y4.2.1))
def al2 (w0:List vV3):Option (List vV3) :=
 cond (decide ((w0.length:Int)<2)) (
 some w0) (
 aH (lu) (1,w0,()))
def zaj (w0:List vV3):Option (List vV3×Unit):=(al2 w0).map fun l=>(l,())
def auY:TRaw:={ ps:=(.cons (.own 0) .unit),ins:=[.row false 132 tT15],res:=(.sl tT15),outs:=[.gone],fn:=fun v w=>zaj w.1 }
def auX:TEnv:=(vZ [])
theorem auW:agC Tryz.prog al5 auZ auX ayI Tryz.f232 (.cons (.own 0) .unit) false 132 tT15=fun _ w=>al2 w:=by kernel_rfl
theorem al3:cB Tryz.prog G0 232 al4:=mT (ak ⟨au,ac,ap,ac,an⟩ Tryz.func232 rfl (by kernel_rfl))
theorem auV:TRawOk al4 auY:=xN (E:=al5) (ET:=auX) (EnvT.ofX (ax al) am ar aJ aq) auW
def aiH:Env:={ pure:=[(229,aaB)],raw:=[(230,amk),(232,al4)],glob:=G0,same:=[274],look:=[],ext:=[] }
def apD:Hints:=(hZ [(3,[5,10,11,12])] [])
def aiG:PFn:=aF (runF Tryz.prog aiH apD Tryz.f163)
def axk:TH:={ joins:=[(7,{ keep:=[(5,(.own 1))],mem:=[.gone,.row true 132 tT15] })],loops:=[(3,{ keep:=[(5,(.own 1)),(12,(.int .i64))],mem:=[.gone,.row true 132 tT15] })],ro:=[] }
def wr (r1:List vV6) (y3:(Int×List vV3×Unit)):Option ((Int×List vV3×Unit)⊕((List vV3×Unit)⊕List vV3)) :=
 cond (decide (y3.1<(r1.length:Int))) (
(atI r1 y3.1).bind fun x2 =>
(ch (y3.2.1.length+([x2.2.1.2.2.1]:List vV3).length)).bind fun u3 =>
 some (.inl ((IntKind.wrap .i64 (y3.1+1)),(y3.2.1++([x2.2.1.2.2.1]:List vV3)),()))) (
 some (.inr (.inl (y3.2.1,()))))
def zda (a0:List vV6) (a1:List (List UInt8)):Option (List vV3) :=
((zdx a0 a1 1).bind fun r1 =>
 aH (wr r1) (0,[],()):Option ((List vV3×Unit)⊕List vV3)).bind (aU fun v4 =>
(zae v4.1).bind fun q5 =>
(zaj q5.2.1).bind fun q6 =>
 some q6.1)
def aa1:TFn:={ ps:=(.cons (.sl tT19) tT22),res:=(.sl tT15),fn:=fun v=>zda v.1 v.2.1 }
def apC:TEnv:={ pure:=[(229,tT)],look:=[],glob:=G0T,ty:=[(132,tT15)],raw:=[(230,avd),(232,auY)],fresh:=[] }
theorem apB:runY Tryz.prog aiH apD apC axk Tryz.f163 aa1.ps aa1.res=aa1.fn:=by kernel_rfl
theorem aiF:aA Tryz.prog G0 163 aiG:=ai (ak ⟨au,(aj tU ac),(bN amj (bN al3 ap)),ac,an⟩ Tryz.func163 rfl (by kernel_rfl))
theorem apA:TOk aiG aa1:=az (E:=aiH) (ET:=apC) (EnvT.ofX (ax (ah aaA al)) am (ck avc rfl rfl (ck auV rfl rfl ar)) aJ aq) apB rfl
def alZ:Go.Shelf.Ren:=⟨fun | 22=>234 | 29=>292 | 30=>293 | n=>n,fun | 24=>123 | 9=>132 | 0=>0 | 3=>3 | 4=>4 | n=>n,fun | n=>n⟩
theorem afy:InsL Tryz.prog alZ:={
 mixed:=by kernel_rfl
 f22:=⟨Tryz.f234.name,by decide,Tryz.func234.trans (congrArg some (by kernel_rfl))⟩
 f29:=⟨Tryz.f292.name,by decide,by kernel_rfl,by kernel_rfl,Tryz.func292.trans (congrArg some (by kernel_rfl))⟩
 t0:=Tryz.underlying0
 a0:=Tryz.isAgg0
 z0:=Tryz.sizeOf0
 v0:=Tryz.zeroValue0
 t3:=Tryz.underlying3
 a3:=Tryz.isAgg3
 z3:=Tryz.sizeOf3
 v3:=Tryz.zeroValue3
 t4:=Tryz.underlying4
 a4:=Tryz.isAgg4
 z4:=Tryz.sizeOf4
 v4:=Tryz.zeroValue4
 t24:=Tryz.underlying123
 a24:=Tryz.isAgg123
 z24:=Tryz.sizeOf123
 v24:=Tryz.zeroValue123 }
def al1:SFn:=fm 3 132
theorem al0:cB Tryz.prog G0 234 al1:=aab afy rfl rfl rfl (ael (P:=Tryz.prog) (te:=132) (M:=3) (by kernel_rfl) (by kernel_rfl) (by kernel_rfl) (by kernel_rfl) (by kernel_rfl) (by kernel_rfl) (by kernel_rfl) (by kernel_rfl)) true Tryz.isAgg132 ⟨Tryz.f234,Tryz.func234,rfl,by kernel_rfl⟩
def zak (a1:Int) (a2:List vV3) (w0:List vV3):Option (Unit×List vV3×Unit):=(insT w0 a1 a2).map fun l=>((),(l,()))
def auU:TRaw:=insR false 132 tT15
theorem auT:TRawOk al1 auU:=anw rfl rfl rfl rfl (by decide)
def amu:Env:=(eZ [(231,ab2)] [274])
def avq:Hints:=(hZ [(3,[0,2,4,8,9,10])] [])
def amt:PFn:=aF (runF Tryz.prog amu avq Tryz.f233)
def ayN:TH:={ joins:=[(8,{ keep:=[(4,(.bx 0 0)),(9,(.int .i64))],mem:=[.same] })],loops:=[(3,{ keep:=[(4,(.bx 0 0)),(9,(.int .i64)),(10,(.int .i64))],mem:=[.same] })],ro:=[4] }
def od (a0:List vV3) (a1:vV3) (y3:(Int×Int×Unit)):Option ((Int×Int×Unit)⊕((Int×Unit)⊕(Int×Bool×Unit))) :=
 cond (decide (y3.1<y3.2.1)) (
(shrT .u64 (IntKind.wrap .u64 (IntKind.wrap .i64 (y3.1+y3.2.1))) 1).bind fun t1 =>
(atI a0 (IntKind.wrap .i64 t1)).bind fun x2 =>
(zbe x2 a1).bind fun r3 =>
 cond (decide (r3<0)) (
 some (.inl ((IntKind.wrap .i64 ((IntKind.wrap .i64 t1)+1)),y3.2.1,()))) (
 some (.inl (y3.1,(IntKind.wrap .i64 t1),())))) (
 some (.inr (.inl (y3.1,()))))
def zab (a0:List vV3) (a1:vV3) (a2:Unit):Option (Int×Bool×Unit) :=
(aH (od a0 a1) (0,(a0.length:Int),()):Option ((Int×Unit)⊕(Int×Bool×Unit))).bind (aU fun v4 =>
 cond (decide (v4.1<(a0.length:Int))) ((atI a0 v4.1).bind fun x5 =>
(zbe x5 a1).bind fun r6 =>
 some (v4.1,(decide (r6=0)),())) (some (v4.1,false,())))
def acz:TFn:={ ps:=(.cons (.sl tT15) (.cons tT15 (.cons (.fn 231) .unit))),res:=(.tup (.cons (.int .i64) (.cons .bool .unit))),fn:=fun v=>zab v.1 v.2.1 v.2.2.1 }
def avp:TEnv:=(vZ [(231,ab1)])
theorem avo:runY Tryz.prog amu avq avp ayN Tryz.f233 acz.ps acz.res=acz.fn:=by kernel_rfl
theorem ams:aA Tryz.prog G0 233 amt:=ai (ak ⟨au,(aj akO ac),ap,ac,an⟩ Tryz.func233 rfl (by kernel_rfl))
theorem avn:TOk amt acz:=az (E:=amu) (ET:=avp) (EnvT.ofX (ax (ah ahk al)) am ar aJ aq) avo rfl
def ajX:Env:={ pure:=[(229,aaB)],raw:=[(234,al1)],glob:=G0,same:=[274],look:=[(233,amt)],ext:=[] }
def arB:Hints:=(hZ [(3,[5,12,13,14])] [])
def ajW:PFn:=aF (runF Tryz.prog ajX arB Tryz.f164)
def axR:TH:={ loops:=[(3,{ keep:=[(5,(.own 1)),(14,(.int .i64))],mem:=[.gone,.row false 132 tT15] })],ro:=[] }
def wJ (r1:List vV6) (y3:(Int×List vV3×Unit)):Option ((Int×List vV3×Unit)⊕List vV3) :=
 cond (decide (y3.1<(r1.length:Int))) (
(atI r1 y3.1).bind fun x2 =>
(zab y3.2.1 x2.2.1.2.2.1 ()).bind fun r3 =>
 cond (!r3.2.1) (
(zak r3.1 ([x2.2.1.2.2.1]:List vV3) y3.2.1).bind fun q4 =>
 some (.inl ((IntKind.wrap .i64 (y3.1+1)),q4.2.1,()))) (
 some (.inl ((IntKind.wrap .i64 (y3.1+1)),y3.2.1,())))) (
 some (.inr y3.2.1))
def zc3 (a0:List vV6) (a1:List (List UInt8)):Option (List vV3) :=
(zdx a0 a1 2).bind fun r1 =>
 aH (wJ r1) (0,[],())
def abA:TFn:={ ps:=(.cons (.sl tT19) tT22),res:=(.sl tT15),fn:=fun v=>zc3 v.1 v.2.1 }
def arA:TEnv:={ pure:=[(229,tT)],look:=[(233,acz)],glob:=G0T,ty:=[(132,tT15)],raw:=[(234,auU)],fresh:=[] }
theorem arz:runY Tryz.prog ajX arB arA axR Tryz.f164 abA.ps abA.res=abA.fn:=by kernel_rfl
theorem ajV:aA Tryz.prog G0 164 ajW:=ai (ak ⟨au,(aj tU ac),(bN al0 ap),(aj ams ac),an⟩ Tryz.func164 rfl (by kernel_rfl))
theorem ary:TOk ajW abA:=az (E:=ajX) (ET:=arA) (EnvT.ofX (ax (ah aaA al)) (oN avn rfl am) (ck auT rfl rfl ar) aJ aq) arz rfl
def aih:Env:=(eZ [(229,aaB)] [274])
def aoV:Hints:=(hZ [(3,[5,10,11,12])] [])
def aig:PFn:=aF (runF Tryz.prog aih aoV Tryz.f165)
def aw8:TH:={ loops:=[(3,{ keep:=[(5,(.int .i64)),(12,(.int .i64))],mem:=[] })],ro:=[] }
def wm (r1:List vV6) (y3:(Int×Int×Unit)):Option ((Int×Int×Unit)⊕Int) :=
 cond (decide (y3.2.1<(r1.length:Int))) (
(atI r1 y3.2.1).bind fun x2 =>
 some (.inl ((IntKind.wrap .i64 (y3.1+x2.2.1.2.2.2.1)),(IntKind.wrap .i64 (y3.2.1+1)),()))) (
 some (.inr y3.1))
def zdm (a0:List vV6) (a1:List (List UInt8)):Option Int :=
(zdx a0 a1 3).bind fun r1 =>
 aH (wm r1) (0,0,())
def aaO:TFn:={ ps:=(.cons (.sl tT19) tT22),res:=(.int .i64),fn:=fun v=>zdm v.1 v.2.1 }
def aoU:TEnv:=(vZ [(229,tT)])
theorem aoT:runY Tryz.prog aih aoV aoU aw8 Tryz.f165 aaO.ps aaO.res=aaO.fn:=by kernel_rfl
theorem aif:aA Tryz.prog G0 165 aig:=ai (ak ⟨au,(aj tU ac),ap,ac,an⟩ Tryz.func165 rfl (by kernel_rfl))
theorem aoS:TOk aig aaO:=az (E:=aih) (ET:=aoU) (EnvT.ofX (ax (ah aaA al)) am ar aJ aq) aoT rfl
def ahU:Env:=(eZ [(72,yV),(163,aiG),(164,ajW),(165,aig)] [274])
def aom:Hints:=(hZ [] [])
def ahT:PFn:=aF (runF Tryz.prog ahU aom Tryz.f94)
def awZ:TH:=yZ
def zdv (a0:List vV6) (a1:List (List UInt8)) (a2:Int):Option vV0 :=
(zap a1).bind fun r1 =>
 cond (decide (a2=1)) (
(zda a0 a1).bind fun r2 =>
 some (r1,a2,r2,0,())) (
 cond (decide (a2=2)) (
(zc3 a0 a1).bind fun r3 =>
 some (r1,a2,r3,0,())) (
 cond (decide (a2=3)) (
(zdm a0 a1).bind fun r4 =>
 some (r1,a2,[],r4,())) (
 some (r1,a2,[],0,()))))
def aaD:TFn:={ ps:=(.cons (.sl tT19) (.cons (.sl .str) tT16)),res:=tT12,fn:=fun v=>zdv v.1 v.2.1 v.2.2.1 }
def aol:TEnv:=(vZ [(72,acs),(163,aa1),(164,abA),(165,aaO)])
theorem aok:runY Tryz.prog ahU aom aol awZ Tryz.f94 aaD.ps aaD.res=aaD.fn:=by kernel_rfl
theorem ahS:aA Tryz.prog G0 94 ahT:=ai (ak ⟨au,(aj px (aj aiF (aj ajV (aj aif ac)))),ap,ac,an⟩ Tryz.func94 rfl (by kernel_rfl))
theorem aoj:TOk ahT aaD:=az (E:=ahU) (ET:=aol) (EnvT.ofX (ax (ah wU (ah apA (ah ary (ah aoS al))))) am ar aJ aq) aok rfl
def ajR:Env:=(eZ [(93,aks),(94,ahT)] [274])
def art:Hints:=(hZ [(3,[0,5,10,11,12])] [])
def yJ:PFn:=aF (runF Tryz.prog ajR art Tryz.f32)
def axP:TH:={ loops:=[(3,{ keep:=[(5,(.own 1)),(12,(.int .i64))],mem:=[.gone,.row true 125 tT12] })],ro:=[] }
def wI (a0:List vV6) (r1:List vV4) (y3:(Int×List vV0×Unit)):Option ((Int×List vV0×Unit)⊕List vV0) :=
 cond (decide (y3.1<(r1.length:Int))) (
(atI r1 y3.1).bind fun x2 =>
(zdv a0 x2.1 x2.2.1).bind fun r3 =>
(ch (y3.2.1.length+([r3]:List vV0).length)).bind fun u4 =>
 some (.inl ((IntKind.wrap .i64 (y3.1+1)),(y3.2.1++([r3]:List vV0)),()))) (
 some (.inr y3.2.1))
def zc5 (a0:List vV6) (a1:List (List UInt8)):Option (List vV0) :=
(zbo a0 a1).bind fun r1 =>
 aH (wI a0 r1) (0,[],())
def rq:TFn:={ ps:=(.cons (.sl tT19) tT22),res:=(.sl tT12),fn:=fun v=>zc5 v.1 v.2.1 }
def ars:TEnv:={ pure:=[(93,abP),(94,aaD)],look:=[],glob:=G0T,ty:=[(125,tT12)],raw:=[],fresh:=[] }
theorem arq:runY Tryz.prog ajR art ars axP Tryz.f32 rq.ps rq.res=rq.fn:=by kernel_rfl
theorem pp:aA Tryz.prog G0 32 yJ:=ai (ak ⟨au,(aj akr (aj ahS ac)),ap,ac,an⟩ Tryz.func32 rfl (by kernel_rfl))
theorem wH:TOk yJ rq:=az (E:=ajR) (ET:=ars) (EnvT.ofX (ax (ah asq (ah aoj al))) am ar aJ aq) arq rfl
def amD:Env:=(eZ [(154,ud),(155,abU),(156,ut)] [274])
def avC:Hints:=(hZ [] [])
def amC:PFn:=aF (runF Tryz.prog amD avC Tryz.f86)
def ayQ:TH:={ loops:=[],ro:=[2,3] }
def za8 (a0:vV0) (a1:vV0):Option Int :=
(zbk a0.1 a1.1).bind fun r1 =>
(za6 a0.2.1 a1.2.1).bind fun r2 =>
(zdf ([r1,r2]:List Int)).bind fun r3 =>
 some r3
def acC:TFn:={ ps:=(.cons tT12 (.cons tT12 .unit)),res:=(.int .i64),fn:=fun v=>za8 v.1 v.2.1 }
def avB:TEnv:={ pure:=[(154,rg),(155,yQ),(156,rC)],look:=[],glob:=G0T,ty:=[(3,(.int .i64))],raw:=[],fresh:=[] }
theorem avA:runY Tryz.prog amD avC avB ayQ Tryz.f86 acC.ps acC.res=acC.fn:=by kernel_rfl
theorem amB:aA Tryz.prog G0 86 amC:=ai (ak ⟨au,(aj po (aj abT (aj py ac))),ap,ac,an⟩ Tryz.func86 rfl (by kernel_rfl))
theorem avz:TOk amC acC:=az (E:=amD) (ET:=avB) (EnvT.ofX (ax (ah wn (ah ahi (ah wZ al)))) am ar aJ aq) avA rfl
def alW:Go.Shelf.Ren:=⟨fun | 41=>159 | n=>n,fun | 22=>123 | 23=>132 | 4=>4 | n=>n,fun | n=>n⟩
theorem afx:Go.Proofs.SlLaysE0.n41 Tryz.prog alW:={
 mixed:=by kernel_rfl
 f41:=⟨Tryz.f159.name,by decide,Tryz.func159.trans (congrArg some (by kernel_rfl))⟩
 t4:=Tryz.underlying4
 a4:=Tryz.isAgg4
 z4:=Tryz.sizeOf4
 v4:=Tryz.zeroValue4
 t22:=Tryz.underlying123
 a22:=Tryz.isAgg123
 z22:=Tryz.sizeOf123
 v22:=Tryz.zeroValue123 }
def alY:PFn:=(kF 3)
theorem alX:aA Tryz.prog G0 159 alY:=clone_lays afx 3 ⟨Tryz.f159,Tryz.func159,rfl,by kernel_rfl⟩ (by kernel_rfl) (by kernel_rfl) (by kernel_rfl) (by kernel_rfl) (by kernel_rfl) (by decide) (fun w=>Tryz.sizeOf132 w)
def zal (a0:List vV3):Option (List vV3):=iv a0
def auS:TFn:=fR tT15
theorem auR:TOk alY auS:=nf rfl rfl rfl
def akw:Env:=(eZ [(72,yV),(159,alY)] [274])
def asx:Hints:=(hZ [] [])
def akv:PFn:=aF (runF Tryz.prog akw asx Tryz.f89)
def ax7:TH:=yZ
def zbn (a0:vV0):Option vV0 :=
(zap a0.1).bind fun r1 =>
(zal a0.2.2.1).bind fun r2 =>
 some (r1,a0.2.1,r2,a0.2.2.2.1,())
def abQ:TFn:={ ps:=(.cons tT12 .unit),res:=tT12,fn:=fun v=>zbn v.1 }
def asw:TEnv:=(vZ [(72,acs),(159,auS)])
theorem asv:runY Tryz.prog akw asx asw ax7 Tryz.f89 abQ.ps abQ.res=abQ.fn:=by kernel_rfl
theorem aku:aA Tryz.prog G0 89 akv:=ai (ak ⟨au,(aj px (aj alX ac)),ap,ac,an⟩ Tryz.func89 rfl (by kernel_rfl))
theorem asu:TOk akv abQ:=az (E:=akw) (ET:=asw) (EnvT.ofX (ax (ah wU (ah auR al))) am ar aJ aq) asv rfl
def alV:Env:=(eZ [] [274])
def auQ:Hints:=(hZ [(4,[0,1,12,13])] [])
def alU:PFn:=aF (runF Tryz.prog alV auQ Tryz.f161)
def ayH:TH:={ loops:=[(4,{ keep:=[(13,(.int .i64))],mem:=[] })],ro:=[] }
def wW (a0:List vV3) (a1:List vV3) (y4:(Int×Unit)):Option ((Int×Unit)⊕Bool) :=
 cond (decide (y4.1<(a0.length:Int))) (
(atI a0 y4.1).bind fun x1 =>
(atI a1 y4.1).bind fun x2 =>
 cond (!(eqV tT15 x1 x2)) (
 some (.inr false)) (
 some (.inl ((IntKind.wrap .i64 (y4.1+1)),())))) (
 some (.inr true))
def zam (a0:List vV3) (a1:List vV3):Option Bool :=
 cond (!decide ((a0.length:Int)=(a1.length:Int))) (
 some false) (
 aH (wW a0 a1) (0,()))
def acv:TFn:={ ps:=(.cons (.sl tT15) (.cons (.sl tT15) .unit)),res:=.bool,fn:=fun v=>zam v.1 v.2.1 }
def auP:TEnv:=(vZ [])
theorem auO:runY Tryz.prog alV auQ auP ayH Tryz.f161 acv.ps acv.res=acv.fn:=by kernel_rfl
theorem alT:aA Tryz.prog G0 161 alU:=ai (ak ⟨au,ac,ap,ac,an⟩ Tryz.func161 rfl (by kernel_rfl))
theorem auN:TOk alU acv:=az (E:=alV) (ET:=auP) (EnvT.ofX (ax al) am ar aJ aq) auO rfl
def aie:Env:=(eZ [(160,ae1),(161,alU)] [274])
def aoR:Hints:=(hZ [] [])
def aid:PFn:=aF (runF Tryz.prog aie aoR Tryz.f92)
def aw7:TH:={ loops:=[],cuts:=[(1,[(12,{ keep:=[(2,(.bx 0 0)),(3,(.bx 1 0)),(16,.bool)],mem:=[.same,.same] })])],ro:=[2,3],news:=[] }
def zdn (a0:vV0) (a1:vV0):Option Bool :=
(cond (decide (a0.2.1=a1.2.1)) (some ((decide (a0.2.2.2.1=a1.2.2.2.1)),())) (some (false,())):Option (Bool×Unit)).bind fun v1 =>
 cond v1.1 ((zdj a0.1 a1.1).bind fun r2 =>
 cond r2 ((zam a0.2.2.1 a1.2.2.1).bind fun r3 =>
 some r3) (some false)) (some false)
def aaN:TFn:={ ps:=(.cons tT12 (.cons tT12 .unit)),res:=.bool,fn:=fun v=>zdn v.1 v.2.1 }
def aoQ:TEnv:=(vZ [(160,yz),(161,acv)])
theorem aoP:runY Tryz.prog aie aoR aoQ aw7 Tryz.f92 aaN.ps aaN.res=aaN.fn:=by kernel_rfl
theorem aic:aA Tryz.prog G0 92 aid:=ai (ak ⟨au,(aj aaS (aj alT ac)),ap,ac,an⟩ Tryz.func92 rfl (by kernel_rfl))
theorem aoO:TOk aid aaN:=az (E:=aie) (ET:=aoQ) (EnvT.ofX (ax (ah ag1 (ah auN al))) am ar aJ aq) aoP rfl
def amx:Env:=(eZ [(92,aid)] [274])
def avu:Hints:=(hZ [(4,[1,2,15,16,17])] [])
def amw:PFn:=aF (runF Tryz.prog amx avu Tryz.f91)
def ayO:TH:={ loops:=[(4,{ keep:=[(17,(.int .i64))],mem:=[] })],ro:=[] }
def lz (a0:List vV0) (a1:List vV0) (y4:(Int×Unit)):Option ((Int×Unit)⊕Bool) :=
 cond (decide (y4.1<(a0.length:Int))) (
(atI a0 y4.1).bind fun x1 =>
(atI a1 y4.1).bind fun x2 =>
(zdn x1 x2).bind fun r3 =>
 cond (!r3) (
 some (.inr false)) (
 some (.inl ((IntKind.wrap .i64 (y4.1+1)),())))) (
 some (.inr true))
def zaa (a0:List vV0) (a1:List vV0) (a2:Unit):Option Bool :=
 cond (!decide ((a0.length:Int)=(a1.length:Int))) (
 some false) (
 aH (lz a0 a1) (0,()))
def acA:TFn:={ ps:=(.cons (.sl tT12) (.cons (.sl tT12) (.cons (.fn 92) .unit))),res:=.bool,fn:=fun v=>zaa v.1 v.2.1 v.2.2.1 }
def avt:TEnv:=(vZ [(92,aaN)])
theorem avs:runY Tryz.prog amx avu avt ayO Tryz.f91 acA.ps acA.res=acA.fn:=by kernel_rfl
theorem amv:aA Tryz.prog G0 91 amw:=ai (ak ⟨au,(aj aic ac),ap,ac,an⟩ Tryz.func91 rfl (by kernel_rfl))
theorem avr:TOk amw acA:=az (E:=amx) (ET:=avt) (EnvT.ofX (ax (ah aoO al)) am ar aJ aq) avs rfl
def ait:Env:=(eZ [(91,amw)] [274])
def apg:Hints:=(hZ [] [])
def aaW:PFn:=aF (runF Tryz.prog ait apg Tryz.f31)
def axe:TH:=yZ
def zdg (a0:List vV0) (a1:List vV0):Option Bool :=
(zaa a0 a1 ()).bind fun r1 =>
 some r1
def tZ:TFn:={ ps:=(.cons (.sl tT12) (.cons (.sl tT12) .unit)),res:=.bool,fn:=fun v=>zdg v.1 v.2.1 }
def apf:TEnv:=(vZ [(91,acA)])
theorem ape:runY Tryz.prog ait apg apf axe Tryz.f31 tZ.ps tZ.res=tZ.fn:=by kernel_rfl
theorem t8:aA Tryz.prog G0 31 aaW:=ai (ak ⟨au,(aj amv ac),ap,ac,an⟩ Tryz.func31 rfl (by kernel_rfl))
theorem aaV:TOk aaW tZ:=az (E:=ait) (ET:=apf) (EnvT.ofX (ax (ah avr al)) am ar aJ aq) ape rfl
def aju:Env:=(eZ [(31,aaW)] [274])
def aqS:Hints:=(hZ [] [])
def ajt:PFn:=aF (runF Tryz.prog aju aqS Tryz.f87)
def axG:TH:={ loops:=[],ro:=[2,3] }
def zce (a0:vV0) (a1:vV0):Option Bool :=
(zdg ([a0]:List vV0) ([a1]:List vV0)).bind fun r1 =>
 some r1
def abp:TFn:={ ps:=(.cons tT12 (.cons tT12 .unit)),res:=.bool,fn:=fun v=>zce v.1 v.2.1 }
def aqR:TEnv:={ pure:=[(31,tZ)],look:=[],glob:=G0T,ty:=[(125,tT12)],raw:=[],fresh:=[] }
theorem aqQ:runY Tryz.prog aju aqS aqR axG Tryz.f87 abp.ps abp.res=abp.fn:=by kernel_rfl
theorem ajs:aA Tryz.prog G0 87 ajt:=ai (ak ⟨au,(aj t8 ac),ap,ac,an⟩ Tryz.func87 rfl (by kernel_rfl))
theorem aqP:TOk ajt abp:=az (E:=aju) (ET:=aqR) (EnvT.ofX (ax (ah aaV al)) am ar aJ aq) aqQ rfl
def ai9:Env:=(eZ [(86,amC),(87,ajt),(89,akv)] [274])
def aqq:Hints:=(hZ [(2,[0,1,5])] [41,45,60,73])
def ae8:PFn:=aF (runF Tryz.prog ai9 aqq Tryz.f76)
def axy:TH:={ joins:=[(3,{ keep:=[(5,(.own 0))],mem:=[.row true 127 tT18] }),(11,{ keep:=[(5,(.own 0)),(6,(.int .i64))],mem:=[.row true 127 tT18] }),(10,{ keep:=[(5,(.own 0))],mem:=[.row true 127 tT18] })],loops:=[(2,{ keep:=[(0,(.sl tT12)),(1,(.sl tT12)),(5,(.own 0))],mem:=[.row true 127 tT18] })],ro:=[] }
def iQ (y2:(List vV0×List vV0×List vV7×Unit)):Option ((List vV0×List vV0×List vV7×Unit)⊕List vV7) :=
(cond (decide ((y2.1.length:Int)>0)) (some (.inl (y2.2.2.1,()))) (cond (decide ((y2.2.1.length:Int)>0)) (
 some (.inl (y2.2.2.1,()))) (
 some (.inr (.inr y2.2.2.1)))):Option ((List vV7×Unit)⊕((List vV0×List vV0×List vV7×Unit)⊕List vV7))).bind (aU fun v1 =>
(cond (decide ((y2.2.1.length:Int)=0)) (
 some (.inl ((-1),v1.1,()))) (
 cond (decide ((y2.1.length:Int)>0)) (
(atI y2.1 0).bind fun x2 =>
(atI y2.2.1 0).bind fun x3 =>
(za8 x2 x3).bind fun r4 =>
 some (.inl (r4,v1.1,()))) (
 some (.inl (1,v1.1,())))):Option ((Int×List vV7×Unit)⊕((List vV0×List vV0×List vV7×Unit)⊕List vV7))).bind (aU fun v5 =>
 cond (decide (v5.1<0)) (
(atI y2.1 0).bind fun x6 =>
(zbn x6).bind fun r7 =>
(ch (v5.2.1.length+([(2,r7,([],0,[],0,()),())]:List vV7).length)).bind fun u8 =>
(subI y2.1 1 (y2.1.length:Int)).bind fun s9 =>
 some (.inl (s9,y2.2.1,(v5.2.1++([(2,r7,([],0,[],0,()),())]:List vV7)),()))) (
 cond (decide (v5.1>0)) (
(atI y2.2.1 0).bind fun x10 =>
(zbn x10).bind fun r11 =>
(ch (v5.2.1.length+([(1,([],0,[],0,()),r11,())]:List vV7).length)).bind fun u12 =>
(subI y2.2.1 1 (y2.2.1.length:Int)).bind fun s13 =>
 some (.inl (y2.1,s13,(v5.2.1++([(1,([],0,[],0,()),r11,())]:List vV7)),()))) (
((atI y2.1 0).bind fun x14 =>
(atI y2.2.1 0).bind fun x15 =>
(zce x14 x15).bind fun r16 =>
 cond (!r16) (
(atI y2.1 0).bind fun x17 =>
(zbn x17).bind fun r18 =>
(atI y2.2.1 0).bind fun x19 =>
(zbn x19).bind fun r20 =>
(ch (v5.2.1.length+([(3,r18,r20,())]:List vV7).length)).bind fun u21 =>
 some (.inl ((v5.2.1++([(3,r18,r20,())]:List vV7)),()))) (
 some (.inl (v5.2.1,()))):Option ((List vV7×Unit)⊕((List vV0×List vV0×List vV7×Unit)⊕List vV7))).bind (aU fun v22 =>
(subI y2.1 1 (y2.1.length:Int)).bind fun s23 =>
(subI y2.2.1 1 (y2.2.1.length:Int)).bind fun s24 =>
 some (.inl (s23,s24,v22.1,())))))))
def zcm (a0:List vV0) (a1:List vV0):Option (List vV7) :=
 aH (iQ) (a0,a1,[],())
def yG:TFn:={ ps:=(.cons (.sl tT12) (.cons (.sl tT12) .unit)),res:=(.sl tT18),fn:=fun v=>zcm v.1 v.2.1 }
def aqp:TEnv:={ pure:=[(86,acC),(87,abp),(89,abQ)],look:=[],glob:=G0T,ty:=[(127,tT18)],raw:=[],fresh:=[] }
theorem aqo:runY Tryz.prog ai9 aqq aqp axy Tryz.f76 yG.ps yG.res=yG.fn:=by kernel_rfl
theorem abg:aA Tryz.prog G0 76 ae8:=ai (ak ⟨au,(aj amB (aj ajs (aj aku ac))),ap,ac,an⟩ Tryz.func76 rfl (by kernel_rfl))
theorem ag8:TOk ae8 yG:=az (E:=ai9) (ET:=aqp) (EnvT.ofX (ax (ah avz (ah aqP (ah asu al)))) am ar aJ aq) aqo rfl
def alr:Env:=(eZ [(32,yJ),(76,ae8)] [274])
def at5:Hints:=(hZ [] [8])
def afp:SFn:=runF Tryz.prog alr at5 Tryz.f21
def ayv:TH:=yZ
def zaz (a1:List vV6) (w0:vV8):Option (List vV7×vV8×Unit) :=
(zc5 a1 w0.1).bind fun r1 =>
(zcm w0.2.1 r1).bind fun r2 =>
 some (r2,(w0.1,r1,(IntKind.wrap .i64 (w0.2.2.1+1)),()),())
def ry:TRaw:={ ps:=(.cons (.bx 0 0) (.cons (.sl tT19) .unit)),ins:=[.box 139 tT21],res:=(.sl tT18),outs:=[.box 139 tT21],fn:=fun v w=>zaz v.2.1 w.1 }
def at4:TEnv:=(vZ [(32,rq),(76,yG)])
theorem atZ:rawY Tryz.prog alr at5 at4 ayv [(0,0)] Tryz.f21 ry.ps ry.ins ry.res ry.outs=ry.fn:=by kernel_rfl
theorem aci:cB Tryz.prog G0 21 afp:=ak ⟨au,(aj pp (aj abg ac)),ap,ac,an⟩ Tryz.func21 rfl (by kernel_rfl)
theorem ahm:TRawOk afp ry:=mi (E:=alr) (ET:=at4) (EnvT.ofX (ax (ah wH (ah ag8 al))) am ar aJ aq) atZ
def alv:Env:=(eZ [] [274])
def auf:Hints:=(hZ [] [4])
def acl:SFn:=runF Tryz.prog alv auf Tryz.f28
def ayy:TH:=yZ
def zaw (w0:vV8):Option (Int×vV8×Unit) :=
 some (w0.2.2.1,w0,())
def rz:TRaw:={ ps:=(.cons (.bx 0 0) .unit),ins:=[.box 139 tT21],res:=(.int .i64),outs:=[.box 139 tT21],fn:=fun v w=>zaw w.1 }
def aue:TEnv:=(vZ [])
theorem aud:rawY Tryz.prog alv auf aue ayy [(0,0)] Tryz.f28 rz.ps rz.ins rz.res rz.outs=rz.fn:=by kernel_rfl
theorem ack:cB Tryz.prog G0 28 acl:=ak ⟨au,ac,ap,ac,an⟩ Tryz.func28 rfl (by kernel_rfl)
theorem aho:TRawOk acl rz:=mi (E:=alv) (ET:=aue) (EnvT.ofX (ax al) am ar aJ aq) aud
theorem dg:∀ xs st p,acl xs st=some p→p.2=st:=fun xs st p hp=>jQ (by kernel_rfl) hp
def aj6:Env:={ pure:=[(19,aaJ)],raw:=[(17,ae0),(21,afp),(28,acl)],glob:=G0,same:=[274],look:=[],ext:=[],quiet:=[28] }
def arS:Hints:=(hZ [] [])
def afd:PFn:=aF (runF Tryz.prog aj6 arS Tryz.f16)
def axW:TH:={ loops:=[],cuts:=[(4,[(7,{ keep:=[(1,(.bx 0 0)),(30,.bool)],mem:=[.box 139 tT21] })])],ro:=[],news:=[] }
def zby:Option Bool :=
(zdl ([[97]]:List (List UInt8))).bind fun p1 =>
 cond p1.1.isEmpty (
(zdr ([((0,1,()),0,1,false,([(3,([[97]]:List (List UInt8)),(0,0,[],()),1,[],())]:List vV1),())]:List vV5) []).bind fun r9 =>
 none) (
((p1.1.head? : Option vV8)).bind fun x2 =>
(zdr ([((0,1,()),0,1,false,([(3,([[97]]:List (List UInt8)),(0,0,[],()),1,[],())]:List vV1),())]:List vV5) []).bind fun r3 =>
(zaz r3 x2).bind fun q4 =>
(zaz r3 q4.2.1).bind fun q5 =>
(cond (decide (p1.2.1=0)) (some ((decide ((q4.1.length:Int)=1)),q5.2.1,())) (some (false,q5.2.1,())):Option (Bool×vV8×Unit)).bind fun v6 =>
 cond v6.1 ((atI q4.1 0).bind fun x7 =>
 cond (decide (x7.1=1)) (cond (decide ((q5.1.length:Int)=0)) ((zaw v6.2.1).bind fun q8 =>
 some (decide (q8.1=2))) (some false)) (some false)) (some false))
def yM:TFn:={ ps:=.unit,res:=.bool,fn:=fun v=>zby  }
def arR:TEnv:={ pure:=[(19,tX)],look:=[],glob:=G0T,ty:=[(9,.str),(78,tT17),(135,tT13)],raw:=[(21,ry),(28,rz)],fresh:=[(17,aaQ)] }
theorem arQ:runY Tryz.prog aj6 arS arR axW Tryz.f16 yM.ps yM.res=yM.fn:=by kernel_rfl
theorem abF:aA Tryz.prog G0 16 afd:=ai (ak ⟨au,(aj tY ac),(bN aaP (bN aci (bN ack ap))),ac,an⟩ Tryz.func16 rfl (by kernel_rfl))
theorem ahd:TOk afd yM:=az (E:=aj6) (ET:=arR) (EnvT.ofX (ax (ah aaI al)) am (mh (ck ahm rfl rfl (ck aho rfl rfl ar)) rfl) aJ (mD ag0 rfl rfl rfl aq) (gV dg rfl rfl rfl mj)) arQ rfl
def ajk:Env:=(eZ [(144,yT)] [274])
def aqI:Hints:=(hZ [(6,[4,6,7])] [])
def afa:PFn:=aF (runF Tryz.prog ajk aqI Tryz.f73)
def axD:TH:={ joins:=[(18,{ keep:=[(6,(.own 0)),(7,(.int .i64)),(8,(.int .i64))],mem:=[.row true 3 (.int .i64)] }),(17,{ keep:=[(6,(.own 0))],mem:=[.row true 3 (.int .i64)] })],loops:=[(6,{ keep:=[(6,(.own 0)),(7,(.int .i64))],mem:=[.row true 3 (.int .i64)] })],ro:=[] }
def fZ (r1:(List Int×Bool×Unit)) (y6:(Int×List Int×Unit)):Option ((Int×List Int×Unit)⊕(List Int×Bool×Unit)) :=
 cond (decide (y6.1<(r1.1.length:Int))) (
(atI r1.1 y6.1).bind fun x2 =>
 cond (decide (x2=42)) (
(ch (y6.2.1.length+([(-2)]:List Int).length)).bind fun u3 =>
 some (.inl ((IntKind.wrap .i64 (y6.1+1)),(y6.2.1++([(-2)]:List Int)),()))) (
 cond (decide (x2=63)) (
(ch (y6.2.1.length+([(-1)]:List Int).length)).bind fun u4 =>
 some (.inl ((IntKind.wrap .i64 (y6.1+1)),(y6.2.1++([(-1)]:List Int)),()))) (
(cond (decide (x2=92)) (
(cond (decide ((IntKind.wrap .i64 (y6.1+1))=(r1.1.length:Int))) (some (.inr (.inr (.inr ([],false,()))))) ((atI r1.1 (IntKind.wrap .i64 (y6.1+1))).bind fun x5 =>
 cond (!decide (x5=92)) ((atI r1.1 (IntKind.wrap .i64 (y6.1+1))).bind fun x6 =>
 cond (!decide (x6=42)) ((atI r1.1 (IntKind.wrap .i64 (y6.1+1))).bind fun x7 =>
 cond (!decide (x7=63)) (
 some (.inr (.inr (.inr ([],false,()))))) (
 some (.inl (y6.2.1,())))) (some (.inl (y6.2.1,())))) (some (.inl (y6.2.1,())))):Option ((List Int×Unit)⊕((Int×Int×List Int×Unit)⊕((Int×List Int×Unit)⊕(List Int×Bool×Unit))))).bind (aU fun v8 =>
(atI r1.1 (IntKind.wrap .i64 (y6.1+1))).bind fun x9 =>
 some (.inl ((IntKind.wrap .i64 (y6.1+1)),x9,v8.1,())))) (
 some (.inl (y6.1,x2,y6.2.1,()))):Option ((Int×Int×List Int×Unit)⊕((Int×List Int×Unit)⊕(List Int×Bool×Unit)))).bind (aU fun v10 =>
(ch (v10.2.2.1.length+([v10.2.1]:List Int).length)).bind fun u11 =>
 some (.inl ((IntKind.wrap .i64 (v10.1+1)),(v10.2.2.1++([v10.2.1]:List Int)),())))))) (
 some (.inr (y6.2.1,true,())))
def zch (a0:List UInt8):Option (List Int×Bool×Unit) :=
(zb6 a0).bind fun r1 =>
 cond (!r1.2.1) (some ([],false,())) (cond (decide ((r1.1.length:Int)>64)) (
 some ([],false,())) (
 aH (fZ r1) (0,[],())))
def yI:TFn:={ ps:=(.cons .str .unit),res:=(.tup (.cons (.sl (.int .i64)) (.cons .bool .unit))),fn:=fun v=>zch v.1 }
def aqH:TEnv:={ pure:=[(144,rv)],look:=[],glob:=G0T,ty:=[(3,(.int .i64))],raw:=[],fresh:=[] }
theorem aqG:runY Tryz.prog ajk aqI aqH axD Tryz.f73 yI.ps yI.res=yI.fn:=by kernel_rfl
theorem abl:aA Tryz.prog G0 73 afa:=ai (ak ⟨au,(aj pw ac),ap,ac,an⟩ Tryz.func73 rfl (by kernel_rfl))
theorem aha:TOk afa yI:=az (E:=ajk) (ET:=aqH) (EnvT.ofX (ax (ah wS al)) am ar aJ aq) aqG rfl
def ak6:Env:=(eZ [(73,afa)] [274])
def atv:Hints:=(hZ [(6,[0,3])] [])
def afo:PFn:=aF (runF Tryz.prog ak6 atv Tryz.f18)
def ayn:TH:={ loops:=[(6,{ keep:=[(3,(.int .i64))],mem:=[] })],ro:=[] }
def ru (a0:List (List UInt8)) (y6:(Int×Unit)):Option ((Int×Unit)⊕Int) :=
 cond (decide (y6.1<(a0.length:Int))) (
(atI a0 y6.1).bind fun x1 =>
(zch x1).bind fun r2 =>
(atI a0 y6.1).bind fun x3 =>
 cond (decide (x3=[])) (some (.inr 8)) (cond (!r2.2.1) (
 some (.inr 8)) (
 some (.inl ((IntKind.wrap .i64 (y6.1+1)),()))))) (
 some (.inr 0))
def zb7 (a0:List (List UInt8)):Option Int :=
 cond (decide ((a0.length:Int)=0)) (
 some 8) (
 cond (decide ((a0.length:Int)>8)) (
 some 9) (
 aH (ru a0) (0,())))
def yS:TFn:={ ps:=tT22,res:=(.int .i64),fn:=fun v=>zb7 v.1 }
def atu:TEnv:=(vZ [(73,yI)])
theorem att:runY Tryz.prog ak6 atv atu ayn Tryz.f18 yS.ps yS.res=yS.fn:=by kernel_rfl
theorem aca:aA Tryz.prog G0 18 afo:=ai (ak ⟨au,(aj abl ac),ap,ac,an⟩ Tryz.func18 rfl (by kernel_rfl))
theorem ahl:TOk afo yS:=az (E:=ak6) (ET:=atu) (EnvT.ofX (ax (ah aha al)) am ar aJ aq) att rfl
def amJ:Env:=(eZ [(31,aaW),(32,yJ)] [274])
def avQ:Hints:=(hZ [] [6])
def afE:SFn:=runF Tryz.prog amJ avQ Tryz.f20
def ayT:TH:=yZ
def za4 (a1:List vV6) (w0:vV8):Option (Bool×vV8×Unit) :=
(zc5 a1 w0.1).bind fun r1 =>
(zdg r1 w0.2.1).bind fun r2 =>
 some ((!r2),w0,())
def uw:TRaw:={ ps:=(.cons (.bx 0 0) (.cons (.sl tT19) .unit)),ins:=[.box 139 tT21],res:=.bool,outs:=[.box 139 tT21],fn:=fun v w=>za4 v.2.1 w.1 }
def avP:TEnv:=(vZ [(31,tZ),(32,rq)])
theorem avO:rawY Tryz.prog amJ avQ avP ayT [(0,0)] Tryz.f20 uw.ps uw.ins uw.res uw.outs=uw.fn:=by kernel_rfl
theorem amI:cB Tryz.prog G0 20 afE:=ak ⟨au,(aj t8 (aj pp ac)),ap,ac,an⟩ Tryz.func20 rfl (by kernel_rfl)
theorem avN:TRawOk afE uw:=mi (E:=amJ) (ET:=avP) (EnvT.ofX (ax (ah aaV (ah wH al))) am ar aJ aq) avO
theorem gb:∀ xs st p,afE xs st=some p→p.2=st:=fun xs st p hp=>jQ (by kernel_rfl) hp
def ais:Env:=(eZ [] [274])
def apd:Hints:=(hZ [(2,[0,3,5])] [])
def air:PFn:=aF (runF Tryz.prog ais apd Tryz.f48)
def axd:TH:={ loops:=[(2,{ keep:=[(3,(.bx 0 0)),(5,(.int .i64))],mem:=[.same] })],ro:=[3] }
def rf (a0:List vV2) (a1:(Int×Int×Unit)) (y2:(Int×Unit)):Option ((Int×Unit)⊕Int) :=
 cond (decide (y2.1<(a0.length:Int))) (
(atI a0 y2.1).bind fun x1 =>
 cond (eqV (.agg (.cons (.int .i64) tT16)) x1.1 a1) (
(atI a0 y2.1).bind fun x2 =>
 some (.inr x2.2.1)) (
 some (.inl ((IntKind.wrap .i64 (y2.1+1)),())))) (
 some (.inr 0))
def zdh (a0:List vV2) (a1:(Int×Int×Unit)):Option Int :=
 aH (rf a0 a1) (0,())
def aaU:TFn:={ ps:=(.cons (.sl tT14) tT23),res:=(.int .i64),fn:=fun v=>zdh v.1 v.2.1 }
def apc:TEnv:=(vZ [])
theorem apb:runY Tryz.prog ais apd apc axd Tryz.f48 aaU.ps aaU.res=aaU.fn:=by kernel_rfl
theorem aiq:aA Tryz.prog G0 48 air:=ai (ak ⟨au,ac,ap,ac,an⟩ Tryz.func48 rfl (by kernel_rfl))
theorem apa:TOk air aaU:=az (E:=ais) (ET:=apc) (EnvT.ofX (ax al) am ar aJ aq) apb rfl
def aiE:Env:=(eZ [(48,air)] [274])
def apz:Hints:=(hZ [] [])
def ae2:PFn:=aF (runF Tryz.prog aiE apz Tryz.f37)
def axj:TH:={ loops:=[],ro:=[3] }
def zdb (a0:List vV2) (a1:(Int×Int×Unit)):Option Bool :=
(zdh a0 a1).bind fun r1 =>
(remT r1 2).bind fun t2 =>
 some (decide (t2=0))
def yA:TFn:={ ps:=(.cons (.sl tT14) tT23),res:=.bool,fn:=fun v=>zdb v.1 v.2.1 }
def apy:TEnv:=(vZ [(48,aaU)])
theorem apx:runY Tryz.prog aiE apz apy axj Tryz.f37 yA.ps yA.res=yA.fn:=by kernel_rfl
theorem aa0:aA Tryz.prog G0 37 ae2:=ai (ak ⟨au,(aj aiq ac),ap,ac,an⟩ Tryz.func37 rfl (by kernel_rfl))
theorem ag2:TOk ae2 yA:=az (E:=aiE) (ET:=apy) (EnvT.ofX (ax (ah apa al)) am ar aJ aq) apx rfl
def akd:Env:=(eZ [] [274])
def ar3:Hints:=(hZ [(2,[2,3,5])] [])
def akc:PFn:=aF (runF Tryz.prog akd ar3 Tryz.f151)
def axZ:TH:={ loops:=[(2,{ keep:=[(2,(.bx 0 0)),(3,(.bx 1 0)),(5,(.int .i64))],mem:=[.same,.same] })],ro:=[2,3] }
def wM (a0:vV1) (a1:vV2) (y2:(Int×Unit)):Option ((Int×Unit)⊕Bool) :=
 cond (decide (y2.1<(a0.2.2.2.2.1.length:Int))) (
(atI a0.2.2.2.2.1 y2.1).bind fun x1 =>
 cond (eqV tT14 x1 a1) (
 some (.inr true)) (
 some (.inl ((IntKind.wrap .i64 (y2.1+1)),())))) (
 some (.inr false))
def zbv (a0:vV1) (a1:vV2):Option Bool :=
 aH (wM a0 a1) (0,())
def abH:TFn:={ ps:=(.cons tT13 (.cons tT14 .unit)),res:=.bool,fn:=fun v=>zbv v.1 v.2.1 }
def ar2:TEnv:=(vZ [])
theorem ar1:runY Tryz.prog akd ar3 ar2 axZ Tryz.f151 abH.ps abH.res=abH.fn:=by kernel_rfl
theorem akb:aA Tryz.prog G0 151 akc:=ai (ak ⟨au,ac,ap,ac,an⟩ Tryz.func151 rfl (by kernel_rfl))
theorem ar0:TOk akc abH:=az (E:=akd) (ET:=ar2) (EnvT.ofX (ax al) am ar aJ aq) ar1 rfl
def amA:Env:=(eZ [(37,ae2),(151,akc)] [274])
def avy:Hints:=(hZ [(2,[0,1,5,7]),(5,[0,1,5,7,8])] [])
def amz:PFn:=aF (runF Tryz.prog amA avy Tryz.f79)
def ayP:TH:={ loops:=[(2,{ keep:=[(5,(.bx 0 0)),(7,(.int .i64))],mem:=[.same] }),(5,{ keep:=[(5,(.bx 0 0)),(8,(.int .i64))],mem:=[.same] })],ro:=[5] }
def wX (y2:(Int×Unit)) (a0:List vV5) (a1:List vV2) (a2:vV2) (y5:(Int×Unit)):Option ((Int×Unit)⊕((Int×Unit)⊕Bool)) :=
(atI a0 y2.1).bind fun x1 =>
 cond (decide (y5.1<(x1.2.2.2.2.1.length:Int))) (
(atI a0 y2.1).bind fun x2 =>
(atI x2.2.2.2.2.1 y5.1).bind fun x3 =>
(zbv x3 a2).bind fun r4 =>
 cond r4 ((atI a0 y2.1).bind fun x5 =>
(zdb a1 x5.1).bind fun r6 =>
 cond r6 (
 some (.inr (.inr true))) (
 some (.inl ((IntKind.wrap .i64 (y5.1+1)),())))) (some (.inl ((IntKind.wrap .i64 (y5.1+1)),())))) (
 some (.inr (.inl ((IntKind.wrap .i64 (y2.1+1)),()))))
def wY (a0:List vV5) (a1:List vV2) (a2:vV2) (y2:(Int×Unit)):Option ((Int×Unit)⊕Bool) :=
 cond (decide (y2.1<(a0.length:Int))) (
 aH (wX y2 a0 a1 a2) (0,())) (
 some (.inr false))
def za9 (a0:List vV5) (a1:List vV2) (a2:vV2):Option Bool :=
 aH (wY a0 a1 a2) (0,())
def acB:TFn:={ ps:=(.cons (.sl tT17) (.cons (.sl tT14) (.cons tT14 .unit))),res:=.bool,fn:=fun v=>za9 v.1 v.2.1 v.2.2.1 }
def avx:TEnv:=(vZ [(37,yA),(151,abH)])
theorem avw:runY Tryz.prog amA avy avx ayP Tryz.f79 acB.ps acB.res=acB.fn:=by kernel_rfl
theorem amy:aA Tryz.prog G0 79 amz:=ai (ak ⟨au,(aj aa0 (aj akb ac)),ap,ac,an⟩ Tryz.func79 rfl (by kernel_rfl))
theorem avv:TOk amz acB:=az (E:=amA) (ET:=avx) (EnvT.ofX (ax (ah ag2 (ah ar0 al))) am ar aJ aq) avw rfl
def aib:Env:=(eZ [(37,ae2),(79,amz)] [274])
def aoN:Hints:=(hZ [(3,[0,1,5,6]),(6,[0,1,5,6,7])] [72])
def aia:PFn:=aF (runF Tryz.prog aib aoN Tryz.f24)
def aw6:TH:={ loops:=[(3,{ keep:=[(5,(.own 2)),(6,(.int .i64))],mem:=[.gone,.gone,.row true 156 tT19] }),(6,{ keep:=[(5,(.own 2)),(7,(.int .i64))],mem:=[.gone,.gone,.row true 156 tT19] })],cuts:=[(10,[(8,{ keep:=[(5,(.own 2)),(8,(.bx 3 0)),(9,(.bx 4 0)),(48,.bool)],mem:=[.gone,.gone,.row true 156 tT19,.box 135 tT13,.box 146 tT14] })])],ro:=[],news:=[] }
def lk (y3:(Int×List vV6×Unit)) (a0:List vV5) (a1:List vV2) (y6:(Int×List vV6×Unit)):Option ((Int×List vV6×Unit)⊕((Int×List vV6×Unit)⊕List vV6)) :=
(atI a0 y3.1).bind fun x1 =>
 cond (decide (y6.1<(x1.2.2.2.2.1.length:Int))) (
(atI a0 y3.1).bind fun x2 =>
(atI x2.2.2.2.2.1 y6.1).bind fun x3 =>
(atI a0 y3.1).bind fun x4 =>
(cond (decide (x3.1≥1)) (some ((decide (x3.1≤3)),y6.2.1,x3,(x4.1,y6.1,()),())) (some (false,y6.2.1,x3,(x4.1,y6.1,()),())):Option (Bool×List vV6×vV1×vV2×Unit)).bind fun v5 =>
 cond v5.1 ((atI a0 y3.1).bind fun x6 =>
(zdb a1 x6.1).bind fun r7 =>
 cond r7 ((za9 a0 a1 v5.2.2.2.1).bind fun r8 =>
 cond (!r8) (
(atI a0 y3.1).bind fun x9 =>
(ch (v5.2.1.length+([(v5.2.2.2.1,v5.2.2.1,x9.2.2.1,())]:List vV6).length)).bind fun u10 =>
 some (.inl ((IntKind.wrap .i64 (y6.1+1)),(v5.2.1++([(v5.2.2.2.1,v5.2.2.1,x9.2.2.1,())]:List vV6)),()))) (
 some (.inl ((IntKind.wrap .i64 (y6.1+1)),v5.2.1,())))) (some (.inl ((IntKind.wrap .i64 (y6.1+1)),v5.2.1,())))) (some (.inl ((IntKind.wrap .i64 (y6.1+1)),v5.2.1,())))) (
 some (.inr (.inl ((IntKind.wrap .i64 (y3.1+1)),y6.2.1,()))))
def wl (a0:List vV5) (a1:List vV2) (y3:(Int×List vV6×Unit)):Option ((Int×List vV6×Unit)⊕List vV6) :=
 cond (decide (y3.1<(a0.length:Int))) (
 aH (lk y3 a0 a1) (0,y3.2.1,())) (
 some (.inr y3.2.1))
def zdo (a0:List vV5) (a1:List vV2):Option (List vV6) :=
 aH (wl a0 a1) (0,[],())
def aaM:TFn:={ ps:=(.cons (.sl tT17) (.cons (.sl tT14) .unit)),res:=(.sl tT19),fn:=fun v=>zdo v.1 v.2.1 }
def aoM:TEnv:={ pure:=[(37,yA),(79,acB)],look:=[],glob:=G0T,ty:=[(156,tT19)],raw:=[],fresh:=[] }
theorem aoL:runY Tryz.prog aib aoN aoM aw6 Tryz.f24 aaM.ps aaM.res=aaM.fn:=by kernel_rfl
theorem ah9:aA Tryz.prog G0 24 aia:=ai (ak ⟨au,(aj aa0 (aj amy ac)),ap,ac,an⟩ Tryz.func24 rfl (by kernel_rfl))
theorem aoK:TOk aia aaM:=az (E:=aib) (ET:=aoM) (EnvT.ofX (ax (ah ag2 (ah avv al))) am ar aJ aq) aoL rfl
def aiZ:Env:=(eZ [] [274])
def ap6:Hints:=(hZ [] [])
def ae4:PFn:=aF (runF Tryz.prog aiZ ap6 Tryz.f207)
def axs:TH:=yZ
def zcs (a0:Int):Option Int :=
 cond (decide (a0=1)) (
 some 1) (
 cond (decide (a0=2)) (some 2) (cond (decide (a0=4)) (
 some 2) (
 cond (decide (a0=3)) (
 some 3) (
 some 0))))
def yC:TFn:={ ps:=tT16,res:=(.int .i64),fn:=fun v=>zcs v.1 }
def ap5:TEnv:=(vZ [])
theorem ap4:runY Tryz.prog aiZ ap6 ap5 axs Tryz.f207 yC.ps yC.res=yC.fn:=by kernel_rfl
theorem aba:aA Tryz.prog G0 207 ae4:=ai (ak ⟨au,ac,ap,ac,an⟩ Tryz.func207 rfl (by kernel_rfl))
theorem ag4:TOk ae4 yC:=az (E:=aiZ) (ET:=ap5) (EnvT.ofX (ax al) am ar aJ aq) ap4 rfl
def ai3:Env:=(eZ [] [274])
def aqd:Hints:=(hZ [] [])
def ae5:PFn:=aF (runF Tryz.prog ai3 aqd Tryz.f352)
def axu:TH:=yZ
def zcq (a0:Int) (a1:Int):Option Int :=
 cond (decide (a0<a1)) (
 some (-1)) (
 cond (decide (a0>a1)) (
 some 1) (
 some 0))
def yD:TFn:={ ps:=(.cons (.int .i64) tT16),res:=(.int .i64),fn:=fun v=>zcq v.1 v.2.1 }
def aqc:TEnv:=(vZ [])
theorem aqb:runY Tryz.prog ai3 aqd aqc axu Tryz.f352 yD.ps yD.res=yD.fn:=by kernel_rfl
theorem abc:aA Tryz.prog G0 352 ae5:=ai (ak ⟨au,ac,ap,ac,an⟩ Tryz.func352 rfl (by kernel_rfl))
theorem ag5:TOk ae5 yD:=az (E:=ai3) (ET:=aqc) (EnvT.ofX (ax al) am ar aJ aq) aqb rfl
def aj5:Env:=(eZ [(352,ae5)] [274])
def arP:Hints:=(hZ [(2,[0,1,5])] [])
def afc:PFn:=aF (runF Tryz.prog aj5 arP Tryz.f322)
def axV:TH:={ joins:=[(6,{ keep:=[],mem:=[] })],loops:=[(2,{ keep:=[(5,(.int .i64))],mem:=[] })],ro:=[] }
def kp (a0:List UInt8) (a1:List UInt8) (y2:(Int×Unit)):Option ((Int×Unit)⊕(Unit⊕Int)) :=
 cond (decide (y2.1<(a0.length:Int))) (cond (decide (y2.1<(a1.length:Int))) (
(atI a0 y2.1).bind fun b1 =>
(atI a1 y2.1).bind fun b2 =>
 cond (!decide ((b1.toNat:Int)=(b2.toNat:Int))) (
(atI a0 y2.1).bind fun b3 =>
(atI a1 y2.1).bind fun b4 =>
(zcq (IntKind.wrap .i64 (b3.toNat:Int)) (IntKind.wrap .i64 (b4.toNat:Int))).bind fun r5 =>
 some (.inr (.inr r5))) (
 some (.inl ((IntKind.wrap .i64 (y2.1+1)),())))) (
 some (.inr (.inl ())))) (some (.inr (.inl ())))
def zbz (a0:List UInt8) (a1:List UInt8):Option Int :=
(aH (kp a0 a1) (0,()):Option (Unit⊕Int)).bind (aU fun v6 =>
(zcq (a0.length:Int) (a1.length:Int)).bind fun r7 =>
 some r7)
def yL:TFn:={ ps:=(.cons .str (.cons .str .unit)),res:=(.int .i64),fn:=fun v=>zbz v.1 v.2.1 }
def arO:TEnv:=(vZ [(352,yD)])
theorem arN:runY Tryz.prog aj5 arP arO axV Tryz.f322 yL.ps yL.res=yL.fn:=by kernel_rfl
theorem abE:aA Tryz.prog G0 322 afc:=ai (ak ⟨au,(aj abc ac),ap,ac,an⟩ Tryz.func322 rfl (by kernel_rfl))
theorem ahc:TOk afc yL:=az (E:=aj5) (ET:=arO) (EnvT.ofX (ax (ah ag5 al)) am ar aJ aq) arN rfl
def akI:Env:=(eZ [(322,afc)] [274])
def asS:Hints:=(hZ [(2,[0,1,5])] [])
def abY:PFn:=aF (runF Tryz.prog akI asS Tryz.f273)
def ayd:TH:={ joins:=[(7,{ keep:=[],mem:=[] })],loops:=[(2,{ keep:=[(5,(.int .i64))],mem:=[] })],ro:=[] }
def lr (a0:List (List UInt8)) (a1:List (List UInt8)) (y2:(Int×Unit)):Option ((Int×Unit)⊕(Unit⊕Int)) :=
 cond (decide (y2.1<(a0.length:Int))) (cond (decide (y2.1<(a1.length:Int))) (
(atI a0 y2.1).bind fun x1 =>
(atI a1 y2.1).bind fun x2 =>
(zbz x1 x2).bind fun r3 =>
 cond (!decide (r3=0)) (
 some (.inr (.inr r3))) (
 some (.inl ((IntKind.wrap .i64 (y2.1+1)),())))) (
 some (.inr (.inl ())))) (some (.inr (.inl ())))
def zbh (a0:List (List UInt8)) (a1:List (List UInt8)):Option Int :=
(aH (lr a0 a1) (0,()):Option (Unit⊕Int)).bind (aU fun v4 =>
 cond (decide ((a0.length:Int)<(a1.length:Int))) (
 some (-1)) (
 cond (decide ((a0.length:Int)>(a1.length:Int))) (
 some 1) (
 some 0)))
def uj:TFn:={ ps:=(.cons (.sl .str) tT22),res:=(.int .i64),fn:=fun v=>zbh v.1 v.2.1 }
def asR:TEnv:=(vZ [(322,yL)])
theorem asQ:runY Tryz.prog akI asS asR ayd Tryz.f273 uj.ps uj.res=uj.fn:=by kernel_rfl
theorem un:aA Tryz.prog G0 273 abY:=ai (ak ⟨au,(aj abE ac),ap,ac,an⟩ Tryz.func273 rfl (by kernel_rfl))
theorem abX:TOk abY uj:=az (E:=akI) (ET:=asR) (EnvT.ofX (ax (ah ahc al)) am ar aJ aq) asQ rfl
def akS:Env:=(eZ [(273,abY)] [274])
def as9:Hints:=(hZ [] [])
def akR:PFn:=aF (runF Tryz.prog akS as9 Tryz.f208)
def ayh:TH:={ loops:=[],ro:=[2,3] }
def zbd (a0:vV4) (a1:vV4):Option Int :=
(zbh a0.1 a1.1).bind fun r1 =>
 cond (!decide (r1=0)) (
 some r1) (
 some (IntKind.wrap .i64 (a0.2.1-a1.2.1)))
def ab3:TFn:={ ps:=(.cons tT20 (.cons tT20 .unit)),res:=(.int .i64),fn:=fun v=>zbd v.1 v.2.1 }
def as8:TEnv:=(vZ [(273,uj)])
theorem as7:runY Tryz.prog akS as9 as8 ayh Tryz.f208 ab3.ps ab3.res=ab3.fn:=by kernel_rfl
theorem akQ:aA Tryz.prog G0 208 akR:=ai (ak ⟨au,(aj un ac),ap,ac,an⟩ Tryz.func208 rfl (by kernel_rfl))
theorem as6:TOk akR ab3:=az (E:=akS) (ET:=as8) (EnvT.ofX (ax (ah abX al)) am ar aJ aq) as7 rfl
def akq:Env:=(eZ [(207,ae4),(208,akR)] [274])
def aso:Hints:=(hZ [(3,[0,3,4]),(7,[0,3,4,5,6]),(12,[0,3,4,5,6,7])] [19,25])
def akp:PFn:=aF (runF Tryz.prog akq aso Tryz.f136)
def ax5:TH:={ joins:=[(9,{ keep:=[(3,(.own 1)),(5,(.bx 2 0)),(6,(.int .i64))],mem:=[.gone,.row true 211 tT20,.box 211 tT20] }),(10,{ keep:=[(3,(.own 1)),(5,(.bx 2 0))],mem:=[.gone,.row true 211 tT20,.box 211 tT20] }),(15,{ keep:=[(3,(.own 1)),(5,(.bx 2 0))],mem:=[.gone,.row true 211 tT20,.box 211 tT20] })],loops:=[(3,{ keep:=[(3,(.own 1)),(4,(.int .i64))],mem:=[.gone,.row true 211 tT20] }),(7,{ keep:=[(3,(.own 1)),(5,(.bx 2 0)),(6,(.int .i64))],mem:=[.gone,.row true 211 tT20,.box 211 tT20] }),(12,{ keep:=[(3,(.own 1)),(5,(.bx 2 0)),(7,(.int .i64))],mem:=[.gone,.row true 211 tT20,.box 211 tT20] })],ro:=[] }
def nX (y7:(Int×List vV4×vV4×Unit)):Option ((Int×List vV4×vV4×Unit)⊕((Int×List vV4×vV4×Unit)⊕(vV10⊕List vV4))) :=
 cond (decide (y7.1<(y7.2.1.length:Int))) ((inI y7.2.1.length y7.1).bind fun i4 =>
(y7.2.1[i4]?).bind fun x5 =>
(zbd x5 y7.2.2.1).bind fun r6 =>
 cond (decide (r6<0)) (
 some (.inl ((IntKind.wrap .i64 (y7.1+1)),y7.2.1,y7.2.2.1,()))) (
 some (.inr (.inl (y7.1,y7.2.1,y7.2.2.1,()))))) (some (.inr (.inl (y7.1,y7.2.1,y7.2.2.1,()))))
def iz (v7:(Int×List vV4×vV4×Unit)) (y12:(Int×List vV4×vV4×Unit)):Option ((Int×List vV4×vV4×Unit)⊕((List vV4×vV4×Unit)⊕(vV10⊕List vV4))) :=
 cond (decide (y12.1>v7.1)) (
(inI y12.2.1.length (IntKind.wrap .i64 (y12.1-1))).bind fun i13 =>
(y12.2.1[i13]?).bind fun x14 =>
(inI y12.2.1.length y12.1).bind fun i15 =>
(y12.2.1[i15]?).bind fun x16 =>
 some (.inl ((IntKind.wrap .i64 (y12.1-1)),(y12.2.1.set i15 x14),y12.2.2.1,()))) (
 some (.inr (.inl (y12.2.1,y12.2.2.1,()))))
def rt (a0:List vV6) (y3:vV10):Option (vV10⊕List vV4) :=
 cond (decide (y3.1<(a0.length:Int))) (
(atI a0 y3.1).bind fun x1 =>
(atI a0 y3.1).bind fun x2 =>
(zcs x2.2.1.1).bind fun r3 =>
(aH (nX) (0,y3.2.1,(x1.2.1.2.1,r3,()),()):Option ((Int×List vV4×vV4×Unit)⊕(vV10⊕List vV4))).bind (aU fun v7 =>
(cond (decide (v7.1<(v7.2.1.length:Int))) ((inI v7.2.1.length v7.1).bind fun i8 =>
(v7.2.1[i8]?).bind fun x9 =>
(zbd x9 v7.2.2.1).bind fun r10 =>
 cond (decide (r10=0)) (
 some (.inr (.inl ((IntKind.wrap .i64 (y3.1+1)),v7.2.1,())))) (
 some (.inl (v7.2.1,v7.2.2.1,())))) (some (.inl (v7.2.1,v7.2.2.1,()))):Option ((List vV4×vV4×Unit)⊕(vV10⊕List vV4))).bind (aU fun v11 =>
(ch (v11.1.length+([v11.2.1]:List vV4).length)).bind fun u12 =>
(aH (iz v7) ((IntKind.wrap .i64 (((v11.1++([v11.2.1]:List vV4)).length:Int)-1)),(v11.1++([v11.2.1]:List vV4)),v11.2.1,()):Option ((List vV4×vV4×Unit)⊕(vV10⊕List vV4))).bind (aU fun v17 =>
(inI v17.1.length v7.1).bind fun i18 =>
(v17.1[i18]?).bind fun x19 =>
 some (.inl ((IntKind.wrap .i64 (y3.1+1)),(v17.1.set i18 v17.2.1),())))))) (
 some (.inr y3.2.1))
def zbp (a0:List vV6):Option (List vV4) :=
 aH (rt a0) (0,[],())
def abO:TFn:={ ps:=(.cons (.sl tT19) .unit),res:=(.sl tT20),fn:=fun v=>zbp v.1 }
def asn:TEnv:={ pure:=[(207,yC),(208,ab3)],look:=[],glob:=G0T,ty:=[(211,tT20)],raw:=[],fresh:=[] }
theorem asm:runY Tryz.prog akq aso asn ax5 Tryz.f136 abO.ps abO.res=abO.fn:=by kernel_rfl
theorem ako:aA Tryz.prog G0 136 akp:=ai (ak ⟨au,(aj aba (aj akQ ac)),ap,ac,an⟩ Tryz.func136 rfl (by kernel_rfl))
theorem asl:TOk akp abO:=az (E:=akq) (ET:=asn) (EnvT.ofX (ax (ah ag4 (ah as6 al))) am ar aJ aq) asm rfl
def ald:Env:=(eZ [(73,afa),(144,yT)] [274])
def atG:Hints:=(hZ [(8,[5,7,9,10]),(12,[5,7,9,10,11,12])] [])
def alc:PFn:=aF (runF Tryz.prog ald atG Tryz.f218)
def ayq:TH:={ joins:=[(18,{ keep:=[(9,(.own 0))],mem:=[.row false 4 .bool] })],loops:=[(8,{ keep:=[(9,(.own 0)),(10,(.int .i64))],mem:=[.row false 4 .bool] }),(12,{ keep:=[(9,(.own 0)),(11,(.own 1)),(12,(.int .i64))],mem:=[.row false 4 .bool,.row false 4 .bool] })],cuts:=[(16,[(11,{ keep:=[(9,(.own 0)),(11,(.own 1)),(74,(.own 1)),(75,(.int .i64)),(84,.bool)],mem:=[.row false 4 .bool,.row false 4 .bool] })])],ro:=[],news:=[] }
def jK (y8:(Int×List Bool×Unit)) (r1:(List Int×Bool×Unit)) (r2:(List Int×Bool×Unit)) (y12:(Int×List Bool×List Bool×Unit)):Option ((Int×List Bool×List Bool×Unit)⊕((Int×List Bool×Unit)⊕((List Bool×Unit)⊕Bool))) :=
 cond (decide (y12.1≤(r2.1.length:Int))) (
(atI r1.1 y8.1).bind fun x7 =>
 cond (decide (x7=(-2))) (
(inI y12.2.1.length y12.1).bind fun i8 =>
(y12.2.1[i8]?).bind fun x9 =>
 cond x9 ((inI y12.2.2.1.length y12.1).bind fun i10 =>
(y12.2.2.1[i10]?).bind fun x11 =>
 some (.inl ((IntKind.wrap .i64 (y12.1+1)),y12.2.1,(y12.2.2.1.set i10 true),()))) (cond (decide (y12.1>0)) ((inI y12.2.2.1.length (IntKind.wrap .i64 (y12.1-1))).bind fun i12 =>
(y12.2.2.1[i12]?).bind fun x13 =>
(inI y12.2.2.1.length y12.1).bind fun i14 =>
(y12.2.2.1[i14]?).bind fun x15 =>
 some (.inl ((IntKind.wrap .i64 (y12.1+1)),y12.2.1,(y12.2.2.1.set i14 x13),()))) ((inI y12.2.2.1.length y12.1).bind fun i16 =>
(y12.2.2.1[i16]?).bind fun x17 =>
 some (.inl ((IntKind.wrap .i64 (y12.1+1)),y12.2.1,(y12.2.2.1.set i16 false),()))))) (
(cond (decide (y12.1>0)) ((inI y12.2.1.length (IntKind.wrap .i64 (y12.1-1))).bind fun i18 =>
(y12.2.1[i18]?).bind fun x19 =>
 some (y12.1,x19,y12.2.1,y12.2.2.1,())) (some (y12.1,false,y12.2.1,y12.2.2.1,())):Option (Int×Bool×List Bool×List Bool×Unit)).bind fun v20 =>
 cond v20.2.1 ((atI r1.1 y8.1).bind fun x21 =>
 cond (decide (x21=(-1))) ((inI v20.2.2.2.1.length v20.1).bind fun i22 =>
(v20.2.2.2.1[i22]?).bind fun x23 =>
 some (.inl ((IntKind.wrap .i64 (y12.1+1)),v20.2.2.1,(v20.2.2.2.1.set i22 true),()))) ((atI r1.1 y8.1).bind fun x24 =>
(atI r2.1 (IntKind.wrap .i64 (y12.1-1))).bind fun x25 =>
(inI v20.2.2.2.1.length v20.1).bind fun i26 =>
(v20.2.2.2.1[i26]?).bind fun x27 =>
 some (.inl ((IntKind.wrap .i64 (y12.1+1)),v20.2.2.1,(v20.2.2.2.1.set i26 (decide (x24=x25))),())))) ((inI v20.2.2.2.1.length v20.1).bind fun i28 =>
(v20.2.2.2.1[i28]?).bind fun x29 =>
 some (.inl ((IntKind.wrap .i64 (y12.1+1)),v20.2.2.1,(v20.2.2.2.1.set i28 false),()))))) (
 some (.inr (.inl ((IntKind.wrap .i64 (y8.1+1)),y12.2.2.1,()))))
def nZ (r1:(List Int×Bool×Unit)) (r2:(List Int×Bool×Unit)) (y8:(Int×List Bool×Unit)):Option ((Int×List Bool×Unit)⊕((List Bool×Unit)⊕Bool)) :=
 cond (decide (y8.1<(r1.1.length:Int))) (
(mkT (IntKind.wrap .i64 ((r2.1.length:Int)+1)) (IntKind.wrap .i64 ((r2.1.length:Int)+1))).bind fun u6 =>
 aH (jK y8 r1 r2) (0,y8.2.1,(List.replicate (IntKind.wrap .i64 ((r2.1.length:Int)+1)).toNat false),())) (
 some (.inr (.inl (y8.2.1,()))))
def zb4 (a0:List UInt8) (a1:List UInt8):Option Bool :=
(zch a0).bind fun r1 =>
(zb6 a1).bind fun r2 =>
 cond (!r1.2.1) (some false) (cond (!r2.2.1) (
 some false) (
(mkT (IntKind.wrap .i64 ((r2.1.length:Int)+1)) (IntKind.wrap .i64 ((r2.1.length:Int)+1))).bind fun u3 =>
(inI (List.replicate (IntKind.wrap .i64 ((r2.1.length:Int)+1)).toNat false).length 0).bind fun i4 =>
((List.replicate (IntKind.wrap .i64 ((r2.1.length:Int)+1)).toNat false)[i4]?).bind fun x5 =>
(aH (nZ r1 r2) (0,((List.replicate (IntKind.wrap .i64 ((r2.1.length:Int)+1)).toNat false).set i4 true),()):Option ((List Bool×Unit)⊕Bool)).bind (aU fun v30 =>
(inI v30.1.length (r2.1.length:Int)).bind fun i31 =>
(v30.1[i31]?).bind fun x32 =>
 some x32)))
def acd:TFn:={ ps:=(.cons .str (.cons .str .unit)),res:=.bool,fn:=fun v=>zb4 v.1 v.2.1 }
def atF:TEnv:={ pure:=[(73,yI),(144,rv)],look:=[],glob:=G0T,ty:=[(4,.bool)],raw:=[],fresh:=[] }
theorem atE:runY Tryz.prog ald atG atF ayq Tryz.f218 acd.ps acd.res=acd.fn:=by kernel_rfl
theorem alb:aA Tryz.prog G0 218 alc:=ai (ak ⟨au,(aj abl (aj pw ac)),ap,ac,an⟩ Tryz.func218 rfl (by kernel_rfl))
theorem atD:TOk alc acd:=az (E:=ald) (ET:=atF) (EnvT.ofX (ax (ah aha (ah wS al))) am ar aJ aq) atE rfl
def ajB:Env:=(eZ [(18,afo),(218,alc)] [274])
def aq3:Hints:=(hZ [(6,[0,1,5,6]),(10,[0,1,5,6,7,8])] [])
def ajA:PFn:=aF (runF Tryz.prog ajB aq3 Tryz.f146)
def axJ:TH:={ joins:=[(16,{ keep:=[(5,(.own 0))],mem:=[.row false 4 .bool] })],loops:=[(6,{ keep:=[(5,(.own 0)),(6,(.int .i64))],mem:=[.row false 4 .bool] }),(10,{ keep:=[(5,(.own 0)),(7,(.own 1)),(8,(.int .i64))],mem:=[.row false 4 .bool,.row false 4 .bool] })],cuts:=[(14,[(11,{ keep:=[(5,(.own 0)),(7,(.own 1)),(57,(.own 1)),(58,(.int .i64)),(67,.bool)],mem:=[.row false 4 .bool,.row false 4 .bool] })])],ro:=[],news:=[] }
def jJ (y6:(Int×List Bool×Unit)) (a0:List (List UInt8)) (a1:List (List UInt8)) (y10:(Int×List Bool×List Bool×Unit)):Option ((Int×List Bool×List Bool×Unit)⊕((Int×List Bool×Unit)⊕((List Bool×Unit)⊕Bool))) :=
 cond (decide (y10.1≤(a1.length:Int))) (
(atI a0 y6.1).bind fun x6 =>
 cond (decide (x6=[42,42])) (
(inI y10.2.1.length y10.1).bind fun i7 =>
(y10.2.1[i7]?).bind fun x8 =>
 cond x8 ((inI y10.2.2.1.length y10.1).bind fun i9 =>
(y10.2.2.1[i9]?).bind fun x10 =>
 some (.inl ((IntKind.wrap .i64 (y10.1+1)),y10.2.1,(y10.2.2.1.set i9 true),()))) (cond (decide (y10.1>0)) ((inI y10.2.2.1.length (IntKind.wrap .i64 (y10.1-1))).bind fun i11 =>
(y10.2.2.1[i11]?).bind fun x12 =>
(inI y10.2.2.1.length y10.1).bind fun i13 =>
(y10.2.2.1[i13]?).bind fun x14 =>
 some (.inl ((IntKind.wrap .i64 (y10.1+1)),y10.2.1,(y10.2.2.1.set i13 x12),()))) ((inI y10.2.2.1.length y10.1).bind fun i15 =>
(y10.2.2.1[i15]?).bind fun x16 =>
 some (.inl ((IntKind.wrap .i64 (y10.1+1)),y10.2.1,(y10.2.2.1.set i15 false),()))))) (
(cond (decide (y10.1>0)) ((inI y10.2.1.length (IntKind.wrap .i64 (y10.1-1))).bind fun i17 =>
(y10.2.1[i17]?).bind fun x18 =>
 some (y10.1,x18,y10.2.1,y10.2.2.1,())) (some (y10.1,false,y10.2.1,y10.2.2.1,())):Option (Int×Bool×List Bool×List Bool×Unit)).bind fun v19 =>
 cond v19.2.1 ((atI a0 y6.1).bind fun x20 =>
(atI a1 (IntKind.wrap .i64 (y10.1-1))).bind fun x21 =>
(zb4 x20 x21).bind fun r22 =>
(inI v19.2.2.2.1.length v19.1).bind fun i23 =>
(v19.2.2.2.1[i23]?).bind fun x24 =>
 some (.inl ((IntKind.wrap .i64 (y10.1+1)),v19.2.2.1,(v19.2.2.2.1.set i23 r22),()))) ((inI v19.2.2.2.1.length v19.1).bind fun i25 =>
(v19.2.2.2.1[i25]?).bind fun x26 =>
 some (.inl ((IntKind.wrap .i64 (y10.1+1)),v19.2.2.1,(v19.2.2.2.1.set i25 false),()))))) (
 some (.inr (.inl ((IntKind.wrap .i64 (y6.1+1)),y10.2.2.1,()))))
def nV (a0:List (List UInt8)) (a1:List (List UInt8)) (y6:(Int×List Bool×Unit)):Option ((Int×List Bool×Unit)⊕((List Bool×Unit)⊕Bool)) :=
 cond (decide (y6.1<(a0.length:Int))) (
(mkT (IntKind.wrap .i64 ((a1.length:Int)+1)) (IntKind.wrap .i64 ((a1.length:Int)+1))).bind fun u5 =>
 aH (jJ y6 a0 a1) (0,y6.2.1,(List.replicate (IntKind.wrap .i64 ((a1.length:Int)+1)).toNat false),())) (
 some (.inr (.inl (y6.2.1,()))))
def zcb (a0:List (List UInt8)) (a1:List (List UInt8)):Option Bool :=
(zb7 a0).bind fun r1 =>
 cond (!decide (r1=0)) (
 some false) (
(mkT (IntKind.wrap .i64 ((a1.length:Int)+1)) (IntKind.wrap .i64 ((a1.length:Int)+1))).bind fun u2 =>
(inI (List.replicate (IntKind.wrap .i64 ((a1.length:Int)+1)).toNat false).length 0).bind fun i3 =>
((List.replicate (IntKind.wrap .i64 ((a1.length:Int)+1)).toNat false)[i3]?).bind fun x4 =>
(aH (nV a0 a1) (0,((List.replicate (IntKind.wrap .i64 ((a1.length:Int)+1)).toNat false).set i3 true),()):Option ((List Bool×Unit)⊕Bool)).bind (aU fun v27 =>
(inI v27.1.length (a1.length:Int)).bind fun i28 =>
(v27.1[i28]?).bind fun x29 =>
 some x29))
def abt:TFn:={ ps:=(.cons (.sl .str) tT22),res:=.bool,fn:=fun v=>zcb v.1 v.2.1 }
def aq2:TEnv:={ pure:=[(18,yS),(218,acd)],look:=[],glob:=G0T,ty:=[(4,.bool)],raw:=[],fresh:=[] }
theorem aq1:runY Tryz.prog ajB aq3 aq2 axJ Tryz.f146 abt.ps abt.res=abt.fn:=by kernel_rfl
theorem ajz:aA Tryz.prog G0 146 ajA:=ai (ak ⟨au,(aj aca (aj alb ac)),ap,ac,an⟩ Tryz.func146 rfl (by kernel_rfl))
theorem aq0:TOk ajA abt:=az (E:=ajB) (ET:=aq2) (EnvT.ofX (ax (ah ahl (ah atD al))) am ar aJ aq) aq1 rfl
def ah1:Env:=(eZ [(207,ae4),(273,abY)] [274])
def aoy:Hints:=(hZ [(3,[0,1,2,7,8])] [])
def aaH:PFn:=aF (runF Tryz.prog ah1 aoy Tryz.f285)
def aw2:TH:={ loops:=[(3,{ keep:=[(7,(.own 0)),(8,(.int .i64))],mem:=[.row true 156 tT19] })],ro:=[] }
def wi (a0:List vV6) (a1:List (List UInt8)) (a2:Int) (y3:(Int×List vV6×Unit)):Option ((Int×List vV6×Unit)⊕List vV6) :=
 cond (decide (y3.1<(a0.length:Int))) (
(atI a0 y3.1).bind fun x1 =>
(zcs x1.2.1.1).bind fun r2 =>
 cond (decide (r2=a2)) ((atI a0 y3.1).bind fun x3 =>
(zbh x3.2.1.2.1 a1).bind fun r4 =>
 cond (decide (r4=0)) (
(atI a0 y3.1).bind fun x5 =>
(ch (y3.2.1.length+([x5]:List vV6).length)).bind fun u6 =>
 some (.inl ((IntKind.wrap .i64 (y3.1+1)),(y3.2.1++([x5]:List vV6)),()))) (
 some (.inl ((IntKind.wrap .i64 (y3.1+1)),y3.2.1,())))) (some (.inl ((IntKind.wrap .i64 (y3.1+1)),y3.2.1,())))) (
 some (.inr y3.2.1))
def zds (a0:List vV6) (a1:List (List UInt8)) (a2:Int):Option (List vV6) :=
 aH (wi a0 a1 a2) (0,[],())
def tV:TFn:={ ps:=(.cons (.sl tT19) (.cons (.sl .str) tT16)),res:=(.sl tT19),fn:=fun v=>zds v.1 v.2.1 v.2.2.1 }
def aox:TEnv:={ pure:=[(207,yC),(273,uj)],look:=[],glob:=G0T,ty:=[(156,tT19)],raw:=[],fresh:=[] }
theorem aow:runY Tryz.prog ah1 aoy aox aw2 Tryz.f285 tV.ps tV.res=tV.fn:=by kernel_rfl
theorem tW:aA Tryz.prog G0 285 aaH:=ai (ak ⟨au,(aj aba (aj un ac)),ap,ac,an⟩ Tryz.func285 rfl (by kernel_rfl))
theorem aaG:TOk aaH tV:=az (E:=ah1) (ET:=aox) (EnvT.ofX (ax (ah ag4 (ah abX al))) am ar aJ aq) aow rfl
def akL:Env:=(eZ [(322,afc),(352,ae5)] [274])
def asW:Hints:=(hZ [] [])
def akK:PFn:=aF (runF Tryz.prog akL asW Tryz.f329)
def aye:TH:={ loops:=[],ro:=[2,3] }
def zbg (a0:vV3) (a1:vV3):Option Int :=
 cond (!decide (a0.1=a1.1)) (
(zcq a0.1 a1.1).bind fun r1 =>
 some r1) (
 cond (!decide (a0.2.1=a1.2.1)) (
(zcq a0.2.1 a1.2.1).bind fun r2 =>
 some r2) (
(zbz a0.2.2.1 a1.2.2.1).bind fun r3 =>
 some r3))
def abZ:TFn:={ ps:=(.cons tT15 (.cons tT15 .unit)),res:=(.int .i64),fn:=fun v=>zbg v.1 v.2.1 }
def asV:TEnv:=(vZ [(322,yL),(352,yD)])
theorem asU:runY Tryz.prog akL asW asV aye Tryz.f329 abZ.ps abZ.res=abZ.fn:=by kernel_rfl
theorem akJ:aA Tryz.prog G0 329 akK:=ai (ak ⟨au,(aj abE (aj abc ac)),ap,ac,an⟩ Tryz.func329 rfl (by kernel_rfl))
theorem asT:TOk akK abZ:=az (E:=akL) (ET:=asV) (EnvT.ofX (ax (ah ahc (ah ag5 al))) am ar aJ aq) asU rfl
def akn:Env:=(eZ [(329,akK)] [274])
def ask:Hints:=(hZ [(4,[0,3,5,6,7])] [])
def afi:PFn:=aF (runF Tryz.prog akn ask Tryz.f286)
def ax4:TH:={ joins:=[(13,{ keep:=[(3,(.bx 0 0)),(5,(.own 1)),(6,.bool)],mem:=[.same,.row true 132 tT15] }),(12,{ keep:=[(3,(.bx 0 0)),(5,(.own 1)),(6,.bool)],mem:=[.same,.row true 132 tT15] })],loops:=[(4,{ keep:=[(3,(.bx 0 0)),(5,(.own 1)),(6,.bool),(7,(.int .i64))],mem:=[.same,.row true 132 tT15] })],ro:=[3] }
def rr (a0:List vV3) (a1:vV3) (y4:(Bool×Int×List vV3×Unit)):Option ((Bool×Int×List vV3×Unit)⊕((Bool×List vV3×Unit)⊕List vV3)) :=
 cond (decide (y4.2.1<(a0.length:Int))) (
(atI a0 y4.2.1).bind fun x1 =>
(zbg a1 x1).bind fun r2 =>
 cond (decide (r2=0)) (
 some (.inr (.inr a0))) (
(cond (decide (r2<0)) (cond (!y4.1) (
(ch (y4.2.2.1.length+([a1]:List vV3).length)).bind fun u3 =>
 some (.inl (true,(y4.2.2.1++([a1]:List vV3)),()))) (
 some (.inl (y4.1,y4.2.2.1,())))) (some (.inl (y4.1,y4.2.2.1,()))):Option ((Bool×List vV3×Unit)⊕((Bool×Int×List vV3×Unit)⊕((Bool×List vV3×Unit)⊕List vV3)))).bind (aU fun v4 =>
(atI a0 y4.2.1).bind fun x5 =>
(ch (v4.2.1.length+([x5]:List vV3).length)).bind fun u6 =>
 some (.inl (v4.1,(IntKind.wrap .i64 (y4.2.1+1)),(v4.2.1++([x5]:List vV3)),()))))) (
 some (.inr (.inl (y4.1,y4.2.2.1,()))))
def zbq (a0:List vV3) (a1:vV3):Option (List vV3) :=
(aH (rr a0 a1) (false,0,[],()):Option ((Bool×List vV3×Unit)⊕List vV3)).bind (aU fun v7 =>
 cond (!v7.1) (
(ch (v7.2.1.length+([a1]:List vV3).length)).bind fun u8 =>
 some (v7.2.1++([a1]:List vV3))) (
 some v7.2.1))
def yP:TFn:={ ps:=(.cons (.sl tT15) (.cons tT15 .unit)),res:=(.sl tT15),fn:=fun v=>zbq v.1 v.2.1 }
def asj:TEnv:={ pure:=[(329,abZ)],look:=[],glob:=G0T,ty:=[(132,tT15)],raw:=[],fresh:=[] }
theorem asi:runY Tryz.prog akn ask asj ax4 Tryz.f286 yP.ps yP.res=yP.fn:=by kernel_rfl
theorem abN:aA Tryz.prog G0 286 afi:=ai (ak ⟨au,(aj akJ ac),ap,ac,an⟩ Tryz.func286 rfl (by kernel_rfl))
theorem ahh:TOk afi yP:=az (E:=akn) (ET:=asj) (EnvT.ofX (ax (ah asT al)) am ar aJ aq) asi rfl
def akm:Env:=(eZ [(285,aaH),(286,afi)] [274])
def ash:Hints:=(hZ [(4,[5,6,7])] [])
def akl:PFn:=aF (runF Tryz.prog akm ash Tryz.f219)
def ax3:TH:={ loops:=[(4,{ keep:=[(5,(.sl tT15)),(7,(.int .i64))],mem:=[] })],ro:=[] }
def wO (r1:List vV6) (y4:(List vV3×Int×Unit)):Option ((List vV3×Int×Unit)⊕List vV3) :=
 cond (decide (y4.2.1<(r1.length:Int))) (
(atI r1 y4.2.1).bind fun x2 =>
(zbq y4.1 x2.2.1.2.2.1).bind fun r3 =>
 some (.inl (r3,(IntKind.wrap .i64 (y4.2.1+1)),()))) (
 some (.inr y4.1))
def zbr (a0:List vV6) (a1:List (List UInt8)):Option (List vV3) :=
(zds a0 a1 1).bind fun r1 =>
 aH (wO r1) ([],0,())
def abM:TFn:={ ps:=(.cons (.sl tT19) tT22),res:=(.sl tT15),fn:=fun v=>zbr v.1 v.2.1 }
def asg:TEnv:=(vZ [(285,tV),(286,yP)])
theorem asf:runY Tryz.prog akm ash asg ax3 Tryz.f219 abM.ps abM.res=abM.fn:=by kernel_rfl
theorem akk:aA Tryz.prog G0 219 akl:=ai (ak ⟨au,(aj tW (aj abN ac)),ap,ac,an⟩ Tryz.func219 rfl (by kernel_rfl))
theorem ase:TOk akl abM:=az (E:=akm) (ET:=asg) (EnvT.ofX (ax (ah aaG (ah ahh al))) am ar aJ aq) asf rfl
def akC:Env:=(eZ [(285,aaH),(286,afi)] [274])
def asF:Hints:=(hZ [(4,[5,6,7])] [])
def akB:PFn:=aF (runF Tryz.prog akC asF Tryz.f220)
def ax9:TH:={ loops:=[(4,{ keep:=[(5,(.sl tT15)),(7,(.int .i64))],mem:=[] })],ro:=[] }
def wQ (r1:List vV6) (y4:(List vV3×Int×Unit)):Option ((List vV3×Int×Unit)⊕List vV3) :=
 cond (decide (y4.2.1<(r1.length:Int))) (
(atI r1 y4.2.1).bind fun x2 =>
(zbq y4.1 x2.2.1.2.2.1).bind fun r3 =>
 some (.inl (r3,(IntKind.wrap .i64 (y4.2.1+1)),()))) (
 some (.inr y4.1))
def zbl (a0:List vV6) (a1:List (List UInt8)):Option (List vV3) :=
(zds a0 a1 2).bind fun r1 =>
 aH (wQ r1) ([],0,())
def abS:TFn:={ ps:=(.cons (.sl tT19) tT22),res:=(.sl tT15),fn:=fun v=>zbl v.1 v.2.1 }
def asE:TEnv:=(vZ [(285,tV),(286,yP)])
theorem asD:runY Tryz.prog akC asF asE ax9 Tryz.f220 abS.ps abS.res=abS.fn:=by kernel_rfl
theorem akA:aA Tryz.prog G0 220 akB:=ai (ak ⟨au,(aj tW (aj abN ac)),ap,ac,an⟩ Tryz.func220 rfl (by kernel_rfl))
theorem asC:TOk akB abS:=az (E:=akC) (ET:=asE) (EnvT.ofX (ax (ah aaG (ah ahh al))) am ar aJ aq) asD rfl
def ak2:Env:=(eZ [(285,aaH)] [274])
def ato:Hints:=(hZ [(4,[7,8,9,10])] [])
def ak1:PFn:=aF (runF Tryz.prog ak2 ato Tryz.f221)
def ayl:TH:={ joins:=[(11,{ keep:=[(7,(.int .i64)),(8,(.int .i64))],mem:=[] }),(9,{ keep:=[(7,(.int .i64))],mem:=[] })],loops:=[(4,{ keep:=[(7,(.int .i64)),(8,(.int .i64)),(10,(.int .i64))],mem:=[] })],ro:=[] }
def wR (r1:List vV6) (y4:(Int×Int×Int×Unit)):Option ((Int×Int×Int×Unit)⊕((Int×Int×Unit)⊕(Int×Int×Int×Unit))) :=
 cond (decide (y4.2.2.1<(r1.length:Int))) (
(atI r1 y4.2.2.1).bind fun x2 =>
(cond (decide (x2.2.1.2.2.2.1>0)) (
 some (.inl ((IntKind.wrap .i64 (y4.1+x2.2.1.2.2.2.1)),()))) (
 some (.inl (y4.1,()))):Option ((Int×Unit)⊕((Int×Int×Int×Unit)⊕((Int×Int×Unit)⊕(Int×Int×Int×Unit))))).bind (aU fun v3 =>
 cond (decide (x2.2.1.2.2.2.1<0)) (
 some (.inl (v3.1,(IntKind.wrap .i64 (y4.2.1-x2.2.1.2.2.2.1)),(IntKind.wrap .i64 (y4.2.2.1+1)),()))) (
 some (.inl (v3.1,y4.2.1,(IntKind.wrap .i64 (y4.2.2.1+1)),()))))) (
 some (.inr (.inl (y4.1,y4.2.1,()))))
def zb9 (a0:List vV6) (a1:List (List UInt8)):Option (Int×Int×Int×Unit) :=
(zds a0 a1 3).bind fun r1 =>
(aH (wR r1) (0,0,0,()):Option ((Int×Int×Unit)⊕(Int×Int×Int×Unit))).bind (aU fun v4 =>
 some (v4.1,v4.2.1,(r1.length:Int),()))
def ab8:TFn:={ ps:=(.cons (.sl tT19) tT22),res:=(.tup (.cons (.int .i64) (.cons (.int .i64) tT16))),fn:=fun v=>zb9 v.1 v.2.1 }
def atn:TEnv:=(vZ [(285,tV)])
theorem atm:runY Tryz.prog ak2 ato atn ayl Tryz.f221 ab8.ps ab8.res=ab8.fn:=by kernel_rfl
theorem ak0:aA Tryz.prog G0 221 ak1:=ai (ak ⟨au,(aj tW ac),ap,ac,an⟩ Tryz.func221 rfl (by kernel_rfl))
theorem atl:TOk ak1 ab8:=az (E:=ak2) (ET:=atn) (EnvT.ofX (ax (ah aaG al)) am ar aJ aq) atm rfl
def ahX:Env:=(eZ [(219,akl),(220,akB),(221,ak1)] [274])
def aor:Hints:=(hZ [] [])
def ahW:PFn:=aF (runF Tryz.prog ahX aor Tryz.f147)
def aw0:TH:={ joins:=[(4,{ keep:=[(6,(.bx 0 0)),(7,(.bx 1 0))],mem:=[.box 150 (.agg (.cons .nilsl (.cons (.int .i64) (.cons .nilsl tT16)))),.box 150 tT12] }),(6,{ keep:=[(6,(.bx 0 0)),(7,(.bx 1 0))],mem:=[.box 150 (.agg (.cons .nilsl (.cons (.int .i64) (.cons .nilsl tT16)))),.box 150 tT12] })],loops:=[],ro:=[] }
def zdu (a0:List vV6) (a1:List (List UInt8)) (a2:Int):Option vV0 :=
(cond (decide (a2=1)) (
(zbr a0 a1).bind fun r1 =>
 some (.inl (((),0,(),0,()),(a1,a2,r1,0,()),()))) (
 some (.inl (((),0,(),0,()),(a1,a2,[],0,()),()))):Option (((Unit×Int×Unit×Int×Unit)×vV0×Unit)⊕vV0)).bind (aU fun v2 =>
(cond (decide (a2=2)) (
(zbl a0 a1).bind fun r3 =>
 some (.inl (v2.1,(v2.2.1.1,v2.2.1.2.1,r3,v2.2.1.2.2.2.1,()),()))) (
 some (.inl (v2.1,v2.2.1,()))):Option (((Unit×Int×Unit×Int×Unit)×vV0×Unit)⊕vV0)).bind (aU fun v4 =>
 cond (decide (a2=3)) (
(zb9 a0 a1).bind fun r5 =>
 some (v4.2.1.1,v4.2.1.2.1,v4.2.1.2.2.1,(IntKind.wrap .i64 (r5.1-r5.2.1)),())) (
 some v4.2.1)))
def aaE:TFn:={ ps:=(.cons (.sl tT19) (.cons (.sl .str) tT16)),res:=tT12,fn:=fun v=>zdu v.1 v.2.1 v.2.2.1 }
def aoq:TEnv:=(vZ [(219,abM),(220,abS),(221,ab8)])
theorem aoo:runY Tryz.prog ahX aor aoq aw0 Tryz.f147 aaE.ps aaE.res=aaE.fn:=by kernel_rfl
theorem ahV:aA Tryz.prog G0 147 ahW:=ai (ak ⟨au,(aj akk (aj akA (aj ak0 ac))),ap,ac,an⟩ Tryz.func147 rfl (by kernel_rfl))
theorem aon:TOk ahW aaE:=az (E:=ahX) (ET:=aoq) (EnvT.ofX (ax (ah ase (ah asC (ah atl al)))) am ar aJ aq) aoo rfl
def aiY:Env:=(eZ [(136,akp),(146,ajA),(147,ahW)] [274])
def ap3:Hints:=(hZ [(4,[0,1,5,6,7])] [29,34])
def aiX:PFn:=aF (runF Tryz.prog aiY ap3 Tryz.f77)
def axr:TH:={ loops:=[(4,{ keep:=[(6,(.own 0)),(7,(.int .i64))],mem:=[.row true 150 tT12] })],ro:=[] }
def wx (a0:List vV6) (a1:List (List UInt8)) (r1:List vV4) (y4:(Int×List vV0×Unit)):Option ((Int×List vV0×Unit)⊕List vV0) :=
 cond (decide (y4.1<(r1.length:Int))) (
(atI r1 y4.1).bind fun x2 =>
(zcb a1 x2.1).bind fun r3 =>
 cond r3 (
(atI r1 y4.1).bind fun x4 =>
(atI r1 y4.1).bind fun x5 =>
(zdu a0 x4.1 x5.2.1).bind fun r6 =>
(ch (y4.2.1.length+([r6]:List vV0).length)).bind fun u7 =>
 some (.inl ((IntKind.wrap .i64 (y4.1+1)),(y4.2.1++([r6]:List vV0)),()))) (
 some (.inl ((IntKind.wrap .i64 (y4.1+1)),y4.2.1,())))) (
 some (.inr y4.2.1))
def zct (a0:List vV6) (a1:List (List UInt8)):Option (List vV0) :=
(zbp a0).bind fun r1 =>
 aH (wx a0 a1 r1) (0,[],())
def aa9:TFn:={ ps:=(.cons (.sl tT19) tT22),res:=(.sl tT12),fn:=fun v=>zct v.1 v.2.1 }
def ap2:TEnv:={ pure:=[(136,abO),(146,abt),(147,aaE)],look:=[],glob:=G0T,ty:=[(150,tT12)],raw:=[],fresh:=[] }
theorem ap1:runY Tryz.prog aiY ap3 ap2 axr Tryz.f77 aa9.ps aa9.res=aa9.fn:=by kernel_rfl
theorem aiW:aA Tryz.prog G0 77 aiX:=ai (ak ⟨au,(aj ako (aj ajz (aj ahV ac))),ap,ac,an⟩ Tryz.func77 rfl (by kernel_rfl))
theorem ap0:TOk aiX aa9:=az (E:=aiY) (ET:=ap2) (EnvT.ofX (ax (ah asl (ah aq0 (ah aon al)))) am ar aJ aq) ap1 rfl
def akH:Env:=(eZ [(273,abY)] [274])
def asP:Hints:=(hZ [] [])
def afk:PFn:=aF (runF Tryz.prog akH asP Tryz.f222)
def ayc:TH:={ loops:=[],ro:=[2,3] }
def zbi (a0:vV0) (a1:vV0):Option Int :=
(zbh a0.1 a1.1).bind fun r1 =>
 cond (!decide (r1=0)) (
 some r1) (
 cond (decide (a0.2.1<a1.2.1)) (
 some (-1)) (
 cond (decide (a0.2.1>a1.2.1)) (
 some 1) (
 some 0)))
def yR:TFn:={ ps:=(.cons tT12 (.cons tT12 .unit)),res:=(.int .i64),fn:=fun v=>zbi v.1 v.2.1 }
def asO:TEnv:=(vZ [(273,uj)])
theorem asN:runY Tryz.prog akH asP asO ayc Tryz.f222 yR.ps yR.res=yR.fn:=by kernel_rfl
theorem abW:aA Tryz.prog G0 222 afk:=ai (ak ⟨au,(aj un ac),ap,ac,an⟩ Tryz.func222 rfl (by kernel_rfl))
theorem ahj:TOk afk yR:=az (E:=akH) (ET:=asO) (EnvT.ofX (ax (ah abX al)) am ar aJ aq) asN rfl
def ajU:Env:=(eZ [(222,afk)] [274])
def arx:Hints:=(hZ [(2,[0,3,5])] [])
def ajT:PFn:=aF (runF Tryz.prog ajU arx Tryz.f148)
def axQ:TH:={ loops:=[(2,{ keep:=[(3,(.bx 0 0)),(5,(.int .i64))],mem:=[.same] })],ro:=[3] }
def nW (a0:List vV0) (a1:vV0) (y2:(Int×Unit)):Option ((Int×Unit)⊕Int) :=
 cond (decide (y2.1<(a0.length:Int))) (
(atI a0 y2.1).bind fun x1 =>
(zbi x1 a1).bind fun r2 =>
 cond (decide (r2=0)) (
 some (.inr y2.1)) (
 some (.inl ((IntKind.wrap .i64 (y2.1+1)),())))) (
 some (.inr (-1)))
def zc4 (a0:List vV0) (a1:vV0):Option Int :=
 aH (nW a0 a1) (0,())
def abz:TFn:={ ps:=(.cons (.sl tT12) (.cons tT12 .unit)),res:=(.int .i64),fn:=fun v=>zc4 v.1 v.2.1 }
def arw:TEnv:=(vZ [(222,yR)])
theorem arv:runY Tryz.prog ajU arx arw axQ Tryz.f148 abz.ps abz.res=abz.fn:=by kernel_rfl
theorem ajS:aA Tryz.prog G0 148 ajT:=ai (ak ⟨au,(aj abW ac),ap,ac,an⟩ Tryz.func148 rfl (by kernel_rfl))
theorem aru:TOk ajT abz:=az (E:=ajU) (ET:=arw) (EnvT.ofX (ax (ah ahj al)) am ar aJ aq) arv rfl
def aj0:Env:=(eZ [] [274])
def arF:Hints:=(hZ [] [])
def ajZ:PFn:=aF (runF Tryz.prog aj0 arF Tryz.f223)
def axS:TH:={ loops:=[],ro:=[1] }
def zc2 (a0:vV7):Option vV0 :=
 cond (decide (a0.1=1)) (
 some a0.2.2.1) (
 some a0.2.1)
def abB:TFn:={ ps:=(.cons tT18 .unit),res:=tT12,fn:=fun v=>zc2 v.1 }
def arE:TEnv:=(vZ [])
theorem arD:runY Tryz.prog aj0 arF arE axS Tryz.f223 abB.ps abB.res=abB.fn:=by kernel_rfl
theorem ajY:aA Tryz.prog G0 223 ajZ:=ai (ak ⟨au,ac,ap,ac,an⟩ Tryz.func223 rfl (by kernel_rfl))
theorem arC:TOk ajZ abB:=az (E:=aj0) (ET:=arE) (EnvT.ofX (ax al) am ar aJ aq) arD rfl
def akg:Env:=(eZ [(222,afk),(223,ajZ)] [274])
def ar7:Hints:=(hZ [(4,[0,3,5,6,7])] [])
def akf:PFn:=aF (runF Tryz.prog akg ar7 Tryz.f149)
def ax0:TH:={ joins:=[(10,{ keep:=[(3,(.bx 0 0)),(5,(.own 1)),(6,.bool)],mem:=[.same,.row true 152 tT18] }),(9,{ keep:=[(3,(.bx 0 0)),(5,(.own 1)),(6,.bool)],mem:=[.same,.row true 152 tT18] })],loops:=[(4,{ keep:=[(3,(.bx 0 0)),(5,(.own 1)),(6,.bool),(7,(.int .i64))],mem:=[.same,.row true 152 tT18] })],ro:=[3] }
def gf (a0:List vV7) (a1:vV7) (y4:(Bool×Int×List vV7×Unit)):Option ((Bool×Int×List vV7×Unit)⊕((Bool×List vV7×Unit)⊕List vV7)) :=
 cond (decide (y4.2.1<(a0.length:Int))) (
(cond (!y4.1) ((zc2 a1).bind fun r1 =>
(atI a0 y4.2.1).bind fun x2 =>
(zc2 x2).bind fun r3 =>
(zbi r1 r3).bind fun r4 =>
 cond (decide (r4<0)) (
(ch (y4.2.2.1.length+([a1]:List vV7).length)).bind fun u5 =>
 some (.inl (true,(y4.2.2.1++([a1]:List vV7)),()))) (
 some (.inl (y4.1,y4.2.2.1,())))) (some (.inl (y4.1,y4.2.2.1,()))):Option ((Bool×List vV7×Unit)⊕((Bool×Int×List vV7×Unit)⊕((Bool×List vV7×Unit)⊕List vV7)))).bind (aU fun v6 =>
(atI a0 y4.2.1).bind fun x7 =>
(ch (v6.2.1.length+([x7]:List vV7).length)).bind fun u8 =>
 some (.inl (v6.1,(IntKind.wrap .i64 (y4.2.1+1)),(v6.2.1++([x7]:List vV7)),())))) (
 some (.inr (.inl (y4.1,y4.2.2.1,()))))
def zbu (a0:List vV7) (a1:vV7):Option (List vV7) :=
(aH (gf a0 a1) (false,0,[],()):Option ((Bool×List vV7×Unit)⊕List vV7)).bind (aU fun v9 =>
 cond (!v9.1) (
(ch (v9.2.1.length+([a1]:List vV7).length)).bind fun u10 =>
 some (v9.2.1++([a1]:List vV7))) (
 some v9.2.1))
def abI:TFn:={ ps:=(.cons (.sl tT18) (.cons tT18 .unit)),res:=(.sl tT18),fn:=fun v=>zbu v.1 v.2.1 }
def ar6:TEnv:={ pure:=[(222,yR),(223,abB)],look:=[],glob:=G0T,ty:=[(152,tT18)],raw:=[],fresh:=[] }
theorem ar5:runY Tryz.prog akg ar7 ar6 ax0 Tryz.f149 abI.ps abI.res=abI.fn:=by kernel_rfl
theorem ake:aA Tryz.prog G0 149 akf:=ai (ak ⟨au,(aj abW (aj ajY ac)),ap,ac,an⟩ Tryz.func149 rfl (by kernel_rfl))
theorem ar4:TOk akf abI:=az (E:=akg) (ET:=ar6) (EnvT.ofX (ax (ah ahj (ah arC al))) am ar aJ aq) ar5 rfl
def ai2:Env:=(eZ [] [274])
def aqa:Hints:=(hZ [(4,[0,1,5])] [])
def ai1:PFn:=aF (runF Tryz.prog ai2 aqa Tryz.f58)
def axt:TH:={ loops:=[(4,{ keep:=[(5,(.int .i64))],mem:=[] })],ro:=[] }
def wy (a0:List (List UInt8)) (a1:List (List UInt8)) (y4:(Int×Unit)):Option ((Int×Unit)⊕Bool) :=
 cond (decide (y4.1<(a0.length:Int))) (
(atI a0 y4.1).bind fun x1 =>
(atI a1 y4.1).bind fun x2 =>
 cond (!decide (x1=x2)) (
 some (.inr false)) (
 some (.inl ((IntKind.wrap .i64 (y4.1+1)),())))) (
 some (.inr true))
def zcr (a0:List (List UInt8)) (a1:List (List UInt8)):Option Bool :=
 cond (!decide ((a0.length:Int)=(a1.length:Int))) (
 some false) (
 aH (wy a0 a1) (0,()))
def abb:TFn:={ ps:=(.cons (.sl .str) tT22),res:=.bool,fn:=fun v=>zcr v.1 v.2.1 }
def ap9:TEnv:=(vZ [])
theorem ap8:runY Tryz.prog ai2 aqa ap9 axt Tryz.f58 abb.ps abb.res=abb.fn:=by kernel_rfl
theorem ai0:aA Tryz.prog G0 58 ai1:=ai (ak ⟨au,ac,ap,ac,an⟩ Tryz.func58 rfl (by kernel_rfl))
theorem ap7:TOk ai1 abb:=az (E:=ai2) (ET:=ap9) (EnvT.ofX (ax al) am ar aJ aq) ap8 rfl
def ajN:Env:=(eZ [] [274])
def arl:Hints:=(hZ [(4,[0,1,5])] [])
def ajM:PFn:=aF (runF Tryz.prog ajN arl Tryz.f80)
def axN:TH:={ loops:=[(4,{ keep:=[(5,(.int .i64))],mem:=[] })],ro:=[] }
def wF (a0:List vV3) (a1:List vV3) (y4:(Int×Unit)):Option ((Int×Unit)⊕Bool) :=
 cond (decide (y4.1<(a0.length:Int))) (
(atI a0 y4.1).bind fun x1 =>
(atI a1 y4.1).bind fun x2 =>
 cond (!(eqV tT15 x1 x2)) (
 some (.inr false)) (
 some (.inl ((IntKind.wrap .i64 (y4.1+1)),())))) (
 some (.inr true))
def zc7 (a0:List vV3) (a1:List vV3):Option Bool :=
 cond (!decide ((a0.length:Int)=(a1.length:Int))) (
 some false) (
 aH (wF a0 a1) (0,()))
def abx:TFn:={ ps:=(.cons (.sl tT15) (.cons (.sl tT15) .unit)),res:=.bool,fn:=fun v=>zc7 v.1 v.2.1 }
def ark:TEnv:=(vZ [])
theorem arj:runY Tryz.prog ajN arl ark axN Tryz.f80 abx.ps abx.res=abx.fn:=by kernel_rfl
theorem ajL:aA Tryz.prog G0 80 ajM:=ai (ak ⟨au,ac,ap,ac,an⟩ Tryz.func80 rfl (by kernel_rfl))
theorem ari:TOk ajM abx:=az (E:=ajN) (ET:=ark) (EnvT.ofX (ax al) am ar aJ aq) arj rfl
def aiI:Env:=(eZ [(58,ai1),(80,ajM)] [274])
def apG:Hints:=(hZ [(4,[0,1,5])] [])
def aa3:PFn:=aF (runF Tryz.prog aiI apG Tryz.f25)
def axl:TH:={ loops:=[(4,{ keep:=[(5,(.int .i64))],mem:=[] })],cuts:=[(6,[(24,{ keep:=[(40,.bool)],mem:=[] }),(14,{ keep:=[(54,.bool)],mem:=[] })])],ro:=[],news:=[] }
def wu (a0:List vV0) (a1:List vV0) (y4:(Int×Unit)):Option ((Int×Unit)⊕Bool) :=
 cond (decide (y4.1<(a0.length:Int))) (
((atI a0 y4.1).bind fun x1 =>
(atI a1 y4.1).bind fun x2 =>
 cond (!decide (x1.2.1=x2.2.1)) (some (true,())) ((atI a0 y4.1).bind fun x3 =>
(atI a1 y4.1).bind fun x4 =>
 some ((!decide (x3.2.2.2.1=x4.2.2.2.1)),())):Option (Bool×Unit)).bind fun v5 =>
(cond v5.1 (some (true,())) ((atI a0 y4.1).bind fun x6 =>
(atI a1 y4.1).bind fun x7 =>
(zcr x6.1 x7.1).bind fun r8 =>
 some ((!r8),())):Option (Bool×Unit)).bind fun v9 =>
 cond v9.1 (some (.inr false)) ((atI a0 y4.1).bind fun x10 =>
(atI a1 y4.1).bind fun x11 =>
(zc7 x10.2.2.1 x11.2.2.1).bind fun r12 =>
 cond (!r12) (
 some (.inr false)) (
 some (.inl ((IntKind.wrap .i64 (y4.1+1)),()))))) (
 some (.inr true))
def zcz (a0:List vV0) (a1:List vV0):Option Bool :=
 cond (!decide ((a0.length:Int)=(a1.length:Int))) (
 some false) (
 aH (wu a0 a1) (0,()))
def uf:TFn:={ ps:=(.cons (.sl tT12) (.cons (.sl tT12) .unit)),res:=.bool,fn:=fun v=>zcz v.1 v.2.1 }
def apF:TEnv:=(vZ [(58,abb),(80,abx)])
theorem apE:runY Tryz.prog aiI apG apF axl Tryz.f25 uf.ps uf.res=uf.fn:=by kernel_rfl
theorem ug:aA Tryz.prog G0 25 aa3:=ai (ak ⟨au,(aj ai0 (aj ajL ac)),ap,ac,an⟩ Tryz.func25 rfl (by kernel_rfl))
theorem aa2:TOk aa3 uf:=az (E:=aiI) (ET:=apF) (EnvT.ofX (ax (ah ap7 (ah ari al))) am ar aJ aq) apE rfl
def aiD:Env:=(eZ [(25,aa3)] [274])
def apw:Hints:=(hZ [] [])
def aiC:PFn:=aF (runF Tryz.prog aiD apw Tryz.f150)
def axi:TH:={ loops:=[],ro:=[2,3] }
def zdc (a0:vV0) (a1:vV0):Option Bool :=
(zcz ([a0]:List vV0) ([a1]:List vV0)).bind fun r1 =>
 some r1
def aaZ:TFn:={ ps:=(.cons tT12 (.cons tT12 .unit)),res:=.bool,fn:=fun v=>zdc v.1 v.2.1 }
def apv:TEnv:={ pure:=[(25,uf)],look:=[],glob:=G0T,ty:=[(150,tT12)],raw:=[],fresh:=[] }
theorem apu:runY Tryz.prog aiD apw apv axi Tryz.f150 aaZ.ps aaZ.res=aaZ.fn:=by kernel_rfl
theorem aiB:aA Tryz.prog G0 150 aiC:=ai (ak ⟨au,(aj ug ac),ap,ac,an⟩ Tryz.func150 rfl (by kernel_rfl))
theorem apt:TOk aiC aaZ:=az (E:=aiD) (ET:=apv) (EnvT.ofX (ax (ah aa2 al)) am ar aJ aq) apu rfl
def aiP:Env:=(eZ [(148,ajT),(149,akf),(150,aiC)] [274])
def apR:Hints:=(hZ [(3,[0,1,5,6]),(11,[0,1,5,8])] [])
def aiO:PFn:=aF (runF Tryz.prog aiP apR Tryz.f78)
def axo:TH:={ joins:=[(10,{ keep:=[(5,(.sl tT18))],mem:=[] })],loops:=[(3,{ keep:=[(5,(.sl tT18)),(6,(.int .i64))],mem:=[] }),(11,{ keep:=[(5,(.sl tT18)),(8,(.int .i64))],mem:=[] })],ro:=[] }
def rk (a0:List vV0) (a1:List vV0) (y3:(List vV7×Int×Unit)):Option ((List vV7×Int×Unit)⊕((List vV7×Unit)⊕List vV7)) :=
 cond (decide (y3.2.1<(a0.length:Int))) (
(atI a0 y3.2.1).bind fun x1 =>
(zc4 a1 x1).bind fun r2 =>
 cond (decide (r2<0)) (
(atI a0 y3.2.1).bind fun x3 =>
(zbu y3.1 (2,x3,([],0,[],0,()),())).bind fun r4 =>
 some (.inl (r4,(IntKind.wrap .i64 (y3.2.1+1)),()))) (
(atI a0 y3.2.1).bind fun x5 =>
(atI a1 r2).bind fun x6 =>
(zdc x5 x6).bind fun r7 =>
 cond (!r7) (
(atI a0 y3.2.1).bind fun x8 =>
(atI a1 r2).bind fun x9 =>
(zbu y3.1 (3,x8,x9,())).bind fun r10 =>
 some (.inl (r10,(IntKind.wrap .i64 (y3.2.1+1)),()))) (
 some (.inl (y3.1,(IntKind.wrap .i64 (y3.2.1+1)),()))))) (
 some (.inr (.inl (y3.1,()))))
def lm (a0:List vV0) (a1:List vV0) (y11:(List vV7×Int×Unit)):Option ((List vV7×Int×Unit)⊕List vV7) :=
 cond (decide (y11.2.1<(a1.length:Int))) (
(atI a1 y11.2.1).bind fun x12 =>
(zc4 a0 x12).bind fun r13 =>
 cond (decide (r13<0)) (
(atI a1 y11.2.1).bind fun x14 =>
(zbu y11.1 (1,([],0,[],0,()),x14,())).bind fun r15 =>
 some (.inl (r15,(IntKind.wrap .i64 (y11.2.1+1)),()))) (
 some (.inl (y11.1,(IntKind.wrap .i64 (y11.2.1+1)),())))) (
 some (.inr y11.1))
def zcw (a0:List vV0) (a1:List vV0):Option (List vV7) :=
(aH (rk a0 a1) ([],0,()):Option ((List vV7×Unit)⊕List vV7)).bind (aU fun v11 =>
 aH (lm a0 a1) (v11.1,0,()))
def aa6:TFn:={ ps:=(.cons (.sl tT12) (.cons (.sl tT12) .unit)),res:=(.sl tT18),fn:=fun v=>zcw v.1 v.2.1 }
def apQ:TEnv:=(vZ [(148,abz),(149,abI),(150,aaZ)])
theorem apP:runY Tryz.prog aiP apR apQ axo Tryz.f78 aa6.ps aa6.res=aa6.fn:=by kernel_rfl
theorem aiN:aA Tryz.prog G0 78 aiO:=ai (ak ⟨au,(aj ajS (aj ake (aj aiB ac))),ap,ac,an⟩ Tryz.func78 rfl (by kernel_rfl))
theorem apO:TOk aiO aa6:=az (E:=aiP) (ET:=apQ) (EnvT.ofX (ax (ah aru (ah ar4 (ah apt al)))) am ar aJ aq) apP rfl
def amR:Env:=(eZ [(77,aiX),(78,aiO)] [274])
def av2:Hints:=(hZ [] [])
def amQ:SFn:=runF Tryz.prog amR av2 Tryz.f23
def ayW:TH:=yZ
def za1 (a1:List vV6) (w0:vV8):Option (List vV7×vV8×Unit) :=
(zct a1 w0.1).bind fun r1 =>
(zcw w0.2.1 r1).bind fun r2 =>
 some (r2,(w0.1,r1,(IntKind.wrap .i64 (w0.2.2.1+1)),()),())
def uz:TRaw:={ ps:=(.cons (.bx 0 0) (.cons (.sl tT19) .unit)),ins:=[.box 36 tT21],res:=(.sl tT18),outs:=[.box 36 tT21],fn:=fun v w=>za1 v.2.1 w.1 }
def av1:TEnv:=(vZ [(77,aa9),(78,aa6)])
theorem av0:rawY Tryz.prog amR av2 av1 ayW [(0,0)] Tryz.f23 uz.ps uz.ins uz.res uz.outs=uz.fn:=by kernel_rfl
theorem amP:cB Tryz.prog G0 23 amQ:=ak ⟨au,(aj aiW (aj aiN ac)),ap,ac,an⟩ Tryz.func23 rfl (by kernel_rfl)
theorem avZ:TRawOk amQ uz:=mi (E:=amR) (ET:=av1) (EnvT.ofX (ax (ah ap0 (ah apO al))) am ar aJ aq) av0
def akh:Env:=(eZ [] [274])
def asa:Hints:=(hZ [(3,[0,3,4])] [16,21,26,31])
def afg:PFn:=aF (runF Tryz.prog akh asa Tryz.f26)
def ax1:TH:={ loops:=[(3,{ keep:=[(3,(.own 0)),(4,(.int .i64))],mem:=[.row true 150 tT12] })],ro:=[] }
def wN (a0:List vV0) (y3:(Int×List vV0×Unit)):Option ((Int×List vV0×Unit)⊕List vV0) :=
 cond (decide (y3.1<(a0.length:Int))) (
(atI a0 y3.1).bind fun x1 =>
(atI a0 y3.1).bind fun x2 =>
(atI a0 y3.1).bind fun x3 =>
(atI a0 y3.1).bind fun x4 =>
(ch (y3.2.1.length+([(x1.1,x2.2.1,x3.2.2.1,x4.2.2.2.1,())]:List vV0).length)).bind fun u5 =>
 some (.inl ((IntKind.wrap .i64 (y3.1+1)),(y3.2.1++([(x1.1,x2.2.1,x3.2.2.1,x4.2.2.2.1,())]:List vV0)),()))) (
 some (.inr y3.2.1))
def zbt (a0:List vV0):Option (List vV0) :=
 aH (wN a0) (0,[],())
def yO:TFn:={ ps:=(.cons (.sl tT12) .unit),res:=(.sl tT12),fn:=fun v=>zbt v.1 }
def ar9:TEnv:={ pure:=[],look:=[],glob:=G0T,ty:=[(150,tT12)],raw:=[],fresh:=[] }
theorem ar8:runY Tryz.prog akh asa ar9 ax1 Tryz.f26 yO.ps yO.res=yO.fn:=by kernel_rfl
theorem abJ:aA Tryz.prog G0 26 afg:=ai (ak ⟨au,ac,ap,ac,an⟩ Tryz.func26 rfl (by kernel_rfl))
theorem ahf:TOk afg yO:=az (E:=akh) (ET:=ar9) (EnvT.ofX (ax al) am ar aJ aq) ar8 rfl
def ajQ:Env:=(eZ [(25,aa3),(26,afg)] [274])
def arp:Hints:=(hZ [(4,[0,1,5])] [21,26,33,38,45,50])
def ajP:PFn:=aF (runF Tryz.prog ajQ arp Tryz.f22)
def axO:TH:={ loops:=[(4,{ keep:=[(5,(.int .i64))],mem:=[] })],ro:=[] }
def wG (a0:List vV7) (a1:List vV7) (y4:(Int×Unit)):Option ((Int×Unit)⊕Bool) :=
 cond (decide (y4.1<(a0.length:Int))) (
(atI a0 y4.1).bind fun x1 =>
(atI a1 y4.1).bind fun x2 =>
 cond (!decide (x1.1=x2.1)) (some (.inr false)) ((atI a0 y4.1).bind fun x3 =>
(atI a0 y4.1).bind fun x4 =>
(zbt ([x3.2.1,x4.2.2.1]:List vV0)).bind fun r5 =>
(atI a1 y4.1).bind fun x6 =>
(atI a1 y4.1).bind fun x7 =>
(zcz r5 ([x6.2.1,x7.2.2.1]:List vV0)).bind fun r8 =>
 cond (!r8) (
 some (.inr false)) (
 some (.inl ((IntKind.wrap .i64 (y4.1+1)),()))))) (
 some (.inr true))
def zc6 (a0:List vV7) (a1:List vV7):Option Bool :=
 cond (!decide ((a0.length:Int)=(a1.length:Int))) (
 some false) (
 aH (wG a0 a1) (0,()))
def aby:TFn:={ ps:=(.cons (.sl tT18) (.cons (.sl tT18) .unit)),res:=.bool,fn:=fun v=>zc6 v.1 v.2.1 }
def aro:TEnv:={ pure:=[(25,uf),(26,yO)],look:=[],glob:=G0T,ty:=[(125,tT12),(150,tT12)],raw:=[],fresh:=[] }
theorem arn:runY Tryz.prog ajQ arp aro axO Tryz.f22 aby.ps aby.res=aby.fn:=by kernel_rfl
theorem ajO:aA Tryz.prog G0 22 ajP:=ai (ak ⟨au,(aj ug (aj abJ ac)),ap,ac,an⟩ Tryz.func22 rfl (by kernel_rfl))
theorem arm:TOk ajP aby:=az (E:=ajQ) (ET:=aro) (EnvT.ofX (ax (ah aa2 (ah ahf al))) am ar aJ aq) arn rfl
def al6:Go.Shelf.Ren:=⟨fun | 41=>81 | n=>n,fun | 22=>52 | 23=>125 | 4=>4 | n=>n,fun | n=>n⟩
theorem afz:Go.Proofs.SlLaysE0.n41 Tryz.prog al6:={
 mixed:=by kernel_rfl
 f41:=⟨Tryz.f81.name,by decide,Tryz.func81.trans (congrArg some (by kernel_rfl))⟩
 t4:=Tryz.underlying4
 a4:=Tryz.isAgg4
 z4:=Tryz.sizeOf4
 v4:=Tryz.zeroValue4
 t22:=Tryz.underlying52
 a22:=Tryz.isAgg52
 z22:=Tryz.sizeOf52
 v22:=Tryz.zeroValue52 }
def al8:PFn:=(kF 4)
theorem al7:aA Tryz.prog G0 81 al8:=clone_lays afz 4 ⟨Tryz.f81,Tryz.func81,rfl,by kernel_rfl⟩ (by kernel_rfl) (by kernel_rfl) (by kernel_rfl) (by kernel_rfl) (by kernel_rfl) (by decide) (fun w=>Tryz.sizeOf125 w)
def zai (a0:List vV0):Option (List vV0):=iv a0
def au1:TFn:=fR tT12
theorem au0:TOk al8 au1:=nf rfl rfl rfl
def alu:Env:=(eZ [(81,al8)] [274])
def auc:Hints:=(hZ [] [4])
def afr:SFn:=runF Tryz.prog alu auc Tryz.f27
def ayx:TH:=yZ
def zax (w0:vV8):Option (List vV0×vV8×Unit) :=
(zai w0.2.1).bind fun r1 =>
 some (r1,w0,())
def ur:TRaw:={ ps:=(.cons (.bx 0 0) .unit),ins:=[.box 139 tT21],res:=(.sl tT12),outs:=[.box 139 tT21],fn:=fun v w=>zax w.1 }
def aub:TEnv:=(vZ [(81,au1)])
theorem aua:rawY Tryz.prog alu auc aub ayx [(0,0)] Tryz.f27 ur.ps ur.ins ur.res ur.outs=ur.fn:=by kernel_rfl
theorem alt:cB Tryz.prog G0 27 afr:=ak ⟨au,(aj al7 ac),ap,ac,an⟩ Tryz.func27 rfl (by kernel_rfl)
theorem at9:TRawOk afr ur:=mi (E:=alu) (ET:=aub) (EnvT.ofX (ax (ah au0 al)) am ar aJ aq) aua
theorem ga:∀ xs st p,afr xs st=some p→p.2=st:=fun xs st p hp=>jQ (by kernel_rfl) hp
def amS:Env:={ pure:=[(14,aiL),(15,ae9),(16,afd),(18,afo),(19,aaJ),(22,ajP),(24,aia),(25,aa3),(26,afg)],raw:=[(17,ae0),(20,afE),(21,afp),(23,amQ),(27,afr),(28,acl)],glob:=G0,same:=[274],look:=[],ext:=[],quiet:=[20,27,28] }
def av5:Hints:=(hZ [(10,[0,1,7,9,10])] [35])
def av6:PFn:=aF (runF Tryz.prog amS av5 Tryz.f3)
def ayX:TH:={ loops:=[(10,{ keep:=[(7,(.bx 0 0)),(9,(.bx 1 0)),(10,(.int .i64))],mem:=[.box 139 tT21,.box 36 tT21] })],cuts:=[(15,[(23,{ keep:=[(7,(.bx 0 0)),(9,(.bx 1 0)),(87,.bool)],mem:=[.box 139 tT21,.box 36 tT21] })])],ro:=[],news:=[] }
def jL (a0:List vV5) (a1:List (List vV2×Unit)) (y10:(Int×vV8×vV8×Unit)):Option ((Int×vV8×vV8×Unit)⊕Bool) :=
 cond (decide (y10.1<(a1.length:Int))) (
(atI a1 y10.1).bind fun x9 =>
(zdr a0 x9.1).bind fun r10 =>
(za4 r10 y10.2.1).bind fun q11 =>
(zaz r10 q11.2.1).bind fun q12 =>
((atI a1 y10.1).bind fun x13 =>
(zdo a0 x13.1).bind fun r14 =>
(za1 r14 y10.2.2.1).bind fun q15 =>
(zc6 q12.1 q15.1).bind fun r16 =>
 cond (!r16) (some (true,q12.2.1,q15.2.1,())) ((zax q12.2.1).bind fun q17 =>
(zbt q17.1).bind fun r18 =>
(zcz r18 q15.2.1.2.1).bind fun r19 =>
 some ((!r19),q17.2.1,q15.2.1,())):Option (Bool×vV8×vV8×Unit)).bind fun v20 =>
 cond v20.1 (some (.inr false)) ((zaw v20.2.1).bind fun q21 =>
 cond (!decide (q21.1=v20.2.2.1.2.2.1)) (some (.inr false)) (cond (!(q11.1==(decide ((q12.1.length:Int)>0)))) (
 some (.inr false)) (
 some (.inl ((IntKind.wrap .i64 (y10.1+1)),q21.2.1,v20.2.2.1,())))))) (
((zby).bind fun r22 =>
 some r22).map .inr)
def za0 (a0:List vV5) (a1:List (List vV2×Unit)) (a2:List (List UInt8)):Option Bool :=
(zcx a0 a1).bind fun r1 =>
 cond (!r1) ((zby).bind fun r2 =>
 some r2) ((zcl a2).bind fun r3 =>
 cond (!r3) (
(zby).bind fun r4 =>
 some r4) (
(zdl a2).bind fun p5 =>
 cond p5.1.isEmpty (
(zb7 a2).bind fun r23 =>
 cond (!decide (p5.2.1=r23)) (some false) (cond (!(true==(!decide (p5.2.1=0)))) (
 some false) (
 cond (!decide (p5.2.1=0)) (
(zby).bind fun r24 =>
 some r24) (
 none)))) (
((p5.1.head? : Option vV8)).bind fun x6 =>
(zb7 a2).bind fun r7 =>
 cond (!decide (p5.2.1=r7)) (some false) (cond (!(false==(!decide (p5.2.1=0)))) (
 some false) (
 cond (!decide (p5.2.1=0)) (
(zby).bind fun r8 =>
 some r8) (
 aH (jL a0 a1) (0,x6,(a2,[],0,()),())))))))
def uA:TFn:={ ps:=(.cons (.sl tT17) (.cons (.sl (.agg (.cons (.sl tT14) .unit))) tT22)),res:=.bool,fn:=fun v=>za0 v.1 v.2.1 v.2.2.1 }
def av4:TEnv:={ pure:=[(14,aa5),(15,yH),(16,yM),(18,yS),(19,tX),(22,aby),(24,aaM),(25,uf),(26,yO)],look:=[],glob:=G0T,ty:=[],raw:=[(20,uw),(21,ry),(23,uz),(27,ur),(28,rz)],fresh:=[(17,aaQ)] }
theorem av3:runY Tryz.prog amS av5 av4 ayX Tryz.f3 uA.ps uA.res=uA.fn:=by kernel_rfl
theorem za0_Fok:aA Tryz.prog G0 3 av6:=ai (ak ⟨au,(aj aiK (aj abh (aj abF (aj aca (aj tY (aj ajO (aj ah9 (aj ug (aj abJ ac))))))))),(bN aaP (bN amI (bN aci (bN amP (bN alt (bN ack ap)))))),ac,an⟩ Tryz.func3 rfl (by kernel_rfl))
theorem za0_ok:TOk av6 uA:=az (E:=amS) (ET:=av4) (EnvT.ofX (ax (ah apK (ah ag9 (ah ahd (ah ahl (ah aaI (ah arm (ah aoK (ah aa2 (ah ahf al)))))))))) am (mh (ck avN rfl rfl (ck ahm rfl rfl (ck avZ rfl rfl (ck at9 rfl rfl (ck aho rfl rfl ar))))) rfl) aJ (mD ag0 rfl rfl rfl aq) (gV gb rfl rfl rfl (gV ga rfl rfl rfl (gV dg rfl rfl rfl mj)))) av3 rfl
def alA:Env:=(eZ [(32,yJ),(76,ae8)] [274])
def auo:Hints:=(hZ [] [])
def alz:PFn:=aF (runF Tryz.prog alA auo Tryz.f21)
def ayA:TH:=yZ
def zau (a0:Unit) (a1:List vV6):Option (List vV7) :=
 some []
def acn:TFn:={ ps:=(.cons .nilp (.cons (.sl tT19) .unit)),res:=(.sl tT18),fn:=fun v=>zau v.1 v.2.1 }
def aum:TEnv:=(vZ [(32,rq),(76,yG)])
theorem aul:runY Tryz.prog alA auo aum ayA Tryz.f21 acn.ps acn.res=acn.fn:=by kernel_rfl
theorem aly:aA Tryz.prog G0 21 alz:=ai (ak ⟨au,(aj pp (aj abg ac)),ap,ac,an⟩ Tryz.func21 rfl (by kernel_rfl))
theorem auk:TOk alz acn:=az (E:=alA) (ET:=aum) (EnvT.ofX (ax (ah wH (ah ag8 al))) am ar aJ aq) aul rfl
def alD:Env:=(eZ [] [274])
def aus:Hints:=(hZ [] [])
def alC:PFn:=aF (runF Tryz.prog alD aus Tryz.f27)
def ayB:TH:=yZ
def zat (a0:Unit):Option (List vV0) :=
 some []
def aco:TFn:={ ps:=(.cons .nilp .unit),res:=(.sl tT12),fn:=fun v=>zat v.1 }
def aur:TEnv:=(vZ [])
theorem auq:runY Tryz.prog alD aus aur ayB Tryz.f27 aco.ps aco.res=aco.fn:=by kernel_rfl
theorem alB:aA Tryz.prog G0 27 alC:=ai (ak ⟨au,ac,ap,ac,an⟩ Tryz.func27 rfl (by kernel_rfl))
theorem aup:TOk alC aco:=az (E:=alD) (ET:=aur) (EnvT.ofX (ax al) am ar aJ aq) auq rfl
def alJ:Env:=(eZ [] [274])
def auA:Hints:=(hZ [] [])
def alI:PFn:=aF (runF Tryz.prog alJ auA Tryz.f28)
def ayD:TH:=yZ
def zar (a0:Unit):Option Int :=
 some 0
def acq:TFn:={ ps:=(.cons .nilp .unit),res:=(.int .i64),fn:=fun v=>zar v.1 }
def auz:TEnv:=(vZ [])
theorem auy:runY Tryz.prog alJ auA auz ayD Tryz.f28 acq.ps acq.res=acq.fn:=by kernel_rfl
theorem alH:aA Tryz.prog G0 28 alI:=ai (ak ⟨au,ac,ap,ac,an⟩ Tryz.func28 rfl (by kernel_rfl))
theorem aux:TOk alI acq:=az (E:=alJ) (ET:=auz) (EnvT.ofX (ax al) am ar aJ aq) auy rfl
def alG:Env:=(eZ [(31,aaW),(32,yJ)] [274])
def auw:Hints:=(hZ [] [])
def alF:PFn:=aF (runF Tryz.prog alG auw Tryz.f20)
def ayC:TH:=yZ
def zas (a0:Unit) (a1:List vV6):Option Bool :=
 some false
def acp:TFn:={ ps:=(.cons .nilp (.cons (.sl tT19) .unit)),res:=.bool,fn:=fun v=>zas v.1 v.2.1 }
def auv:TEnv:=(vZ [(31,tZ),(32,rq)])
theorem auu:runY Tryz.prog alG auw auv ayC Tryz.f20 acp.ps acp.res=acp.fn:=by kernel_rfl
theorem alE:aA Tryz.prog G0 20 alF:=ai (ak ⟨au,(aj t8 (aj pp ac)),ap,ac,an⟩ Tryz.func20 rfl (by kernel_rfl))
theorem aut:TOk alF acp:=az (E:=alG) (ET:=auv) (EnvT.ofX (ax (ah aaV (ah wH al))) am ar aJ aq) auu rfl
def amH:Env:=(eZ [(16,afd),(19,aaJ),(20,alF),(21,alz),(27,alC),(28,alI),(29,ae7)] [274])
def avL:Hints:=(hZ [] [])
def avM:PFn:=aF (runF Tryz.prog amH avL Tryz.f4)
def ayS:TH:={ loops:=[],cuts:=[(5,[(11,{ keep:=[(21,.bool)],mem:=[] })])],ro:=[],news:=[] }
def za5 (a0:List vV5):Option Bool :=
(zcn a0 []).bind fun r1 =>
 cond (!r1) (
(zby).bind fun r2 =>
 some r2) (
(zdr a0 []).bind fun r3 =>
((zau () r3).bind fun r4 =>
 cond (decide ((r4.length:Int)=0)) ((zat ()).bind fun r5 =>
 some ((decide ((r5.length:Int)=0)),())) (some (false,())):Option (Bool×Unit)).bind fun v6 =>
 cond v6.1 ((zar ()).bind fun r7 =>
 cond (decide (r7=0)) ((zas () r3).bind fun r8 =>
 cond (!r8) ((zby).bind fun r9 =>
 some r9) (some false)) (some false)) (some false))
def uu:TFn:={ ps:=(.cons (.sl tT17) .unit),res:=.bool,fn:=fun v=>za5 v.1 }
def avK:TEnv:=(vZ [(16,yM),(19,tX),(20,acp),(21,acn),(27,aco),(28,acq),(29,yF)])
theorem avJ:runY Tryz.prog amH avL avK ayS Tryz.f4 uu.ps uu.res=uu.fn:=by kernel_rfl
theorem amG:aA Tryz.prog G0 4 avM:=ai (ak ⟨au,(aj abF (aj tY (aj alE (aj aly (aj alB (aj alH (aj abf ac))))))),ap,ac,an⟩ Tryz.func4 rfl (by kernel_rfl))
theorem avI:TOk avM uu:=az (E:=amH) (ET:=avK) (EnvT.ofX (ax (ah ahd (ah aaI (ah aut (ah auk (ah aup (ah aux (ah ag7 al)))))))) am ar aJ aq) avJ rfl
end
end Go.Proofs.YtnbgkhdcidbkaaaGreatDoor.Y
