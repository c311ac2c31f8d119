import Derived.Test.YtmklghkhfimfgaaGreatDoorS
import Derived.Test.YtmklghkhfimfgaaGreatDoorT32
import GoSem.PinnedTables
set_option linter.unusedVariables false
set_option maxRecDepth 100000
namespace Go.Proofs.YtmklghkhfimfgaaGreatDoor.Y
open Go.EM Go.TY Go.Proofs
theorem zb.{u,v}{A:Type u}{B:Type v} (a:A) (f:A→Option B):(some a).bind f=f a:=rfl
theorem zg.{u}{A:Type u}{l:List A}{i:Nat} (h:i<l.length):l[i]? = some l[i]:=List.getElem?_eq_getElem h
theorem zl.{u}{A:Type u}{a:A}{l:List A}:(a::l).length=l.length+1:=rfl
theorem zf {p:Prop} [Decidable p] (h:¬p):decide p=false:=decide_eq_false h
theorem zn.{u}{c:Prop}{h:Decidable c} (hc:¬c) {A:Sort u}{t e:A}:ite c t e=e:=if_neg hc
theorem zp.{u}{c:Prop}{h:Decidable c} (hc:c) {A:Sort u}{t e:A}:ite c t e=t:=if_pos hc
theorem zt {p:Prop} [Decidable p] (h:p):decide p=true:=decide_eq_true h
noncomputable section
def tD:List Int:=Go.Pinned.utf8FirstZ.map fun (n:Nat)=>(n:Int)
def pT:List (Int×Int×Unit):=[(128,191,()),(160,191,()),(128,159,()),(144,191,()),(128,143,()),(0,0,()),(0,0,()),(0,0,()),(0,0,()),(0,0,()),(0,0,()),(0,0,()),(0,0,()),(0,0,()),(0,0,()),(0,0,())]
def G0:List (Nat×AVal):=[(6,.rptr (tD.map (AVal.int .u8))),(7,.rptr (pT.flatMap fun p=>[AVal.int .u8 p.1,AVal.int .u8 p.2.1])),(1,.rptr [.any]),(2,.rptr [.any]),(3,.rptr (Lib.pow10Tab.map (AVal.int .u64)))]
def G0T:List (Nat×TV):=[(6,⟨.rp (.arr 256 (.int .u8)) 0,tD⟩),(7,⟨.rp (.arr 16 (.agg (.cons (.int .u8) (.cons (.int .u8) .unit)))) 0,pT⟩)]
theorem aM:jM G0 G0T:=nG rfl rfl (aaH (by kernel_rfl)) (nG rfl rfl (wz (by kernel_rfl)) aaG)
theorem aw:∀ f,memN f [114]=true→Same Tryz.prog f:=by
 intro f h
 by_cases e114:f=114
 · subst e114; exact ⟨Tryz.f114,Tryz.func114,by kernel_rfl,by kernel_rfl,by kernel_rfl,by kernel_rfl⟩
 simp_all [memN]
def eZ (l:List (Nat×PFn)) (s:List Nat):Env:={ pure:=l,raw:=[],glob:=G0,same:=s,look:=[],ext:=[] }
def vZ (l:List (Nat×TFn)):TEnv:={ pure:=l,look:=[],glob:=G0T,ty:=[],raw:=[],fresh:=[] }
def hZ (l:List (Nat×List Nat)) (o:List Nat):Hints:={ seqs:=[],loops:=l,own:=o }
def yZ:TH:={ joins:=[],loops:=[],cuts:=[],ro:=[],news:=[] }
abbrev vV0:=(Int×List (List UInt8)×(Int×Int×List UInt8×Unit)×Int×List ((Int×Int×Unit)×Int×Unit)×Unit)
abbrev vV1:=(Int×Int×Int×Int×(Int×Unit×(Int×Int×List UInt8×Unit)×Int×Unit×Unit)×(Int×Int×Unit)×Unit)
abbrev vV2:=(List UInt8×Int×Bool×Unit)
abbrev vV3:=(Int×Int×Int×Int×vV0×(Int×Int×Unit)×Unit)
abbrev vV4:=(Int×Int×List UInt8×Unit)
abbrev vV5:=(Int×Unit×vV4×Int×Unit×Unit)
abbrev vV6:=(Bool×Unit×Unit)
abbrev vV7:=((Int×Int×Unit)×Int×Unit)
abbrev tT8:Ty:=(.agg (.cons (.int .i64) (.cons (.int .i64) (.cons (.int .i64) (.cons (.int .i64) (.cons (.agg (.cons (.int .i64) (.cons .nilsl (.cons (.agg (.cons (.int .i64) (.cons (.int .i64) (.cons .str .unit)))) (.cons (.int .i64) (.cons .nilsl .unit)))))) (.cons (.agg (.cons (.int .i64) (.cons (.int .i64) .unit))) .unit)))))))
abbrev tT9:Ty:=(.agg (.cons (.int .i64) (.cons (.sl .str) (.cons (.agg (.cons (.int .i64) (.cons (.int .i64) (.cons .str .unit)))) (.cons (.int .i64) (.cons (.sl (.agg (.cons (.agg (.cons (.int .i64) (.cons (.int .i64) .unit))) (.cons (.int .i64) .unit)))) .unit))))))
abbrev tT10:Ty:=(.agg (.cons (.int .i64) (.cons (.int .i64) (.cons (.int .i64) (.cons (.int .i64) (.cons tT9 (.cons (.agg (.cons (.int .i64) (.cons (.int .i64) .unit))) .unit)))))))
abbrev tT11:Ty:=(.agg (.cons (.int .i64) (.cons (.int .i64) (.cons .str .unit))))
abbrev tT12:Ty:=(.agg (.cons .str (.cons (.int .i64) (.cons .bool .unit))))
abbrev tT13:Ty:=(.agg (.cons (.int .i64) (.cons (.int .i64) .unit)))
abbrev tT14:Ty:=(.agg (.cons (.int .i64) (.cons .nilsl (.cons tT11 (.cons (.int .i64) (.cons .nilsl .unit))))))
abbrev tT15:Ty:=(.cons (.int .i64) .unit)
abbrev tT16:Ty:=(.agg (.cons (.op 1) (.cons (.own 0) .unit)))
abbrev tT17:Ty:=(.agg (.cons (.op 0) (.cons (.own 1) .unit)))
def agS:Env:=(eZ [] [114])
def anx:Hints:=(hZ [] [])
def abT:PFn:=aF (runF Tryz.prog agS anx Tryz.f136)
def aqZ:TH:=yZ
def zal (a0:List UInt8) (a1:List UInt8):Option Bool :=
 cond (decide ((a0.length:Int)≥(a1.length:Int))) ((subI a0 0 (a1.length:Int)).bind fun s1 =>
 some (decide (s1=a1))) (some false)
def vt:TFn:={ ps:=(.cons .str (.cons .str .unit)),res:=.bool,fn:=fun v=>zal v.1 v.2.1 }
def anw:TEnv:=(vZ [])
theorem anv:runY Tryz.prog agS anx anw aqZ Tryz.f136 vt.ps vt.res=vt.fn:=by kernel_rfl
theorem yB:aB Tryz.prog G0 136 abT:=ah (ai ⟨aw,ab,an,ab,am⟩ Tryz.func136 rfl (by kernel_rfl))
theorem ads:TOk abT vt:=aA (E:=agS) (ET:=anw) (EnvT.ofX (ax aj) ak ap aM ao) anv rfl
def agV:Env:=(eZ [(136,abT)] [114])
def anC:Hints:=(hZ [] [])
def agU:PFn:=aF (runF Tryz.prog agV anC Tryz.f100)
def aq0:TH:=yZ
def zak (a0:List UInt8) (a1:List UInt8):Option (List UInt8) :=
(zal a0 a1).bind fun r1 =>
 cond r1 (
(subI a0 (a1.length:Int) (a0.length:Int)).bind fun s2 =>
 some s2) (
 some a0)
def yC:TFn:={ ps:=(.cons .str (.cons .str .unit)),res:=.str,fn:=fun v=>zak v.1 v.2.1 }
def anB:TEnv:=(vZ [(136,vt)])
theorem anA:runY Tryz.prog agV anC anB aq0 Tryz.f100 yC.ps yC.res=yC.fn:=by kernel_rfl
theorem agT:aB Tryz.prog G0 100 agU:=ah (ai ⟨aw,(ae yB ab),an,ab,am⟩ Tryz.func100 rfl (by kernel_rfl))
theorem anz:TOk agU yC:=aA (E:=agV) (ET:=anB) (EnvT.ofX (ax (ad ads aj)) ak ap aM ao) anA rfl
def agN:Env:=(eZ [(100,agU)] [114])
def ann:Hints:=(hZ [] [])
def agM:PFn:=aF (runF Tryz.prog agN ann Tryz.f72)
def aqW:TH:=yZ
def zao (a0:List UInt8) (a1:List UInt8):Option (List UInt8) :=
(zak a0 a1).bind fun r1 =>
 some r1
def yy:TFn:={ ps:=(.cons .str (.cons .str .unit)),res:=.str,fn:=fun v=>zao v.1 v.2.1 }
def anm:TEnv:=(vZ [(100,yC)])
theorem anl:runY Tryz.prog agN ann anm aqW Tryz.f72 yy.ps yy.res=yy.fn:=by kernel_rfl
theorem agL:aB Tryz.prog G0 72 agM:=ah (ai ⟨aw,(ae agT ab),an,ab,am⟩ Tryz.func72 rfl (by kernel_rfl))
theorem ank:TOk agM yy:=aA (E:=agN) (ET:=anm) (EnvT.ofX (ax (ad anz aj)) ak ap aM ao) anl rfl
def afv:Env:=(eZ [(72,agM)] [114])
def alk:Hints:=(hZ [(3,[0,4,8,9])] [])
def abG:PFn:=aF (runF Tryz.prog afv alk Tryz.f44)
def aql:TH:={ joins:=[(10,{ keep:=[],mem:=[] }),(7,{ keep:=[(15,.bool)],mem:=[] })],loops:=[(3,{ keep:=[(4,.bool),(9,(.int .i64))],mem:=[] })],ro:=[] }
def fF (a0:List UInt8) (y3:(Bool×Int×Unit)):Option ((Bool×Int×Unit)⊕(List UInt8×List UInt8×Unit)) :=
 cond (decide (y3.2.1<(a0.length:Int))) (
(atI a0 0).bind fun b1 =>
((cond (!(decide ((b1.toNat:Int)=34))) ((atI a0 y3.2.1).bind fun b2 =>
 some (.inl ((decide ((b2.toNat:Int)=32)),()))) (some (.inl (false,()))):Option ((Bool×Unit)⊕(Unit⊕((Bool×Int×Unit)⊕(List UInt8×List UInt8×Unit))))).bind (au fun v3 =>
 cond v3.1 (
(subI a0 0 y3.2.1).bind fun s4 =>
(subI a0 (IntKind.wrap .i64 (y3.2.1+1)) (a0.length:Int)).bind fun s5 =>
 some (.inr (.inr (s4,s5,())))) (
 cond (decide ((b1.toNat:Int)=34)) (cond (decide (y3.2.1>0)) ((atI a0 y3.2.1).bind fun b6 =>
 cond (decide ((b6.toNat:Int)=34)) (cond (!y3.1) (
(subI a0 0 (IntKind.wrap .i64 (y3.2.1+1))).bind fun s7 =>
(subI a0 (IntKind.wrap .i64 (y3.2.1+1)) (a0.length:Int)).bind fun s8 =>
(zao s8 [32]).bind fun r9 =>
 some (.inr (.inr (s7,r9,())))) (
 some (.inl ()))) (some (.inl ()))) (some (.inl ()))) (some (.inl ())))):Option (Unit⊕((Bool×Int×Unit)⊕(List UInt8×List UInt8×Unit)))).bind (au fun v10 =>
(atI a0 y3.2.1).bind fun b11 =>
 cond (decide ((b11.toNat:Int)=92)) (some (.inl ((!y3.1),(IntKind.wrap .i64 (y3.2.1+1)),()))) (some (.inl (false,(IntKind.wrap .i64 (y3.2.1+1)),()))))) (
 some (.inr (a0,[],())))
def zbq (a0:List UInt8):Option (List UInt8×List UInt8×Unit) :=
 aJ (fF a0) (false,0,())
def ve:TFn:={ ps:=(.cons .str .unit),res:=(.tup (.cons .str (.cons .str .unit))),fn:=fun v=>zbq v.1 }
def alj:TEnv:=(vZ [(72,yy)])
theorem ali:runY Tryz.prog afv alk alj aql Tryz.f44 ve.ps ve.res=ve.fn:=by kernel_rfl
theorem xO:aB Tryz.prog G0 44 abG:=ah (ai ⟨aw,(ae agL ab),an,ab,am⟩ Tryz.func44 rfl (by kernel_rfl))
theorem adi:TOk abG ve:=aA (E:=afv) (ET:=alj) (EnvT.ofX (ax (ad ank aj)) ak ap aM ao) ali rfl
def afW:Env:=(eZ [] [114])
def alZ:Hints:=(hZ [] [])
def abL:PFn:=aF (runF Tryz.prog afW alZ Tryz.f29)
def aqz:TH:=yZ
def zbb:Option (List (List UInt8)) :=
 some ([[],[98,101,103,105,110],[100,111],[99,111,109,109,105,116],[97,98,111,114,116],[117,110,100,111],[114,101,100,111],[111,117,116],[98,97,99,107],[115,101,110,100],[115,97,121],[100,101,108,105,118,101,114],[100,114,111,112],[116,119,105,99,101],[115,112,111,105,108],[99,114,97,115,104],[116,101,97,114],[114,101,115,116,97,114,116],[115,101,97,108],[99,111,109,112,97,99,116]]:List (List UInt8))
def vj:TFn:={ ps:=.unit,res:=(.sl .str),fn:=fun v=>zbb  }
def alY:TEnv:={ pure:=[],look:=[],glob:=G0T,ty:=[(9,.str)],raw:=[],fresh:=[] }
theorem alX:runY Tryz.prog afW alZ alY aqz Tryz.f29 vj.ps vj.res=vj.fn:=by kernel_rfl
theorem yc:aB Tryz.prog G0 29 abL:=ah (ai ⟨aw,ab,an,ab,am⟩ Tryz.func29 rfl (by kernel_rfl))
theorem adm:TOk abL vj:=aA (E:=afW) (ET:=alY) (EnvT.ofX (ax aj) ak ap aM ao) alX rfl
def aha:Env:=(eZ [] [114])
def an2:Hints:=(hZ [(2,[0,1,7,8])] [])
def abV:PFn:=aF (runF Tryz.prog aha an2 Tryz.f45)
def aq7:TH:={ loops:=[(2,{ keep:=[(8,(.int .i64))],mem:=[] })],ro:=[] }
def gQ (a0:List (List UInt8)) (a1:List UInt8) (y2:(Int×Unit)):Option ((Int×Unit)⊕Int) :=
 cond (decide (y2.1<(a0.length:Int))) (
(atI a0 y2.1).bind fun x1 =>
 cond (decide (a1=x1)) (
 some (.inr y2.1)) (
 some (.inl ((IntKind.wrap .i64 (y2.1+1)),())))) (
 some (.inr (-1)))
def zac (a0:List (List UInt8)) (a1:List UInt8):Option Int :=
 aJ (gQ a0 a1) (0,())
def vu:TFn:={ ps:=(.cons (.sl .str) (.cons .str .unit)),res:=(.int .i64),fn:=fun v=>zac v.1 v.2.1 }
def an1:TEnv:=(vZ [])
theorem an0:runY Tryz.prog aha an2 an1 aq7 Tryz.f45 vu.ps vu.res=vu.fn:=by kernel_rfl
theorem yJ:aB Tryz.prog G0 45 abV:=ah (ai ⟨aw,ab,an,ab,am⟩ Tryz.func45 rfl (by kernel_rfl))
theorem adu:TOk abV vu:=aA (E:=aha) (ET:=an1) (EnvT.ofX (ax aj) ak ap aM ao) an0 rfl
def afP:Env:=(eZ [] [114])
def alO:Hints:=(hZ [] [])
def xY:PFn:=aF (runF Tryz.prog afP alO Tryz.f28)
def aqv:TH:={ joins:=[(5,{ keep:=[(4,.bool)],mem:=[] }),(10,{ keep:=[(10,.bool)],mem:=[] }),(15,{ keep:=[(13,.bool)],mem:=[] }),(19,{ keep:=[(18,.bool)],mem:=[] })],loops:=[],ro:=[] }
def zbf (a0:Int):Option Int :=
(cond (decide (a0=1)) (
 some (.inl ((decide (a0=1)),()))) (
 cond (decide (a0=5)) (
 some (.inl ((decide (a0=5)),()))) (
 some (.inl ((decide (a0=6)),())))):Option ((Bool×Unit)⊕Int)).bind (au fun v1 =>
 cond v1.1 (
 some 3) (
 cond (decide (a0=2)) (
 some 17) (
(cond (decide (a0=7)) (
 some (.inl ((decide (a0=7)),()))) (
 some (.inl ((decide (a0=8)),()))):Option ((Bool×Unit)⊕Int)).bind (au fun v2 =>
 cond v2.1 (
 some 11) (
(cond (decide (a0=9)) (
 some (.inl ((decide (a0=9)),()))) (
 cond (decide (a0=10)) (
 some (.inl ((decide (a0=10)),()))) (
 cond (decide (a0=15)) (
 some (.inl ((decide (a0=15)),()))) (
 some (.inl ((decide (a0=16)),()))))):Option ((Bool×Unit)⊕Int)).bind (au fun v3 =>
 cond v3.1 (
 some 5) (
(cond (decide (a0=11)) (
 some (.inl ((decide (a0=11)),()))) (
 cond (decide (a0=12)) (
 some (.inl ((decide (a0=12)),()))) (
 some (.inl ((decide (a0=13)),())))):Option ((Bool×Unit)⊕Int)).bind (au fun v4 =>
 cond v4.1 (
 some 4) (
 cond (decide (a0=14)) (
 some 6) (
 some 1))))))))))
def rD:TFn:={ ps:=tT15,res:=(.int .i64),fn:=fun v=>zbf v.1 }
def alN:TEnv:=(vZ [])
theorem alM:runY Tryz.prog afP alO alN aqv Tryz.f28 rD.ps rD.res=rD.fn:=by kernel_rfl
theorem rE:aB Tryz.prog G0 28 xY:=ah (ai ⟨aw,ab,an,ab,am⟩ Tryz.func28 rfl (by kernel_rfl))
theorem xX:TOk xY rD:=aA (E:=afP) (ET:=alN) (EnvT.ofX (ax aj) ak ap aM ao) alM rfl
def vg:PFn:=(sQ 139)
theorem oh:aB Tryz.prog G0 46 vg:=wO (gs:=1) (gr:=2) ⟨Tryz.f46,Tryz.func46,rfl,by kernel_rfl⟩ (by kernel_rfl) (by kernel_rfl) (fun s hm v h w=>Tryz.strconv_Atoi_ok s hm v h w) (fun s hl h ev w hv hev=>(Tryz.strconv_Atoi_syntax s hl h ev w hv hev).mono fun e w' ⟨N,h1,_,_,h4⟩=>⟨N,h1,h4⟩) (fun s hl h ev w hv hev=>(Tryz.strconv_Atoi_range s hl h ev w hv hev).mono fun e w' ⟨N,h1,_,_,h4⟩=>⟨N,h1,h4⟩)
def zbi (a0:List UInt8):Option (Int×Bool×Unit):=atoi a0
def xV:TFn:=uK
theorem tj:TOk vg xV:=aiG
def agR:Env:={ pure:=[],raw:=[],glob:=G0,same:=[114],look:=[],ext:=[(141,gH)] }
def anu:Hints:=(hZ [] [])
def agQ:PFn:=aF (runF Tryz.prog agR anu Tryz.f112)
def aqY:TH:=yZ
def zam (a0:List UInt8) (a1:Int):Option Int :=
(indexByte a0 a1).bind fun r1 =>
 some r1
def yA:TFn:={ ps:=(.cons .str (.cons (.int .u8) .unit)),res:=(.int .i64),fn:=fun v=>zam v.1 v.2.1 }
def ant:TEnv:=(vZ [(141,ik)])
theorem ans:runY Tryz.prog agR anu ant aqY Tryz.f112 yA.ps yA.res=yA.fn:=by kernel_rfl
theorem agP:aB Tryz.prog G0 112 agQ:=ah (ai ⟨aw,ab,an,ab,(aaW (o7 (fn:=Tryz.f141) Tryz.func141 (by kernel_rfl) (by kernel_rfl) (by kernel_rfl) (by kernel_rfl)) am)⟩ Tryz.func112 rfl (by kernel_rfl))
theorem anr:TOk agQ yA:=aA (E:=agR) (ET:=ant) (EnvT.ofX (ack qA rfl rfl rfl (ax aj)) ak ap aM ao) ans rfl
def agB:Env:=(eZ [(112,agQ)] [114])
def am2:Hints:=(hZ [(15,[0,1,5,6,7,8,9,10])] [])
def abP:PFn:=aF (runF Tryz.prog agB am2 Tryz.f99)
def aqR:TH:=yZ
def zat (a0:List UInt8) (a1:List UInt8):Option Int :=
 cond (decide ((a1.length:Int)=0)) (some 0) (cond (decide (a1=a0)) (
 some 0) (
 cond (decide ((a1.length:Int)=1)) (
(atI a1 0).bind fun b1 =>
(zam a0 (b1.toNat:Int)).bind fun r2 =>
 some r2) (
 cond (decide ((a1.length:Int)≥(a0.length:Int))) (
 some (-1)) (
 none))))
def vr:TFn:={ ps:=(.cons .str (.cons .str .unit)),res:=(.int .i64),fn:=fun v=>zat v.1 v.2.1 }
def am1:TEnv:=(vZ [(112,yA)])
theorem am0:runY Tryz.prog agB am2 am1 aqR Tryz.f99 vr.ps vr.res=vr.fn:=by kernel_rfl
theorem yw:aB Tryz.prog G0 99 abP:=ah (ai ⟨aw,(ae agP ab),an,ab,am⟩ Tryz.func99 rfl (by kernel_rfl))
theorem adq:TOk abP vr:=aA (E:=agB) (ET:=am1) (EnvT.ofX (ax (ad anr aj)) ak ap aM ao) am0 rfl
def ags:Env:=(eZ [(99,abP)] [114])
def amL:Hints:=(hZ [] [])
def agr:PFn:=aF (runF Tryz.prog ags amL Tryz.f106)
def aqM:TH:=yZ
def zay (a0:List UInt8) (a1:List UInt8):Option (List UInt8×List UInt8×Bool×Unit) :=
(zat a0 a1).bind fun r1 =>
 cond (decide (r1≥0)) (
(subI a0 0 r1).bind fun s2 =>
(subI a0 (IntKind.wrap .i64 (r1+(a1.length:Int))) (a0.length:Int)).bind fun s3 =>
 some (s2,s3,true,())) (
 some (a0,[],false,()))
def yq:TFn:={ ps:=(.cons .str (.cons .str .unit)),res:=(.tup (.cons .str (.cons .str (.cons .bool .unit)))),fn:=fun v=>zay v.1 v.2.1 }
def amK:TEnv:=(vZ [(99,vr)])
theorem amJ:runY Tryz.prog ags amL amK aqM Tryz.f106 yq.ps yq.res=yq.fn:=by kernel_rfl
theorem agq:aB Tryz.prog G0 106 agr:=ah (ai ⟨aw,(ae yw ab),an,ab,am⟩ Tryz.func106 rfl (by kernel_rfl))
theorem amI:TOk agr yq:=aA (E:=ags) (ET:=amK) (EnvT.ofX (ax (ad adq aj)) ak ap aM ao) amJ rfl
def agc:Env:=(eZ [(106,agr)] [114])
def amm:Hints:=(hZ [] [])
def agb:PFn:=aF (runF Tryz.prog agc amm Tryz.f75)
def aqF:TH:=yZ
def zb5 (a0:List UInt8) (a1:List UInt8):Option (List UInt8×List UInt8×Bool×Unit) :=
(zay a0 a1).bind fun r1 =>
 some (r1.1,r1.2.1,r1.2.2.1,())
def yi:TFn:={ ps:=(.cons .str (.cons .str .unit)),res:=(.tup (.cons .str (.cons .str (.cons .bool .unit)))),fn:=fun v=>zb5 v.1 v.2.1 }
def aml:TEnv:=(vZ [(106,yq)])
theorem amk:runY Tryz.prog agc amm aml aqF Tryz.f75 yi.ps yi.res=yi.fn:=by kernel_rfl
theorem aga:aB Tryz.prog G0 75 agb:=ah (ai ⟨aw,(ae agq ab),an,ab,am⟩ Tryz.func75 rfl (by kernel_rfl))
theorem amj:TOk agb yi:=aA (E:=agc) (ET:=aml) (EnvT.ofX (ax (ad amI aj)) ak ap aM ao) amk rfl
def adX:Env:=(eZ [] [114])
def aiV:Hints:=(hZ [] [])
def wX:PFn:=aF (runF Tryz.prog adX aiV Tryz.f34)
def apG:TH:={ loops:=[],ro:=[1] }
def zcy (a0:(Int×Int×Unit)):Option Bool :=
 cond (decide (a0.1≥0)) (cond (decide (a0.1<16)) (cond (decide (a0.2.1≥1)) (some (decide (a0.2.1≤1048576))) (some false)) (some false)) (some false)
def rv:TFn:={ ps:=(.cons tT13 .unit),res:=.bool,fn:=fun v=>zcy v.1 }
def aiU:TEnv:=(vZ [])
theorem aiT:runY Tryz.prog adX aiV aiU apG Tryz.f34 rv.ps rv.res=rv.fn:=by kernel_rfl
theorem rx:aB Tryz.prog G0 34 wX:=ah (ai ⟨aw,ab,an,ab,am⟩ Tryz.func34 rfl (by kernel_rfl))
theorem wW:TOk wX rv:=aA (E:=adX) (ET:=aiU) (EnvT.ofX (ax aj) ak ap aM ao) aiT rfl
def rC:PFn:=acK
theorem oi:aB Tryz.prog G0 30 rC:=ww (g:=3) ⟨Tryz.f30,Tryz.func30,rfl,by kernel_rfl⟩ (by kernel_rfl) (by kernel_rfl) Tryz.strconv_Itoa
def zbh (a0:Int):Option (List UInt8):=itoa a0
def abI:TFn:=ud
theorem tk:TOk rC abI:=aij
def ae3:Env:=(eZ [(30,rC)] [114])
def akz:Hints:=(hZ [] [])
def abB:PFn:=aF (runF Tryz.prog ae3 akz Tryz.f31)
def ap8:TH:={ loops:=[],ro:=[1] }
def zc3 (a0:(Int×Int×Unit)):Option (List UInt8) :=
(zbh a0.1).bind fun r1 =>
(catT r1 [46]).bind fun s2 =>
(zbh a0.2.1).bind fun r3 =>
(catT s2 r3).bind fun s4 =>
 some s4
def va:TFn:={ ps:=(.cons tT13 .unit),res:=.str,fn:=fun v=>zc3 v.1 }
def aky:TEnv:=(vZ [(30,abI)])
theorem akx:runY Tryz.prog ae3 akz aky ap8 Tryz.f31 va.ps va.res=va.fn:=by kernel_rfl
theorem xA:aB Tryz.prog G0 31 abB:=ah (ai ⟨aw,(ae oi ab),an,ab,am⟩ Tryz.func31 rfl (by kernel_rfl))
theorem adf:TOk abB va:=aA (E:=ae3) (ET:=aky) (EnvT.ofX (ax (ad tk aj)) ak ap aM ao) akx rfl
def adW:Env:=(eZ [(31,abB),(34,wX),(46,vg),(75,agb)] [114])
def aiS:Hints:=(hZ [] [])
def adV:PFn:=aF (runF Tryz.prog adW aiS Tryz.f47)
def apF:TH:={ loops:=[],cuts:=[(5,[(6,{ keep:=[(2,(.bx 0 0)),(11,(.bx 1 0)),(36,.bool)],mem:=[.box 29 tT13,.box 29 tT13] })])],ro:=[],news:=[] }
def zcz (a0:List UInt8):Option vV7 :=
(zb5 a0 [46]).bind fun r1 =>
(zbi r1.1).bind fun r2 =>
(zbi r1.2.1).bind fun r3 =>
(cond (!r1.2.2.1) (some (true,(0,0,()),(r2.1,r3.1,()),())) (some (r2.2.1,(0,0,()),(r2.1,r3.1,()),())):Option (Bool×(Int×Int×Unit)×(Int×Int×Unit)×Unit)).bind fun v4 =>
 cond v4.1 (some ((0,0,()),19,())) (cond r3.2.1 (some ((0,0,()),19,())) ((zcy v4.2.2.1).bind fun r5 =>
 cond (!r5) (some ((0,0,()),19,())) ((zc3 v4.2.2.1).bind fun r6 =>
 cond (!decide (r6=a0)) (
 some ((0,0,()),19,())) (
 some (v4.2.2.1,0,())))))
def wV:TFn:={ ps:=(.cons .str .unit),res:=(.tup (.cons tT13 tT15)),fn:=fun v=>zcz v.1 }
def aiR:TEnv:=(vZ [(31,va),(34,rv),(46,xV),(75,yi)])
theorem aiQ:runY Tryz.prog adW aiS aiR apF Tryz.f47 wV.ps wV.res=wV.fn:=by kernel_rfl
theorem adU:aB Tryz.prog G0 47 adV:=ah (ai ⟨aw,(ae xA (ae rx (ae oh (ae aga ab)))),an,ab,am⟩ Tryz.func47 rfl (by kernel_rfl))
theorem aiP:TOk adV wV:=aA (E:=adW) (ET:=aiR) (EnvT.ofX (ax (ad adf (ad wW (ad tj (ad amj aj))))) ak ap aM ao) aiQ rfl
def afS:Env:=(eZ [] [114])
def alS:Hints:=(hZ [] [])
def abK:PFn:=aF (runF Tryz.prog afS alS Tryz.f63)
def aqx:TH:=yZ
def zbd:Option (List (List UInt8)) :=
 some ([[],[112,117,116],[97,100,100],[105,110,99],[114,101,109,111,118,101],[114,101,115,101,116]]:List (List UInt8))
def vi:TFn:={ ps:=.unit,res:=(.sl .str),fn:=fun v=>zbd  }
def alR:TEnv:={ pure:=[],look:=[],glob:=G0T,ty:=[(9,.str)],raw:=[],fresh:=[] }
theorem alQ:runY Tryz.prog afS alS alR aqx Tryz.f63 vi.ps vi.res=vi.fn:=by kernel_rfl
theorem ya:aB Tryz.prog G0 63 abK:=ah (ai ⟨aw,ab,an,ab,am⟩ Tryz.func63 rfl (by kernel_rfl))
theorem adl:TOk abK vi:=aA (E:=afS) (ET:=alR) (EnvT.ofX (ax aj) ak ap aM ao) alQ rfl
def agE:Env:=(eZ [(136,abT)] [114])
def am6:Hints:=(hZ [] [])
def agD:PFn:=aF (runF Tryz.prog agE am6 Tryz.f107)
def aqS:TH:=yZ
def zas (a0:List UInt8) (a1:List UInt8):Option Bool :=
(zal a0 a1).bind fun r1 =>
 some r1
def yx:TFn:={ ps:=(.cons .str (.cons .str .unit)),res:=.bool,fn:=fun v=>zas v.1 v.2.1 }
def am5:TEnv:=(vZ [(136,vt)])
theorem am4:runY Tryz.prog agE am6 am5 aqS Tryz.f107 yx.ps yx.res=yx.fn:=by kernel_rfl
theorem agC:aB Tryz.prog G0 107 agD:=ah (ai ⟨aw,(ae yB ab),an,ab,am⟩ Tryz.func107 rfl (by kernel_rfl))
theorem am3:TOk agD yx:=aA (E:=agE) (ET:=am5) (EnvT.ofX (ax (ad ads aj)) ak ap aM ao) am4 rfl
def ag6:Env:=(eZ [] [114])
def anV:Hints:=(hZ [] [6,9,11,19])
def abU:SFn:=runF Tryz.prog ag6 anV Tryz.f84
def aq5:TH:=yZ
def zae (w0:vV6) (w1:List Int):Option (Unit×vV6×List Int×Unit) :=
 cond (!w0.1) (
 some ((),(true,w0.2.1,()),w1,())) (
 cond (!w0.1) (
 none) (
 some ((),w0,w1,())))
def pE:TRaw:={ ps:=(.cons (.bx 0 0) .unit),ins:=[.box 103 tT17,.row true 5 (.int .u8)],res:=(.tup .unit),outs:=[.box 103 tT17,.row true 5 (.int .u8)],fn:=fun v w=>zae w.1 w.2.1 }
def anU:TEnv:=(vZ [])
theorem anT:rawY Tryz.prog ag6 anV anU aq5 [(0,0)] Tryz.f84 pE.ps pE.ins pE.res pE.outs=pE.fn:=by kernel_rfl
theorem yI:dp Tryz.prog G0 84 abU:=ai ⟨aw,ab,an,ab,am⟩ Tryz.func84 rfl (by kernel_rfl)
theorem adt:TRawOk abU pE:=eb (E:=ag6) (ET:=anU) (EnvT.ofX (ax aj) ak ap aM ao) anT
def ag5:Env:={ pure:=[],raw:=[(84,abU)],glob:=G0,same:=[114],look:=[],ext:=[] }
def anS:Hints:=(hZ [] [])
def yH:SFn:=runF Tryz.prog ag5 anS Tryz.f123
def aq4:TH:=yZ
def zaf (a1:Int) (w0:vV6) (w1:List Int):Option (Bool×vV6×List Int×Unit) :=
(zae w0 w1).bind fun q1 =>
(eT (q1.2.2.1.length+([a1]:List Int).length)).bind fun u2 =>
 some (false,(q1.2.1.1,(),()),(q1.2.2.1++([a1]:List Int)),())
def oo:TRaw:={ ps:=(.cons (.bx 0 0) (.cons (.int .u8) .unit)),ins:=[.box 103 tT17,.row true 5 (.int .u8)],res:=.err,outs:=[.box 103 tT17,.row true 5 (.int .u8)],fn:=fun v w=>zaf v.2.1 w.1 w.2.1 }
def anR:TEnv:={ pure:=[],look:=[],glob:=G0T,ty:=[(5,(.int .u8))],raw:=[(84,pE)],fresh:=[] }
theorem anQ:rawY Tryz.prog ag5 anS anR aq4 [(0,0)] Tryz.f123 oo.ps oo.ins oo.res oo.outs=oo.fn:=by kernel_rfl
theorem rM:dp Tryz.prog G0 123 yH:=ai ⟨aw,ab,(aU yI an),ab,am⟩ Tryz.func123 rfl (by kernel_rfl)
theorem yG:TRawOk yH oo:=eb (E:=ag5) (ET:=anR) (EnvT.ofX (ax aj) ak (aT adt rfl rfl ap) aM ao) anQ
def agW:Env:=(eZ [] [114])
def anF:Hints:=(hZ [] [])
def yE:SFn:=runF Tryz.prog agW anF Tryz.f58
def aq1:TH:=yZ
def zaj (w0:vV6) (w1:List Int):Option (List UInt8×vV6×Unit) :=
 cond w1.isEmpty ((adT (w1.length:Int)).bind fun u1 =>
 some ([],w0,())) ((pK 0 w1.length (w1.length:Int)).bind fun u2 =>
 some ((w1.map fun n=>UInt8.ofNat n.toNat),w0,()))
def om:TRaw:={ ps:=(.cons (.bx 0 0) .unit),ins:=[.box 103 tT17,.row true 5 (.int .u8)],res:=.str,outs:=[.box 103 tT17,.gone],fn:=fun v w=>zaj w.1 w.2.1 }
def anE:TEnv:=(vZ [])
theorem anD:rawY Tryz.prog agW anF anE aq1 [(0,0)] Tryz.f58 om.ps om.ins om.res om.outs=om.fn:=by kernel_rfl
theorem rK:dp Tryz.prog G0 58 yE:=ai ⟨aw,ab,an,ab,am⟩ Tryz.func58 rfl (by kernel_rfl)
theorem yD:TRawOk yE om:=eb (E:=agW) (ET:=anE) (EnvT.ofX (ax aj) ak ap aM ao) anD
def ahu:Env:={ pure:=[],raw:=[(58,yE),(123,yH)],glob:=G0,same:=[114],look:=[],ext:=[] }
def aot:Hints:=(hZ [(6,[0,4,5,6])] [])
def aht:PFn:=aF (runF Tryz.prog ahu aot Tryz.f108)
def ard:TH:={ joins:=[(12,{ keep:=[(4,(.bx 1 0)),(5,.bool)],mem:=[.row true 5 (.int .u8),.box 103 tT16] }),(10,{ keep:=[(4,(.bx 1 0))],mem:=[.row true 5 (.int .u8),.box 103 tT16] })],loops:=[(6,{ keep:=[(4,(.bx 1 0)),(5,.bool),(6,(.int .i64))],mem:=[.row true 5 (.int .u8),.box 103 tT16] })],cuts:=[],ro:=[],news:=[(4,(tT16,[(5,(.int .u8))]))] }
def jP (a0:List UInt8) (y6:(Bool×Int×List Int×vV6×Unit)):Option ((Bool×Int×List Int×vV6×Unit)⊕((Bool×List Int×vV6×Unit)⊕(List UInt8×Bool×Unit))) :=
 cond (decide (y6.2.1<(IntKind.wrap .i64 ((a0.length:Int)-1)))) (
(cond (!y6.1) ((atI a0 y6.2.1).bind fun b3 =>
 cond (decide ((b3.toNat:Int)=92)) (
 some (.inr (.inl (true,(IntKind.wrap .i64 (y6.2.1+1)),y6.2.2.1,y6.2.2.2.1,())))) (
 some (.inl (y6.2.2.1,y6.2.2.2.1,())))) (some (.inl (y6.2.2.1,y6.2.2.2.1,()))):Option ((List Int×vV6×Unit)⊕((Bool×Int×List Int×vV6×Unit)⊕((Bool×List Int×vV6×Unit)⊕(List UInt8×Bool×Unit))))).bind (au fun v4 =>
(atI a0 y6.2.1).bind fun b5 =>
(zaf (b5.toNat:Int) (v4.2.1.1,(),()) v4.1).bind fun q6 =>
 some (.inl (false,(IntKind.wrap .i64 (y6.2.1+1)),q6.2.2.1,q6.2.1,())))) (
 some (.inr (.inl (y6.1,y6.2.2.1,y6.2.2.2.1,()))))
def za5 (a0:List UInt8):Option (List UInt8×Bool×Unit) :=
 cond (decide ((a0.length:Int)<2)) (some ([],false,())) ((atI a0 0).bind fun b1 =>
 cond (!decide ((b1.toNat:Int)=34)) (some ([],false,())) ((atI a0 (IntKind.wrap .i64 ((a0.length:Int)-1))).bind fun b2 =>
 cond (!decide ((b2.toNat:Int)=34)) (
 some ([],false,())) (
(aJ (jP a0) (false,1,[],(false,(),()),()):Option ((Bool×List Int×vV6×Unit)⊕(List UInt8×Bool×Unit))).bind (au fun v7 =>
(zaj (v7.2.2.1.1,(),()) v7.2.1).bind fun q8 =>
 some (q8.1,(!v7.1),())))))
def yP:TFn:={ ps:=(.cons .str .unit),res:=(.tup (.cons .str (.cons .bool .unit))),fn:=fun v=>za5 v.1 }
def aos:TEnv:={ pure:=[],look:=[],glob:=G0T,ty:=[],raw:=[(58,om),(123,oo)],fresh:=[] }
theorem aor:runY Tryz.prog ahu aot aos ard Tryz.f108 yP.ps yP.res=yP.fn:=by kernel_rfl
theorem ahs:aB Tryz.prog G0 108 aht:=ah (ai ⟨aw,ab,(aU rK (aU rM an)),ab,am⟩ Tryz.func108 rfl (by kernel_rfl))
theorem aoq:TOk aht yP:=aA (E:=ahu) (ET:=aos) (EnvT.ofX (ax aj) ak (aT yD rfl rfl (aT yG rfl rfl ap)) aM ao) aor rfl
def ag1:PFn:=pg
theorem ag0:aB Tryz.prog G0 149 ag1:=qU (g3:=6) (g4:=7) ⟨Tryz.f149,Tryz.func149,rfl,by kernel_rfl⟩ (by kernel_rfl) (by kernel_rfl) (fun s w hT=>Tryz.utf8_DecodeRuneInString s w hT)
def zah (a0:List UInt8):Option (Int×Int×Unit):=sD a0
def anL:TFn:=lP
theorem anK:TOk ag1 anL:=wI
def aeh:Env:=(eZ [(149,ag1)] [114])
def ajq:Hints:=(hZ [(3,[0,4,10])] [])
def abw:PFn:=aF (runF Tryz.prog aeh ajq Tryz.f128)
def apP:TH:={ joins:=[(9,{ keep:=[(4,(.own 1)),(10,(.it 0))],mem:=[.iter,.row true 21 (.int .i32)] })],loops:=[(3,{ keep:=[(4,(.own 1)),(10,(.it 0))],mem:=[.iter,.row true 21 (.int .i32)] })],ro:=[] }
def mL (a0:List UInt8) (y3:(Nat×List Int×Unit)):Option ((Nat×List Int×Unit)⊕(List Int×Bool×Unit)) :=
 cond (decide (y3.1<a0.length)) ((cond (decide (((Utf8.decode ⟨a0.toArray⟩ y3.1).1:Int)=65533)) (
(subI a0 (y3.1:Int) (a0.length:Int)).bind fun s1 =>
(zah s1).bind fun r2 =>
 cond (decide (r2.2.1≤1)) (
 some (.inr (.inr ([],false,())))) (
 some (.inl ((y3.1+(Utf8.decode ⟨a0.toArray⟩ y3.1).2),y3.2.1,())))) (
 some (.inl ((y3.1+(Utf8.decode ⟨a0.toArray⟩ y3.1).2),y3.2.1,()))):Option ((Nat×List Int×Unit)⊕((Nat×List Int×Unit)⊕(List Int×Bool×Unit)))).bind (au fun v3 =>
(eT (v3.2.1.length+([((Utf8.decode ⟨a0.toArray⟩ y3.1).1:Int)]:List Int).length)).bind fun u4 =>
 some (.inl (v3.1,(v3.2.1++([((Utf8.decode ⟨a0.toArray⟩ y3.1).1:Int)]:List Int)),())))) (some (.inr (y3.2.1,true,())))
def zcp (a0:List UInt8):Option (List Int×Bool×Unit) :=
 aJ (mL a0) (0,[],())
def uY:TFn:={ ps:=(.cons .str .unit),res:=(.tup (.cons (.sl (.int .i32)) (.cons .bool .unit))),fn:=fun v=>zcp v.1 }
def ajp:TEnv:={ pure:=[(149,anL)],look:=[],glob:=G0T,ty:=[(21,(.int .i32))],raw:=[],fresh:=[] }
theorem ajo:runY Tryz.prog aeh ajq ajp apP Tryz.f128 uY.ps uY.res=uY.fn:=by kernel_rfl
theorem xd:aB Tryz.prog G0 128 abw:=ah (ai ⟨aw,(ae ag0 ab),an,ab,am⟩ Tryz.func128 rfl (by kernel_rfl))
theorem ac9:TOk abw uY:=aA (E:=aeh) (ET:=ajp) (EnvT.ofX (ax (ad anK aj)) ak ap aM ao) ajo rfl
def afk:Env:=(eZ [(128,abw)] [114])
def akZ:Hints:=(hZ [] [])
def abC:PFn:=aF (runF Tryz.prog afk akZ Tryz.f97)
def aqf:TH:={ loops:=[],ro:=[1] }
def zbw (a0:vV4):Option Bool :=
 cond (decide (a0.1=1)) (
 cond (decide (a0.2.2.1=[])) (cond (decide (a0.2.1≥(-2147483647))) (some (decide (a0.2.1≤2147483647))) (some false)) (some false)) (
 cond (decide (a0.1=2)) (
(zcp a0.2.2.1).bind fun r1 =>
 cond r1.2.1 (cond (decide (a0.2.1=0)) (some (decide ((a0.2.2.1.length:Int)≤64))) (some false)) (some false)) (
 cond (decide (a0.1=3)) (
 cond (decide (a0.2.2.1=[])) (cond (decide (a0.2.1=0)) (some true) (some (decide (a0.2.1=1)))) (some false)) (
 some false)))
def vc:TFn:={ ps:=(.cons tT11 .unit),res:=.bool,fn:=fun v=>zbw v.1 }
def akY:TEnv:=(vZ [(128,uY)])
theorem akX:runY Tryz.prog afk akZ akY aqf Tryz.f97 vc.ps vc.res=vc.fn:=by kernel_rfl
theorem xI:aB Tryz.prog G0 97 abC:=ah (ai ⟨aw,(ae xd ab),an,ab,am⟩ Tryz.func97 rfl (by kernel_rfl))
theorem adg:TOk abC vc:=aA (E:=afk) (ET:=akY) (EnvT.ofX (ax (ad ac9 aj)) ak ap aM ao) akX rfl
def aqq:Env:=(eZ [] [114])
def aqp:Hints:=(hZ [] [])
def afE:PFn:=aF (runF Tryz.prog aqq aqp Tryz.f89)
theorem afD:aB Tryz.prog G0 89 afE:=ah (ai ⟨aw,ab,an,ab,am⟩ Tryz.func89 rfl (by kernel_rfl))
def ag4:Env:=(eZ [] [114])
def anP:Hints:=(hZ [] [])
def ag3:SFn:=runF Tryz.prog ag4 anP Tryz.f156
def aq3:TH:={ joins:=[(7,{ keep:=[(0,(.own 0)),(25,.bool)],mem:=[.row true 5 (.int .u8)] })],loops:=[],cuts:=[(6,[(6,{ keep:=[(0,(.own 0)),(33,.bool)],mem:=[.row true 5 (.int .u8)] })])],ro:=[],news:=[] }
def zag (a1:Int) (w0:List Int):Option (Unit×List Int×Unit) :=
 cond (decide ((IntKind.wrap .u32 a1)≤2047)) (
(shrT .i32 a1 6).bind fun t1 =>
(eT (w0.length+([(IntKind.wrap .u8 ((BitVec.ofInt (IntKind.bits .u8) 192 ||| BitVec.ofInt (IntKind.bits .u8) (IntKind.wrap .u8 t1)).toNat)),(IntKind.wrap .u8 ((BitVec.ofInt (IntKind.bits .u8) 128 ||| BitVec.ofInt (IntKind.bits .u8) (IntKind.wrap .u8 ((BitVec.ofInt (IntKind.bits .u8) (IntKind.wrap .u8 a1) &&& BitVec.ofInt (IntKind.bits .u8) 63).toNat))).toNat))]:List Int).length)).bind fun u2 =>
 some ((),(w0++([(IntKind.wrap .u8 ((BitVec.ofInt (IntKind.bits .u8) 192 ||| BitVec.ofInt (IntKind.bits .u8) (IntKind.wrap .u8 t1)).toNat)),(IntKind.wrap .u8 ((BitVec.ofInt (IntKind.bits .u8) 128 ||| BitVec.ofInt (IntKind.bits .u8) (IntKind.wrap .u8 ((BitVec.ofInt (IntKind.bits .u8) (IntKind.wrap .u8 a1) &&& BitVec.ofInt (IntKind.bits .u8) 63).toNat))).toNat))]:List Int)),())) (
(cond (decide ((IntKind.wrap .u32 a1)<55296)) (
 some (.inl ((decide ((IntKind.wrap .u32 a1)<55296)),w0,()))) (
(cond (decide (57343<(IntKind.wrap .u32 a1))) (some ((decide ((IntKind.wrap .u32 a1)≤65535)),w0,())) (some (false,w0,())):Option (Bool×List Int×Unit)).bind fun v3 =>
 some (.inl (v3.1,v3.2.1,()))):Option ((Bool×List Int×Unit)⊕(Unit×List Int×Unit))).bind (au fun v4 =>
 cond v4.1 (
(shrT .i32 a1 12).bind fun t5 =>
(shrT .i32 a1 6).bind fun t6 =>
(eT (v4.2.1.length+([(IntKind.wrap .u8 ((BitVec.ofInt (IntKind.bits .u8) 224 ||| BitVec.ofInt (IntKind.bits .u8) (IntKind.wrap .u8 t5)).toNat)),(IntKind.wrap .u8 ((BitVec.ofInt (IntKind.bits .u8) 128 ||| BitVec.ofInt (IntKind.bits .u8) (IntKind.wrap .u8 ((BitVec.ofInt (IntKind.bits .u8) (IntKind.wrap .u8 t6) &&& BitVec.ofInt (IntKind.bits .u8) 63).toNat))).toNat)),(IntKind.wrap .u8 ((BitVec.ofInt (IntKind.bits .u8) 128 ||| BitVec.ofInt (IntKind.bits .u8) (IntKind.wrap .u8 ((BitVec.ofInt (IntKind.bits .u8) (IntKind.wrap .u8 a1) &&& BitVec.ofInt (IntKind.bits .u8) 63).toNat))).toNat))]:List Int).length)).bind fun u7 =>
 some ((),(v4.2.1++([(IntKind.wrap .u8 ((BitVec.ofInt (IntKind.bits .u8) 224 ||| BitVec.ofInt (IntKind.bits .u8) (IntKind.wrap .u8 t5)).toNat)),(IntKind.wrap .u8 ((BitVec.ofInt (IntKind.bits .u8) 128 ||| BitVec.ofInt (IntKind.bits .u8) (IntKind.wrap .u8 ((BitVec.ofInt (IntKind.bits .u8) (IntKind.wrap .u8 t6) &&& BitVec.ofInt (IntKind.bits .u8) 63).toNat))).toNat)),(IntKind.wrap .u8 ((BitVec.ofInt (IntKind.bits .u8) 128 ||| BitVec.ofInt (IntKind.bits .u8) (IntKind.wrap .u8 ((BitVec.ofInt (IntKind.bits .u8) (IntKind.wrap .u8 a1) &&& BitVec.ofInt (IntKind.bits .u8) 63).toNat))).toNat))]:List Int)),())) (
 cond (decide ((IntKind.wrap .u32 a1)>65535)) (cond (decide ((IntKind.wrap .u32 a1)≤1114111)) (
(shrT .i32 a1 18).bind fun t8 =>
(shrT .i32 a1 12).bind fun t9 =>
(shrT .i32 a1 6).bind fun t10 =>
(eT (v4.2.1.length+([(IntKind.wrap .u8 ((BitVec.ofInt (IntKind.bits .u8) 240 ||| BitVec.ofInt (IntKind.bits .u8) (IntKind.wrap .u8 t8)).toNat)),(IntKind.wrap .u8 ((BitVec.ofInt (IntKind.bits .u8) 128 ||| BitVec.ofInt (IntKind.bits .u8) (IntKind.wrap .u8 ((BitVec.ofInt (IntKind.bits .u8) (IntKind.wrap .u8 t9) &&& BitVec.ofInt (IntKind.bits .u8) 63).toNat))).toNat)),(IntKind.wrap .u8 ((BitVec.ofInt (IntKind.bits .u8) 128 ||| BitVec.ofInt (IntKind.bits .u8) (IntKind.wrap .u8 ((BitVec.ofInt (IntKind.bits .u8) (IntKind.wrap .u8 t10) &&& BitVec.ofInt (IntKind.bits .u8) 63).toNat))).toNat)),(IntKind.wrap .u8 ((BitVec.ofInt (IntKind.bits .u8) 128 ||| BitVec.ofInt (IntKind.bits .u8) (IntKind.wrap .u8 ((BitVec.ofInt (IntKind.bits .u8) (IntKind.wrap .u8 a1) &&& BitVec.ofInt (IntKind.bits .u8) 63).toNat))).toNat))]:List Int).length)).bind fun u11 =>
 some ((),(v4.2.1++([(IntKind.wrap .u8 ((BitVec.ofInt (IntKind.bits .u8) 240 ||| BitVec.ofInt (IntKind.bits .u8) (IntKind.wrap .u8 t8)).toNat)),(IntKind.wrap .u8 ((BitVec.ofInt (IntKind.bits .u8) 128 ||| BitVec.ofInt (IntKind.bits .u8) (IntKind.wrap .u8 ((BitVec.ofInt (IntKind.bits .u8) (IntKind.wrap .u8 t9) &&& BitVec.ofInt (IntKind.bits .u8) 63).toNat))).toNat)),(IntKind.wrap .u8 ((BitVec.ofInt (IntKind.bits .u8) 128 ||| BitVec.ofInt (IntKind.bits .u8) (IntKind.wrap .u8 ((BitVec.ofInt (IntKind.bits .u8) (IntKind.wrap .u8 t10) &&& BitVec.ofInt (IntKind.bits .u8) 63).toNat))).toNat)),(IntKind.wrap .u8 ((BitVec.ofInt (IntKind.bits .u8) 128 ||| BitVec.ofInt (IntKind.bits .u8) (IntKind.wrap .u8 ((BitVec.ofInt (IntKind.bits .u8) (IntKind.wrap .u8 a1) &&& BitVec.ofInt (IntKind.bits .u8) 63).toNat))).toNat))]:List Int)),())) (
(eT (v4.2.1.length+([239,191,189]:List Int).length)).bind fun u12 =>
 some ((),(v4.2.1++([239,191,189]:List Int)),()))) ((eT (v4.2.1.length+([239,191,189]:List Int).length)).bind fun u13 =>
 some ((),(v4.2.1++([239,191,189]:List Int)),())))))
def rL:TRaw:={ ps:=(.cons (.own 0) (.cons (.int .i32) .unit)),ins:=[.row true 5 (.int .u8)],res:=(.own 0),outs:=[.row true 5 (.int .u8)],fn:=fun v w=>zag v.2.1 w.1 }
def anO:TEnv:={ pure:=[],look:=[],glob:=G0T,ty:=[(5,(.int .u8))],raw:=[],fresh:=[] }
theorem anN:rawY Tryz.prog ag4 anP anO aq3 [] Tryz.f156 rL.ps rL.ins rL.res rL.outs=rL.fn:=by kernel_rfl
theorem ag2:dp Tryz.prog G0 156 ag3:=ai ⟨aw,ab,an,ab,am⟩ Tryz.func156 rfl (by kernel_rfl)
theorem anM:TRawOk ag3 rL:=eb (E:=ag4) (ET:=anO) (EnvT.ofX (ax aj) ak ap aM ao) anN
def ahH:Env:={ pure:=[],raw:=[(156,ag3)],glob:=G0,same:=[114],look:=[],ext:=[] }
def aoM:Hints:=(hZ [] [])
def ahG:SFn:=runF Tryz.prog ahH aoM Tryz.f147
def arj:TH:=yZ
def za0 (a1:Int) (w0:List Int):Option (Unit×List Int×Unit) :=
 cond (decide ((IntKind.wrap .u32 a1)≤127)) (
(eT (w0.length+([(IntKind.wrap .u8 a1)]:List Int).length)).bind fun u1 =>
 some ((),(w0++([(IntKind.wrap .u8 a1)]:List Int)),())) (
(zag a1 w0).bind fun q2 =>
 some (q2.1,q2.2.1,()))
def rO:TRaw:={ ps:=(.cons (.own 0) (.cons (.int .i32) .unit)),ins:=[.row true 5 (.int .u8)],res:=(.own 0),outs:=[.row true 5 (.int .u8)],fn:=fun v w=>za0 v.2.1 w.1 }
def aoL:TEnv:={ pure:=[],look:=[],glob:=G0T,ty:=[(5,(.int .u8))],raw:=[(156,rL)],fresh:=[] }
theorem aoK:rawY Tryz.prog ahH aoM aoL arj [] Tryz.f147 rO.ps rO.ins rO.res rO.outs=rO.fn:=by kernel_rfl
theorem ahF:dp Tryz.prog G0 147 ahG:=ai ⟨aw,ab,(aU ag2 an),ab,am⟩ Tryz.func147 rfl (by kernel_rfl)
theorem aoJ:TRawOk ahG rO:=eb (E:=ahH) (ET:=aoL) (EnvT.ofX (ax aj) ak (aT anM rfl rfl ap) aM ao) aoK
def ag9:Env:={ pure:=[],raw:=[(84,abU),(147,ahG)],glob:=G0,same:=[114],look:=[],ext:=[] }
def anZ:Hints:=(hZ [] [])
def ag8:SFn:=runF Tryz.prog ag9 anZ Tryz.f124
def aq6:TH:=yZ
def zad (a1:Int) (w0:vV6) (w1:List Int):Option ((Int×Bool×Unit)×vV6×List Int×Unit) :=
(zae w0 w1).bind fun q1 =>
(za0 a1 q1.2.2.1).bind fun q2 =>
 some (((IntKind.wrap .i64 ((q2.2.1.length:Int)-(q1.2.2.1.length:Int))),false,()),(q1.2.1.1,q2.1,()),q2.2.1,())
def rN:TRaw:={ ps:=(.cons (.bx 0 0) (.cons (.int .i32) .unit)),ins:=[.box 103 tT17,.row true 5 (.int .u8)],res:=(.tup (.cons (.int .i64) (.cons .err .unit))),outs:=[.box 103 tT17,.row true 5 (.int .u8)],fn:=fun v w=>zad v.2.1 w.1 w.2.1 }
def anY:TEnv:={ pure:=[],look:=[],glob:=G0T,ty:=[],raw:=[(84,pE),(147,rO)],fresh:=[] }
theorem anX:rawY Tryz.prog ag9 anZ anY aq6 [(0,0)] Tryz.f124 rN.ps rN.ins rN.res rN.outs=rN.fn:=by kernel_rfl
theorem ag7:dp Tryz.prog G0 124 ag8:=ai ⟨aw,ab,(aU yI (aU ahF an)),ab,am⟩ Tryz.func124 rfl (by kernel_rfl)
theorem anW:TRawOk ag8 rN:=eb (E:=ag9) (ET:=anY) (EnvT.ofX (ax aj) ak (aT adt rfl rfl (aT aoJ rfl rfl ap)) aM ao) anX
def afp:Env:={ pure:=[],raw:=[(58,yE),(123,yH),(124,ag8)],glob:=G0,same:=[114],look:=[],ext:=[] }
def ak7:Hints:=(hZ [(4,[3,8])] [])
def abE:PFn:=aF (runF Tryz.prog afp ak7 Tryz.f90)
def aqh:TH:={ loops:=[(4,{ keep:=[(3,(.bx 1 0)),(8,(.it 2))],mem:=[.row true 5 (.int .u8),.box 103 tT16,.iter] })],cuts:=[],ro:=[],news:=[(3,(tT16,[(5,(.int .u8))]))] }
def mN (a0:List UInt8) (y4:(List Int×vV6×Nat×Unit)):Option ((List Int×vV6×Nat×Unit)⊕List UInt8) :=
 cond (decide (y4.2.2.1<a0.length)) (cond (decide (((Utf8.decode ⟨a0.toArray⟩ y4.2.2.1).1:Int)=34)) ((zaf 92 (y4.2.1.1,(),()) y4.1).bind fun q2 =>
(zad ((Utf8.decode ⟨a0.toArray⟩ y4.2.2.1).1:Int) (q2.2.1.1,(),()) q2.2.2.1).bind fun q3 =>
 some (.inl (q3.2.2.1,q3.2.1,(y4.2.2.1+(Utf8.decode ⟨a0.toArray⟩ y4.2.2.1).2),()))) (cond (decide (((Utf8.decode ⟨a0.toArray⟩ y4.2.2.1).1:Int)=92)) (
(zaf 92 (y4.2.1.1,(),()) y4.1).bind fun q4 =>
(zad ((Utf8.decode ⟨a0.toArray⟩ y4.2.2.1).1:Int) (q4.2.1.1,(),()) q4.2.2.1).bind fun q5 =>
 some (.inl (q5.2.2.1,q5.2.1,(y4.2.2.1+(Utf8.decode ⟨a0.toArray⟩ y4.2.2.1).2),()))) (
(zad ((Utf8.decode ⟨a0.toArray⟩ y4.2.2.1).1:Int) (y4.2.1.1,(),()) y4.1).bind fun q6 =>
 some (.inl (q6.2.2.1,q6.2.1,(y4.2.2.1+(Utf8.decode ⟨a0.toArray⟩ y4.2.2.1).2),()))))) (((zaf 34 (y4.2.1.1,(),()) y4.1).bind fun q7 =>
(zaj (q7.2.1.1,(),()) q7.2.2.1).bind fun q8 =>
 some q8.1).map .inr)
def zbu (a0:List UInt8):Option (List UInt8) :=
(zaf 34 (false,(),()) []).bind fun q1 =>
 aJ (mN a0) (q1.2.2.1,q1.2.1,0,())
def abD:TFn:={ ps:=(.cons .str .unit),res:=.str,fn:=fun v=>zbu v.1 }
def ak6:TEnv:={ pure:=[],look:=[],glob:=G0T,ty:=[],raw:=[(58,om),(123,oo),(124,rN)],fresh:=[] }
theorem ak5:runY Tryz.prog afp ak7 ak6 aqh Tryz.f90 abD.ps abD.res=abD.fn:=by kernel_rfl
theorem afo:aB Tryz.prog G0 90 abE:=ah (ai ⟨aw,ab,(aU rK (aU rM (aU ag7 an))),ab,am⟩ Tryz.func90 rfl (by kernel_rfl))
theorem ak4:TOk abE abD:=aA (E:=afp) (ET:=ak6) (EnvT.ofX (ax aj) ak (aT yD rfl rfl (aT yG rfl rfl (aT anW rfl rfl ap))) aM ao) ak5 rfl
def agZ:Env:=(eZ [] [114])
def anJ:Hints:=(hZ [] [])
def agY:PFn:=aF (runF Tryz.prog agZ anJ Tryz.f125)
def aq2:TH:=yZ
def zai (a0:Bool):Option (List UInt8) :=
 cond a0 (
 some [116,114,117,101]) (
 some [102,97,108,115,101])
def yF:TFn:={ ps:=(.cons .bool .unit),res:=.str,fn:=fun v=>zai v.1 }
def anI:TEnv:=(vZ [])
theorem anH:runY Tryz.prog agZ anJ anI aq2 Tryz.f125 yF.ps yF.res=yF.fn:=by kernel_rfl
theorem agX:aB Tryz.prog G0 125 agY:=ah (ai ⟨aw,ab,an,ab,am⟩ Tryz.func125 rfl (by kernel_rfl))
theorem anG:TOk agY yF:=aA (E:=agZ) (ET:=anI) (EnvT.ofX (ax aj) ak ap aM ao) anH rfl
def agG:Env:=(eZ [(125,agY)] [114])
def ana:Hints:=(hZ [] [])
def abR:PFn:=aF (runF Tryz.prog agG ana Tryz.f91)
def aqT:TH:=yZ
def zar (a0:Bool):Option (List UInt8) :=
(zai a0).bind fun r1 =>
 some r1
def abQ:TFn:={ ps:=(.cons .bool .unit),res:=.str,fn:=fun v=>zar v.1 }
def am9:TEnv:=(vZ [(125,yF)])
theorem am8:runY Tryz.prog agG ana am9 aqT Tryz.f91 abQ.ps abQ.res=abQ.fn:=by kernel_rfl
theorem agF:aB Tryz.prog G0 91 abR:=ah (ai ⟨aw,(ae agX ab),an,ab,am⟩ Tryz.func91 rfl (by kernel_rfl))
theorem am7:TOk abR abQ:=aA (E:=agG) (ET:=am9) (EnvT.ofX (ax (ad anG aj)) ak ap aM ao) am8 rfl
def apN:Env:=(eZ [(89,afE),(90,abE),(91,abR),(30,rC)] [114])
def ajj:Hints:=(hZ [] [])
def xb:PFn:=aF (runF Tryz.prog apN ajj Tryz.f64)
theorem xa:aB Tryz.prog G0 64 xb:=ah (ai ⟨aw,(ae afD (ae afo (ae agF (ae oi ab)))),an,ab,am⟩ Tryz.func64 rfl (by kernel_rfl))
def ca (Fq Fb Fs:PFn):PFn:=aF (runF Tryz.prog (eZ [(89,afE),(90,Fq),(91,Fb),(30,Fs)] [114]) ajj Tryz.f64)
theorem kI:xb=ca abE abR rC:=rfl
theorem pP (Fq Fb Fs:PFn) (n:Int) (s:List UInt8):ca Fq Fb Fs [.agg [.int .i64 2,.int .i64 n,.str s]]=((Fq [.str s]).bind fun t=>some (t,[AReg.row 24 3 [.agg [.int .i64 2,.int .i64 n,.str s]]])).bind fun p=>bQ p.2 p.1:=by kernel_rfl
theorem pO (Fq Fb Fs:PFn) (n:Int) (s:List UInt8):ca Fq Fb Fs [.agg [.int .i64 3,.int .i64 n,.str s]]=((Fb [.bool (n==1)]).bind fun t=>some (t,[AReg.row 24 3 [.agg [.int .i64 3,.int .i64 n,.str s]]])).bind fun p=>bQ p.2 p.1:=by kernel_rfl
theorem pR (Fq Fb Fs:PFn) (n:Int) (s:List UInt8):ca Fq Fb Fs [.agg [.int .i64 (Int.ofNat 0),.int .i64 n,.str s]]=((Fs [.int .i64 n]).bind fun t=>some (t,[AReg.row 24 3 [.agg [.int .i64 (Int.ofNat 0),.int .i64 n,.str s]]])).bind fun p=>bQ p.2 p.1:=by kernel_rfl
theorem pQ (Fq Fb Fs:PFn) (n:Int) (s:List UInt8):ca Fq Fb Fs [.agg [.int .i64 (Int.ofNat 1),.int .i64 n,.str s]]=((Fs [.int .i64 n]).bind fun t=>some (t,[AReg.row 24 3 [.agg [.int .i64 (Int.ofNat 1),.int .i64 n,.str s]]])).bind fun p=>bQ p.2 p.1:=by kernel_rfl
theorem pN (Fq Fb Fs:PFn) (k:Nat) (n:Int) (s:List UInt8):ca Fq Fb Fs [.agg [.int .i64 (Int.ofNat (k+4)),.int .i64 n,.str s]]=((Fs [.int .i64 n]).bind fun t=>some (t,[AReg.row 24 3 [.agg [.int .i64 (Int.ofNat (k+4)),.int .i64 n,.str s]]])).bind fun p=>bQ p.2 p.1:=by kernel_rfl
theorem pM (Fq Fb Fs:PFn) (k:Nat) (n:Int) (s:List UInt8):ca Fq Fb Fs [.agg [.int .i64 (Int.negSucc k),.int .i64 n,.str s]]=((Fs [.int .i64 n]).bind fun t=>some (t,[AReg.row 24 3 [.agg [.int .i64 (Int.negSucc k),.int .i64 n,.str s]]])).bind fun p=>bQ p.2 p.1:=by kernel_rfl
theorem pL (Fq Fb Fs:PFn) (k n:Int) (s:List UInt8) (h2:k≠2) (h3:k≠3):ca Fq Fb Fs [.agg [.int .i64 k,.int .i64 n,.str s]]=((Fs [.int .i64 n]).bind fun t=>some (t,[AReg.row 24 3 [.agg [.int .i64 k,.int .i64 n,.str s]]])).bind fun p=>bQ p.2 p.1:=by
 match k,h2,h3 with
 | .ofNat 0,_,_=>exact pR Fq Fb Fs n s
 | .ofNat 1,_,_=>exact pQ Fq Fb Fs n s
 | .ofNat 2,h,_=>exact absurd rfl h
 | .ofNat 3,_,h=>exact absurd rfl h
 | .ofNat (k+4),_,_=>exact pN Fq Fb Fs k n s
 | .negSucc k,_,_=>exact pM Fq Fb Fs k n s
def zcr (a0:Int×Int×List UInt8×Unit):Option (List UInt8):=if a0.1=2 then zbu a0.2.2.1 else if a0.1=3 then zar (a0.2.1==1) else zbh a0.2.1
def w9:TFn:={ ps:=.cons tT11 .unit,res:=.str,fn:=fun v=>zcr v.1 }
theorem ac8:TOk xb w9:=⟨rfl,rfl,rfl,fun v r xs hr hps=>by
 obtain ⟨⟨k,n,s,⟨⟩⟩,⟨⟩⟩:=v
 simp only[R,w9] at hps
 obtain ⟨l1,l2,rfl,⟨cs,rfl,a1,a2,rfl,rfl,a3,a4,rfl,rfl,a5,a6,rfl,rfl,rfl⟩,rfl⟩:=hps
 rw[kI]
 simp only[w9,zcr] at hr
 have done:∀ {o:Option AVal}{t:List UInt8}{st:ar},o=some (.str t)→((o.bind fun t=>some (t,st)).bind fun p=>bQ p.2 p.1)=some (.str t):=fun h=>by rw[h]; rfl
 simp only[List.cons_append,List.nil_append,List.append_nil]
 split at hr
 · rename_i h; subst h
   obtain ⟨a,h1,h2⟩:=ak4.run (s,()) r [.str s] hr ⟨[.str s],[],rfl,rfl,rfl⟩
   have h2:=ac6 h2; subst h2
   exact ⟨_,(pP _ _ _ n s).trans (done h1),rfl⟩
 · split at hr
   · rename_i h; subst h
     obtain ⟨a,h1,h2⟩:=am7.run ((n==1),()) r [.bool (n==1)] hr ⟨[.bool (n==1)],[],rfl,rfl,rfl⟩
     have h2:=ac6 h2; subst h2
     exact ⟨_,(pO _ _ _ n s).trans (done h1),rfl⟩
   · rename_i h g
     obtain ⟨a,h1,h2⟩:=tk.run (n,()) r [.int .i64 n] hr ⟨[.int .i64 n],[],rfl,rfl,rfl⟩
     have h2:=ac6 h2; subst h2
     exact ⟨_,(pL _ _ _ k n s h g).trans (done h1),rfl⟩⟩
def agj:Env:=(eZ [(46,vg),(64,xb),(97,abC),(107,agD),(108,aht)] [114])
def amz:Hints:=(hZ [] [])
def agi:PFn:=aF (runF Tryz.prog agj amz Tryz.f76)
def aqJ:TH:={ joins:=[(11,{ keep:=[(2,(.bx 0 0)),(4,(.bx 1 0))],mem:=[.box 24 tT11,.box 24 tT11] })],loops:=[],ro:=[] }
def zb1 (a0:List UInt8):Option (vV4×Int×Unit) :=
((zas a0 [34]).bind fun r1 =>
 cond r1 (
(za5 a0).bind fun r2 =>
 some (.inl ((0,0,[],()),(2,0,r2.1,()),()))) (
 cond (decide (a0=[116,114,117,101])) (
 some (.inl ((0,0,[],()),(3,1,[],()),()))) (
 cond (decide (a0=[102,97,108,115,101])) (
 some (.inl ((0,0,[],()),(3,0,[],()),()))) (
(zbi a0).bind fun r3 =>
 some (.inl ((0,0,[],()),(1,r3.1,[],()),()))))):Option ((vV4×vV4×Unit)⊕(vV4×Int×Unit))).bind (au fun v4 =>
(zbw v4.2.1).bind fun r5 =>
 cond (!r5) (some ((0,0,[],()),19,())) ((zcr v4.2.1).bind fun r6 =>
 cond (!decide (r6=a0)) (
 some ((0,0,[],()),19,())) (
 some (v4.2.1,0,()))))
def yn:TFn:={ ps:=(.cons .str .unit),res:=(.tup (.cons tT11 tT15)),fn:=fun v=>zb1 v.1 }
def amy:TEnv:=(vZ [(46,xV),(64,w9),(97,vc),(107,yx),(108,yP)])
theorem amx:runY Tryz.prog agj amz amy aqJ Tryz.f76 yn.ps yn.res=yn.fn:=by kernel_rfl
theorem agh:aB Tryz.prog G0 76 agi:=ah (ai ⟨aw,(ae oh (ae xa (ae xI (ae agC (ae ahs ab))))),an,ab,am⟩ Tryz.func76 rfl (by kernel_rfl))
theorem amw:TOk agi yn:=aA (E:=agj) (ET:=amy) (EnvT.ofX (ax (ad tj (ad ac8 (ad adg (ad am3 (ad aoq aj)))))) ak ap aM ao) amx rfl
def af2:Env:=(eZ [] [114])
def al7:Hints:=(hZ [(4,[0,4,5,10,11])] [2,8])
def af1:PFn:=aF (runF Tryz.prog af2 al7 Tryz.f109)
def aqB:TH:={ joins:=[(16,{ keep:=[(4,(.own 0)),(5,.bool)],mem:=[.row false 9 .str] }),(13,{ keep:=[(4,(.own 0))],mem:=[.row false 9 .str] }),(8,{ keep:=[(4,(.own 0)),(17,.bool)],mem:=[.row false 9 .str] })],loops:=[(4,{ keep:=[(4,(.own 0)),(5,.bool),(11,(.int .i64))],mem:=[.row false 9 .str] })],ro:=[] }
def cV (a0:List UInt8) (y4:(Bool×Int×List (List UInt8)×Unit)):Option ((Bool×Int×List (List UInt8)×Unit)⊕((Bool×List (List UInt8)×Unit)⊕(List (List UInt8)×Bool×Unit))) :=
 cond (decide (y4.2.1<(a0.length:Int))) (
(atI a0 y4.2.1).bind fun b1 =>
((cond y4.1 (cond (!decide ((b1.toNat:Int)=47)) (some (.inl ((!decide ((b1.toNat:Int)=92)),y4.2.2.1,()))) (some (.inl (false,y4.2.2.1,())))) (some (.inl (false,y4.2.2.1,()))):Option ((Bool×List (List UInt8)×Unit)⊕((List (List UInt8)×Unit)⊕((Bool×Int×List (List UInt8)×Unit)⊕((Bool×List (List UInt8)×Unit)⊕(List (List UInt8)×Bool×Unit)))))).bind (au fun v2 =>
 cond v2.1 (
 some (.inr (.inr (.inr ([],false,()))))) (
 cond (!y4.1) (cond (decide ((b1.toNat:Int)=92)) (
 some (.inr (.inl (true,(IntKind.wrap .i64 (y4.2.1+1)),v2.2.1,())))) (
 cond (!y4.1) (cond (decide ((b1.toNat:Int)=47)) (
(eT (v2.2.1.length+([[]]:List (List UInt8)).length)).bind fun u3 =>
 some (.inr (.inl (y4.1,(IntKind.wrap .i64 (y4.2.1+1)),(v2.2.1++([[]]:List (List UInt8))),())))) (
 some (.inl (v2.2.1,())))) (some (.inl (v2.2.1,()))))) (cond (!y4.1) (cond (decide ((b1.toNat:Int)=47)) (
(eT (v2.2.1.length+([[]]:List (List UInt8)).length)).bind fun u4 =>
 some (.inr (.inl (y4.1,(IntKind.wrap .i64 (y4.2.1+1)),(v2.2.1++([[]]:List (List UInt8))),())))) (
 some (.inl (v2.2.1,())))) (some (.inl (v2.2.1,())))))):Option ((List (List UInt8)×Unit)⊕((Bool×Int×List (List UInt8)×Unit)⊕((Bool×List (List UInt8)×Unit)⊕(List (List UInt8)×Bool×Unit))))).bind (au fun v5 =>
(inI v5.1.length (IntKind.wrap .i64 ((v5.1.length:Int)-1))).bind fun i6 =>
(v5.1[i6]?).bind fun x7 =>
(catT x7 (([(b1.toNat:Int)]:List Int).map fun n=>UInt8.ofNat n.toNat)).bind fun s8 =>
(inI v5.1.length (IntKind.wrap .i64 ((v5.1.length:Int)-1))).bind fun i9 =>
(v5.1[i9]?).bind fun x10 =>
 some (.inl (false,(IntKind.wrap .i64 (y4.2.1+1)),(v5.1.set i9 s8),())))) (
 some (.inr (.inl (y4.1,y4.2.2.1,()))))
def zb9 (a0:List UInt8):Option (List (List UInt8)×Bool×Unit) :=
(aJ (cV a0) (false,0,([[]]:List (List UInt8)),()):Option ((Bool×List (List UInt8)×Unit)⊕(List (List UInt8)×Bool×Unit))).bind (au fun v11 =>
 cond v11.1 (
 some ([],false,())) (
 some (v11.2.1,true,())))
def ye:TFn:={ ps:=(.cons .str .unit),res:=(.tup (.cons (.sl .str) (.cons .bool .unit))),fn:=fun v=>zb9 v.1 }
def al6:TEnv:={ pure:=[],look:=[],glob:=G0T,ty:=[(5,(.int .u8)),(9,.str)],raw:=[],fresh:=[] }
theorem al5:runY Tryz.prog af2 al7 al6 aqB Tryz.f109 ye.ps ye.res=ye.fn:=by kernel_rfl
theorem af0:aB Tryz.prog G0 109 af1:=ah (ai ⟨aw,ab,an,ab,am⟩ Tryz.func109 rfl (by kernel_rfl))
theorem al4:TOk af1 ye:=aA (E:=af2) (ET:=al6) (EnvT.ofX (ax aj) ak ap aM ao) al5 rfl
def ae6:Env:=(eZ [] [114])
def akD:Hints:=(hZ [] [])
def ae5:PFn:=aF (runF Tryz.prog ae6 akD Tryz.f129)
def ap9:TH:=yZ
def zc2 (a0:Int):Option Bool :=
 cond (decide (a0<32)) (
 cond (decide (a0<32)) (
 some false) (
 some (!decide (a0=65533)))) (
 cond (decide (a0≥127)) (cond (decide (a0<160)) (
 some false) (
 some (!decide (a0=65533)))) (some (!decide (a0=65533))))
def xB:TFn:={ ps:=(.cons (.int .i32) .unit),res:=.bool,fn:=fun v=>zc2 v.1 }
def akC:TEnv:=(vZ [])
theorem akB:runY Tryz.prog ae6 akD akC ap9 Tryz.f129 xB.ps xB.res=xB.fn:=by kernel_rfl
theorem ae4:aB Tryz.prog G0 129 ae5:=ah (ai ⟨aw,ab,an,ab,am⟩ Tryz.func129 rfl (by kernel_rfl))
theorem akA:TOk ae5 xB:=aA (E:=ae6) (ET:=akC) (EnvT.ofX (ax aj) ak ap aM ao) akB rfl
def af5:Env:=(eZ [(128,abw),(129,ae5)] [114])
def amb:Hints:=(hZ [(5,[24,25,26])] [])
def af4:PFn:=aF (runF Tryz.prog af5 amb Tryz.f96)
def aqC:TH:={ loops:=[(5,{ keep:=[(26,(.int .i64))],mem:=[] })],ro:=[] }
def tl (r1:(List Int×Bool×Unit)) (y5:(Int×Unit)):Option ((Int×Unit)⊕Bool) :=
 cond (decide (y5.1<(r1.1.length:Int))) (
(atI r1.1 y5.1).bind fun x2 =>
(zc2 x2).bind fun r3 =>
 cond (!r3) (
 some (.inr false)) (
 some (.inl ((IntKind.wrap .i64 (y5.1+1)),())))) (
 some (.inr true))
def zb8 (a0:List UInt8):Option Bool :=
(zcp a0).bind fun r1 =>
 cond (!r1.2.1) (some false) (cond (decide ((r1.1.length:Int)=0)) (some false) (cond (decide ((r1.1.length:Int)>24)) (
 some false) (
 aJ (tl r1) (0,()))))
def yf:TFn:={ ps:=(.cons .str .unit),res:=.bool,fn:=fun v=>zb8 v.1 }
def ama:TEnv:=(vZ [(128,uY),(129,xB)])
theorem al9:runY Tryz.prog af5 amb ama aqC Tryz.f96 yf.ps yf.res=yf.fn:=by kernel_rfl
theorem af3:aB Tryz.prog G0 96 af4:=ah (ai ⟨aw,(ae xd (ae ae4 ab)),an,ab,am⟩ Tryz.func96 rfl (by kernel_rfl))
theorem al8:TOk af4 yf:=aA (E:=af5) (ET:=ama) (EnvT.ofX (ax (ad ac9 (ad akA aj))) ak ap aM ao) al9 rfl
def afV:Env:=(eZ [(96,af4)] [114])
def alW:Hints:=(hZ [] [])
def afU:PFn:=aF (runF Tryz.prog afV alW Tryz.f95)
def aqy:TH:=yZ
def zbc (a0:List UInt8):Option Bool :=
(zb8 a0).bind fun r1 =>
 some (!r1)
def yb:TFn:={ ps:=(.cons .str .unit),res:=.bool,fn:=fun v=>zbc v.1 }
def alV:TEnv:=(vZ [(96,yf)])
theorem alU:runY Tryz.prog afV alW alV aqy Tryz.f95 yb.ps yb.res=yb.fn:=by kernel_rfl
theorem afT:aB Tryz.prog G0 95 afU:=ah (ai ⟨aw,(ae af3 ab),an,ab,am⟩ Tryz.func95 rfl (by kernel_rfl))
theorem alT:TOk afU yb:=aA (E:=afV) (ET:=alV) (EnvT.ofX (ax (ad al8 aj)) ak ap aM ao) alU rfl
def ahd:Env:=(eZ [(95,afU)] [114])
def an6:Hints:=(hZ [(2,[0,1,7,8])] [])
def ahc:PFn:=aF (runF Tryz.prog ahd an6 Tryz.f127)
def aq8:TH:={ loops:=[(2,{ keep:=[(8,(.int .i64))],mem:=[] })],ro:=[] }
def pF (a0:List (List UInt8)) (y2:(Int×Unit)):Option ((Int×Unit)⊕Int) :=
 cond (decide (y2.1<(a0.length:Int))) (
(atI a0 y2.1).bind fun x1 =>
(zbc x1).bind fun r2 =>
 cond r2 (
 some (.inr y2.1)) (
 some (.inl ((IntKind.wrap .i64 (y2.1+1)),())))) (
 some (.inr (-1)))
def zab (a0:List (List UInt8)) (a1:Unit):Option Int :=
 aJ (pF a0) (0,())
def yK:TFn:={ ps:=(.cons (.sl .str) (.cons (.fn 95) .unit)),res:=(.int .i64),fn:=fun v=>zab v.1 v.2.1 }
def an5:TEnv:=(vZ [(95,yb)])
theorem an4:runY Tryz.prog ahd an6 an5 aq8 Tryz.f127 yK.ps yK.res=yK.fn:=by kernel_rfl
theorem ahb:aB Tryz.prog G0 127 ahc:=ah (ai ⟨aw,(ae afT ab),an,ab,am⟩ Tryz.func127 rfl (by kernel_rfl))
theorem an3:TOk ahc yK:=aA (E:=ahd) (ET:=an5) (EnvT.ofX (ax (ad alT aj)) ak ap aM ao) an4 rfl
def ahg:Env:=(eZ [(127,ahc)] [114])
def aoa:Hints:=(hZ [] [])
def ahf:PFn:=aF (runF Tryz.prog ahg aoa Tryz.f94)
def aq9:TH:=yZ
def zaa (a0:List (List UInt8)) (a1:Unit):Option Bool :=
(zab a0 a1).bind fun r1 =>
 some (decide (r1≥0))
def yL:TFn:={ ps:=(.cons (.sl .str) (.cons (.fn 95) .unit)),res:=.bool,fn:=fun v=>zaa v.1 v.2.1 }
def an9:TEnv:=(vZ [(127,yK)])
theorem an8:runY Tryz.prog ahg aoa an9 aq9 Tryz.f94 yL.ps yL.res=yL.fn:=by kernel_rfl
theorem ahe:aB Tryz.prog G0 94 ahf:=ah (ai ⟨aw,(ae ahb ab),an,ab,am⟩ Tryz.func94 rfl (by kernel_rfl))
theorem an7:TOk ahf yL:=aA (E:=ahg) (ET:=an9) (EnvT.ofX (ax (ad an3 aj)) ak ap aM ao) an8 rfl
def af6:Env:=(eZ [(94,ahf)] [114])
def ame:Hints:=(hZ [] [])
def abM:PFn:=aF (runF Tryz.prog af6 ame Tryz.f66)
def aqD:TH:=yZ
def zb7 (a0:List (List UInt8)):Option Int :=
 cond (decide ((a0.length:Int)=0)) (
 some 8) (
 cond (decide ((a0.length:Int)>8)) (
 some 9) (
(zaa a0 ()).bind fun r1 =>
 cond r1 (
 some 8) (
 some 0)))
def vl:TFn:={ ps:=(.cons (.sl .str) .unit),res:=(.int .i64),fn:=fun v=>zb7 v.1 }
def amd:TEnv:=(vZ [(94,yL)])
theorem amc:runY Tryz.prog af6 ame amd aqD Tryz.f66 vl.ps vl.res=vl.fn:=by kernel_rfl
theorem yg:aB Tryz.prog G0 66 abM:=ah (ai ⟨aw,(ae ahe ab),an,ab,am⟩ Tryz.func66 rfl (by kernel_rfl))
theorem adn:TOk abM vl:=aA (E:=af6) (ET:=amd) (EnvT.ofX (ax (ad an7 aj)) ak ap aM ao) amc rfl
def aeD:Env:=(eZ [(66,abM),(109,af1)] [114])
def ajX:Hints:=(hZ [] [])
def aeC:PFn:=aF (runF Tryz.prog aeD ajX Tryz.f77)
def apY:TH:=yZ
def zcg (a0:List UInt8):Option (List (List UInt8)×Int×Unit) :=
(zb9 a0).bind fun r1 =>
 cond (!r1.2.1) (some ([],8,())) (cond (decide (a0=[])) (
 some ([],8,())) (
(zb7 r1.1).bind fun r2 =>
 cond (!decide (r2=0)) (
 some ([],r2,())) (
 some (r1.1,0,()))))
def xm:TFn:={ ps:=(.cons .str .unit),res:=(.tup (.cons (.sl .str) tT15)),fn:=fun v=>zcg v.1 }
def ajW:TEnv:=(vZ [(66,vl),(109,ye)])
theorem ajV:runY Tryz.prog aeD ajX ajW apY Tryz.f77 xm.ps xm.res=xm.fn:=by kernel_rfl
theorem aeB:aB Tryz.prog G0 77 aeC:=ah (ai ⟨aw,(ae yg (ae af0 ab)),an,ab,am⟩ Tryz.func77 rfl (by kernel_rfl))
theorem ajU:TOk aeC xm:=aA (E:=aeD) (ET:=ajW) (EnvT.ofX (ax (ad adn (ad al4 aj))) ak ap aM ao) ajV rfl
def agv:Env:=(eZ [(44,abG),(45,abV),(46,vg),(63,abK),(76,agi),(77,aeC)] [114])
def amP:Hints:=(hZ [] [])
def agu:PFn:=aF (runF Tryz.prog agv amP Tryz.f48)
def aqN:TH:={ joins:=[(13,{ keep:=[(2,(.bx 0 0)),(4,.str),(5,(.bx 1 0))],mem:=[.box 27 tT14,.box 27 tT14] }),(11,{ keep:=[(2,(.bx 0 0)),(5,(.bx 1 0)),(32,.bool)],mem:=[.box 27 tT14,.box 27 tT14] })],loops:=[],ro:=[] }
def zax (a0:List UInt8):Option vV0 :=
(zbq a0).bind fun r1 =>
(zbd).bind fun r2 =>
(zac r2 r1.1).bind fun r3 =>
(cond (decide ((max r3 0)=3)) (
(zbq r1.2.1).bind fun r4 =>
(zbi r4.1).bind fun r5 =>
 some (.inl (r4.2.1,(0,(),(0,0,[],()),0,(),()),((max r3 0),(),(0,0,[],()),r5.1,(),()),()))) (
(cond (decide ((max r3 0)=1)) (
 some (.inl ((decide ((max r3 0)=1)),(0,(),(0,0,[],()),0,(),()),((max r3 0),(),(0,0,[],()),0,(),()),()))) (
 cond (decide ((max r3 0)=2)) (
 some (.inl ((decide ((max r3 0)=2)),(0,(),(0,0,[],()),0,(),()),((max r3 0),(),(0,0,[],()),0,(),()),()))) (
 some (.inl ((decide ((max r3 0)=4)),(0,(),(0,0,[],()),0,(),()),((max r3 0),(),(0,0,[],()),0,(),()),())))):Option ((Bool×vV5×vV5×Unit)⊕((List UInt8×vV5×vV5×Unit)⊕vV0))).bind (au fun v6 =>
 cond v6.1 (
(zbq r1.2.1).bind fun r7 =>
(zb1 r7.1).bind fun r8 =>
 some (.inl (r7.2.1,v6.2.1,(v6.2.2.1.1,v6.2.2.1.2.1,r8.1,v6.2.2.1.2.2.2.1,v6.2.2.1.2.2.2.2.1,()),()))) (
 some (.inl (r1.2.1,v6.2.1,v6.2.2.1,()))))):Option ((List UInt8×vV5×vV5×Unit)⊕vV0)).bind (au fun v9 =>
(zcg v9.1).bind fun r10 =>
 some (v9.2.2.1.1,r10.1,v9.2.2.1.2.2.1,v9.2.2.1.2.2.2.1,[],()))
def yr:TFn:={ ps:=(.cons .str .unit),res:=tT9,fn:=fun v=>zax v.1 }
def amO:TEnv:=(vZ [(44,ve),(45,vu),(46,xV),(63,vi),(76,yn),(77,xm)])
theorem amN:runY Tryz.prog agv amP amO aqN Tryz.f48 yr.ps yr.res=yr.fn:=by kernel_rfl
theorem agt:aB Tryz.prog G0 48 agu:=ah (ai ⟨aw,(ae xO (ae yJ (ae oh (ae ya (ae agh (ae aeB ab)))))),an,ab,am⟩ Tryz.func48 rfl (by kernel_rfl))
theorem amM:TOk agu yr:=aA (E:=agv) (ET:=amO) (EnvT.ofX (ax (ad adi (ad adu (ad tj (ad adl (ad amw (ad ajU aj))))))) ak ap aM ao) amN rfl
def ahx:Env:=(eZ [] [114])
def aox:Hints:=(hZ [] [])
def ahw:PFn:=aF (runF Tryz.prog ahx aox Tryz.f33)
def arf:TH:=yZ
def za4 (a0:Int) (a1:Int) (a2:Int):Option Bool :=
 cond (decide ((IntKind.wrap .i64 ((BitVec.ofInt (IntKind.bits .i64) a2 &&& BitVec.ofInt (IntKind.bits .i64) a1).toNat))=0)) (
 some (decide (a0=0))) (
 cond (decide (a0≥0)) (some (decide (a0≤2147483647))) (some false))
def yQ:TFn:={ ps:=(.cons (.int .i64) (.cons (.int .i64) tT15)),res:=.bool,fn:=fun v=>za4 v.1 v.2.1 v.2.2.1 }
def aow:TEnv:=(vZ [])
theorem aov:runY Tryz.prog ahx aox aow arf Tryz.f33 yQ.ps yQ.res=yQ.fn:=by kernel_rfl
theorem ahv:aB Tryz.prog G0 33 ahw:=ah (ai ⟨aw,ab,an,ab,am⟩ Tryz.func33 rfl (by kernel_rfl))
theorem aou:TOk ahw yQ:=aA (E:=ahx) (ET:=aow) (EnvT.ofX (ax aj) ak ap aM ao) aov rfl
def aeW:Env:=(eZ [] [114])
def ako:Hints:=(hZ [] [])
def aeV:PFn:=aF (runF Tryz.prog aeW ako Tryz.f35)
def ap5:TH:={ loops:=[],cuts:=[(1,[(9,{ keep:=[(1,(.bx 0 0)),(11,.bool)],mem:=[.same] })])],ro:=[1],news:=[] }
def zc6 (a0:vV0):Option Bool :=
(cond (decide (a0.1=0)) (some ((decide ((a0.2.1.length:Int)=0)),())) (some (false,())):Option (Bool×Unit)).bind fun v1 =>
 cond v1.1 (cond (eqV tT11 a0.2.2.1 (0,0,[],())) (cond (decide (a0.2.2.2.1=0)) (some (decide ((a0.2.2.2.2.1.length:Int)=0))) (some false)) (some false)) (some false)
def xx:TFn:={ ps:=(.cons tT9 .unit),res:=.bool,fn:=fun v=>zc6 v.1 }
def akn:TEnv:=(vZ [])
theorem akm:runY Tryz.prog aeW ako akn ap5 Tryz.f35 xx.ps xx.res=xx.fn:=by kernel_rfl
theorem aeU:aB Tryz.prog G0 35 aeV:=ah (ai ⟨aw,ab,an,ab,am⟩ Tryz.func35 rfl (by kernel_rfl))
theorem akl:TOk aeV xx:=aA (E:=aeW) (ET:=akn) (EnvT.ofX (ax aj) ak ap aM ao) akm rfl
def ad9:Env:=(eZ [(97,abC)] [114])
def ajb:Hints:=(hZ [] [])
def ad8:PFn:=aF (runF Tryz.prog ad9 ajb Tryz.f67)
def apK:TH:={ loops:=[],ro:=[1] }
def zcu (a0:vV0):Option Bool :=
 cond (decide (a0.1=3)) (some (eqV tT11 a0.2.2.1 (0,0,[],()))) (cond (decide (a0.1=5)) (
 some (eqV tT11 a0.2.2.1 (0,0,[],()))) (
(zbw a0.2.2.1).bind fun r1 =>
 some r1))
def w6:TFn:={ ps:=(.cons tT9 .unit),res:=.bool,fn:=fun v=>zcu v.1 }
def aja:TEnv:=(vZ [(97,vc)])
theorem ai9:runY Tryz.prog ad9 ajb aja apK Tryz.f67 w6.ps w6.res=w6.fn:=by kernel_rfl
theorem ad7:aB Tryz.prog G0 67 ad8:=ah (ai ⟨aw,(ae xI ab),an,ab,am⟩ Tryz.func67 rfl (by kernel_rfl))
theorem ai8:TOk ad8 w6:=aA (E:=ad9) (ET:=aja) (EnvT.ofX (ax (ad adg aj)) ak ap aM ao) ai9 rfl
def ad6:Env:=(eZ [] [114])
def ai7:Hints:=(hZ [] [])
def ad5:PFn:=aF (runF Tryz.prog ad6 ai7 Tryz.f68)
def apJ:TH:={ loops:=[],ro:=[1] }
def zcv (a0:vV0):Option Bool :=
 cond (decide (a0.1=3)) (
 cond (!decide (a0.2.2.2.1=0)) (cond (decide (a0.2.2.2.1≥(-2147483647))) (some (decide (a0.2.2.2.1≤2147483647))) (some false)) (some false)) (
 some (decide (a0.2.2.2.1=0)))
def w5:TFn:={ ps:=(.cons tT9 .unit),res:=.bool,fn:=fun v=>zcv v.1 }
def ai6:TEnv:=(vZ [])
theorem ai5:runY Tryz.prog ad6 ai7 ai6 apJ Tryz.f68 w5.ps w5.res=w5.fn:=by kernel_rfl
theorem ad4:aB Tryz.prog G0 68 ad5:=ah (ai ⟨aw,ab,an,ab,am⟩ Tryz.func68 rfl (by kernel_rfl))
theorem ai4:TOk ad5 w5:=aA (E:=ad6) (ET:=ai6) (EnvT.ofX (ax aj) ak ap aM ao) ai5 rfl
def ahr:Env:=(eZ [] [114])
def aoo:Hints:=(hZ [] [])
def ahq:PFn:=aF (runF Tryz.prog ahr aoo Tryz.f150)
def arc:TH:=yZ
def za6 (a0:Int):Option Bool :=
 some (!decide (a0=a0))
def yO:TFn:={ ps:=tT15,res:=.bool,fn:=fun v=>za6 v.1 }
def aon:TEnv:=(vZ [])
theorem aom:runY Tryz.prog ahr aoo aon arc Tryz.f150 yO.ps yO.res=yO.fn:=by kernel_rfl
theorem ahp:aB Tryz.prog G0 150 ahq:=ah (ai ⟨aw,ab,an,ab,am⟩ Tryz.func150 rfl (by kernel_rfl))
theorem aol:TOk ahq yO:=aA (E:=ahr) (ET:=aon) (EnvT.ofX (ax aj) ak ap aM ao) aom rfl
def ahE:Env:=(eZ [(150,ahq)] [114])
def aoI:Hints:=(hZ [] [])
def abW:PFn:=aF (runF Tryz.prog ahE aoI Tryz.f132)
def ari:TH:=yZ
def za1 (a0:Int) (a1:Int):Option Int :=
(za6 a0).bind fun r1 =>
(za6 a1).bind fun r2 =>
 cond r1 (
 cond r2 (
 some 0) (
 some (-1))) (
 cond r2 (
 some 1) (
 cond (decide (a0<a1)) (
 some (-1)) (
 cond (decide (a0>a1)) (
 some 1) (
 some 0))))
def vv:TFn:={ ps:=(.cons (.int .i64) tT15),res:=(.int .i64),fn:=fun v=>za1 v.1 v.2.1 }
def aoH:TEnv:=(vZ [(150,yO)])
theorem aoG:runY Tryz.prog ahE aoI aoH ari Tryz.f132 vv.ps vv.res=vv.fn:=by kernel_rfl
theorem yT:aB Tryz.prog G0 132 abW:=ah (ai ⟨aw,(ae ahp ab),an,ab,am⟩ Tryz.func132 rfl (by kernel_rfl))
theorem adv:TOk abW vv:=aA (E:=ahE) (ET:=aoH) (EnvT.ofX (ax (ad aol aj)) ak ap aM ao) aoG rfl
def aeA:Env:=(eZ [] [114])
def ajT:Hints:=(hZ [(3,[3,6,7,8])] [])
def abz:PFn:=aF (runF Tryz.prog aeA ajT Tryz.f130)
def apX:TH:={ loops:=[(3,{ keep:=[(8,(.int .i64))],mem:=[] })],ro:=[] }
def jN (a0:List Int) (y3:(Int×Unit)):Option ((Int×Unit)⊕Int) :=
 cond (decide (y3.1<(a0.length:Int))) (
(atI a0 y3.1).bind fun x1 =>
 cond (!decide (x1=0)) (
 some (.inr x1)) (
 some (.inl ((IntKind.wrap .i64 (y3.1+1)),())))) (
 some (.inr 0))
def zch (a0:List Int):Option Int :=
 aJ (jN a0) (0,())
def u6:TFn:={ ps:=(.cons (.sl (.int .i64)) .unit),res:=(.int .i64),fn:=fun v=>zch v.1 }
def ajS:TEnv:=(vZ [])
theorem ajR:runY Tryz.prog aeA ajT ajS apX Tryz.f130 u6.ps u6.res=u6.fn:=by kernel_rfl
theorem xl:aB Tryz.prog G0 130 abz:=ah (ai ⟨aw,ab,an,ab,am⟩ Tryz.func130 rfl (by kernel_rfl))
theorem adc:TOk abz u6:=aA (E:=aeA) (ET:=ajS) (EnvT.ofX (ax aj) ak ap aM ao) ajR rfl
def afz:Env:=(eZ [(130,abz),(132,abW)] [114])
def als:Hints:=(hZ [] [])
def afy:PFn:=aF (runF Tryz.prog afz als Tryz.f131)
def aqn:TH:={ loops:=[],ro:=[2,3] }
def zbo (a0:(Int×Int×Unit)) (a1:(Int×Int×Unit)):Option Int :=
(za1 a0.1 a1.1).bind fun r1 =>
(za1 a0.2.1 a1.2.1).bind fun r2 =>
(zch ([r1,r2]:List Int)).bind fun r3 =>
 some r3
def xQ:TFn:={ ps:=(.cons tT13 (.cons tT13 .unit)),res:=(.int .i64),fn:=fun v=>zbo v.1 v.2.1 }
def alr:TEnv:={ pure:=[(130,u6),(132,vv)],look:=[],glob:=G0T,ty:=[(3,(.int .i64))],raw:=[],fresh:=[] }
theorem alq:runY Tryz.prog afz als alr aqn Tryz.f131 xQ.ps xQ.res=xQ.fn:=by kernel_rfl
theorem afx:aB Tryz.prog G0 131 afy:=ah (ai ⟨aw,(ae xl (ae yT ab)),an,ab,am⟩ Tryz.func131 rfl (by kernel_rfl))
theorem alp:TOk afy xQ:=aA (E:=afz) (ET:=alr) (EnvT.ofX (ax (ad adc (ad adv aj))) ak ap aM ao) alq rfl
def ae9:Env:=(eZ [(130,abz),(131,afy),(132,abW)] [114])
def akH:Hints:=(hZ [] [])
def ae8:PFn:=aF (runF Tryz.prog ae9 akH Tryz.f98)
def aqa:TH:={ loops:=[],ro:=[2,3] }
def zc1 (a0:vV7) (a1:vV7):Option Int :=
(zbo a0.1 a1.1).bind fun r1 =>
(za1 a0.2.1 a1.2.1).bind fun r2 =>
(zch ([r1,r2]:List Int)).bind fun r3 =>
 some r3
def xC:TFn:={ ps:=(.cons (.agg (.cons tT13 tT15)) (.cons (.agg (.cons tT13 tT15)) .unit)),res:=(.int .i64),fn:=fun v=>zc1 v.1 v.2.1 }
def akG:TEnv:={ pure:=[(130,u6),(131,xQ),(132,vv)],look:=[],glob:=G0T,ty:=[(3,(.int .i64))],raw:=[],fresh:=[] }
theorem akF:runY Tryz.prog ae9 akH akG aqa Tryz.f98 xC.ps xC.res=xC.fn:=by kernel_rfl
theorem ae7:aB Tryz.prog G0 98 ae8:=ah (ai ⟨aw,(ae xl (ae afx (ae yT ab))),an,ab,am⟩ Tryz.func98 rfl (by kernel_rfl))
theorem akE:TOk ae8 xC:=aA (E:=ae9) (ET:=akG) (EnvT.ofX (ax (ad adc (ad alp (ad adv aj)))) ak ap aM ao) akF rfl
def aeZ:Env:=(eZ [(34,wX),(98,ae8)] [114])
def aks:Hints:=(hZ [(2,[0,5,6,7])] [])
def aeY:PFn:=aF (runF Tryz.prog aeZ aks Tryz.f69)
def ap6:TH:={ loops:=[(2,{ keep:=[(7,(.int .i64))],mem:=[] })],cuts:=[(4,[(9,{ keep:=[(4,(.bx 0 0)),(20,.bool)],mem:=[.box 120 (.agg (.cons tT13 tT15))] }),(5,{ keep:=[(4,(.bx 0 0)),(25,.bool)],mem:=[.box 120 (.agg (.cons tT13 tT15))] })])],ro:=[],news:=[] }
def jO (a0:List vV7) (y2:(Int×Unit)):Option ((Int×Unit)⊕Bool) :=
 cond (decide (y2.1<(a0.length:Int))) (
(atI a0 y2.1).bind fun x1 =>
((zcy x1.1).bind fun r2 =>
 cond (!r2) (some (true,x1,())) (some ((decide (x1.2.1<0)),x1,())):Option (Bool×vV7×Unit)).bind fun v3 =>
(cond v3.1 (some (true,v3.2.1,())) (some ((decide (v3.2.1.2.1≥16)),v3.2.1,())):Option (Bool×vV7×Unit)).bind fun v4 =>
 cond v4.1 (some (.inr false)) (cond (decide (y2.1>0)) ((atI a0 (IntKind.wrap .i64 (y2.1-1))).bind fun x5 =>
(zc1 x5 v4.2.1).bind fun r6 =>
 cond (decide (r6≥0)) (
 some (.inr false)) (
 some (.inl ((IntKind.wrap .i64 (y2.1+1)),())))) (some (.inl ((IntKind.wrap .i64 (y2.1+1)),()))))) (
 some (.inr true))
def zc5 (a0:List vV7):Option Bool :=
 aJ (jO a0) (0,())
def xy:TFn:={ ps:=(.cons (.sl (.agg (.cons tT13 tT15))) .unit),res:=.bool,fn:=fun v=>zc5 v.1 }
def akr:TEnv:=(vZ [(34,rv),(98,xC)])
theorem akq:runY Tryz.prog aeZ aks akr ap6 Tryz.f69 xy.ps xy.res=xy.fn:=by kernel_rfl
theorem aeX:aB Tryz.prog G0 69 aeY:=ah (ai ⟨aw,(ae rx (ae ae7 ab)),an,ab,am⟩ Tryz.func69 rfl (by kernel_rfl))
theorem akp:TOk aeY xy:=aA (E:=aeZ) (ET:=akr) (EnvT.ofX (ax (ad wW (ad akE aj))) ak ap aM ao) akq rfl
def ae2:Env:=(eZ [(66,abM),(67,ad8),(68,ad5),(69,aeY)] [114])
def akw:Hints:=(hZ [] [])
def ae1:PFn:=aF (runF Tryz.prog ae2 akw Tryz.f36)
def ap7:TH:={ joins:=[(10,{ keep:=[(1,(.bx 0 0)),(32,.bool)],mem:=[.same] })],loops:=[],cuts:=[(6,[(8,{ keep:=[(1,(.bx 0 0)),(26,.bool)],mem:=[.same] }),(5,{ keep:=[(1,(.bx 0 0)),(31,.bool)],mem:=[.same] })]),(9,[(8,{ keep:=[(1,(.bx 0 0)),(46,.bool)],mem:=[.same] })])],ro:=[1],news:=[] }
def zc4 (a0:vV0):Option Int :=
 cond (decide (a0.1<1)) (some 18) (cond (decide (a0.1>5)) (
 some 18) (
(zb7 a0.2.1).bind fun r1 =>
 cond (!decide (r1=0)) (
 some r1) (
(cond (decide (a0.1=1)) (some (true,())) (some ((decide (a0.1=4)),())):Option (Bool×Unit)).bind fun v2 =>
(cond v2.1 (some (true,())) (some ((decide (a0.1=5)),())):Option (Bool×Unit)).bind fun v3 =>
((zcu a0).bind fun r4 =>
 cond (!r4) (
 some (.inl ((!r4),()))) (
(zcv a0).bind fun r5 =>
 cond (!r5) (
 some (.inl ((!r5),()))) (
(cond (!v3.1) (some ((decide ((a0.2.2.2.2.1.length:Int)>0)),())) (some (false,())):Option (Bool×Unit)).bind fun v6 =>
 some (.inl (v6.1,())))):Option ((Bool×Unit)⊕Int)).bind (au fun v7 =>
 cond v7.1 (
 some 2) (
 cond (decide ((a0.2.2.2.2.1.length:Int)>256)) (
 some 7) (
(zc5 a0.2.2.2.2.1).bind fun r8 =>
 cond (!r8) (
 some 2) (
 some 0)))))))
def xz:TFn:={ ps:=(.cons tT9 .unit),res:=(.int .i64),fn:=fun v=>zc4 v.1 }
def akv:TEnv:=(vZ [(66,vl),(67,w6),(68,w5),(69,xy)])
theorem aku:runY Tryz.prog ae2 akw akv ap7 Tryz.f36 xz.ps xz.res=xz.fn:=by kernel_rfl
theorem ae0:aB Tryz.prog G0 36 ae1:=ah (ai ⟨aw,(ae yg (ae ad7 (ae ad4 (ae aeX ab)))),an,ab,am⟩ Tryz.func36 rfl (by kernel_rfl))
theorem akt:TOk ae1 xz:=aA (E:=ae2) (ET:=akv) (EnvT.ofX (ax (ad adn (ad ai8 (ad ai4 (ad akp aj))))) ak ap aM ao) aku rfl
def ahA:Env:=(eZ [(99,abP)] [114])
def aoB:Hints:=(hZ [] [])
def ahz:PFn:=aF (runF Tryz.prog ahA aoB Tryz.f70)
def arg:TH:=yZ
def za3 (a0:List UInt8) (a1:List UInt8):Option Int :=
(zat a0 a1).bind fun r1 =>
 some r1
def yR:TFn:={ ps:=(.cons .str (.cons .str .unit)),res:=(.int .i64),fn:=fun v=>za3 v.1 v.2.1 }
def aoA:TEnv:=(vZ [(99,vr)])
theorem aoz:runY Tryz.prog ahA aoB aoA arg Tryz.f70 yR.ps yR.res=yR.fn:=by kernel_rfl
theorem ahy:aB Tryz.prog G0 70 ahz:=ah (ai ⟨aw,(ae yw ab),an,ab,am⟩ Tryz.func70 rfl (by kernel_rfl))
theorem aoy:TOk ahz yR:=aA (E:=ahA) (ET:=aoA) (EnvT.ofX (ax (ad adq aj)) ak ap aM ao) aoz rfl
def agy:Env:=(eZ [(70,ahz)] [114])
def amT:Hints:=(hZ [] [])
def agx:PFn:=aF (runF Tryz.prog agy amT Tryz.f37)
def aqO:TH:=yZ
def zaw (a0:List UInt8) (a1:List UInt8):Option Bool :=
(za3 a0 a1).bind fun r1 =>
 some (decide (r1≥0))
def yu:TFn:={ ps:=(.cons .str (.cons .str .unit)),res:=.bool,fn:=fun v=>zaw v.1 v.2.1 }
def amS:TEnv:=(vZ [(70,yR)])
theorem amR:runY Tryz.prog agy amT amS aqO Tryz.f37 yu.ps yu.res=yu.fn:=by kernel_rfl
theorem agw:aB Tryz.prog G0 37 agx:=ah (ai ⟨aw,(ae ahy ab),an,ab,am⟩ Tryz.func37 rfl (by kernel_rfl))
theorem amQ:TOk agx yu:=aA (E:=agy) (ET:=amS) (EnvT.ofX (ax (ad aoy aj)) ak ap aM ao) amR rfl
def afK:Env:=(eZ [(28,xY),(33,ahw),(34,wX),(35,aeV),(36,ae1),(37,agx)] [114])
def alE:Hints:=(hZ [] [])
def afJ:PFn:=aF (runF Tryz.prog afK alE Tryz.f11)
def aqs:TH:={ joins:=[(8,{ keep:=[(1,(.bx 0 0))],mem:=[.same] })],loops:=[],ro:=[1] }
def zbk (a0:vV3):Option Bool :=
 cond (decide (a0.1<1)) (some false) (cond (decide (a0.1>19)) (
 some false) (
(zbf a0.1).bind fun r1 =>
(za4 a0.2.1 1 r1).bind fun r2 =>
 cond (!r2) (some false) ((za4 a0.2.2.1 2 r1).bind fun r3 =>
 cond (!r3) (some false) ((za4 a0.2.2.2.1 4 r1).bind fun r4 =>
 cond (!r4) (
 some false) (
(cond (decide ((IntKind.wrap .i64 ((BitVec.ofInt (IntKind.bits .i64) r1 &&& BitVec.ofInt (IntKind.bits .i64) 8).toNat))=0)) (cond (!(eqV tT13 a0.2.2.2.2.2.1 (0,0,()))) (some (.inr false)) (cond (!decide ((IntKind.wrap .i64 ((BitVec.ofInt (IntKind.bits .i64) r1 &&& BitVec.ofInt (IntKind.bits .i64) 8).toNat))=0)) ((zcy a0.2.2.2.2.2.1).bind fun r5 =>
 cond (!r5) (
 some (.inr false)) (
 some (.inl ()))) (some (.inl ())))) (cond (!decide ((IntKind.wrap .i64 ((BitVec.ofInt (IntKind.bits .i64) r1 &&& BitVec.ofInt (IntKind.bits .i64) 8).toNat))=0)) ((zcy a0.2.2.2.2.2.1).bind fun r6 =>
 cond (!r6) (
 some (.inr false)) (
 some (.inl ()))) (some (.inl ()))):Option (Unit⊕Bool)).bind (au fun v7 =>
 cond (decide ((IntKind.wrap .i64 ((BitVec.ofInt (IntKind.bits .i64) r1 &&& BitVec.ofInt (IntKind.bits .i64) 16).toNat))=0)) (
(zc6 a0.2.2.2.2.1).bind fun r8 =>
 some r8) (
(zc4 a0.2.2.2.2.1).bind fun r9 =>
 cond (decide (r9=0)) (cond (decide ((a0.2.2.2.2.1.2.2.2.2.1.length:Int)=0)) ((zaw a0.2.2.2.2.1.2.2.1.2.2.1 [10]).bind fun r10 =>
 some (!r10)) (some false)) (some false))))))))
def xT:TFn:={ ps:=(.cons tT10 .unit),res:=.bool,fn:=fun v=>zbk v.1 }
def alD:TEnv:=(vZ [(28,rD),(33,yQ),(34,rv),(35,xx),(36,xz),(37,yu)])
theorem alC:runY Tryz.prog afK alE alD aqs Tryz.f11 xT.ps xT.res=xT.fn:=by kernel_rfl
theorem afI:aB Tryz.prog G0 11 afJ:=ah (ai ⟨aw,(ae rE (ae ahv (ae rx (ae aeU (ae ae0 (ae agw ab)))))),an,ab,am⟩ Tryz.func11 rfl (by kernel_rfl))
theorem alB:TOk afJ xT:=aA (E:=afK) (ET:=alD) (EnvT.ofX (ax (ad xX (ad aou (ad wW (ad akl (ad akt (ad amQ aj))))))) ak ap aM ao) alC rfl
def aev:Env:={ pure:=[],raw:=[(58,yE),(123,yH)],glob:=G0,same:=[114],look:=[],ext:=[] }
def ajJ:Hints:=(hZ [(3,[0,3,6,7])] [])
def aeu:PFn:=aF (runF Tryz.prog aev ajJ Tryz.f92)
def apU:TH:={ joins:=[(7,{ keep:=[(3,(.bx 1 0))],mem:=[.row true 5 (.int .u8),.box 103 tT16] })],loops:=[(3,{ keep:=[(3,(.bx 1 0)),(7,(.int .i64))],mem:=[.row true 5 (.int .u8),.box 103 tT16] })],cuts:=[],ro:=[],news:=[(3,(tT16,[(5,(.int .u8))]))] }
def mM (a0:List UInt8) (y3:(Int×List Int×vV6×Unit)):Option ((Int×List Int×vV6×Unit)⊕List UInt8) :=
 cond (decide (y3.1<(a0.length:Int))) (
((atI a0 y3.1).bind fun b1 =>
 cond (decide ((b1.toNat:Int)=47)) ((zaf 92 (y3.2.2.1.1,(),()) y3.2.1).bind fun q2 =>
 some (.inl (q2.2.2.1,q2.2.1,()))) ((atI a0 y3.1).bind fun b3 =>
 cond (decide ((b3.toNat:Int)=92)) (
(zaf 92 (y3.2.2.1.1,(),()) y3.2.1).bind fun q4 =>
 some (.inl (q4.2.2.1,q4.2.1,()))) (
 some (.inl (y3.2.1,y3.2.2.1,())))):Option ((List Int×vV6×Unit)⊕((Int×List Int×vV6×Unit)⊕List UInt8))).bind (au fun v5 =>
(atI a0 y3.1).bind fun b6 =>
(zaf (b6.toNat:Int) (v5.2.1.1,(),()) v5.1).bind fun q7 =>
 some (.inl ((IntKind.wrap .i64 (y3.1+1)),q7.2.2.1,q7.2.1,())))) (
((zaj (y3.2.2.1.1,(),()) y3.2.1).bind fun q8 =>
 some q8.1).map .inr)
def zck (a0:List UInt8):Option (List UInt8) :=
 aJ (mM a0) (0,[],(false,(),()),())
def xi:TFn:={ ps:=(.cons .str .unit),res:=.str,fn:=fun v=>zck v.1 }
def ajI:TEnv:={ pure:=[],look:=[],glob:=G0T,ty:=[],raw:=[(58,om),(123,oo)],fresh:=[] }
theorem ajH:runY Tryz.prog aev ajJ ajI apU Tryz.f92 xi.ps xi.res=xi.fn:=by kernel_rfl
theorem aet:aB Tryz.prog G0 92 aeu:=ah (ai ⟨aw,ab,(aU rK (aU rM an)),ab,am⟩ Tryz.func92 rfl (by kernel_rfl))
theorem ajG:TOk aeu xi:=aA (E:=aev) (ET:=ajI) (EnvT.ofX (ax aj) ak (aT yD rfl rfl (aT yG rfl rfl ap)) aM ao) ajH rfl
def ahl:PFn:=aay
theorem ahk:aB Tryz.prog G0 93 ahl:=wr ⟨Tryz.f93,Tryz.func93,rfl,by kernel_rfl⟩ Tryz.strings_Join_none Tryz.strings_Join
def za8 (a0:List (List UInt8)) (a1:List UInt8):Option (List UInt8):=acJ a0 a1
def aog:TFn:=oZ
theorem aof:TOk ahl aog:=acI
def ad3:Env:={ pure:=[(92,aeu)],raw:=[],glob:=G0,same:=[114],look:=[(93,ahl)],ext:=[] }
def ai3:Hints:=(hZ [(3,[3,6,7,8])] [])
def ad2:PFn:=aF (runF Tryz.prog ad3 ai3 Tryz.f65)
def apI:TH:={ loops:=[(3,{ keep:=[(3,(.own 0)),(8,(.int .i64))],mem:=[.row true 9 .str] })],ro:=[] }
def tb (a0:List (List UInt8)) (y3:(Int×List (List UInt8)×Unit)):Option ((Int×List (List UInt8)×Unit)⊕List UInt8) :=
 cond (decide (y3.1<(a0.length:Int))) (
(atI a0 y3.1).bind fun x1 =>
(zck x1).bind fun r2 =>
(eT (y3.2.1.length+([r2]:List (List UInt8)).length)).bind fun u3 =>
 some (.inl ((IntKind.wrap .i64 (y3.1+1)),(y3.2.1++([r2]:List (List UInt8))),()))) (
((za8 y3.2.1 [47]).bind fun r4 =>
 some r4).map .inr)
def zcw (a0:List (List UInt8)):Option (List UInt8) :=
 aJ (tb a0) (0,[],())
def wZ:TFn:={ ps:=(.cons (.sl .str) .unit),res:=.str,fn:=fun v=>zcw v.1 }
def ai2:TEnv:={ pure:=[(92,xi)],look:=[(93,aog)],glob:=G0T,ty:=[(9,.str)],raw:=[],fresh:=[] }
theorem ai1:runY Tryz.prog ad3 ai3 ai2 apI Tryz.f65 wZ.ps wZ.res=wZ.fn:=by kernel_rfl
theorem ad1:aB Tryz.prog G0 65 ad2:=ah (ai ⟨aw,(ae aet ab),an,(ae ahk ab),am⟩ Tryz.func65 rfl (by kernel_rfl))
theorem ai0:TOk ad2 wZ:=aA (E:=ad3) (ET:=ai2) (EnvT.ofX (ax (ad ajG aj)) (wm aof rfl ak) ap aM ao) ai1 rfl
def aho:Env:=(eZ [(30,rC),(63,abK),(64,xb),(65,ad2)] [114])
def aok:Hints:=(hZ [] [])
def ahn:PFn:=aF (runF Tryz.prog aho aok Tryz.f32)
def arb:TH:={ joins:=[(9,{ keep:=[(1,(.bx 0 0)),(3,.str)],mem:=[.same] }),(8,{ keep:=[(1,(.bx 0 0)),(20,.bool)],mem:=[.same] })],loops:=[],ro:=[1] }
def za7 (a0:vV0):Option (List UInt8) :=
(zbd).bind fun r1 =>
(atI r1 a0.1).bind fun x2 =>
(catT x2 [32]).bind fun s3 =>
(cond (decide (a0.1=3)) (
(zbh a0.2.2.2.1).bind fun r4 =>
(catT r4 [32]).bind fun s5 =>
(catT s3 s5).bind fun s6 =>
 some (.inl (s6,()))) (
(cond (decide (a0.1=1)) (
 some (.inl ((decide (a0.1=1)),()))) (
 cond (decide (a0.1=2)) (
 some (.inl ((decide (a0.1=2)),()))) (
 some (.inl ((decide (a0.1=4)),())))):Option ((Bool×Unit)⊕((List UInt8×Unit)⊕List UInt8))).bind (au fun v7 =>
 cond v7.1 (
(zcr a0.2.2.1).bind fun r8 =>
(catT r8 [32]).bind fun s9 =>
(catT s3 s9).bind fun s10 =>
 some (.inl (s10,()))) (
 some (.inl (s3,()))))):Option ((List UInt8×Unit)⊕List UInt8)).bind (au fun v11 =>
(zcw a0.2.1).bind fun r12 =>
(catT v11.1 r12).bind fun s13 =>
 some s13)
def yN:TFn:={ ps:=(.cons tT9 .unit),res:=.str,fn:=fun v=>za7 v.1 }
def aoj:TEnv:=(vZ [(30,abI),(63,vi),(64,w9),(65,wZ)])
theorem aoi:runY Tryz.prog aho aok aoj arb Tryz.f32 yN.ps yN.res=yN.fn:=by kernel_rfl
theorem ahm:aB Tryz.prog G0 32 ahn:=ah (ai ⟨aw,(ae oi (ae ya (ae xa (ae ad1 ab)))),an,ab,am⟩ Tryz.func32 rfl (by kernel_rfl))
theorem aoh:TOk ahn yN:=aA (E:=aho) (ET:=aoj) (EnvT.ofX (ax (ad tk (ad adl (ad ac8 (ad ai0 aj))))) ak ap aM ao) aoi rfl
def afu:Env:=(eZ [(11,afJ),(28,xY),(29,abL),(30,rC),(31,abB),(32,ahn)] [114])
def alh:Hints:=(hZ [(6,[1,3,4,27,28,29])] [])
def xN:PFn:=aF (runF Tryz.prog afu alh Tryz.f10)
def aqk:TH:={ joins:=[(11,{ keep:=[(1,(.bx 0 0)),(4,.str)],mem:=[.same] }),(13,{ keep:=[(1,(.bx 0 0)),(4,.str)],mem:=[.same] })],loops:=[(6,{ keep:=[(1,(.bx 0 0)),(4,.str),(29,(.int .i64))],mem:=[.same] })],ro:=[1] }
def mO (a0:vV3) (r2:Int) (y6:(List UInt8×Int×Unit)):Option ((List UInt8×Int×Unit)⊕((List UInt8×Unit)⊕List UInt8)) :=
 cond (decide (y6.2.1<(([(1,a0.2.1,()),(4,a0.2.2.2.1,()),(2,a0.2.2.1,())]:List (Int×Int×Unit)).length:Int))) (
(atI ([(1,a0.2.1,()),(4,a0.2.2.2.1,()),(2,a0.2.2.1,())]:List (Int×Int×Unit)) y6.2.1).bind fun x5 =>
 cond (!decide ((IntKind.wrap .i64 ((BitVec.ofInt (IntKind.bits .i64) r2 &&& BitVec.ofInt (IntKind.bits .i64) x5.1).toNat))=0)) (
(zbh x5.2.1).bind fun r6 =>
(catT [32] r6).bind fun s7 =>
(catT y6.1 s7).bind fun s8 =>
 some (.inl (s8,(IntKind.wrap .i64 (y6.2.1+1)),()))) (
 some (.inl (y6.1,(IntKind.wrap .i64 (y6.2.1+1)),())))) (
 some (.inr (.inl (y6.1,()))))
def zbr (a0:vV3):Option (List UInt8) :=
(zbk a0).bind fun r1 =>
 cond (!r1) (
 some []) (
(zbf a0.1).bind fun r2 =>
(zbb).bind fun r3 =>
(atI r3 a0.1).bind fun x4 =>
(aJ (mO a0 r2) (x4,0,()):Option ((List UInt8×Unit)⊕List UInt8)).bind (au fun v9 =>
(cond (!decide ((IntKind.wrap .i64 ((BitVec.ofInt (IntKind.bits .i64) r2 &&& BitVec.ofInt (IntKind.bits .i64) 8).toNat))=0)) (
(zc3 a0.2.2.2.2.2.1).bind fun r10 =>
(catT [32] r10).bind fun s11 =>
(catT v9.1 s11).bind fun s12 =>
 some (.inl (s12,()))) (
 some (.inl (v9.1,()))):Option ((List UInt8×Unit)⊕List UInt8)).bind (au fun v13 =>
 cond (!decide ((IntKind.wrap .i64 ((BitVec.ofInt (IntKind.bits .i64) r2 &&& BitVec.ofInt (IntKind.bits .i64) 16).toNat))=0)) (
(za7 a0.2.2.2.2.1).bind fun r14 =>
(catT [32] r14).bind fun s15 =>
(catT v13.1 s15).bind fun s16 =>
 some s16) (
 some v13.1))))
def rA:TFn:={ ps:=(.cons tT10 .unit),res:=.str,fn:=fun v=>zbr v.1 }
def alg:TEnv:={ pure:=[(11,xT),(28,rD),(29,vj),(30,abI),(31,va),(32,yN)],look:=[],glob:=G0T,ty:=[(62,tT13)],raw:=[],fresh:=[] }
theorem alf:runY Tryz.prog afu alh alg aqk Tryz.f10 rA.ps rA.res=rA.fn:=by kernel_rfl
theorem rB:aB Tryz.prog G0 10 xN:=ah (ai ⟨aw,(ae afI (ae rE (ae yc (ae oi (ae xA (ae ahm ab)))))),an,ab,am⟩ Tryz.func10 rfl (by kernel_rfl))
theorem xM:TOk xN rA:=aA (E:=afu) (ET:=alg) (EnvT.ofX (ax (ad alB (ad xX (ad adm (ad tk (ad adf (ad aoh aj))))))) ak ap aM ao) alf rfl
def afO:Env:=(eZ [(10,xN),(28,xY),(29,abL),(44,abG),(45,abV),(46,vg),(47,adV),(48,agu)] [114])
def alL:Hints:=(hZ [(5,[0,2,5,6,7,30,31,32])] [])
def abJ:PFn:=aF (runF Tryz.prog afO alL Tryz.f13)
def aqu:TH:={ joins:=[(12,{ keep:=[(2,(.bx 0 0)),(5,.str),(6,(.bx 1 0))],mem:=[.box 34 tT8,.box 34 tT8] }),(14,{ keep:=[(2,(.bx 0 0)),(6,(.bx 1 0))],mem:=[.box 34 tT8,.box 34 tT8] }),(16,{ keep:=[(2,(.bx 0 0)),(6,(.bx 1 0))],mem:=[.box 34 tT8,.box 34 tT10] })],loops:=[(5,{ keep:=[(2,(.bx 0 0)),(5,.str),(6,(.bx 1 0)),(30,(.sl (.agg (.cons (.int .i64) (.cons (.ba 1 0 1 4) .unit))))),(32,(.int .i64))],mem:=[.box 34 tT8,.box 34 tT8] })],ro:=[] }
def fS (r4:Int) (y5:(List UInt8×List (Int×Nat×Unit)×Int×vV1×vV1×Unit)):Option ((List UInt8×List (Int×Nat×Unit)×Int×vV1×vV1×Unit)⊕((List UInt8×vV1×vV1×Unit)⊕(vV3×Int×Unit))) :=
 cond (decide (y5.2.2.1<(([(1,1,()),(4,3,()),(2,2,())]:List (Int×Nat×Unit)).length:Int))) (
(atI y5.2.1 y5.2.2.1).bind fun x5 =>
 cond (!decide ((IntKind.wrap .i64 ((BitVec.ofInt (IntKind.bits .i64) r4 &&& BitVec.ofInt (IntKind.bits .i64) x5.1).toNat))=0)) (
(zbq y5.1).bind fun r6 =>
(zbi r6.1).bind fun r7 =>
(putI .i64 tT8 y5.2.2.2.2.1 (0+x5.2.1*1) r7.1).bind fun x8 =>
 some (.inl (r6.2.1,y5.2.1,(IntKind.wrap .i64 (y5.2.2.1+1)),y5.2.2.2.1,x8,()))) (
 some (.inl (y5.1,y5.2.1,(IntKind.wrap .i64 (y5.2.2.1+1)),y5.2.2.2.1,y5.2.2.2.2.1,())))) (
 some (.inr (.inl (y5.1,y5.2.2.2.1,y5.2.2.2.2.1,()))))
def zbg (a0:List UInt8):Option (vV3×Int×Unit) :=
(zbq a0).bind fun r1 =>
(zbb).bind fun r2 =>
(zac r2 r1.1).bind fun r3 =>
(zbf (max r3 0)).bind fun r4 =>
(aJ (fS r4) (r1.2.1,([(1,1,()),(4,3,()),(2,2,())]:List (Int×Nat×Unit)),0,(0,0,0,0,(0,(),(0,0,[],()),0,(),()),(0,0,()),()),((max r3 0),0,0,0,(0,(),(0,0,[],()),0,(),()),(0,0,()),()),()):Option ((List UInt8×vV1×vV1×Unit)⊕(vV3×Int×Unit))).bind (au fun v9 =>
(cond (!decide ((IntKind.wrap .i64 ((BitVec.ofInt (IntKind.bits .i64) r4 &&& BitVec.ofInt (IntKind.bits .i64) 8).toNat))=0)) (
(zcz v9.1).bind fun r10 =>
 some (.inl (v9.2.1,(v9.2.2.1.1,v9.2.2.1.2.1,v9.2.2.1.2.2.1,v9.2.2.1.2.2.2.1,v9.2.2.1.2.2.2.2.1,r10.1,()),()))) (
 some (.inl (v9.2.1,v9.2.2.1,()))):Option ((vV1×vV1×Unit)⊕(vV3×Int×Unit))).bind (au fun v11 =>
(cond (!decide ((IntKind.wrap .i64 ((BitVec.ofInt (IntKind.bits .i64) r4 &&& BitVec.ofInt (IntKind.bits .i64) 16).toNat))=0)) (
(zax v9.1).bind fun r12 =>
 some (.inl (v11.1,(v11.2.1.1,v11.2.1.2.1,v11.2.1.2.2.1,v11.2.1.2.2.2.1,r12,v11.2.1.2.2.2.2.2.1,()),()))) (
 some (.inl (v11.1,(v11.2.1.1,v11.2.1.2.1,v11.2.1.2.2.1,v11.2.1.2.2.2.1,(v11.2.1.2.2.2.2.1.1,[],v11.2.1.2.2.2.2.1.2.2.1,v11.2.1.2.2.2.2.1.2.2.2.1,[],()),v11.2.1.2.2.2.2.2.1,()),()))):Option ((vV1×vV3×Unit)⊕(vV3×Int×Unit))).bind (au fun v13 =>
 cond (decide (a0=[])) (some ((0,0,0,0,(0,[],(0,0,[],()),0,[],()),(0,0,()),()),19,())) ((zbr v13.2.1).bind fun r14 =>
 cond (!decide (r14=a0)) (
 some ((0,0,0,0,(0,[],(0,0,[],()),0,[],()),(0,0,()),()),19,())) (
 some (v13.2.1,0,()))))))
def vh:TFn:={ ps:=(.cons .str .unit),res:=(.tup (.cons tT10 tT15)),fn:=fun v=>zbg v.1 }
def alK:TEnv:={ pure:=[(10,rA),(28,rD),(29,vj),(44,ve),(45,vu),(46,xV),(47,wV),(48,yr)],look:=[],glob:=G0T,ty:=[(76,(.agg (.cons (.int .i64) (.cons (.ba 1 0 1 4) .unit))))],raw:=[],fresh:=[] }
theorem alJ:runY Tryz.prog afO alL alK aqu Tryz.f13 vh.ps vh.res=vh.fn:=by kernel_rfl
theorem xW:aB Tryz.prog G0 13 abJ:=ah (ai ⟨aw,(ae rB (ae rE (ae yc (ae xO (ae yJ (ae oh (ae adU (ae agt ab)))))))),an,ab,am⟩ Tryz.func13 rfl (by kernel_rfl))
theorem adk:TOk abJ vh:=aA (E:=afO) (ET:=alK) (EnvT.ofX (ax (ad xM (ad xX (ad adm (ad adi (ad adu (ad tj (ad aiP (ad amM aj))))))))) ak ap aM ao) alJ rfl
def afd:Env:=(eZ [(10,xN),(13,abJ)] [114])
def akO:Hints:=(hZ [] [])
def afc:PFn:=aF (runF Tryz.prog afd akO Tryz.f7)
def aqc:TH:={ loops:=[],cuts:=[(3,[(7,{ keep:=[(1,(.bx 0 0)),(3,(.bx 1 0)),(19,.bool)],mem:=[.box 34 tT10,.box 34 tT10] }),(7,{ keep:=[(1,(.bx 0 0)),(3,(.bx 1 0)),(26,.bool)],mem:=[.box 34 tT10,.box 34 tT10] })])],ro:=[],news:=[] }
def zbz:Option Bool :=
(zbg [100,111,32,48,32,112,117,116,32,53,32,97,47,107]).bind fun r1 =>
(zbg [111,117,116,32,48,32,49,32,51,46,49,55]).bind fun r2 =>
(cond (decide (r1.2.1=0)) (some ((decide (r1.1.1=2)),r1.1,r2.1,())) (some (false,r1.1,r2.1,())):Option (Bool×vV3×vV3×Unit)).bind fun v3 =>
(cond v3.1 (some ((decide (v3.2.1.2.2.2.2.1.2.2.1.2.1=5)),v3.2.1,v3.2.2.1,())) (some (false,v3.2.1,v3.2.2.1,())):Option (Bool×vV3×vV3×Unit)).bind fun v4 =>
 cond v4.1 ((zbr v4.2.1).bind fun r5 =>
 cond (decide (r5=[100,111,32,48,32,112,117,116,32,53,32,97,47,107])) (cond (decide (r2.2.1=0)) (some (decide (v4.2.2.1.2.2.2.2.2.1.2.1=17))) (some false)) (some false)) (some false)
def xF:TFn:={ ps:=.unit,res:=.bool,fn:=fun v=>zbz  }
def akN:TEnv:=(vZ [(10,rA),(13,vh)])
theorem akM:runY Tryz.prog afd akO akN aqc Tryz.f7 xF.ps xF.res=xF.fn:=by kernel_rfl
theorem afb:aB Tryz.prog G0 7 afc:=ah (ai ⟨aw,(ae rB (ae xW ab)),an,ab,am⟩ Tryz.func7 rfl (by kernel_rfl))
theorem akL:TOk afc xF:=aA (E:=afd) (ET:=akN) (EnvT.ofX (ax (ad xM (ad adk aj))) ak ap aM ao) akM rfl
def afa:Env:=(eZ [] [114])
def akK:Hints:=(hZ [] [])
def xE:PFn:=aF (runF Tryz.prog afa akK Tryz.f23)
def aqb:TH:=yZ
def zc0 (a0:Int) (a1:Int):Option Bool :=
 cond (decide (a1=114)) (
 cond (decide (a0<11)) (some true) (some (decide (a0>14)))) (
 cond (decide (a1=110)) (
 cond (decide (a0≥9)) (some (decide (a0≤16))) (some false)) (
 cond (decide (a1=117)) (
 cond (decide (a0=1)) (some true) (cond (decide (a0≥5)) (cond (decide (a0≤8)) (some true) (some (decide (a0=14)))) (some (decide (a0=14))))) (
 cond (decide (a1=100)) (
 cond (decide (a0=7)) (some true) (some (decide (a0=8)))) (
 cond (decide (a1=111)) (
 some (decide (a0=2))) (
 some false)))))
def ry:TFn:={ ps:=(.cons (.int .i64) (.cons (.int .u8) .unit)),res:=.bool,fn:=fun v=>zc0 v.1 v.2.1 }
def akJ:TEnv:=(vZ [])
theorem akI:runY Tryz.prog afa akK akJ aqb Tryz.f23 ry.ps ry.res=ry.fn:=by kernel_rfl
theorem rz:aB Tryz.prog G0 23 xE:=ah (ai ⟨aw,ab,an,ab,am⟩ Tryz.func23 rfl (by kernel_rfl))
theorem xD:TOk xE ry:=aA (E:=afa) (ET:=akJ) (EnvT.ofX (ax aj) ak ap aM ao) akI rfl
def ahj:Env:=(eZ [] [114])
def aoe:Hints:=(hZ [] [])
def ahi:PFn:=aF (runF Tryz.prog ahj aoe Tryz.f22)
def ara:TH:=yZ
def za9 (a0:Int) (a1:Bool):Option Bool :=
 cond (decide (a0=0)) (some true) (cond a1 (cond (decide (a0>0)) (some (decide (a0≤2147483647))) (some false)) (some false))
def yM:TFn:={ ps:=(.cons (.int .i64) (.cons .bool .unit)),res:=.bool,fn:=fun v=>za9 v.1 v.2.1 }
def aod:TEnv:=(vZ [])
theorem aoc:runY Tryz.prog ahj aoe aod ara Tryz.f22 yM.ps yM.res=yM.fn:=by kernel_rfl
theorem ahh:aB Tryz.prog G0 22 ahi:=ah (ai ⟨aw,ab,an,ab,am⟩ Tryz.func22 rfl (by kernel_rfl))
theorem aob:TOk ahi yM:=aA (E:=ahj) (ET:=aod) (EnvT.ofX (ax aj) ak ap aM ao) aoc rfl
def age:Env:=(eZ [] [114])
def ams:Hints:=(hZ [] [])
def yl:PFn:=aF (runF Tryz.prog age ams Tryz.f24)
def aqH:TH:={ loops:=[],ro:=[1] }
def zb3 (a0:(Int×Int×Unit)):Option Bool :=
 cond (decide (a0.1≥0)) (cond (decide (a0.1≤15)) (cond (decide (a0.2.1≥1)) (some (decide (a0.2.1≤1048576))) (some false)) (some false)) (some false)
def rF:TFn:={ ps:=(.cons tT13 .unit),res:=.bool,fn:=fun v=>zb3 v.1 }
def amr:TEnv:=(vZ [])
theorem amq:runY Tryz.prog age ams amr aqH Tryz.f24 rF.ps rF.res=rF.fn:=by kernel_rfl
theorem rG:aB Tryz.prog G0 24 yl:=ah (ai ⟨aw,ab,an,ab,am⟩ Tryz.func24 rfl (by kernel_rfl))
theorem yk:TOk yl rF:=aA (E:=age) (ET:=amr) (EnvT.ofX (ax aj) ak ap aM ao) amq rfl
def aeG:Env:=(eZ [] [114])
def aj1:Hints:=(hZ [] [])
def aeF:PFn:=aF (runF Tryz.prog aeG aj1 Tryz.f25)
def apZ:TH:={ loops:=[],cuts:=[(2,[(9,{ keep:=[(1,(.bx 0 0)),(3,(.bx 1 0)),(13,.bool)],mem:=[.same,.box 24 tT11] })])],ro:=[1],news:=[] }
def zcf (a0:vV0):Option Bool :=
(cond (decide (a0.1=0)) (some ((decide ((a0.2.1.length:Int)=0)),(0,0,[],()),())) (some (false,(0,0,[],()),())):Option (Bool×vV4×Unit)).bind fun v1 =>
 cond v1.1 (cond (eqV tT11 a0.2.2.1 v1.2.1) (cond (decide (a0.2.2.2.1=0)) (some (decide ((a0.2.2.2.2.1.length:Int)=0))) (some false)) (some false)) (some false)
def xn:TFn:={ ps:=(.cons tT9 .unit),res:=.bool,fn:=fun v=>zcf v.1 }
def aj0:TEnv:=(vZ [])
theorem ajZ:runY Tryz.prog aeG aj1 aj0 apZ Tryz.f25 xn.ps xn.res=xn.fn:=by kernel_rfl
theorem aeE:aB Tryz.prog G0 25 aeF:=ah (ai ⟨aw,ab,an,ab,am⟩ Tryz.func25 rfl (by kernel_rfl))
theorem ajY:TOk aeF xn:=aA (E:=aeG) (ET:=aj0) (EnvT.ofX (ax aj) ak ap aM ao) ajZ rfl
def aed:Env:=(eZ [] [114])
def aji:Hints:=(hZ [(17,[0,4,5,6,7])] [])
def aec:PFn:=aF (runF Tryz.prog aed aji Tryz.f116)
def apM:TH:={ joins:=[(14,{ keep:=[(4,(.int .i64)),(5,(.int .i64)),(6,(.int .i64))],mem:=[] }),(9,{ keep:=[(18,.bool)],mem:=[] }),(22,{ keep:=[(4,(.int .i64))],mem:=[] }),(24,{ keep:=[],mem:=[] })],loops:=[(17,{ keep:=[(4,(.int .i64)),(7,(.int .i64))],mem:=[] })],ro:=[] }
def fR (a0:List UInt8) (v3:(Int×Int×Int×Unit)) (y17:(Int×Int×Unit)):Option ((Int×Int×Unit)⊕((Int×Unit)⊕(Int×Int×Unit))) :=
 cond (decide (y17.2.1<v3.2.1)) (
(atI a0 y17.2.1).bind fun b4 =>
 cond (decide ((b4.toNat:Int)<128)) (some (.inr (.inr (0,0,())))) ((atI a0 y17.2.1).bind fun b5 =>
 cond (decide ((b5.toNat:Int)>191)) (
 some (.inr (.inr (0,0,())))) (
(atI a0 y17.2.1).bind fun b6 =>
 some (.inl ((IntKind.wrap .i64 ((IntKind.wrap .i64 ((IntKind.wrap .i64 (64*y17.1))+(IntKind.wrap .i64 (b6.toNat:Int))))-128)),(IntKind.wrap .i64 (y17.2.1+1)),()))))) (
 some (.inr (.inl (y17.1,()))))
def zcs (a0:List UInt8):Option (Int×Int×Unit) :=
 cond (decide ((a0.length:Int)=0)) (
 some (0,0,())) (
(atI a0 0).bind fun b1 =>
(cond (decide ((IntKind.wrap .i64 (b1.toNat:Int))<128)) (
 some (.inr ((IntKind.wrap .i64 (b1.toNat:Int)),1,()))) (
(cond (decide ((IntKind.wrap .i64 (b1.toNat:Int))≥194)) (some (.inl ((decide ((IntKind.wrap .i64 (b1.toNat:Int))<224)),()))) (some (.inl (false,()))):Option ((Bool×Unit)⊕((Int×Int×Int×Unit)⊕(Int×Int×Unit)))).bind (au fun v2 =>
 cond v2.1 (
 some (.inl ((IntKind.wrap .i64 ((IntKind.wrap .i64 (b1.toNat:Int))-192)),2,128,()))) (
 cond (decide ((IntKind.wrap .i64 (b1.toNat:Int))≥224)) (cond (decide ((IntKind.wrap .i64 (b1.toNat:Int))<240)) (
 some (.inl ((IntKind.wrap .i64 ((IntKind.wrap .i64 (b1.toNat:Int))-224)),3,2048,()))) (
 cond (decide ((IntKind.wrap .i64 (b1.toNat:Int))≥240)) (cond (decide ((IntKind.wrap .i64 (b1.toNat:Int))<245)) (
 some (.inl ((IntKind.wrap .i64 ((IntKind.wrap .i64 (b1.toNat:Int))-240)),4,65536,()))) (
 some (.inr (0,0,())))) (some (.inr (0,0,()))))) (cond (decide ((IntKind.wrap .i64 (b1.toNat:Int))≥240)) (cond (decide ((IntKind.wrap .i64 (b1.toNat:Int))<245)) (
 some (.inl ((IntKind.wrap .i64 ((IntKind.wrap .i64 (b1.toNat:Int))-240)),4,65536,()))) (
 some (.inr (0,0,())))) (some (.inr (0,0,()))))))):Option ((Int×Int×Int×Unit)⊕(Int×Int×Unit))).bind (au fun v3 =>
 cond (decide ((a0.length:Int)<v3.2.1)) (
 some (0,0,())) (
(aJ (fR a0 v3) (v3.1,1,()):Option ((Int×Unit)⊕(Int×Int×Unit))).bind (au fun v7 =>
(cond (decide (v7.1<v3.2.2.1)) (some (.inr (0,0,()))) (cond (decide (v7.1>1114111)) (some (.inr (0,0,()))) (cond (decide (v7.1≥55296)) (cond (decide (v7.1≤57343)) (
 some (.inr (0,0,()))) (
 some (.inl ()))) (some (.inl ())))):Option (Unit⊕(Int×Int×Unit))).bind (au fun v8 =>
 some (v7.1,v3.2.1,()))))))
def w8:TFn:={ ps:=(.cons .str .unit),res:=(.tup (.cons (.int .i64) tT15)),fn:=fun v=>zcs v.1 }
def ajh:TEnv:=(vZ [])
theorem ajg:runY Tryz.prog aed aji ajh apM Tryz.f116 w8.ps w8.res=w8.fn:=by kernel_rfl
theorem aeb:aB Tryz.prog G0 116 aec:=ah (ai ⟨aw,ab,an,ab,am⟩ Tryz.func116 rfl (by kernel_rfl))
theorem ajf:TOk aec w8:=aA (E:=aed) (ET:=ajh) (EnvT.ofX (ax aj) ak ap aM ao) ajg rfl
def afw:Env:=(eZ [(116,aec)] [114])
def alo:Hints:=(hZ [(3,[0,4,5])] [])
def abH:PFn:=aF (runF Tryz.prog afw alo Tryz.f86)
def aqm:TH:={ loops:=[(3,{ keep:=[(4,(.own 0)),(5,(.int .i64))],mem:=[.row true 3 (.int .i64)] })],ro:=[] }
def mP (a0:List UInt8) (y3:(Int×List Int×Unit)):Option ((Int×List Int×Unit)⊕(List Int×Bool×Unit)) :=
 cond (decide (y3.1<(a0.length:Int))) (
(subI a0 y3.1 (a0.length:Int)).bind fun s1 =>
(zcs s1).bind fun r2 =>
 cond (decide (r2.2.1=0)) (
 some (.inr ([],false,()))) (
(eT (y3.2.1.length+([r2.1]:List Int).length)).bind fun u3 =>
 some (.inl ((IntKind.wrap .i64 (y3.1+r2.2.1)),(y3.2.1++([r2.1]:List Int)),())))) (
 some (.inr (y3.2.1,true,())))
def zbp (a0:List UInt8):Option (List Int×Bool×Unit) :=
 aJ (mP a0) (0,[],())
def vf:TFn:={ ps:=(.cons .str .unit),res:=(.tup (.cons (.sl (.int .i64)) (.cons .bool .unit))),fn:=fun v=>zbp v.1 }
def aln:TEnv:={ pure:=[(116,w8)],look:=[],glob:=G0T,ty:=[(3,(.int .i64))],raw:=[],fresh:=[] }
theorem alm:runY Tryz.prog afw alo aln aqm Tryz.f86 vf.ps vf.res=vf.fn:=by kernel_rfl
theorem xP:aB Tryz.prog G0 86 abH:=ah (ai ⟨aw,(ae aeb ab),an,ab,am⟩ Tryz.func86 rfl (by kernel_rfl))
theorem adj:TOk abH vf:=aA (E:=afw) (ET:=aln) (EnvT.ofX (ax (ad ajf aj)) ak ap aM ao) alm rfl
def ad0:Env:=(eZ [] [114])
def aiZ:Hints:=(hZ [] [])
def adZ:PFn:=aF (runF Tryz.prog ad0 aiZ Tryz.f115)
def apH:TH:=yZ
def zcx (a0:Int):Option Bool :=
 cond (decide (a0≥32)) (cond (decide (a0<127)) (some (!decide (a0=65533))) (cond (decide (a0>159)) (some (!decide (a0=65533))) (some false))) (some false)
def wY:TFn:={ ps:=tT15,res:=.bool,fn:=fun v=>zcx v.1 }
def aiY:TEnv:=(vZ [])
theorem aiX:runY Tryz.prog ad0 aiZ aiY apH Tryz.f115 wY.ps wY.res=wY.fn:=by kernel_rfl
theorem adY:aB Tryz.prog G0 115 adZ:=ah (ai ⟨aw,ab,an,ab,am⟩ Tryz.func115 rfl (by kernel_rfl))
theorem aiW:TOk adZ wY:=aA (E:=ad0) (ET:=aiY) (EnvT.ofX (ax aj) ak ap aM ao) aiX rfl
def afn:Env:=(eZ [(86,abH),(115,adZ)] [114])
def ak3:Hints:=(hZ [(3,[3,4,5])] [])
def afm:PFn:=aF (runF Tryz.prog afn ak3 Tryz.f85)
def aqg:TH:={ joins:=[(7,{ keep:=[],mem:=[] })],loops:=[(3,{ keep:=[(5,(.int .i64))],mem:=[] })],ro:=[] }
def pB (r1:(List Int×Bool×Unit)) (y3:(Int×Unit)):Option ((Int×Unit)⊕(Unit⊕Bool)) :=
 cond (decide (y3.1<(r1.1.length:Int))) (
(atI r1.1 y3.1).bind fun x2 =>
(zcx x2).bind fun r3 =>
 cond (!r3) (
 some (.inr (.inr false))) (
 some (.inl ((IntKind.wrap .i64 (y3.1+1)),())))) (
 some (.inr (.inl ())))
def zbv (a0:List UInt8):Option Bool :=
(zbp a0).bind fun r1 =>
(aJ (pB r1) (0,()):Option (Unit⊕Bool)).bind (au fun v4 =>
 cond r1.2.1 (cond (decide ((r1.1.length:Int)≥1)) (some (decide ((r1.1.length:Int)≤24))) (some false)) (some false))
def xJ:TFn:={ ps:=(.cons .str .unit),res:=.bool,fn:=fun v=>zbv v.1 }
def ak2:TEnv:=(vZ [(86,vf),(115,wY)])
theorem ak1:runY Tryz.prog afn ak3 ak2 aqg Tryz.f85 xJ.ps xJ.res=xJ.fn:=by kernel_rfl
theorem afl:aB Tryz.prog G0 85 afm:=ah (ai ⟨aw,(ae xP (ae adY ab)),an,ab,am⟩ Tryz.func85 rfl (by kernel_rfl))
theorem ak0:TOk afm xJ:=aA (E:=afn) (ET:=ak2) (EnvT.ofX (ax (ad adj (ad aiW aj))) ak ap aM ao) ak1 rfl
def agd:Env:=(eZ [(85,afm)] [114])
def amp:Hints:=(hZ [(6,[0,3])] [])
def abN:PFn:=aF (runF Tryz.prog agd amp Tryz.f59)
def aqG:TH:={ loops:=[(6,{ keep:=[(3,(.int .i64))],mem:=[] })],ro:=[] }
def to (a0:List (List UInt8)) (y6:(Int×Unit)):Option ((Int×Unit)⊕Int) :=
 cond (decide (y6.1<(a0.length:Int))) (
(atI a0 y6.1).bind fun x1 =>
(zbv x1).bind fun r2 =>
 cond (!r2) (
 some (.inr 8)) (
 some (.inl ((IntKind.wrap .i64 (y6.1+1)),())))) (
 some (.inr 0))
def zb4 (a0:List (List UInt8)):Option Int :=
 cond (decide ((a0.length:Int)=0)) (
 some 8) (
 cond (decide ((a0.length:Int)>8)) (
 some 9) (
 aJ (to a0) (0,())))
def vm:TFn:={ ps:=(.cons (.sl .str) .unit),res:=(.int .i64),fn:=fun v=>zb4 v.1 }
def amo:TEnv:=(vZ [(85,xJ)])
theorem amn:runY Tryz.prog agd amp amo aqG Tryz.f59 vm.ps vm.res=vm.fn:=by kernel_rfl
theorem yj:aB Tryz.prog G0 59 abN:=ah (ai ⟨aw,(ae afl ab),an,ab,am⟩ Tryz.func59 rfl (by kernel_rfl))
theorem ado:TOk abN vm:=aA (E:=agd) (ET:=amo) (EnvT.ofX (ax (ad ak0 aj)) ak ap aM ao) amn rfl
def agf:Env:=(eZ [(86,abH)] [114])
def amv:Hints:=(hZ [] [])
def abO:PFn:=aF (runF Tryz.prog agf amv Tryz.f60)
def aqI:TH:={ loops:=[],ro:=[1] }
def zb2 (a0:vV4):Option Bool :=
 cond (decide (a0.1=1)) (
 cond (decide (a0.2.2.1=[])) (cond (decide (a0.2.1≥(-2147483647))) (some (decide (a0.2.1≤2147483647))) (some false)) (some false)) (
 cond (decide (a0.1=2)) (
(zbp a0.2.2.1).bind fun r1 =>
 cond (decide (a0.2.1=0)) (cond r1.2.1 (some (decide ((a0.2.2.1.length:Int)≤64))) (some false)) (some false)) (
 cond (decide (a0.1=3)) (cond (decide (a0.2.2.1=[])) (cond (decide (a0.2.1≥0)) (some (decide (a0.2.1≤1))) (some false)) (some false)) (some false)))
def vo:TFn:={ ps:=(.cons tT11 .unit),res:=.bool,fn:=fun v=>zb2 v.1 }
def amu:TEnv:=(vZ [(86,vf)])
theorem amt:runY Tryz.prog agf amv amu aqI Tryz.f60 vo.ps vo.res=vo.fn:=by kernel_rfl
theorem ym:aB Tryz.prog G0 60 abO:=ah (ai ⟨aw,(ae xP ab),an,ab,am⟩ Tryz.func60 rfl (by kernel_rfl))
theorem adp:TOk abO vo:=aA (E:=agf) (ET:=amu) (EnvT.ofX (ax (ad adj aj)) ak ap aM ao) amt rfl
def aea:Env:=(eZ [] [114])
def aje:Hints:=(hZ [] [])
def abv:PFn:=aF (runF Tryz.prog aea aje Tryz.f118)
def apL:TH:=yZ
def zct (a0:Int) (a1:Int):Option Int :=
 cond (decide (a0<a1)) (
 some (-1)) (
 cond (decide (a0>a1)) (
 some 1) (
 some 0))
def uX:TFn:={ ps:=(.cons (.int .i64) tT15),res:=(.int .i64),fn:=fun v=>zct v.1 v.2.1 }
def ajd:TEnv:=(vZ [])
theorem ajc:runY Tryz.prog aea aje ajd apL Tryz.f118 uX.ps uX.res=uX.fn:=by kernel_rfl
theorem w7:aB Tryz.prog G0 118 abv:=ah (ai ⟨aw,ab,an,ab,am⟩ Tryz.func118 rfl (by kernel_rfl))
theorem ac7:TOk abv uX:=aA (E:=aea) (ET:=ajd) (EnvT.ofX (ax aj) ak ap aM ao) ajc rfl
def ahD:Env:=(eZ [(118,abv)] [114])
def aoF:Hints:=(hZ [] [])
def ahC:PFn:=aF (runF Tryz.prog ahD aoF Tryz.f117)
def arh:TH:={ loops:=[],ro:=[2,3] }
def za2 (a0:(Int×Int×Unit)) (a1:(Int×Int×Unit)):Option Int :=
 cond (!decide (a0.1=a1.1)) (
(zct a0.1 a1.1).bind fun r1 =>
 some r1) (
(zct a0.2.1 a1.2.1).bind fun r2 =>
 some r2)
def yS:TFn:={ ps:=(.cons tT13 (.cons tT13 .unit)),res:=(.int .i64),fn:=fun v=>za2 v.1 v.2.1 }
def aoE:TEnv:=(vZ [(118,uX)])
theorem aoD:runY Tryz.prog ahD aoF aoE arh Tryz.f117 yS.ps yS.res=yS.fn:=by kernel_rfl
theorem ahB:aB Tryz.prog G0 117 ahC:=ah (ai ⟨aw,(ae w7 ab),an,ab,am⟩ Tryz.func117 rfl (by kernel_rfl))
theorem aoC:TOk ahC yS:=aA (E:=ahD) (ET:=aoE) (EnvT.ofX (ax (ad ac7 aj)) ak ap aM ao) aoD rfl
def aez:Env:=(eZ [(117,ahC),(118,abv)] [114])
def ajQ:Hints:=(hZ [] [])
def aey:PFn:=aF (runF Tryz.prog aez ajQ Tryz.f87)
def apW:TH:={ loops:=[],ro:=[2,3] }
def zci (a0:vV7) (a1:vV7):Option Int :=
(za2 a0.1 a1.1).bind fun r1 =>
 cond (!decide (r1=0)) (
(za2 a0.1 a1.1).bind fun r2 =>
 some r2) (
(zct a0.2.1 a1.2.1).bind fun r3 =>
 some r3)
def xk:TFn:={ ps:=(.cons (.agg (.cons tT13 tT15)) (.cons (.agg (.cons tT13 tT15)) .unit)),res:=(.int .i64),fn:=fun v=>zci v.1 v.2.1 }
def ajP:TEnv:=(vZ [(117,yS),(118,uX)])
theorem ajO:runY Tryz.prog aez ajQ ajP apW Tryz.f87 xk.ps xk.res=xk.fn:=by kernel_rfl
theorem aex:aB Tryz.prog G0 87 aey:=ah (ai ⟨aw,(ae ahB (ae w7 ab)),an,ab,am⟩ Tryz.func87 rfl (by kernel_rfl))
theorem ajN:TOk aey xk:=aA (E:=aez) (ET:=ajP) (EnvT.ofX (ax (ad aoC (ad ac7 aj))) ak ap aM ao) ajO rfl
def aeJ:Env:=(eZ [(24,yl),(87,aey)] [114])
def aj5:Hints:=(hZ [(2,[0,3])] [])
def aeI:PFn:=aF (runF Tryz.prog aeJ aj5 Tryz.f61)
def ap0:TH:={ loops:=[(2,{ keep:=[(3,(.int .i64))],mem:=[] })],ro:=[] }
def tg (a0:List vV7) (y2:(Int×Unit)):Option ((Int×Unit)⊕Bool) :=
 cond (decide (y2.1<(a0.length:Int))) (
(atI a0 y2.1).bind fun x1 =>
(zb3 x1.1).bind fun r2 =>
 cond (!r2) (some (.inr false)) ((atI a0 y2.1).bind fun x3 =>
 cond (decide (x3.2.1<0)) (some (.inr false)) ((atI a0 y2.1).bind fun x4 =>
 cond (decide (x4.2.1>15)) (
 some (.inr false)) (
 cond (decide (y2.1>0)) ((atI a0 (IntKind.wrap .i64 (y2.1-1))).bind fun x5 =>
(atI a0 y2.1).bind fun x6 =>
(zci x5 x6).bind fun r7 =>
 cond (!decide (r7=(-1))) (
 some (.inr false)) (
 some (.inl ((IntKind.wrap .i64 (y2.1+1)),())))) (some (.inl ((IntKind.wrap .i64 (y2.1+1)),()))))))) (
 some (.inr true))
def zce (a0:List vV7):Option Bool :=
 aJ (tg a0) (0,())
def xp:TFn:={ ps:=(.cons (.sl (.agg (.cons tT13 tT15))) .unit),res:=.bool,fn:=fun v=>zce v.1 }
def aj4:TEnv:=(vZ [(24,rF),(87,xk)])
theorem aj3:runY Tryz.prog aeJ aj5 aj4 ap0 Tryz.f61 xp.ps xp.res=xp.fn:=by kernel_rfl
theorem aeH:aB Tryz.prog G0 61 aeI:=ah (ai ⟨aw,(ae rG (ae aex ab)),an,ab,am⟩ Tryz.func61 rfl (by kernel_rfl))
theorem aj2:TOk aeI xp:=aA (E:=aeJ) (ET:=aj4) (EnvT.ofX (ax (ad yk (ad ajN aj))) ak ap aM ao) aj3 rfl
def afH:Env:=(eZ [(59,abN),(60,abO),(61,aeI)] [114])
def alA:Hints:=(hZ [] [])
def afG:PFn:=aF (runF Tryz.prog afH alA Tryz.f26)
def aqr:TH:={ joins:=[(9,{ keep:=[(1,(.bx 0 0))],mem:=[.same,.gone] }),(11,{ keep:=[(1,(.bx 0 0))],mem:=[.same,.gone] }),(13,{ keep:=[(1,(.bx 0 0))],mem:=[.same,.gone] }),(15,{ keep:=[(1,(.bx 0 0))],mem:=[.same,.gone] })],loops:=[],cuts:=[(11,[(8,{ keep:=[(1,(.bx 0 0)),(55,.bool)],mem:=[.same,.gone] })])],ro:=[1],news:=[] }
def zbl (a0:vV0):Option Int :=
 cond (decide (a0.1<1)) (some 18) (cond (decide (a0.1>5)) (
 some 18) (
(zb4 a0.2.1).bind fun r1 =>
 cond (!decide (r1=0)) (
 some r1) (
(cond (decide (a0.1=3)) (cond (!(eqV tT11 a0.2.2.1 (0,0,[],()))) (
 some (.inr 2)) (
 some (.inl ()))) (cond (decide (a0.1=5)) (cond (!(eqV tT11 a0.2.2.1 (0,0,[],()))) (
 some (.inr 2)) (
 some (.inl ()))) (some (.inl ()))):Option (Unit⊕Int)).bind (au fun v2 =>
(cond (!decide (a0.1=3)) (cond (!decide (a0.1=5)) ((zb2 a0.2.2.1).bind fun r3 =>
 cond (!r3) (
 some (.inr 2)) (
 some (.inl ()))) (some (.inl ()))) (some (.inl ())):Option (Unit⊕Int)).bind (au fun v4 =>
((cond (!decide (a0.1=3)) (some ((!decide (a0.2.2.2.1=0)),())) (some (false,())):Option (Bool×Unit)).bind fun v5 =>
 cond v5.1 (some (.inr 2)) (cond (decide (a0.1=3)) (cond (decide (a0.2.2.2.1=0)) (some (.inr 2)) (cond (decide (a0.2.2.2.1>2147483647)) (some (.inr 2)) (cond (decide (a0.2.2.2.1<(-2147483647))) (
 some (.inr 2)) (
 some (.inl ()))))) (some (.inl ()))):Option (Unit⊕Int)).bind (au fun v6 =>
(cond (decide (a0.1=2)) (cond (decide ((a0.2.2.2.2.1.length:Int)>0)) (
 some (.inr 2)) (
 some (.inl ()))) (cond (decide (a0.1=3)) (cond (decide ((a0.2.2.2.2.1.length:Int)>0)) (
 some (.inr 2)) (
 some (.inl ()))) (some (.inl ()))):Option (Unit⊕Int)).bind (au fun v7 =>
 cond (decide ((a0.2.2.2.2.1.length:Int)>256)) (
 some 7) (
(zce a0.2.2.2.2.1).bind fun r8 =>
 cond (!r8) (
 some 2) (
 some 0)))))))))
def xS:TFn:={ ps:=(.cons tT9 .unit),res:=(.int .i64),fn:=fun v=>zbl v.1 }
def alz:TEnv:=(vZ [(59,vm),(60,vo),(61,xp)])
theorem aly:runY Tryz.prog afH alA alz aqr Tryz.f26 xS.ps xS.res=xS.fn:=by kernel_rfl
theorem afF:aB Tryz.prog G0 26 afG:=ah (ai ⟨aw,(ae yj (ae ym (ae aeH ab))),an,ab,am⟩ Tryz.func26 rfl (by kernel_rfl))
theorem alx:TOk afG xS:=aA (E:=afH) (ET:=alz) (EnvT.ofX (ax (ad ado (ad adp (ad aj2 aj)))) ak ap aM ao) aly rfl
def aeg:Env:=(eZ [] [114])
def ajn:Hints:=(hZ [(2,[0,3])] [])
def aef:PFn:=aF (runF Tryz.prog aeg ajn Tryz.f27)
def apO:TH:={ loops:=[(2,{ keep:=[(3,(.int .i64))],mem:=[] })],ro:=[] }
def tc (a0:List UInt8) (y2:(Int×Unit)):Option ((Int×Unit)⊕Bool) :=
 cond (decide (y2.1<(a0.length:Int))) (
(atI a0 y2.1).bind fun b1 =>
 cond (decide ((b1.toNat:Int)=10)) (
 some (.inr true)) (
 some (.inl ((IntKind.wrap .i64 (y2.1+1)),())))) (
 some (.inr false))
def zcq (a0:List UInt8):Option Bool :=
 aJ (tc a0) (0,())
def xc:TFn:={ ps:=(.cons .str .unit),res:=.bool,fn:=fun v=>zcq v.1 }
def ajm:TEnv:=(vZ [])
theorem ajl:runY Tryz.prog aeg ajn ajm apO Tryz.f27 xc.ps xc.res=xc.fn:=by kernel_rfl
theorem aee:aB Tryz.prog G0 27 aef:=ah (ai ⟨aw,ab,an,ab,am⟩ Tryz.func27 rfl (by kernel_rfl))
theorem ajk:TOk aef xc:=aA (E:=aeg) (ET:=ajm) (EnvT.ofX (ax aj) ak ap aM ao) ajl rfl
def aft:Env:=(eZ [(22,ahi),(23,xE),(24,yl),(25,aeF),(26,afG),(27,aef)] [114])
def ale:Hints:=(hZ [] [])
def abF:PFn:=aF (runF Tryz.prog aft ale Tryz.f9)
def aqj:TH:={ joins:=[(7,{ keep:=[(1,(.bx 0 0))],mem:=[.same,.gone] })],loops:=[],cuts:=[(2,[(6,{ keep:=[(1,(.bx 0 0)),(12,.bool)],mem:=[.same] }),(8,{ keep:=[(1,(.bx 0 0)),(20,.bool)],mem:=[.same] })])],ro:=[1],news:=[] }
def zbs (a0:vV3):Option Bool :=
(cond (decide (a0.1<1)) (some (true,())) (some ((decide (a0.1>19)),())):Option (Bool×Unit)).bind fun v1 =>
(cond v1.1 (some (true,())) ((zc0 a0.1 114).bind fun r2 =>
(za9 a0.2.1 r2).bind fun r3 =>
 some ((!r3),())):Option (Bool×Unit)).bind fun v4 =>
 cond v4.1 (some false) ((zc0 a0.1 110).bind fun r5 =>
(za9 a0.2.2.2.1 r5).bind fun r6 =>
 cond (!r6) (some false) ((zc0 a0.1 117).bind fun r7 =>
(za9 a0.2.2.1 r7).bind fun r8 =>
 cond (!r8) (
 some false) (
((zc0 a0.1 100).bind fun r9 =>
 cond (!(r9==(!(eqV tT13 a0.2.2.2.2.2.1 (0,0,()))))) (some (.inr false)) ((zc0 a0.1 100).bind fun r10 =>
 cond r10 ((zb3 a0.2.2.2.2.2.1).bind fun r11 =>
 cond (!r11) (
 some (.inr false)) (
 some (.inl ()))) (some (.inl ()))):Option (Unit⊕Bool)).bind (au fun v12 =>
 cond (!decide (a0.1=2)) (
(zcf a0.2.2.2.2.1).bind fun r13 =>
 some r13) (
(zbl a0.2.2.2.2.1).bind fun r14 =>
 cond (decide (r14=0)) (cond (decide ((a0.2.2.2.2.1.2.2.2.2.1.length:Int)=0)) ((zcq a0.2.2.2.2.1.2.2.1.2.2.1).bind fun r15 =>
 some (!r15)) (some false)) (some false))))))
def vd:TFn:={ ps:=(.cons tT10 .unit),res:=.bool,fn:=fun v=>zbs v.1 }
def ald:TEnv:=(vZ [(22,yM),(23,ry),(24,rF),(25,xn),(26,xS),(27,xc)])
theorem alc:runY Tryz.prog aft ale ald aqj Tryz.f9 vd.ps vd.res=vd.fn:=by kernel_rfl
theorem xL:aB Tryz.prog G0 9 abF:=ah (ai ⟨aw,(ae ahh (ae rz (ae rG (ae aeE (ae afF (ae aee ab)))))),an,ab,am⟩ Tryz.func9 rfl (by kernel_rfl))
theorem adh:TOk abF vd:=aA (E:=aft) (ET:=ald) (EnvT.ofX (ax (ad aob (ad xD (ad yk (ad ajY (ad alx (ad ajk aj))))))) ak ap aM ao) alc rfl
def ael:Env:=(eZ [] [114])
def ajx:Hints:=(hZ [] [])
def abx:PFn:=aF (runF Tryz.prog ael ajx Tryz.f38)
def apR:TH:=yZ
def zcn (a0:Int):Option (List UInt8) :=
(atI ([[],[98,101,103,105,110],[100,111],[99,111,109,109,105,116],[97,98,111,114,116],[117,110,100,111],[114,101,100,111],[111,117,116],[98,97,99,107],[115,101,110,100],[115,97,121],[100,101,108,105,118,101,114],[100,114,111,112],[116,119,105,99,101],[115,112,111,105,108],[99,114,97,115,104],[116,101,97,114],[114,101,115,116,97,114,116],[115,101,97,108],[99,111,109,112,97,99,116]]:List (List UInt8)) a0).bind fun x1 =>
 some x1
def uZ:TFn:={ ps:=tT15,res:=.str,fn:=fun v=>zcn v.1 }
def ajw:TEnv:={ pure:=[],look:=[],glob:=G0T,ty:=[(9,.str)],raw:=[],fresh:=[] }
theorem ajv:runY Tryz.prog ael ajx ajw apR Tryz.f38 uZ.ps uZ.res=uZ.fn:=by kernel_rfl
theorem xf:aB Tryz.prog G0 38 abx:=ah (ai ⟨aw,ab,an,ab,am⟩ Tryz.func38 rfl (by kernel_rfl))
theorem ada:TOk abx uZ:=aA (E:=ael) (ET:=ajw) (EnvT.ofX (ax aj) ak ap aM ao) ajv rfl
def xZ (F:PFn):Env:=(eZ [(39,F)] [114])
def afR:Hints:=(hZ [] [])
def mC (F:PFn):PFn:=aF (runF Tryz.prog (xZ F) afR Tryz.f39)
def aqw:TH:=yZ
def eF (rec:((Int×Unit)→Option (List UInt8))) (a0:Int):Option (List UInt8) :=
 cond (decide (a0<0)) (
 cond (decide (a0>(-10))) (
(rec ((IntKind.wrap .i64 (0-a0)),())).bind fun r1 =>
(catT [45] r1).bind fun s2 =>
 some s2) (
(quoT .i64 a0 10).bind fun t3 =>
(rec ((IntKind.wrap .i64 (0-t3)),())).bind fun r4 =>
(catT [45] r4).bind fun s5 =>
(remT a0 10).bind fun t6 =>
(rec ((IntKind.wrap .i64 (0-t6)),())).bind fun r7 =>
(catT s5 r7).bind fun s8 =>
 some s8)) (
 cond (decide (a0<10)) (
(subI [48,49,50,51,52,53,54,55,56,57] a0 (IntKind.wrap .i64 (a0+1))).bind fun s9 =>
 some s9) (
(quoT .i64 a0 10).bind fun t10 =>
(rec (t10,())).bind fun r11 =>
(remT a0 10).bind fun t12 =>
(remT a0 10).bind fun t13 =>
(subI [48,49,50,51,52,53,54,55,56,57] t12 (IntKind.wrap .i64 (t13+1))).bind fun s14 =>
(catT r11 s14).bind fun s15 =>
 some s15))
def fI:((Int×Unit)→Option (List UInt8)):=fixT fun rec v=>eF rec v.1
def zbe (a0:Int):Option (List UInt8):=fI (a0,())
def mr:TFn:={ ps:=tT15,res:=.str,fn:=fixT fun (rec:((Int×Unit)→Option (List UInt8))) v=>eF rec v.1 }
def pC:PFn:=fixF mC mr
def afQ (rec:((Int×Unit)→Option (List UInt8))):TEnv:=(vZ [(39,{ ps:=tT15,res:=.str,fn:=rec })])
theorem alP (F:PFn) (rec:((Int×Unit)→Option (List UInt8))):runY Tryz.prog (xZ F) afR (afQ rec) aqw Tryz.f39 mr.ps mr.res=fun v=>eF rec v.1:=by kernel_rfl
theorem jk:aB Tryz.prog G0 39 pC:=zM ⟨Tryz.f39,Tryz.func39,rfl,by kernel_rfl⟩ fun F hF=>ah (ai (P:=Tryz.prog) (E:=xZ F) (h:=afR) (f:=39) (fn:=Tryz.f39) ⟨aw,(ae hF ab),an,ab,am⟩ Tryz.func39 rfl (by kernel_rfl))
theorem mQ:TOk pC mr:=ao3 rfl fun F rec hF=>aA (E:=xZ F) (ET:=afQ rec) (EnvT.ofX (E:=xZ F) (ET:=afQ rec) (ax (ad hF aj)) ak ap aM ao) (alP F rec) rfl
def aew:Env:=(eZ [(39,pC)] [114])
def ajM:Hints:=(hZ [] [])
def aby:PFn:=aF (runF Tryz.prog aew ajM Tryz.f40)
def apV:TH:={ loops:=[],ro:=[1] }
def zcj (a0:(Int×Int×Unit)):Option (List UInt8) :=
(zbe a0.1).bind fun r1 =>
(catT r1 [46]).bind fun s2 =>
(zbe a0.2.1).bind fun r3 =>
(catT s2 r3).bind fun s4 =>
 some s4
def u5:TFn:={ ps:=(.cons tT13 .unit),res:=.str,fn:=fun v=>zcj v.1 }
def ajL:TEnv:=(vZ [(39,mr)])
theorem ajK:runY Tryz.prog aew ajM ajL apV Tryz.f40 u5.ps u5.res=u5.fn:=by kernel_rfl
theorem xj:aB Tryz.prog G0 40 aby:=ah (ai ⟨aw,(ae jk ab),an,ab,am⟩ Tryz.func40 rfl (by kernel_rfl))
theorem adb:TOk aby u5:=aA (E:=aew) (ET:=ajL) (EnvT.ofX (ax (ad mQ aj)) ak ap aM ao) ajK rfl
def aeT:Env:=(eZ [] [114])
def akk:Hints:=(hZ [] [])
def abA:PFn:=aF (runF Tryz.prog aeT akk Tryz.f41)
def ap4:TH:=yZ
def zca (a0:Int):Option (List UInt8) :=
(atI ([[],[112,117,116],[97,100,100],[105,110,99],[114,101,109,111,118,101],[114,101,115,101,116]]:List (List UInt8)) a0).bind fun x1 =>
 some x1
def u9:TFn:={ ps:=tT15,res:=.str,fn:=fun v=>zca v.1 }
def akj:TEnv:={ pure:=[],look:=[],glob:=G0T,ty:=[(9,.str)],raw:=[],fresh:=[] }
theorem aki:runY Tryz.prog aeT akk akj ap4 Tryz.f41 u9.ps u9.res=u9.fn:=by kernel_rfl
theorem xw:aB Tryz.prog G0 41 abA:=ah (ai ⟨aw,ab,an,ab,am⟩ Tryz.func41 rfl (by kernel_rfl))
theorem ade:TOk abA u9:=aA (E:=aeT) (ET:=akj) (EnvT.ofX (ax aj) ak ap aM ao) aki rfl
def aek:Env:=(eZ [(39,pC)] [114])
def aju:Hints:=(hZ [(9,[1,3,4])] [])
def aej:PFn:=aF (runF Tryz.prog aek aju Tryz.f42)
def apQ:TH:={ joins:=[(13,{ keep:=[(1,(.bx 0 0)),(3,.str)],mem:=[.same] })],loops:=[(9,{ keep:=[(1,(.bx 0 0)),(3,.str),(4,(.int .i64))],mem:=[.same] })],ro:=[1] }
def pA (a0:vV4) (y9:(List UInt8×Int×Unit)):Option ((List UInt8×Int×Unit)⊕List UInt8) :=
 cond (decide (y9.2.1<(a0.2.2.1.length:Int))) (
((atI a0.2.2.1 y9.2.1).bind fun b2 =>
 cond (decide ((b2.toNat:Int)=34)) ((catT y9.1 [92]).bind fun s3 =>
 some (.inl (s3,()))) ((atI a0.2.2.1 y9.2.1).bind fun b4 =>
 cond (decide ((b4.toNat:Int)=92)) (
(catT y9.1 [92]).bind fun s5 =>
 some (.inl (s5,()))) (
 some (.inl (y9.1,())))):Option ((List UInt8×Unit)⊕((List UInt8×Int×Unit)⊕List UInt8))).bind (au fun v6 =>
(subI a0.2.2.1 y9.2.1 (IntKind.wrap .i64 (y9.2.1+1))).bind fun s7 =>
(catT v6.1 s7).bind fun s8 =>
 some (.inl (s8,(IntKind.wrap .i64 (y9.2.1+1)),())))) (
((catT y9.1 [34]).bind fun s9 =>
 some s9).map .inr)
def zco (a0:vV4):Option (List UInt8) :=
 cond (decide (a0.1=1)) (
(zbe a0.2.1).bind fun r1 =>
 some r1) (
 cond (decide (a0.1=3)) (
 cond (decide (a0.2.1=1)) (
 some [116,114,117,101]) (
 some [102,97,108,115,101])) (
 aJ (pA a0) ([34],0,())))
def xe:TFn:={ ps:=(.cons tT11 .unit),res:=.str,fn:=fun v=>zco v.1 }
def ajt:TEnv:=(vZ [(39,mr)])
theorem ajs:runY Tryz.prog aek aju ajt apQ Tryz.f42 xe.ps xe.res=xe.fn:=by kernel_rfl
theorem aei:aB Tryz.prog G0 42 aej:=ah (ai ⟨aw,(ae jk ab),an,ab,am⟩ Tryz.func42 rfl (by kernel_rfl))
theorem ajr:TOk aej xe:=aA (E:=aek) (ET:=ajt) (EnvT.ofX (ax (ad mQ aj)) ak ap aM ao) ajs rfl
def af9:Env:=(eZ [] [114])
def ami:Hints:=(hZ [(3,[0,3,4])] [])
def af8:PFn:=aF (runF Tryz.prog af9 ami Tryz.f71)
def aqE:TH:={ joins:=[(7,{ keep:=[(3,.str)],mem:=[] })],loops:=[(3,{ keep:=[(3,.str),(4,(.int .i64))],mem:=[] })],ro:=[] }
def tm (a0:List UInt8) (y3:(List UInt8×Int×Unit)):Option ((List UInt8×Int×Unit)⊕List UInt8) :=
 cond (decide (y3.2.1<(a0.length:Int))) (
((atI a0 y3.2.1).bind fun b1 =>
 cond (decide ((b1.toNat:Int)=47)) ((catT y3.1 [92]).bind fun s2 =>
 some (.inl (s2,()))) ((atI a0 y3.2.1).bind fun b3 =>
 cond (decide ((b3.toNat:Int)=92)) (
(catT y3.1 [92]).bind fun s4 =>
 some (.inl (s4,()))) (
 some (.inl (y3.1,())))):Option ((List UInt8×Unit)⊕((List UInt8×Int×Unit)⊕List UInt8))).bind (au fun v5 =>
(subI a0 y3.2.1 (IntKind.wrap .i64 (y3.2.1+1))).bind fun s6 =>
(catT v5.1 s6).bind fun s7 =>
 some (.inl (s7,(IntKind.wrap .i64 (y3.2.1+1)),())))) (
 some (.inr y3.1))
def zb6 (a0:List UInt8):Option (List UInt8) :=
 aJ (tm a0) ([],0,())
def yh:TFn:={ ps:=(.cons .str .unit),res:=.str,fn:=fun v=>zb6 v.1 }
def amh:TEnv:=(vZ [])
theorem amg:runY Tryz.prog af9 ami amh aqE Tryz.f71 yh.ps yh.res=yh.fn:=by kernel_rfl
theorem af7:aB Tryz.prog G0 71 af8:=ah (ai ⟨aw,ab,an,ab,am⟩ Tryz.func71 rfl (by kernel_rfl))
theorem amf:TOk af8 yh:=aA (E:=af9) (ET:=amh) (EnvT.ofX (ax aj) ak ap aM ao) amg rfl
def aeM:Env:=(eZ [(71,af8)] [114])
def aj9:Hints:=(hZ [(3,[0,3,4])] [])
def aeL:PFn:=aF (runF Tryz.prog aeM aj9 Tryz.f43)
def ap1:TH:={ joins:=[(7,{ keep:=[(3,.str)],mem:=[] })],loops:=[(3,{ keep:=[(3,.str),(4,(.int .i64))],mem:=[] })],ro:=[] }
def th (a0:List (List UInt8)) (y3:(List UInt8×Int×Unit)):Option ((List UInt8×Int×Unit)⊕List UInt8) :=
 cond (decide (y3.2.1<(a0.length:Int))) (
(cond (decide (y3.2.1>0)) (
(catT y3.1 [47]).bind fun s1 =>
 some (.inl (s1,()))) (
 some (.inl (y3.1,()))):Option ((List UInt8×Unit)⊕((List UInt8×Int×Unit)⊕List UInt8))).bind (au fun v2 =>
(atI a0 y3.2.1).bind fun x3 =>
(zb6 x3).bind fun r4 =>
(catT v2.1 r4).bind fun s5 =>
 some (.inl (s5,(IntKind.wrap .i64 (y3.2.1+1)),())))) (
 some (.inr y3.1))
def zcd (a0:List (List UInt8)):Option (List UInt8) :=
 aJ (th a0) ([],0,())
def xq:TFn:={ ps:=(.cons (.sl .str) .unit),res:=.str,fn:=fun v=>zcd v.1 }
def aj8:TEnv:=(vZ [(71,yh)])
theorem aj7:runY Tryz.prog aeM aj9 aj8 ap1 Tryz.f43 xq.ps xq.res=xq.fn:=by kernel_rfl
theorem aeK:aB Tryz.prog G0 43 aeL:=ah (ai ⟨aw,(ae af7 ab),an,ab,am⟩ Tryz.func43 rfl (by kernel_rfl))
theorem aj6:TOk aeL xq:=aA (E:=aeM) (ET:=aj8) (EnvT.ofX (ax (ad amf aj)) ak ap aM ao) aj7 rfl
def aeS:Env:=(eZ [(9,abF),(23,xE),(38,abx),(39,pC),(40,aby),(41,abA),(42,aej),(43,aeL)] [114])
def akh:Hints:=(hZ [] [])
def aeR:PFn:=aF (runF Tryz.prog aeS akh Tryz.f12)
def ap3:TH:={ joins:=[(6,{ keep:=[(1,(.bx 0 0)),(3,.str)],mem:=[.same] }),(8,{ keep:=[(1,(.bx 0 0)),(3,.str)],mem:=[.same] }),(10,{ keep:=[(1,(.bx 0 0)),(3,.str)],mem:=[.same] }),(12,{ keep:=[(1,(.bx 0 0)),(3,.str)],mem:=[.same] }),(19,{ keep:=[(1,(.bx 0 0)),(3,.str)],mem:=[.same] })],loops:=[],ro:=[1] }
def zcb (a0:vV3):Option (List UInt8) :=
(zbs a0).bind fun r1 =>
 cond (!r1) (
 some []) (
(zcn a0.1).bind fun r2 =>
((zc0 a0.1 114).bind fun r3 =>
 cond r3 (
(catT r2 [32]).bind fun s4 =>
(zbe a0.2.1).bind fun r5 =>
(catT s4 r5).bind fun s6 =>
 some (.inl (s6,()))) (
 some (.inl (r2,()))):Option ((List UInt8×Unit)⊕List UInt8)).bind (au fun v7 =>
((zc0 a0.1 110).bind fun r8 =>
 cond r8 (
(catT v7.1 [32]).bind fun s9 =>
(zbe a0.2.2.2.1).bind fun r10 =>
(catT s9 r10).bind fun s11 =>
 some (.inl (s11,()))) (
 some (.inl (v7.1,()))):Option ((List UInt8×Unit)⊕List UInt8)).bind (au fun v12 =>
((zc0 a0.1 117).bind fun r13 =>
 cond r13 (
(catT v12.1 [32]).bind fun s14 =>
(zbe a0.2.2.1).bind fun r15 =>
(catT s14 r15).bind fun s16 =>
 some (.inl (s16,()))) (
 some (.inl (v12.1,()))):Option ((List UInt8×Unit)⊕List UInt8)).bind (au fun v17 =>
((zc0 a0.1 100).bind fun r18 =>
 cond r18 (
(catT v17.1 [32]).bind fun s19 =>
(zcj a0.2.2.2.2.2.1).bind fun r20 =>
(catT s19 r20).bind fun s21 =>
 some (.inl (s21,()))) (
 some (.inl (v17.1,()))):Option ((List UInt8×Unit)⊕List UInt8)).bind (au fun v22 =>
 cond (!decide (a0.1=2)) (
 some v22.1) (
(catT v22.1 [32]).bind fun s23 =>
(zca a0.2.2.2.2.1.1).bind fun r24 =>
(catT s23 r24).bind fun s25 =>
(catT s25 [32]).bind fun s26 =>
(cond (decide (a0.2.2.2.2.1.1=3)) (
(zbe a0.2.2.2.2.1.2.2.2.1).bind fun r27 =>
(catT s26 r27).bind fun s28 =>
(catT s28 [32]).bind fun s29 =>
 some (.inl (s29,()))) (
 cond (!decide (a0.2.2.2.2.1.1=5)) (
(zco a0.2.2.2.2.1.2.2.1).bind fun r30 =>
(catT s26 r30).bind fun s31 =>
(catT s31 [32]).bind fun s32 =>
 some (.inl (s32,()))) (
 some (.inl (s26,())))):Option ((List UInt8×Unit)⊕List UInt8)).bind (au fun v33 =>
(zcd a0.2.2.2.2.1.2.1).bind fun r34 =>
(catT v33.1 r34).bind fun s35 =>
 some s35)))))))
def xu:TFn:={ ps:=(.cons tT10 .unit),res:=.str,fn:=fun v=>zcb v.1 }
def akg:TEnv:=(vZ [(9,vd),(23,ry),(38,uZ),(39,mr),(40,u5),(41,u9),(42,xe),(43,xq)])
theorem akf:runY Tryz.prog aeS akh akg ap3 Tryz.f12 xu.ps xu.res=xu.fn:=by kernel_rfl
theorem aeQ:aB Tryz.prog G0 12 aeR:=ah (ai ⟨aw,(ae xL (ae rz (ae xf (ae jk (ae xj (ae xw (ae aei (ae aeK ab)))))))),an,ab,am⟩ Tryz.func12 rfl (by kernel_rfl))
theorem ake:TOk aeR xu:=aA (E:=aeS) (ET:=akg) (EnvT.ofX (ax (ad adh (ad xD (ad ada (ad mQ (ad adb (ad ade (ad ajr (ad aj6 aj))))))))) ak ap aM ao) akf rfl
def afN:Env:=(eZ [] [114])
def alI:Hints:=(hZ [] [])
def afM:PFn:=aF (runF Tryz.prog afN alI Tryz.f15)
def aqt:TH:={ loops:=[],ro:=[1] }
def zbj (a0:vV3):Option vV3 :=
 some (a0.1,a0.2.1,a0.2.2.1,a0.2.2.2.1,a0.2.2.2.2.1,a0.2.2.2.2.2.1,())
def xU:TFn:={ ps:=(.cons tT10 .unit),res:=tT10,fn:=fun v=>zbj v.1 }
def alH:TEnv:=(vZ [])
theorem alG:runY Tryz.prog afN alI alH aqt Tryz.f15 xU.ps xU.res=xU.fn:=by kernel_rfl
theorem afL:aB Tryz.prog G0 15 afM:=ah (ai ⟨aw,ab,an,ab,am⟩ Tryz.func15 rfl (by kernel_rfl))
theorem alF:TOk afM xU:=aA (E:=afN) (ET:=alH) (EnvT.ofX (ax aj) ak ap aM ao) alG rfl
def aeo:Env:=(eZ [] [114])
def ajB:Hints:=(hZ [(4,[0,1,5])] [])
def aen:PFn:=aF (runF Tryz.prog aeo ajB Tryz.f78)
def apS:TH:={ loops:=[(4,{ keep:=[(5,(.int .i64))],mem:=[] })],ro:=[] }
def td (a0:List (List UInt8)) (a1:List (List UInt8)) (y4:(Int×Unit)):Option ((Int×Unit)⊕Bool) :=
 cond (decide (y4.1<(a0.length:Int))) (
(atI a0 y4.1).bind fun x1 =>
(atI a1 y4.1).bind fun x2 =>
 cond (!decide (x1=x2)) (
 some (.inr false)) (
 some (.inl ((IntKind.wrap .i64 (y4.1+1)),())))) (
 some (.inr true))
def zcm (a0:List (List UInt8)) (a1:List (List UInt8)):Option Bool :=
 cond (!decide ((a0.length:Int)=(a1.length:Int))) (
 some false) (
 aJ (td a0 a1) (0,()))
def xg:TFn:={ ps:=(.cons (.sl .str) (.cons (.sl .str) .unit)),res:=.bool,fn:=fun v=>zcm v.1 v.2.1 }
def ajA:TEnv:=(vZ [])
theorem ajz:runY Tryz.prog aeo ajB ajA apS Tryz.f78 xg.ps xg.res=xg.fn:=by kernel_rfl
theorem aem:aB Tryz.prog G0 78 aen:=ah (ai ⟨aw,ab,an,ab,am⟩ Tryz.func78 rfl (by kernel_rfl))
theorem ajy:TOk aen xg:=aA (E:=aeo) (ET:=ajA) (EnvT.ofX (ax aj) ak ap aM ao) ajz rfl
def aeP:Env:=(eZ [(78,aen)] [114])
def akd:Hints:=(hZ [(4,[2,3,5])] [])
def aeO:PFn:=aF (runF Tryz.prog aeP akd Tryz.f49)
def ap2:TH:={ loops:=[(4,{ keep:=[(2,(.bx 0 0)),(3,(.bx 1 0)),(5,(.int .i64))],mem:=[.same,.same] })],cuts:=[(1,[(12,{ keep:=[(2,(.bx 0 0)),(3,(.bx 1 0)),(17,.bool)],mem:=[.same,.same] }),(7,{ keep:=[(2,(.bx 0 0)),(3,(.bx 1 0)),(24,.bool)],mem:=[.same,.same] })])],ro:=[2,3],news:=[] }
def ti (a0:vV0) (a1:vV0) (y4:(Int×Unit)):Option ((Int×Unit)⊕Bool) :=
 cond (decide (y4.1<(a0.2.2.2.2.1.length:Int))) (
(atI a0.2.2.2.2.1 y4.1).bind fun x4 =>
(atI a1.2.2.2.2.1 y4.1).bind fun x5 =>
 cond (!(eqV (.agg (.cons tT13 tT15)) x4 x5)) (
 some (.inr false)) (
 some (.inl ((IntKind.wrap .i64 (y4.1+1)),())))) (
 some (.inr true))
def zcc (a0:vV0) (a1:vV0):Option Bool :=
(cond (!decide (a0.1=a1.1)) (some (true,())) (some ((!(eqV tT11 a0.2.2.1 a1.2.2.1)),())):Option (Bool×Unit)).bind fun v1 =>
(cond v1.1 (some (true,())) (some ((!decide (a0.2.2.2.1=a1.2.2.2.1)),())):Option (Bool×Unit)).bind fun v2 =>
 cond v2.1 (some false) ((zcm a0.2.1 a1.2.1).bind fun r3 =>
 cond (!r3) (some false) (cond (!decide ((a0.2.2.2.2.1.length:Int)=(a1.2.2.2.2.1.length:Int))) (
 some false) (
 aJ (ti a0 a1) (0,()))))
def xr:TFn:={ ps:=(.cons tT9 (.cons tT9 .unit)),res:=.bool,fn:=fun v=>zcc v.1 v.2.1 }
def akc:TEnv:=(vZ [(78,xg)])
theorem akb:runY Tryz.prog aeP akd akc ap2 Tryz.f49 xr.ps xr.res=xr.fn:=by kernel_rfl
theorem aeN:aB Tryz.prog G0 49 aeO:=ah (ai ⟨aw,(ae aem ab),an,ab,am⟩ Tryz.func49 rfl (by kernel_rfl))
theorem aka:TOk aeO xr:=aA (E:=aeP) (ET:=akc) (EnvT.ofX (ax (ad ajy aj)) ak ap aM ao) akb rfl
def aes:Env:=(eZ [(49,aeO)] [114])
def ajF:Hints:=(hZ [] [])
def aer:PFn:=aF (runF Tryz.prog aes ajF Tryz.f14)
def apT:TH:={ loops:=[],cuts:=[(1,[(12,{ keep:=[(2,(.bx 0 0)),(3,(.bx 1 0)),(16,.bool)],mem:=[.same,.same] }),(7,{ keep:=[(2,(.bx 0 0)),(3,(.bx 1 0)),(23,.bool)],mem:=[.same,.same] }),(7,{ keep:=[(2,(.bx 0 0)),(3,(.bx 1 0)),(30,.bool)],mem:=[.same,.same] })])],ro:=[2,3],news:=[] }
def zcl (a0:vV3) (a1:vV3):Option Bool :=
(cond (decide (a0.1=a1.1)) (some ((decide (a0.2.1=a1.2.1)),())) (some (false,())):Option (Bool×Unit)).bind fun v1 =>
(cond v1.1 (some ((decide (a0.2.2.1=a1.2.2.1)),())) (some (false,())):Option (Bool×Unit)).bind fun v2 =>
(cond v2.1 (some ((decide (a0.2.2.2.1=a1.2.2.2.1)),())) (some (false,())):Option (Bool×Unit)).bind fun v3 =>
 cond v3.1 (cond (eqV tT13 a0.2.2.2.2.2.1 a1.2.2.2.2.2.1) ((zcc a0.2.2.2.2.1 a1.2.2.2.2.1).bind fun r4 =>
 some r4) (some false)) (some false)
def xh:TFn:={ ps:=(.cons tT10 (.cons tT10 .unit)),res:=.bool,fn:=fun v=>zcl v.1 v.2.1 }
def ajE:TEnv:=(vZ [(49,xr)])
theorem ajD:runY Tryz.prog aes ajF ajE apT Tryz.f14 xh.ps xh.res=xh.fn:=by kernel_rfl
theorem aep:aB Tryz.prog G0 14 aer:=ah (ai ⟨aw,(ae aeN ab),an,ab,am⟩ Tryz.func14 rfl (by kernel_rfl))
theorem ajC:TOk aer xh:=aA (E:=aes) (ET:=ajE) (EnvT.ofX (ax (ad aka aj)) ak ap aM ao) ajD rfl
def agz:Env:=(eZ [] [114])
def amW:Hints:=(hZ [(2,[0,3])] [])
def vp:SFn:=runF Tryz.prog agz amW Tryz.f50
def aqP:TH:={ joins:=[(4,{ keep:=[(0,(.bx 0 0))],mem:=[.box 88 tT12] })],loops:=[(2,{ keep:=[(0,(.bx 0 0))],mem:=[.box 88 tT12] })],ro:=[] }
def mS (y2:(vV2×Unit)):Option ((vV2×Unit)⊕((vV2×Unit)⊕(List UInt8×vV2×Unit))) :=
 cond (decide (y2.1.2.1<(y2.1.1.length:Int))) ((atI y2.1.1 y2.1.2.1).bind fun b1 =>
 cond (!decide ((b1.toNat:Int)=32)) (
 some (.inl ((y2.1.1,(IntKind.wrap .i64 (y2.1.2.1+1)),y2.1.2.2.1,()),()))) (
 some (.inr (.inl (y2.1,()))))) (some (.inr (.inl (y2.1,()))))
def zav (w0:vV2):Option (List UInt8×vV2×Unit) :=
(aJ (mS) (w0,()):Option ((vV2×Unit)⊕(List UInt8×vV2×Unit))).bind (au fun v2 =>
(subI v2.1.1 w0.2.1 v2.1.2.1).bind fun s3 =>
 some (s3,v2.1,()))
def mw:TRaw:={ ps:=(.cons (.bx 0 0) .unit),ins:=[.box 88 tT12],res:=.str,outs:=[.box 88 tT12],fn:=fun v w=>zav w.1 }
def amV:TEnv:=(vZ [])
theorem amU:rawY Tryz.prog agz amW amV aqP [(0,0)] Tryz.f50 mw.ps mw.ins mw.res mw.outs=mw.fn:=by kernel_rfl
theorem oj:dp Tryz.prog G0 50 vp:=ai ⟨aw,ab,an,ab,am⟩ Tryz.func50 rfl (by kernel_rfl)
theorem tq:TRawOk vp mw:=eb (E:=agz) (ET:=amV) (EnvT.ofX (ax aj) ak ap aM ao) amU
def agA:Env:=(eZ [] [114])
def amZ:Hints:=(hZ [] [])
def vq:SFn:=runF Tryz.prog agA amZ Tryz.f52
def aqQ:TH:={ joins:=[(2,{ keep:=[(0,(.bx 0 0))],mem:=[.box 88 tT12] })],loops:=[],cuts:=[(0,[(19,{ keep:=[(0,(.bx 0 0)),(22,.bool)],mem:=[.box 88 tT12] })])],ro:=[],news:=[] }
def zau (a1:List UInt8) (w0:vV2):Option (Unit×vV2×Unit) :=
((cond w0.2.2.1 (some ((decide ((IntKind.wrap .i64 (w0.2.1+(a1.length:Int)))≤(w0.1.length:Int))),w0,())) (some (false,w0,())):Option (Bool×vV2×Unit)).bind fun v1 =>
 cond v1.1 ((subI v1.2.1.1 v1.2.1.2.1 (IntKind.wrap .i64 (v1.2.1.2.1+(a1.length:Int)))).bind fun s2 =>
 cond (decide (s2=a1)) (
 some (.inr ((),(v1.2.1.1,(IntKind.wrap .i64 (v1.2.1.2.1+(a1.length:Int))),v1.2.1.2.2.1,()),()))) (
 some (.inl (v1.2.1,())))) (some (.inl (v1.2.1,()))):Option ((vV2×Unit)⊕(Unit×vV2×Unit))).bind (au fun v3 =>
 some ((),(v3.1.1,v3.1.2.1,false,()),()))
def my:TRaw:={ ps:=(.cons (.bx 0 0) (.cons .str .unit)),ins:=[.box 88 tT12],res:=(.tup .unit),outs:=[.box 88 tT12],fn:=fun v w=>zau v.2.1 w.1 }
def amY:TEnv:=(vZ [])
theorem amX:rawY Tryz.prog agA amZ amY aqQ [(0,0)] Tryz.f52 my.ps my.ins my.res my.outs=my.fn:=by kernel_rfl
theorem ol:dp Tryz.prog G0 52 vq:=ai ⟨aw,ab,an,ab,am⟩ Tryz.func52 rfl (by kernel_rfl)
theorem tt:TRawOk vq my:=eb (E:=agA) (ET:=amY) (EnvT.ofX (ax aj) ak ap aM ao) amX
def agO:Env:={ pure:=[(39,pC)],raw:=[(50,vp),(52,vq)],glob:=G0,same:=[114],look:=[],ext:=[] }
def anq:Hints:=(hZ [(6,[0,3,4,5,6])] [])
def abS:SFn:=runF Tryz.prog agO anq Tryz.f51
def aqX:TH:={ joins:=[(13,{ keep:=[(0,(.bx 0 0)),(5,(.int .i64))],mem:=[.box 88 tT12] }),(9,{ keep:=[(0,(.bx 0 0))],mem:=[.box 88 tT12] }),(15,{ keep:=[(0,(.bx 0 0)),(5,(.int .i64))],mem:=[.box 88 tT12] })],loops:=[(6,{ keep:=[(0,(.bx 0 0)),(5,(.int .i64)),(6,(.int .i64))],mem:=[.box 88 tT12] })],cuts:=[(3,[(8,{ keep:=[(0,(.bx 0 0)),(18,.bool)],mem:=[.box 88 tT12] })])],ro:=[],news:=[] }
def eG (q2:(List UInt8×vV2×Unit)) (v4:(Bool×vV2×Unit)) (y6:(Int×Int×vV2×Unit)):Option ((Int×Int×vV2×Unit)⊕((Int×vV2×Unit)⊕(Int×vV2×Unit))) :=
 cond (decide (y6.2.1<(q2.1.length:Int))) (
(cond (decide (y6.2.1=0)) (cond v4.1 (
 some (.inr (.inl (y6.1,(IntKind.wrap .i64 (y6.2.1+1)),y6.2.2.1,())))) (
 some (.inl (y6.2.2.1,())))) (some (.inl (y6.2.2.1,()))):Option ((vV2×Unit)⊕((Int×Int×vV2×Unit)⊕((Int×vV2×Unit)⊕(Int×vV2×Unit))))).bind (au fun v5 =>
(atI q2.1 y6.2.1).bind fun b6 =>
 cond (decide ((b6.toNat:Int)<48)) (some (.inr (.inr (0,(v5.1.1,v5.1.2.1,false,()),())))) ((atI q2.1 y6.2.1).bind fun b7 =>
 cond (decide ((b7.toNat:Int)>57)) (some (.inr (.inr (0,(v5.1.1,v5.1.2.1,false,()),())))) (cond (decide (y6.1>1000000000)) (
 some (.inr (.inr (0,(v5.1.1,v5.1.2.1,false,()),())))) (
(atI q2.1 y6.2.1).bind fun b8 =>
 some (.inl ((IntKind.wrap .i64 ((IntKind.wrap .i64 ((IntKind.wrap .i64 (10*y6.1))+(IntKind.wrap .i64 (b8.toNat:Int))))-48)),(IntKind.wrap .i64 (y6.2.1+1)),v5.1,()))))))) (
 some (.inr (.inl (y6.1,y6.2.2.1,()))))
def zan (w0:vV2):Option (Int×vV2×Unit) :=
(zau [32] w0).bind fun q1 =>
(zav q1.2.1).bind fun q2 =>
(cond (decide ((q2.1.length:Int)>0)) ((atI q2.1 0).bind fun b3 =>
 some ((decide ((b3.toNat:Int)=45)),q2.2.1,())) (some (false,q2.2.1,())):Option (Bool×vV2×Unit)).bind fun v4 =>
(aJ (eG q2 v4) (0,0,v4.2.1,()):Option ((Int×vV2×Unit)⊕(Int×vV2×Unit))).bind (au fun v9 =>
(cond v4.1 (
 some (.inl ((IntKind.wrap .i64 (0-v9.1)),v9.2.1,()))) (
 some (.inl (v9.1,v9.2.1,()))):Option ((Int×vV2×Unit)⊕(Int×vV2×Unit))).bind (au fun v10 =>
 cond v10.2.1.2.2.1 ((zbe v10.1).bind fun r11 =>
 some (v10.1,(v10.2.1.1,v10.2.1.2.1,(decide (r11=q2.1)),()),())) (some (v10.1,(v10.2.1.1,v10.2.1.2.1,false,()),()))))
def pD:TRaw:={ ps:=(.cons (.bx 0 0) .unit),ins:=[.box 88 tT12],res:=(.int .i64),outs:=[.box 88 tT12],fn:=fun v w=>zan w.1 }
def anp:TEnv:={ pure:=[(39,mr)],look:=[],glob:=G0T,ty:=[],raw:=[(50,mw),(52,my)],fresh:=[] }
theorem ano:rawY Tryz.prog agO anq anp aqX [(0,0)] Tryz.f51 pD.ps pD.ins pD.res pD.outs=pD.fn:=by kernel_rfl
theorem yz:dp Tryz.prog G0 51 abS:=ai ⟨aw,(ae jk ab),(aU oj (aU ol an)),ab,am⟩ Tryz.func51 rfl (by kernel_rfl)
theorem adr:TRawOk abS pD:=eb (E:=agO) (ET:=anp) (EnvT.ofX (ax (ad mQ aj)) ak (aT tq rfl rfl (aT tt rfl rfl ap)) aM ao) ano
def agm:Env:=(eZ [(24,yl),(39,pC),(40,aby)] [114])
def amD:Hints:=(hZ [(2,[0,2,4]),(8,[0,2,4,6,7])] [])
def agl:PFn:=aF (runF Tryz.prog agm amD Tryz.f53)
def aqK:TH:={ joins:=[(13,{ keep:=[(2,(.bx 0 0)),(6,(.int .i64))],mem:=[.box 29 tT13] })],loops:=[(2,{ keep:=[(2,(.bx 0 0)),(4,(.int .i64))],mem:=[.box 29 tT13] }),(8,{ keep:=[(2,(.bx 0 0)),(6,(.int .i64)),(7,(.int .i64))],mem:=[.box 29 tT13] })],ro:=[] }
def kA (a0:List UInt8) (y8:(Int×Int×(Int×Int×Unit)×Unit)):Option ((Int×Int×(Int×Int×Unit)×Unit)⊕((Int×(Int×Int×Unit)×Unit)⊕((Int×(Int×Int×Unit)×Unit)⊕((Int×Int×Unit)×Bool×Unit)))) :=
 cond (decide (y8.2.1<(a0.length:Int))) (
(atI a0 y8.2.1).bind fun b4 =>
(atI a0 y8.2.1).bind fun b5 =>
 cond (decide ((b5.toNat:Int)<48)) (some (.inr (.inr (.inr ((0,0,()),false,()))))) ((atI a0 y8.2.1).bind fun b6 =>
 cond (decide ((b6.toNat:Int)>57)) (
 some (.inr (.inr (.inr ((0,0,()),false,()))))) (
 some (.inl ((IntKind.wrap .i64 ((IntKind.wrap .i64 ((IntKind.wrap .i64 (10*y8.1))+(IntKind.wrap .i64 (b4.toNat:Int))))-48)),(IntKind.wrap .i64 (y8.2.1+1)),y8.2.2.1,()))))) (
 some (.inr (.inl (y8.1,y8.2.2.1,()))))
def gP (a0:List UInt8) (y2:(Int×(Int×Int×Unit)×Unit)):Option ((Int×(Int×Int×Unit)×Unit)⊕((Int×Int×Unit)×Bool×Unit)) :=
 cond (decide (y2.1<16)) (
(zbe y2.1).bind fun r1 =>
(catT r1 [46]).bind fun s2 =>
 cond (decide ((a0.length:Int)≤(s2.length:Int))) (some (.inl ((IntKind.wrap .i64 (y2.1+1)),y2.2.1,()))) (cond (decide ((a0.length:Int)>(IntKind.wrap .i64 ((s2.length:Int)+7)))) (some (.inl ((IntKind.wrap .i64 (y2.1+1)),y2.2.1,()))) ((subI a0 0 (s2.length:Int)).bind fun s3 =>
 cond (!decide (s3=s2)) (
 some (.inl ((IntKind.wrap .i64 (y2.1+1)),y2.2.1,()))) (
(aJ (kA a0) (0,(s2.length:Int),y2.2.1,()):Option ((Int×(Int×Int×Unit)×Unit)⊕((Int×(Int×Int×Unit)×Unit)⊕((Int×Int×Unit)×Bool×Unit)))).bind (au fun v7 =>
(zb3 (y2.1,v7.1,())).bind fun r8 =>
 cond r8 ((zcj (y2.1,v7.1,())).bind fun r9 =>
 some (.inr ((y2.1,v7.1,()),(decide (r9=a0)),()))) (some (.inr ((y2.1,v7.1,()),false,())))))))) (
 some (.inr ((0,0,()),false,())))
def zb0 (a0:List UInt8):Option ((Int×Int×Unit)×Bool×Unit) :=
 aJ (gP a0) (0,(0,0,()),())
def yp:TFn:={ ps:=(.cons .str .unit),res:=(.tup (.cons tT13 (.cons .bool .unit))),fn:=fun v=>zb0 v.1 }
def amC:TEnv:=(vZ [(24,rF),(39,mr),(40,u5)])
theorem amB:runY Tryz.prog agm amD amC aqK Tryz.f53 yp.ps yp.res=yp.fn:=by kernel_rfl
theorem agk:aB Tryz.prog G0 53 agl:=ah (ai ⟨aw,(ae rG (ae jk (ae xj ab))),an,ab,am⟩ Tryz.func53 rfl (by kernel_rfl))
theorem amA:TOk agl yp:=aA (E:=agm) (ET:=amC) (EnvT.ofX (ax (ad yk (ad mQ (ad adb aj)))) ak ap aM ao) amB rfl
def afZ:Env:=(eZ [(39,pC)] [114])
def al3:Hints:=(hZ [(9,[0,4,6,7])] [])
def afY:PFn:=aF (runF Tryz.prog afZ al3 Tryz.f140)
def aqA:TH:={ joins:=[(5,{ keep:=[(5,(.int .i64))],mem:=[] }),(14,{ keep:=[(6,(.int .i64))],mem:=[] }),(16,{ keep:=[(6,(.int .i64))],mem:=[] })],loops:=[(9,{ keep:=[(6,(.int .i64)),(7,(.int .i64))],mem:=[] })],cuts:=[(1,[(8,{ keep:=[(15,.bool)],mem:=[] })])],ro:=[],news:=[] }
def mR (a0:List UInt8) (y9:(Int×Int×Unit)):Option ((Int×Int×Unit)⊕((Int×Unit)⊕(Int×Bool×Unit))) :=
 cond (decide (y9.2.1<(a0.length:Int))) (
(atI a0 y9.2.1).bind fun b4 =>
 cond (decide ((b4.toNat:Int)<48)) (some (.inr (.inr (0,false,())))) ((atI a0 y9.2.1).bind fun b5 =>
 cond (decide ((b5.toNat:Int)>57)) (
 some (.inr (.inr (0,false,())))) (
(atI a0 y9.2.1).bind fun b6 =>
 some (.inl ((IntKind.wrap .i64 ((IntKind.wrap .i64 ((IntKind.wrap .i64 (10*y9.1))+(IntKind.wrap .i64 (b6.toNat:Int))))-48)),(IntKind.wrap .i64 (y9.2.1+1)),()))))) (
 some (.inr (.inl (y9.1,()))))
def zba (a0:List UInt8):Option (Int×Bool×Unit) :=
(cond (decide ((a0.length:Int)>0)) ((atI a0 0).bind fun b1 =>
 some ((decide ((b1.toNat:Int)=45)),())) (some (false,())):Option (Bool×Unit)).bind fun v2 =>
(cond v2.1 (
 some (.inl (1,()))) (
 some (.inl (0,()))):Option ((Int×Unit)⊕(Int×Bool×Unit))).bind (au fun v3 =>
 cond (decide ((a0.length:Int)=v3.1)) (some (0,false,())) (cond (decide ((a0.length:Int)>(IntKind.wrap .i64 (v3.1+10)))) (
 some (0,false,())) (
(aJ (mR a0) (0,v3.1,()):Option ((Int×Unit)⊕(Int×Bool×Unit))).bind (au fun v7 =>
(cond v2.1 (
 some (.inl ((IntKind.wrap .i64 (0-v7.1)),()))) (
 some (.inl (v7.1,()))):Option ((Int×Unit)⊕(Int×Bool×Unit))).bind (au fun v8 =>
(zbe v8.1).bind fun r9 =>
 some (v8.1,(decide (r9=a0)),()))))))
def yd:TFn:={ ps:=(.cons .str .unit),res:=(.tup (.cons (.int .i64) (.cons .bool .unit))),fn:=fun v=>zba v.1 }
def al2:TEnv:=(vZ [(39,mr)])
theorem al1:runY Tryz.prog afZ al3 al2 aqA Tryz.f140 yd.ps yd.res=yd.fn:=by kernel_rfl
theorem afX:aB Tryz.prog G0 140 afY:=ah (ai ⟨aw,(ae jk ab),an,ab,am⟩ Tryz.func140 rfl (by kernel_rfl))
theorem al0:TOk afY yd:=aA (E:=afZ) (ET:=al2) (EnvT.ofX (ax (ad mQ aj)) ak ap aM ao) al1 rfl
def afC:Env:=(eZ [(60,abO),(140,afY)] [114])
def alw:Hints:=(hZ [(13,[0,2,7,8])] [])
def afB:PFn:=aF (runF Tryz.prog afC alw Tryz.f110)
def aqo:TH:={ joins:=[(6,{ keep:=[(2,(.bx 0 0)),(23,.bool)],mem:=[.box 24 tT11] }),(20,{ keep:=[(2,(.bx 0 0)),(7,.str),(8,(.int .i64))],mem:=[.box 24 tT11] }),(18,{ keep:=[(2,(.bx 0 0)),(8,(.int .i64))],mem:=[.box 24 tT11] })],loops:=[(13,{ keep:=[(2,(.bx 0 0)),(7,.str),(8,(.int .i64))],mem:=[.box 24 tT11] })],ro:=[] }
def fa (a0:List UInt8) (y13:(List UInt8×Int×vV4×Unit)):Option ((List UInt8×Int×vV4×Unit)⊕((List UInt8×Int×vV4×Unit)⊕(vV4×Bool×Unit))) :=
 cond (decide (y13.2.1<(a0.length:Int))) ((atI a0 y13.2.1).bind fun b5 =>
 cond (!decide ((b5.toNat:Int)=34)) (
((atI a0 y13.2.1).bind fun b6 =>
 cond (decide ((b6.toNat:Int)=92)) (
 cond (decide ((IntKind.wrap .i64 (y13.2.1+1))=(a0.length:Int))) (some (.inr (.inr (.inr ((0,0,[],()),false,()))))) ((atI a0 (IntKind.wrap .i64 (y13.2.1+1))).bind fun b7 =>
 cond (!decide ((b7.toNat:Int)=34)) ((atI a0 (IntKind.wrap .i64 (y13.2.1+1))).bind fun b8 =>
 cond (!decide ((b8.toNat:Int)=92)) (
 some (.inr (.inr (.inr ((0,0,[],()),false,()))))) (
 some (.inl ((IntKind.wrap .i64 (y13.2.1+1)),y13.2.2.1,())))) (some (.inl ((IntKind.wrap .i64 (y13.2.1+1)),y13.2.2.1,()))))) (
 some (.inl (y13.2.1,y13.2.2.1,()))):Option ((Int×vV4×Unit)⊕((List UInt8×Int×vV4×Unit)⊕((List UInt8×Int×vV4×Unit)⊕(vV4×Bool×Unit))))).bind (au fun v9 =>
(subI a0 v9.1 (IntKind.wrap .i64 (v9.1+1))).bind fun s10 =>
(catT y13.1 s10).bind fun s11 =>
 some (.inl (s11,(IntKind.wrap .i64 (v9.1+1)),v9.2.1,())))) (
 some (.inr (.inl (y13.1,y13.2.1,y13.2.2.1,()))))) (some (.inr (.inl (y13.1,y13.2.1,y13.2.2.1,()))))
def zbn (a0:List UInt8):Option (vV4×Bool×Unit) :=
 cond (decide (a0=[116,114,117,101])) (
 some ((3,1,[],()),true,())) (
 cond (decide (a0=[102,97,108,115,101])) (
 some ((3,0,[],()),true,())) (
(cond (decide ((a0.length:Int)=0)) (some (.inl (true,(0,0,[],()),()))) ((atI a0 0).bind fun b1 =>
 some (.inl ((!decide ((b1.toNat:Int)=34)),(0,0,[],()),()))):Option ((Bool×vV4×Unit)⊕(vV4×Bool×Unit))).bind (au fun v2 =>
 cond v2.1 (
(zba a0).bind fun r3 =>
 cond (!r3.2.1) (some ((0,0,[],()),false,())) ((zb2 (1,r3.1,[],())).bind fun r4 =>
 cond (!r4) (
 some ((0,0,[],()),false,())) (
 some ((1,r3.1,[],()),true,())))) (
(aJ (fa a0) ([],1,v2.2.1,()):Option ((List UInt8×Int×vV4×Unit)⊕(vV4×Bool×Unit))).bind (au fun v12 =>
 cond (!decide (v12.2.1=(IntKind.wrap .i64 ((a0.length:Int)-1)))) (some ((0,0,[],()),false,())) ((zb2 (2,0,v12.1,())).bind fun r13 =>
 cond (!r13) (
 some ((0,0,[],()),false,())) (
 some ((2,0,v12.1,()),true,()))))))))
def xR:TFn:={ ps:=(.cons .str .unit),res:=(.tup (.cons tT11 (.cons .bool .unit))),fn:=fun v=>zbn v.1 }
def alv:TEnv:=(vZ [(60,vo),(140,yd)])
theorem alu:runY Tryz.prog afC alw alv aqo Tryz.f110 xR.ps xR.res=xR.fn:=by kernel_rfl
theorem afA:aB Tryz.prog G0 110 afB:=ah (ai ⟨aw,(ae ym (ae afX ab)),an,ab,am⟩ Tryz.func110 rfl (by kernel_rfl))
theorem alt:TOk afB xR:=aA (E:=afC) (ET:=alv) (EnvT.ofX (ax (ad adp (ad al0 aj))) ak ap aM ao) alu rfl
def agJ:Env:={ pure:=[(110,afB)],raw:=[(50,vp),(52,vq)],glob:=G0,same:=[114],look:=[],ext:=[] }
def anf:Hints:=(hZ [(8,[0,2,5])] [])
def agI:SFn:=runF Tryz.prog agJ anf Tryz.f79
def aqU:TH:={ joins:=[(3,{ keep:=[(0,(.bx 0 0)),(2,(.bx 1 0)),(38,.bool)],mem:=[.box 88 tT12,.box 24 tT11] }),(12,{ keep:=[(0,(.bx 0 0)),(2,(.bx 1 0))],mem:=[.box 88 tT12,.box 24 tT11] }),(11,{ keep:=[(0,(.bx 0 0)),(2,(.bx 1 0))],mem:=[.box 88 tT12,.box 24 tT11] })],loops:=[(8,{ keep:=[(0,(.bx 0 0)),(2,(.bx 1 0))],mem:=[.box 88 tT12,.box 24 tT11] })],ro:=[] }
def kC (y8:(vV2×vV4×Unit)):Option ((vV2×vV4×Unit)⊕((vV2×vV4×Unit)⊕(vV4×vV2×Unit))) :=
 cond (decide (y8.1.2.1<(y8.1.1.length:Int))) ((atI y8.1.1 y8.1.2.1).bind fun b6 =>
 cond (!decide ((b6.toNat:Int)=34)) (
((atI y8.1.1 y8.1.2.1).bind fun b7 =>
 cond (decide ((b7.toNat:Int)=92)) (
 some (.inl ((y8.1.1,(IntKind.wrap .i64 (y8.1.2.1+1)),y8.1.2.2.1,()),y8.2.1,()))) (
 some (.inl (y8.1,y8.2.1,()))):Option ((vV2×vV4×Unit)⊕((vV2×vV4×Unit)⊕((vV2×vV4×Unit)⊕(vV4×vV2×Unit))))).bind (au fun v8 =>
 some (.inl ((v8.1.1,(IntKind.wrap .i64 (v8.1.2.1+1)),v8.1.2.2.1,()),v8.2.1,())))) (
 some (.inr (.inl (y8.1,y8.2.1,()))))) (some (.inr (.inl (y8.1,y8.2.1,()))))
def zaq (w0:vV2):Option (vV4×vV2×Unit) :=
(zau [32] w0).bind fun q1 =>
(cond (!q1.2.1.2.2.1) (some (.inl (true,q1.2.1,(0,0,[],()),()))) (cond (decide (q1.2.1.2.1≥(q1.2.1.1.length:Int))) (some (.inl (true,q1.2.1,(0,0,[],()),()))) ((atI q1.2.1.1 q1.2.1.2.1).bind fun b2 =>
 some (.inl ((!decide ((b2.toNat:Int)=34)),q1.2.1,(0,0,[],()),())))):Option ((Bool×vV2×vV4×Unit)⊕(vV4×vV2×Unit))).bind (au fun v3 =>
 cond v3.1 (
(zav v3.2.1).bind fun q4 =>
(zbn q4.1).bind fun r5 =>
 cond q4.2.1.2.2.1 (some (r5.1,(q4.2.1.1,q4.2.1.2.1,r5.2.1,()),())) (some (r5.1,(q4.2.1.1,q4.2.1.2.1,false,()),()))) (
(aJ (kC) ((v3.2.1.1,(IntKind.wrap .i64 (v3.2.1.2.1+1)),v3.2.1.2.2.1,()),v3.2.2.1,()):Option ((vV2×vV4×Unit)⊕(vV4×vV2×Unit))).bind (au fun v9 =>
 cond (decide (v9.1.2.1≥(v9.1.1.length:Int))) (
 some ((0,0,[],()),(v9.1.1,v9.1.2.1,false,()),())) (
(subI v9.1.1 v3.2.1.2.1 (IntKind.wrap .i64 (v9.1.2.1+1))).bind fun s10 =>
(zbn s10).bind fun r11 =>
 cond v9.1.2.2.1 (some (r11.1,(v9.1.1,(IntKind.wrap .i64 (v9.1.2.1+1)),r11.2.1,()),())) (some (r11.1,(v9.1.1,(IntKind.wrap .i64 (v9.1.2.1+1)),false,()),()))))))
def rI:TRaw:={ ps:=(.cons (.bx 0 0) .unit),ins:=[.box 88 tT12],res:=tT11,outs:=[.box 88 tT12],fn:=fun v w=>zaq w.1 }
def ane:TEnv:={ pure:=[(110,xR)],look:=[],glob:=G0T,ty:=[],raw:=[(50,mw),(52,my)],fresh:=[] }
theorem anc:rawY Tryz.prog agJ anf ane aqU [(0,0)] Tryz.f79 rI.ps rI.ins rI.res rI.outs=rI.fn:=by kernel_rfl
theorem agH:dp Tryz.prog G0 79 agI:=ai ⟨aw,(ae afA ab),(aU oj (aU ol an)),ab,am⟩ Tryz.func79 rfl (by kernel_rfl)
theorem anb:TRawOk agI rI:=eb (E:=agJ) (ET:=ane) (EnvT.ofX (ax (ad alt aj)) ak (aT tq rfl rfl (aT tt rfl rfl ap)) aM ao) anc
def afg:Env:=(eZ [] [114])
def akS:Hints:=(hZ [(4,[0,4,5,6])] [])
def aff:PFn:=aF (runF Tryz.prog afg akS Tryz.f111)
def aqd:TH:={ joins:=[(14,{ keep:=[(4,(.own 0)),(5,.str)],mem:=[.row true 9 .str] }),(13,{ keep:=[(4,(.own 0)),(6,(.int .i64))],mem:=[.row true 9 .str] })],loops:=[(4,{ keep:=[(4,(.own 0)),(5,.str),(6,(.int .i64))],mem:=[.row true 9 .str] })],ro:=[] }
def dI (a0:List UInt8) (y4:(List UInt8×Int×List (List UInt8)×Unit)):Option ((List UInt8×Int×List (List UInt8)×Unit)⊕((List UInt8×List (List UInt8)×Unit)⊕(List (List UInt8)×Bool×Unit))) :=
 cond (decide (y4.2.1<(a0.length:Int))) (
(atI a0 y4.2.1).bind fun b1 =>
 cond (decide ((b1.toNat:Int)=47)) (
(eT (y4.2.2.1.length+([y4.1]:List (List UInt8)).length)).bind fun u2 =>
 some (.inl ([],(IntKind.wrap .i64 (y4.2.1+1)),(y4.2.2.1++([y4.1]:List (List UInt8))),()))) (
((atI a0 y4.2.1).bind fun b3 =>
 cond (decide ((b3.toNat:Int)=92)) (
 cond (decide ((IntKind.wrap .i64 (y4.2.1+1))=(a0.length:Int))) (some (.inr (.inr (.inr ([],false,()))))) ((atI a0 (IntKind.wrap .i64 (y4.2.1+1))).bind fun b4 =>
 cond (!decide ((b4.toNat:Int)=47)) ((atI a0 (IntKind.wrap .i64 (y4.2.1+1))).bind fun b5 =>
 cond (!decide ((b5.toNat:Int)=92)) (
 some (.inr (.inr (.inr ([],false,()))))) (
 some (.inl ((IntKind.wrap .i64 (y4.2.1+1)),y4.2.2.1,())))) (some (.inl ((IntKind.wrap .i64 (y4.2.1+1)),y4.2.2.1,()))))) (
 some (.inl (y4.2.1,y4.2.2.1,()))):Option ((Int×List (List UInt8)×Unit)⊕((List UInt8×Int×List (List UInt8)×Unit)⊕((List UInt8×List (List UInt8)×Unit)⊕(List (List UInt8)×Bool×Unit))))).bind (au fun v6 =>
(subI a0 v6.1 (IntKind.wrap .i64 (v6.1+1))).bind fun s7 =>
(catT y4.1 s7).bind fun s8 =>
 some (.inl (s8,(IntKind.wrap .i64 (v6.1+1)),v6.2.1,()))))) (
 some (.inr (.inl (y4.1,y4.2.2.1,()))))
def zby (a0:List UInt8):Option (List (List UInt8)×Bool×Unit) :=
(aJ (dI a0) ([],0,[],()):Option ((List UInt8×List (List UInt8)×Unit)⊕(List (List UInt8)×Bool×Unit))).bind (au fun v9 =>
(eT (v9.2.1.length+([v9.1]:List (List UInt8)).length)).bind fun u10 =>
 some ((v9.2.1++([v9.1]:List (List UInt8))),true,()))
def xG:TFn:={ ps:=(.cons .str .unit),res:=(.tup (.cons (.sl .str) (.cons .bool .unit))),fn:=fun v=>zby v.1 }
def akR:TEnv:={ pure:=[],look:=[],glob:=G0T,ty:=[(9,.str)],raw:=[],fresh:=[] }
theorem akQ:runY Tryz.prog afg akS akR aqd Tryz.f111 xG.ps xG.res=xG.fn:=by kernel_rfl
theorem afe:aB Tryz.prog G0 111 aff:=ah (ai ⟨aw,ab,an,ab,am⟩ Tryz.func111 rfl (by kernel_rfl))
theorem akP:TOk aff xG:=aA (E:=afg) (ET:=akR) (EnvT.ofX (ax aj) ak ap aM ao) akQ rfl
def afj:Env:=(eZ [(59,abN),(111,aff)] [114])
def akW:Hints:=(hZ [] [])
def afi:PFn:=aF (runF Tryz.prog afj akW Tryz.f80)
def aqe:TH:=yZ
def zbx (a0:List UInt8):Option (List (List UInt8)×Int×Unit) :=
 cond (decide (a0=[])) (
 some ([],8,())) (
(zby a0).bind fun r1 =>
 cond (!r1.2.1) (
 some ([],8,())) (
(zb4 r1.1).bind fun r2 =>
 cond (!decide (r2=0)) (
 some ([],r2,())) (
 some (r1.1,0,()))))
def xH:TFn:={ ps:=(.cons .str .unit),res:=(.tup (.cons (.sl .str) tT15)),fn:=fun v=>zbx v.1 }
def akV:TEnv:=(vZ [(59,vm),(111,xG)])
theorem akU:runY Tryz.prog afj akW akV aqe Tryz.f80 xH.ps xH.res=xH.fn:=by kernel_rfl
theorem afh:aB Tryz.prog G0 80 afi:=ah (ai ⟨aw,(ae yj (ae afe ab)),an,ab,am⟩ Tryz.func80 rfl (by kernel_rfl))
theorem akT:TOk afi xH:=aA (E:=afj) (ET:=akV) (EnvT.ofX (ax (ad ado (ad akP aj))) ak ap aM ao) akU rfl
def agp:Env:={ pure:=[(41,abA),(80,afi)],raw:=[(50,vp),(51,abS),(52,vq),(79,agI)],glob:=G0,same:=[114],look:=[],ext:=[] }
def amH:Hints:=(hZ [(5,[0,2,3,4,5])] [])
def ago:SFn:=runF Tryz.prog agp amH Tryz.f54
def aqL:TH:={ joins:=[(9,{ keep:=[(0,(.bx 0 0)),(2,(.bx 1 0)),(3,(.bx 2 0))],mem:=[.box 88 tT12,.box 27 tT14,.box 27 tT14] }),(13,{ keep:=[(0,(.bx 0 0)),(2,(.bx 1 0)),(3,(.bx 2 0))],mem:=[.box 88 tT12,.box 27 tT14,.box 27 tT14] })],loops:=[(5,{ keep:=[(0,(.bx 0 0)),(2,(.bx 1 0)),(3,(.bx 2 0)),(5,(.int .i64))],mem:=[.box 88 tT12,.box 27 tT14,.box 27 tT14] })],ro:=[] }
def kB (q2:(List UInt8×vV2×Unit)) (y5:(Int×vV2×vV5×vV5×Unit)):Option ((Int×vV2×vV5×vV5×Unit)⊕((vV2×vV5×vV5×Unit)⊕(vV0×vV2×Unit))) :=
 cond (decide (y5.1≤5)) (
(zca y5.1).bind fun r3 =>
 cond (decide (r3=q2.1)) (
 some (.inl ((IntKind.wrap .i64 (y5.1+1)),y5.2.1,y5.2.2.1,(y5.1,y5.2.2.2.1.2.1,y5.2.2.2.1.2.2.1,y5.2.2.2.1.2.2.2.1,y5.2.2.2.1.2.2.2.2.1,()),()))) (
 some (.inl ((IntKind.wrap .i64 (y5.1+1)),y5.2.1,y5.2.2.1,y5.2.2.2.1,())))) (
 some (.inr (.inl (y5.2.1,y5.2.2.1,y5.2.2.2.1,()))))
def zaz (w0:vV2):Option (vV0×vV2×Unit) :=
(zau [32] w0).bind fun q1 =>
(zav q1.2.1).bind fun q2 =>
(aJ (kB q2) (1,q2.2.1,(0,(),(0,0,[],()),0,(),()),(0,(),(0,0,[],()),0,(),()),()):Option ((vV2×vV5×vV5×Unit)⊕(vV0×vV2×Unit))).bind (au fun v4 =>
(cond (decide (v4.2.2.1.1=3)) (
(zan v4.1).bind fun q5 =>
 some (.inl (q5.2.1,v4.2.1,(v4.2.2.1.1,v4.2.2.1.2.1,v4.2.2.1.2.2.1,q5.1,v4.2.2.1.2.2.2.2.1,()),()))) (
 cond (!decide (v4.2.2.1.1=5)) (
(zaq v4.1).bind fun q6 =>
 some (.inl (q6.2.1,v4.2.1,(v4.2.2.1.1,v4.2.2.1.2.1,q6.1,v4.2.2.1.2.2.2.1,v4.2.2.1.2.2.2.2.1,()),()))) (
 some (.inl (v4.1,v4.2.1,v4.2.2.1,())))):Option ((vV2×vV5×vV5×Unit)⊕(vV0×vV2×Unit))).bind (au fun v7 =>
(zau [32] v7.1).bind fun q8 =>
 cond (!q8.2.1.2.2.1) (
 some ((0,[],(0,0,[],()),0,[],()),q8.2.1,())) (
(subI q8.2.1.1 q8.2.1.2.1 (q8.2.1.1.length:Int)).bind fun s9 =>
(zbx s9).bind fun r10 =>
 some ((v7.2.2.1.1,r10.1,v7.2.2.1.2.2.1,v7.2.2.1.2.2.2.1,[],()),(q8.2.1.1,(q8.2.1.1.length:Int),(decide (r10.2.1=0)),()),()))))
def rH:TRaw:={ ps:=(.cons (.bx 0 0) .unit),ins:=[.box 88 tT12],res:=tT9,outs:=[.box 88 tT12],fn:=fun v w=>zaz w.1 }
def amG:TEnv:={ pure:=[(41,u9),(80,xH)],look:=[],glob:=G0T,ty:=[],raw:=[(50,mw),(51,pD),(52,my),(79,rI)],fresh:=[] }
theorem amF:rawY Tryz.prog agp amH amG aqL [(0,0)] Tryz.f54 rH.ps rH.ins rH.res rH.outs=rH.fn:=by kernel_rfl
theorem agn:dp Tryz.prog G0 54 ago:=ai ⟨aw,(ae xw (ae afh ab)),(aU oj (aU yz (aU ol (aU agH an)))),ab,am⟩ Tryz.func54 rfl (by kernel_rfl)
theorem amE:TRawOk ago rH:=eb (E:=agp) (ET:=amG) (EnvT.ofX (ax (ad ade (ad akT aj))) ak (aT tq rfl rfl (aT adr rfl rfl (aT tt rfl rfl (aT anb rfl rfl ap)))) aM ao) amF
def afs:Env:={ pure:=[(9,abF),(12,aeR),(23,xE),(38,abx),(53,agl)],raw:=[(50,vp),(51,abS),(52,vq),(54,ago)],glob:=G0,same:=[114],look:=[],ext:=[] }
def alb:Hints:=(hZ [(5,[0,2,4,5,6,7])] [])
def afr:PFn:=aF (runF Tryz.prog afs alb Tryz.f16)
def aqi:TH:={ joins:=[(9,{ keep:=[(2,(.bx 0 0)),(4,(.bx 1 0)),(5,(.bx 2 0))],mem:=[.box 31 tT8,.box 88 tT12,.box 31 tT8] }),(13,{ keep:=[(2,(.bx 0 0)),(4,(.bx 1 0)),(5,(.bx 2 0))],mem:=[.box 31 tT8,.box 88 tT12,.box 31 tT8] }),(15,{ keep:=[(2,(.bx 0 0)),(4,(.bx 1 0)),(5,(.bx 2 0))],mem:=[.box 31 tT8,.box 88 tT12,.box 31 tT8] }),(17,{ keep:=[(2,(.bx 0 0)),(4,(.bx 1 0)),(5,(.bx 2 0))],mem:=[.box 31 tT8,.box 88 tT12,.box 31 tT8] }),(22,{ keep:=[(2,(.bx 0 0)),(4,(.bx 1 0)),(5,(.bx 2 0))],mem:=[.box 31 tT8,.box 88 tT12,.box 31 tT8] }),(24,{ keep:=[(2,(.bx 0 0)),(4,(.bx 1 0)),(5,(.bx 2 0))],mem:=[.box 31 tT8,.box 88 tT12,.box 31 tT10] })],loops:=[(5,{ keep:=[(2,(.bx 0 0)),(4,(.bx 1 0)),(5,(.bx 2 0)),(7,(.int .i64))],mem:=[.box 31 tT8,.box 88 tT12,.box 31 tT8] })],cuts:=[(21,[(8,{ keep:=[(2,(.bx 0 0)),(4,(.bx 1 0)),(5,(.bx 2 0)),(61,(.bx 1 0)),(68,.bool)],mem:=[.box 31 tT8,.box 88 tT12,.box 31 tT8,.gone] })])],ro:=[],news:=[] }
def iu (q1:(List UInt8×vV2×Unit)) (y5:(Int×vV1×vV2×vV1×Unit)):Option ((Int×vV1×vV2×vV1×Unit)⊕((vV1×vV2×vV1×Unit)⊕(vV3×Bool×Unit))) :=
 cond (decide (y5.1≤19)) (
(zcn y5.1).bind fun r2 =>
 cond (decide (r2=q1.1)) (
 some (.inl ((IntKind.wrap .i64 (y5.1+1)),y5.2.1,y5.2.2.1,(y5.1,y5.2.2.2.1.2.1,y5.2.2.2.1.2.2.1,y5.2.2.2.1.2.2.2.1,y5.2.2.2.1.2.2.2.2.1,y5.2.2.2.1.2.2.2.2.2.1,()),()))) (
 some (.inl ((IntKind.wrap .i64 (y5.1+1)),y5.2.1,y5.2.2.1,y5.2.2.2.1,())))) (
 some (.inr (.inl (y5.2.1,y5.2.2.1,y5.2.2.2.1,()))))
def zbt (a0:List UInt8):Option (vV3×Bool×Unit) :=
(zav (a0,0,true,())).bind fun q1 =>
(aJ (iu q1) (1,(0,0,0,0,(0,(),(0,0,[],()),0,(),()),(0,0,()),()),q1.2.1,(0,0,0,0,(0,(),(0,0,[],()),0,(),()),(0,0,()),()),()):Option ((vV1×vV2×vV1×Unit)⊕(vV3×Bool×Unit))).bind (au fun v3 =>
 cond (decide (v3.2.2.1.1=0)) (
 some ((0,0,0,0,(0,[],(0,0,[],()),0,[],()),(0,0,()),()),false,())) (
((zc0 v3.2.2.1.1 114).bind fun r4 =>
 cond r4 (
(zan v3.2.1).bind fun q5 =>
 some (.inl (v3.1,q5.2.1,(v3.2.2.1.1,q5.1,v3.2.2.1.2.2.1,v3.2.2.1.2.2.2.1,v3.2.2.1.2.2.2.2.1,v3.2.2.1.2.2.2.2.2.1,()),()))) (
 some (.inl (v3.1,v3.2.1,v3.2.2.1,()))):Option ((vV1×vV2×vV1×Unit)⊕(vV3×Bool×Unit))).bind (au fun v6 =>
((zc0 v6.2.2.1.1 110).bind fun r7 =>
 cond r7 (
(zan v6.2.1).bind fun q8 =>
 some (.inl (v6.1,q8.2.1,(v6.2.2.1.1,v6.2.2.1.2.1,v6.2.2.1.2.2.1,q8.1,v6.2.2.1.2.2.2.2.1,v6.2.2.1.2.2.2.2.2.1,()),()))) (
 some (.inl (v6.1,v6.2.1,v6.2.2.1,()))):Option ((vV1×vV2×vV1×Unit)⊕(vV3×Bool×Unit))).bind (au fun v9 =>
((zc0 v9.2.2.1.1 117).bind fun r10 =>
 cond r10 (
(zan v9.2.1).bind fun q11 =>
 some (.inl (v9.1,q11.2.1,(v9.2.2.1.1,v9.2.2.1.2.1,q11.1,v9.2.2.1.2.2.2.1,v9.2.2.1.2.2.2.2.1,v9.2.2.1.2.2.2.2.2.1,()),()))) (
 some (.inl (v9.1,v9.2.1,v9.2.2.1,()))):Option ((vV1×vV2×vV1×Unit)⊕(vV3×Bool×Unit))).bind (au fun v12 =>
((zc0 v12.2.2.1.1 100).bind fun r13 =>
 cond r13 (
(zau [32] v12.2.1).bind fun q14 =>
(zav q14.2.1).bind fun q15 =>
(zb0 q15.1).bind fun r16 =>
(cond q15.2.1.2.2.1 (some (r16.2.1,v12.1,q15.2.1,(v12.2.2.1.1,v12.2.2.1.2.1,v12.2.2.1.2.2.1,v12.2.2.1.2.2.2.1,v12.2.2.1.2.2.2.2.1,r16.1,()),())) (some (false,v12.1,q15.2.1,(v12.2.2.1.1,v12.2.2.1.2.1,v12.2.2.1.2.2.1,v12.2.2.1.2.2.2.1,v12.2.2.1.2.2.2.2.1,r16.1,()),())):Option (Bool×vV1×vV2×vV1×Unit)).bind fun v17 =>
 some (.inl (v17.2.1,(v17.2.2.1.1,v17.2.2.1.2.1,v17.1,()),v17.2.2.2.1,()))) (
 some (.inl (v12.1,v12.2.1,v12.2.2.1,()))):Option ((vV1×vV2×vV1×Unit)⊕(vV3×Bool×Unit))).bind (au fun v18 =>
((zc0 v18.2.2.1.1 111).bind fun r19 =>
 cond r19 (
(zaz v18.2.1).bind fun q20 =>
 some (.inl (v18.1,q20.2.1,(v18.2.2.1.1,v18.2.2.1.2.1,v18.2.2.1.2.2.1,v18.2.2.1.2.2.2.1,q20.1,v18.2.2.1.2.2.2.2.2.1,()),()))) (
 some (.inl (v18.1,v18.2.1,(v18.2.2.1.1,v18.2.2.1.2.1,v18.2.2.1.2.2.1,v18.2.2.1.2.2.2.1,(v18.2.2.1.2.2.2.2.1.1,[],v18.2.2.1.2.2.2.2.1.2.2.1,v18.2.2.1.2.2.2.2.1.2.2.2.1,[],()),v18.2.2.1.2.2.2.2.2.1,()),()))):Option ((vV1×vV2×vV3×Unit)⊕(vV3×Bool×Unit))).bind (au fun v21 =>
 cond (!v21.2.1.2.2.1) (some ((0,0,0,0,(0,[],(0,0,[],()),0,[],()),(0,0,()),()),false,())) (cond (!decide (v21.2.1.2.1=(a0.length:Int))) (some ((0,0,0,0,(0,[],(0,0,[],()),0,[],()),(0,0,()),()),false,())) ((zbs v21.2.2.1).bind fun r22 =>
 cond (!r22) (some ((0,0,0,0,(0,[],(0,0,[],()),0,[],()),(0,0,()),()),false,())) ((zcb v21.2.2.1).bind fun r23 =>
 cond (!decide (r23=a0)) (
 some ((0,0,0,0,(0,[],(0,0,[],()),0,[],()),(0,0,()),()),false,())) (
 some (v21.2.2.1,true,()))))))))))))
def xK:TFn:={ ps:=(.cons .str .unit),res:=(.tup (.cons tT10 (.cons .bool .unit))),fn:=fun v=>zbt v.1 }
def ala:TEnv:={ pure:=[(9,vd),(12,xu),(23,ry),(38,uZ),(53,yp)],look:=[],glob:=G0T,ty:=[],raw:=[(50,mw),(51,pD),(52,my),(54,rH)],fresh:=[] }
theorem ak9:runY Tryz.prog afs alb ala aqi Tryz.f16 xK.ps xK.res=xK.fn:=by kernel_rfl
theorem afq:aB Tryz.prog G0 16 afr:=ah (ai ⟨aw,(ae xL (ae aeQ (ae rz (ae xf (ae agk ab))))),(aU oj (aU yz (aU ol (aU agn an)))),ab,am⟩ Tryz.func16 rfl (by kernel_rfl))
theorem ak8:TOk afr xK:=aA (E:=afs) (ET:=ala) (EnvT.ofX (ax (ad adh (ad ake (ad xD (ad ada (ad amA aj)))))) ak (aT tq rfl rfl (aT adr rfl rfl (aT tt rfl rfl (aT amE rfl rfl ap)))) aM ao) ak9 rfl
def agK:Env:=(eZ [(7,afc),(10,xN),(13,abJ),(14,aer),(15,afM),(16,afr)] [114])
def ani:Hints:=(hZ [] [])
def anj:PFn:=aF (runF Tryz.prog agK ani Tryz.f4)
def aqV:TH:=yZ
def zap (a0:List UInt8):Option Bool :=
 cond (decide ((a0.length:Int)>400)) (
(zbz).bind fun r1 =>
 some r1) (
(zbg a0).bind fun r2 =>
(zbt a0).bind fun r3 =>
 cond (!r3.2.1) (
 cond (decide (r2.2.1=19)) (cond (decide (r2.1.1=0)) ((zbz).bind fun r4 =>
 some r4) (some false)) (some false)) (
 cond (decide (r2.2.1=0)) ((zbj r2.1).bind fun r5 =>
(zcl r5 r3.1).bind fun r6 =>
 cond r6 ((zbr r2.1).bind fun r7 =>
 cond (decide (r7=a0)) ((zbz).bind fun r8 =>
 some r8) (some false)) (some false)) (some false)))
def rJ:TFn:={ ps:=(.cons .str .unit),res:=.bool,fn:=fun v=>zap v.1 }
def anh:TEnv:=(vZ [(7,xF),(10,rA),(13,vh),(14,xh),(15,xU),(16,xK)])
theorem ang:runY Tryz.prog agK ani anh aqV Tryz.f4 rJ.ps rJ.res=rJ.fn:=by kernel_rfl
theorem zap_Fok:aB Tryz.prog G0 4 anj:=ah (ai ⟨aw,(ae afb (ae rB (ae xW (ae aep (ae afL (ae afq ab)))))),an,ab,am⟩ Tryz.func4 rfl (by kernel_rfl))
theorem zap_ok:TOk anj rJ:=aA (E:=agK) (ET:=anh) (EnvT.ofX (ax (ad akL (ad xM (ad adk (ad ajC (ad alF (ad ak8 aj))))))) ak ap aM ao) ang rfl
end
end Go.Proofs.YtmklghkhfimfgaaGreatDoor.Y
