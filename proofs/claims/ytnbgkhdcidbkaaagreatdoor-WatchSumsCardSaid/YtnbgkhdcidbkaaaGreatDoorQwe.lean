import Derived.Test.YtnbgkhdcidbkaaaGreatDoorQwa
set_option linter.unusedVariables false
set_option linter.unusedSimpArgs false
set_option maxRecDepth 100000
namespace Go.Proofs.YtnbgkhdcidbkaaaGreatDoor.Q
open Go.EM Go.TY Go.Proofs Go.Proofs.YtnbgkhdcidbkaaaGreatDoor.Y
theorem tk {l:List bk}{q:Path}:jy (dv l q):=by
 unfold dv
 have h:dF pV (fun v=>v) (selM l q):=List.Pairwise.sublist List.filter_sublist (gB hP _)
 show List.Pairwise _ _
 rw[List.pairwise_map]
 refine List.Pairwise.imp (fun {a b} hab => ?_) h
 have e:cmpK (keyE (entM l a.1 a.2.1)) (keyE (entM l b.1 b.2.1))=pV a b:=by
   unfold cmpK cmpB pV orI keyE entM
   rfl
 rw[e]; exact hab
structure VOk (v:List Ent):Prop where
 len:v.length≤320
 easy:∀ e∈v,aqG e
 rise:jy v
theorem VOk.low {v:List Ent} (h:VOk v):∀ e∈v,lowE e:=fun e he=>(h.easy e he).1
theorem iH {l:List bk}{q:Path} (h:ItemsOk l):VOk (dv l q) where
 len:=by
   unfold dv
   rw[List.length_map]; exact aaL h
 easy e he:=by
   obtain ⟨y,hy,rfl⟩:=List.mem_map.1 he
   have hs:=nS h (aaK hy)
   exact ⟨ajX h hs.1 hs.2,fun x hx=>by have:=hs.2 x hx; omega⟩
 rise:=tk
theorem ae2:VOk []:=⟨by simp,(fun e he=>by cases he),List.Pairwise.nil⟩
abbrev W1:=Path×List Ent×Int×Unit
theorem aj0 {a b:List Ent} (ha:VOk a) (hb:VOk b):zb6 a b=some (dM a b):=aqI (by have:=ha.len; have:=hb.len; omega) ha.low hb.low
theorem aqN {a b:List Ent} (ha:VOk a) (hb:VOk b):(dM a b).length≤640:=by
 have:=ae9 _ a b (Nat.le_refl _)
 have:=ha.len
 have:=hb.len
 omega
theorem vJ {x:List bk}{q:Path}{seen:List Ent}{n:Int} (hx:ItemsOk x) (hq:lowS q) (hs:VOk seen) (hn:0≤n∧n<1000000):za2 x (q,seen,n,())=some (dM seen (dv x q),(q,dv x q,n+1,()),()):=by
 unfold za2
 rw[ib hx hq]
 simp only[zb]
 rw[aj0 hs (iH hx)]
 simp only[zb]
 rw[wrap64 (by omega) (by omega)]
theorem aqn {x:List bk}{q:Path}{seen:List Ent}{n:Int} (hx:ItemsOk x) (hq:lowS q):za1 x (q,seen,n,())=some (!decide (dv x q=seen),(q,seen,n,()),()):=by
 unfold za1
 rw[ib hx hq]
 simp only[zb]
 have ho:=iH (q:=q) hx
 rw[fA (by have:=ho.len; omega) ho.low]
 simp only[zb]
theorem aqj {q:Path}{seen:List Ent}{n:Int} (hs:VOk seen):zay (q,seen,n,())=some (seen,(q,seen,n,()),()):=by
 unfold zay zaj eR
 rw[zp (by have:=hs.len; simp only[most]; omega)]
 rfl
theorem aqs {q:Path} (hq:lowS q) (hl:q.length<1000000):zcu q=some (if qcM q=0 then ([(q,[],0,())],0,()) else ([],qcM q,())):=by
 unfold zcu
 rw[j3 hq]
 simp only[zb,bT]
 by_cases h:qcM q=0
 · rw[zp h,zp h]
   unfold zat eR
   rw[zp (by simp only[most]; omega)]
   rfl
 · rw[zn h,zn h]
abbrev acI:=List Ref1×Unit
theorem aeg (l:List Txn1) (t:List acI):∃ b,zcg l t=some b∧(b=true→t.length≤6∧∀ x∈t,TxnsOk l 20∧CountsOk x.1):=by
 unfold zcg
 simp only[ac]
 by_cases h:(t.length:Int)>6
 · rw[zp h]; exact ⟨false,rfl,fun e=>by cases e⟩
 rw[zn h]
 have hg:∀ x:acI,∃ b,zca l x.1=some b∧(b=true→TxnsOk l 20∧CountsOk x.1):=fun x=>aeh l x.1
 have loop:=gK (f:=uM l t) (l:=t) (fun i=>((i:Int),())) (fun x=>(zca l x.1).getD false) true false (fun i hi=>by
   obtain ⟨b,hb,_⟩:=hg t[i]
   unfold uM
   simp only[ac]
   rw[zp (by omega),aX hi]
   simp only[zb,hb,Option.getD_some]
   rw[wrap64 (by omega) (by omega)]
   cases b<;>rfl) (by
   unfold uM
   simp only[ac]
   rw[zn (by omega)])
 refine ⟨_,loop,fun hb => ?_⟩
 have ha:t.all (fun x=>(zca l x.1).getD false)=true:=by
   cases hq:t.all (fun x=>(zca l x.1).getD false) with
   | true=>rfl
   | false=>rw[hq] at hb; cases hb
 refine ⟨by omega,fun x hx => ?_⟩
 obtain ⟨b,hb2,hb3⟩:=hg x
 have:=List.all_eq_true.1 ha x hx
 rw[hb2,Option.getD_some] at this
 exact hb3 this
end Go.Proofs.YtnbgkhdcidbkaaaGreatDoor.Q
namespace Go.Proofs.YtnbgkhdcidbkaaaGreatDoor.Q
open Go.EM Go.TY Go.Proofs Go.Proofs.YtnbgkhdcidbkaaaGreatDoor.Y
theorem aaT:mM []=true:=by
 unfold mM
 rw[zp (by intro i h; simp at h)]
theorem asA {a:UInt8} (h:a.toNat<128) (hm:mayM (a.toNat:Int)=true):tE [a]=true:=by
 unfold tE
 rw[lf h]
 simp[hm]
theorem aka:fX [[97]]=0:=by
 unfold fX
 simp[asA (a:=97) (by decide) (by decide)]
abbrev inc0:Op1:=(3,[[97]],(0,0,[],()),1,[],())
theorem aqz:opM inc0=0:=by
 unfold opM
 simp[aka,zeroV,aaT]
abbrev txn0:Txn1:=((0,1,()),0,1,false,[inc0],())
theorem aqe:TxnsOk [txn0] 20 where
 len:=by simp
 rise:=List.pairwise_singleton ..
 all t ht:=by
   rw[List.mem_singleton.1 ht]
   exact ⟨by simp,by simp,fun o ho=>by rw[List.mem_singleton.1 ho]; exact ⟨⟨by simp,by simp,by simp,by simp⟩,.inl aqz⟩,by decide,by decide,by decide⟩
theorem all0:allM [txn0] []=[(((0,1,()),0,()),inc0,1,())]:=rfl
theorem lowA:lowS [[97]]:=fun s hs=>by rw[List.mem_singleton.1 hs]; decide
theorem qcA:qcM [[97]]=0:=ajq (by decide) (by decide) (by
 simp only[List.any_cons,List.any_nil,Bool.or_false]
 exact tu (a:=97) (by decide) (by decide))
theorem asC:pL [[97]] [[97]]=true:=by
 have h:pL [[97]] [[97]]=b9 [[97]] [[97]]:=by
   unfold pL
   rw[qcA]; rfl
 rw[h,lK (by decide),abS (by decide) (by decide) (by decide),nO]
 decide
theorem ass:∃ e,dv (allM [txn0] []) [[97]]=[e]:=by
 have hl:da (allM [txn0] [])=[([[97]],3,())]:=by rw[all0]; decide
 unfold dv selM
 rw[hl,List.filter_cons]
 simp only[asC,if_true,List.filter_nil,List.map_cons,List.map_nil]
 exact ⟨_,rfl⟩
theorem ake:zbl=some true:=by
 have hp:=vl aqe (by omega)
 have hu:LowU []:=⟨by simp,List.Pairwise.nil⟩
 have hi:=pA (u:=[]) aqe
 unfold zbl
 rw[aqs lowA (by decide),zp qcA]
 simp only[zb,List.isEmpty_cons,cond_false,List.head?_cons]
 rw[show ([((0,1,()),0,1,false,([(3,([[97]]:Path),(0,0,[],()),1,[],())]:List Op1),())]:List Txn1)=[txn0] from rfl,aqQ hp.low hu]
 simp only[zb]
 have ho:=iH (q:=[[97]]) hi
 rw[vJ hi lowA ae2 (by omega)]
 simp only[zb]
 rw[vJ hi lowA ho (by omega)]
 simp only[zb]
 obtain ⟨e,he⟩:=ass
 have h1:dM [] (dv (allM [txn0] []) [[97]])=[abt e]:=by
   rw[he]
   unfold dM df
   rfl
 have h2:dM (dv (allM [txn0] []) [[97]]) (dv (allM [txn0] []) [[97]])=[]:=(ae8 ho.rise ho.rise).2 rfl
 rw[h1,h2]
 rfl
theorem aaH {q:Path} (h:(decide (q.length≤12)&&q.all fun x=>decide (x.length≤120))=true):lowS q∧q.length<1000000:=by
 obtain ⟨h1,h2⟩:=xc h
 exact ⟨fun s hs=>by have:=h2 s hs; omega,by omega⟩
end Go.Proofs.YtnbgkhdcidbkaaaGreatDoor.Q
namespace Go.Proofs.YtnbgkhdcidbkaaaGreatDoor.Q
open Go.EM Go.TY Go.Proofs Go.Proofs.YtnbgkhdcidbkaaaGreatDoor.Y
theorem aax {l:List Txn1}{t:List acI}{q:Path} (ht:t.length≤6) (hg:∀ x∈t,TxnsOk l 20∧CountsOk x.1) (hq:lowS q) {i:Nat} (h:i<t.length) {seen:List Ent} (hs:VOk seen) :
   nf l t q (seen,(i:Int),(q,seen,((2*i:Nat):Int),()),())=some (.inl (dv (allM l t[i].1) q,((i+1:Nat):Int),(q,dv (allM l t[i].1) q,((2*(i+1):Nat):Int),()),())):=by
 obtain ⟨h1,h2⟩:=hg _ (zm h)
 have hp:=vl h1 (by omega)
 have hu:=yb h2
 have hi:=pA (u:=t[i].1) h1
 have ho:=iH (q:=q) hi
 have hd:=aqN hs ho
 have e1:((i+1:Nat):Int)=(i:Int)+1:=by omega
 have e2:((2*(i+1):Nat):Int)=((2*i:Nat):Int)+1+1:=by omega
 unfold nf
 simp only[ac]
 rw[zp (by omega),aX h]
 simp only[zb]
 rw[aqQ hp.low hu]
 simp only[zb]
 rw[vJ hi hq hs (by omega)]
 simp only[zb]
 rw[aki (by have:=hs.len; omega) (by have:=ho.len; omega) hs.low ho.low hs.rise ho.rise]
 simp only[zb,decide_true,Bool.not_true,cond_false]
 rw[ib hi hq]
 simp only[zb]
 rw[fA (by have:=ho.len; omega) ho.low]
 simp only[zb,decide_true,Bool.not_true,cond_false]
 rw[vJ hi hq ho (by omega)]
 simp only[zb]
 have hz:dM (dv (allM l t[i].1) q) (dv (allM l t[i].1) q)=[]:=(ae8 ho.rise ho.rise).2 rfl
 rw[hz]
 simp only[List.length_nil]
 rw[aqn hi hq]
 simp only[zb,decide_true,Bool.not_true,cond_false]
 rw[wrap64 (by omega) (by omega),e1,e2]
 rfl
theorem aay {l:List Txn1}{t:List acI}{q:Path} (ht:t.length≤6) (hg:∀ x∈t,TxnsOk l 20∧CountsOk x.1) (hq:lowS q) :
   ∃ s,VOk s∧aJ (nf l t q) ([],0,(q,[],0,()),())=some (.inl (s,(q,s,((2*t.length:Nat):Int),()),())):=by
 have:=bS (S:={ s:List Ent // VOk s }) (R:=(List Ent×W1×Unit)⊕Bool) (f:=nf l t q) (l:=t.attach) (fun i s=>(s.1,(i:Int),(q,s.1,((2*i:Nat):Int),()),())) (fun _ x s=>.inl ⟨dv (allM l x.1.1) q,iH (pA (hg _ x.2).1)⟩) (fun s=>.inl (s.1,(q,s.1,((2*t.length:Nat):Int),()),())) (fun _ s=>True) (fun i h s _=>by
   rw[List.length_attach] at h
   refine .inl ⟨_,rfl,?_,trivial⟩
   rw[aax ht hg hq h s.2]
   simp only[List.getElem_attach]) (fun s _=>by
   rw[List.length_attach]
   unfold nf
   simp only[ac]
   rw[zn (by omega)]) ⟨[],ae2⟩ trivial
 rw[eC] at this
 exact ⟨_,Subtype.property _,this⟩
theorem oO (l:List Txn1) (t:List acI) (q:Path):za5 l t q=some true:=by
 unfold za5
 obtain ⟨b,hb,hg⟩:=aeg l t
 rw[hb]
 simp only[zb,ake,vq]
 cases b with
 | false=>rfl
 | true =>
   obtain ⟨h1,h2⟩:=hg rfl
   simp only[Bool.not_true,cond_false]
   cases hsp:(decide (q.length≤12)&&q.all fun x=>decide (x.length≤120)) with
   | false=>rfl
   | true =>
     obtain ⟨hq,hl⟩:=aaH hsp
     simp only[Bool.not_true,cond_false]
     rw[tj hq]
     simp only[zb]
     by_cases h:qcM q=0
     · rw[zt h]
       simp only[Bool.not_true,cond_false]
       rw[aqs hq hl,zp h]
       simp only[zb,List.isEmpty_cons,cond_false,List.head?_cons,decide_true,Bool.not_true]
       obtain ⟨s,hs,hloop⟩:=aay h1 h2 hq
       rw[hloop,aF]
       simp only
       rw[aqj hs]
       simp only[zb]
       rw[fA (by have:=hs.len; omega) hs.low]
       simp only[zb,decide_true,cond_true]
     · rw[zf h]; rfl
theorem adr:∀ v:sR.ps.V,okV sR.ps v→sR.fn v=some true:=fun v _=>by
 obtain ⟨l,t,q,⟨⟩⟩:=v
 exact oO l t q
end Go.Proofs.YtnbgkhdcidbkaaaGreatDoor.Q
