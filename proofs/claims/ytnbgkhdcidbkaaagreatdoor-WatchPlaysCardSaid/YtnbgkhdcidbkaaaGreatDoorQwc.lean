import Derived.Test.YtnbgkhdcidbkaaaGreatDoorQwa
set_option linter.unusedVariables false
set_option linter.unusedSimpArgs false
set_option maxRecDepth 100000
namespace Go.Proofs.YtnbgkhdcidbkaaaGreatDoor.Q
open Go.EM Go.TY Go.Proofs Go.Proofs.YtnbgkhdcidbkaaaGreatDoor.Y
theorem vt {l:List aW}{q:Path}:agk (cr l q):=by
 unfold cr
 have h:cW bC (fun v=>v) (selM l q):=List.Pairwise.sublist List.filter_sublist (gZ fk _)
 show List.Pairwise _ _
 rw[List.pairwise_map]
 refine List.Pairwise.imp (fun {a b} hab => ?_) h
 have e:cmpK (keyE (entM l a.1 a.2.1)) (keyE (entM l b.1 b.2.1))=bC a b:=by
   unfold cmpK cmpB bC orI keyE entM
   rfl
 rw[e]; exact hab
structure VOk (v:List Ent):Prop where
 len:v.length≤320
 easy:∀ e∈v,ky e
 rise:agk v
theorem VOk.low {v:List Ent} (h:VOk v):∀ e∈v,lowE e:=fun e he=>(h.easy e he).1
theorem hX {l:List aW}{q:Path} (h:ItemsOk l):VOk (cr l q) where
 len:=by
   unfold cr
   rw[List.length_map]; exact adg h
 easy e he:=by
   obtain ⟨y,hy,rfl⟩:=List.mem_map.1 he
   have hs:=ph h (adf hy)
   exact ⟨an0 h hs.1 hs.2,fun x hx=>by have:=hs.2 x hx; omega⟩
 rise:=vt
theorem ahX:VOk []:=⟨by simp,(fun e he=>by cases he),List.Pairwise.nil⟩
abbrev W1:=Path×List Ent×Int×Unit
theorem an6 {a b:List Ent} (ha:VOk a) (hb:VOk b):zcg a b=some (dM a b):=awE (by have:=ha.len; have:=hb.len; omega) ha.low hb.low
theorem an5 {a b:List Ent} (ha:VOk a) (hb:VOk b):zc0 a b=some (dM a b):=an3 (by have:=ha.len; omega) (by have:=hb.len; omega) ha.easy hb.easy ha.rise hb.rise
theorem awK {a b:List Ent} (ha:VOk a) (hb:VOk b):(dM a b).length≤640:=by
 have:=awJ _ a b (Nat.le_refl _)
 have:=ha.len
 have:=hb.len
 omega
theorem ad1 {x:List aW}{q:Path}{seen:List Ent}{n:Int} (hx:ItemsOk x) (hq:lowS q) (hs:VOk seen) (hn:0≤n∧n<1000000):zax x (q,seen,n,())=some (dM seen (cr x q),(q,cr x q,n+1,()),()):=by
 unfold zax
 rw[mO hx hq]
 simp only[zb]
 rw[an6 hs (hX hx)]
 simp only[zb]
 rw[aD (by omega) (by omega)]
theorem adq {x:List aW}{q:Path}{seen:List Ent}{n:Int} (hx:ItemsOk x) (hq:lowS q) (hs:VOk seen) (hn:0≤n∧n<1000000):zay x (q,seen,n,())=some (dM seen (cr x q),(q,cr x q,n+1,()),()):=by
 unfold zay
 rw[zZ hx hq]
 simp only[zb]
 rw[an5 hs (hX hx)]
 simp only[zb]
 rw[aD (by omega) (by omega)]
theorem awh {x:List aW}{q:Path}{seen:List Ent}{n:Int} (hx:ItemsOk x) (hq:lowS q):zat x (q,seen,n,())=some (!decide (cr x q=seen),(q,seen,n,()),()):=by
 unfold zat
 rw[mO hx hq]
 simp only[zb]
 have ho:=hX (q:=q) hx
 rw[pX (by have:=ho.len; omega) ho.low]
 simp only[zb]
theorem awc {q:Path}{seen:List Ent}{n:Int} (hs:VOk seen):zau (q,seen,n,())=some (seen,(q,seen,n,()),()):=by
 unfold zau zai iI
 rw[zp (by have:=hs.len; simp only[most]; omega)]
 rfl
theorem anD {q:Path}{seen:List Ent}{n:Int}:zas (q,seen,n,())=some (n,(q,seen,n,()),()):=rfl
theorem awm {q:Path} (hq:lowS q) (hl:q.length<1000000):zdl q=some (if qcM q=0 then ([(q,[],0,())],0,()) else ([],qcM q,())):=by
 unfold zdl
 rw[kP hq]
 simp only[zb,bZ]
 by_cases h:qcM q=0
 · rw[zp h,zp h]
   unfold zao iI
   rw[zp (by simp only[most]; omega)]
   rfl
 · rw[zn h,zn h]
theorem ani {l:List Chg} (hl:l.length<1000000) (hs:∀ c∈l,lowC c):zcs l l=some true:=by
 have loop:=ff (f:=wK l l) (l:=l) (fun i=>((i:Int),())) (fun _=>true) true false (fun i h=>by
   have hc:=hs _ (zm h)
   unfold wK
   simp only[ac,bZ]
   rw[zp (by omega),aM h]
   simp only[zb,if_true]
   rw[xu (by simp)]
   simp only[zb]
   rw[iP (by simp) (fun e he=>by
     simp only[List.mem_cons,List.mem_nil_iff,or_false] at he
     rcases he with rfl | rfl
     · exact hc.1
     · exact hc.2)]
   simp only[zb,decide_true,Bool.not_true,cond_false]
   rw[aD (by omega) (by omega)]; rfl) (by
   unfold wK
   simp only[ac]
   rw[zn (by omega)])
 rw[zp (by simp)] at loop
 unfold zcs
 simp only[decide_true,Bool.not_true,cond_false]
 exact loop
abbrev afe:=List Ref1×Unit
theorem agW (l:List Txn1) (t:List afe):∃ b,zcj l t=some b∧(b=true→t.length≤6∧∀ x∈t,TxnsOk l 20∧CountsOk x.1):=by
 unfold zcj
 simp only[ac]
 by_cases h:(t.length:Int)>6
 · rw[zp h]; exact ⟨false,rfl,fun e=>by cases e⟩
 rw[zn h]
 have hg:∀ x:afe,∃ b,zct l x.1=some b∧(b=true→TxnsOk l 20∧CountsOk x.1):=fun x=>agX l x.1
 have loop:=ff (f:=wO l t) (l:=t) (fun i=>((i:Int),())) (fun x=>(zct l x.1).getD false) true false (fun i hi=>by
   obtain ⟨b,hb,_⟩:=hg t[i]
   unfold wO
   simp only[ac]
   rw[zp (by omega),aM hi]
   simp only[zb,hb,Option.getD_some]
   rw[aD (by omega) (by omega)]
   cases b<;>rfl) (by
   unfold wO
   simp only[ac]
   rw[zn (by omega)])
 refine ⟨_,loop,fun hb => ?_⟩
 have ha:t.all (fun x=>(zct l x.1).getD false)=true:=by
   cases hq:t.all (fun x=>(zct l x.1).getD false) with
   | true=>rfl
   | false=>rw[hq] at hb; cases hb
 refine ⟨by omega,fun x hx => ?_⟩
 obtain ⟨b,hb2,hb3⟩:=hg x
 have:=List.all_eq_true.1 ha x hx
 rw[hb2,Option.getD_some] at this
 exact hb3 this
end Go.Proofs.YtnbgkhdcidbkaaaGreatDoor.Q
namespace Go.Proofs.YtnbgkhdcidbkaaaGreatDoor.Q
open Go.EM Go.TY Go.Proofs Go.Proofs.YtnbgkhdcidbkaaaGreatDoor.Y
theorem adn:oh []=true:=by
 unfold oh
 rw[zp (by intro i h; simp at h)]
theorem ayY {a:UInt8} (h:a.toNat<128) (hm:mayM (a.toNat:Int)=true):vG [a]=true:=by
 unfold vG
 rw[mt h]
 simp[hm]
theorem aog:gn [[97]]=0:=by
 unfold gn
 simp[ayY (a:=97) (by decide) (by decide)]
abbrev inc0:Op1:=(3,[[97]],(0,0,[],()),1,[],())
theorem awu:opM inc0=0:=by
 unfold opM
 simp[aog,ob,adn]
abbrev txn0:Txn1:=((0,1,()),0,1,false,[inc0],())
theorem av7:TxnsOk [txn0] 20 where
 len:=by simp
 rise:=List.pairwise_singleton ..
 all t ht:=by
   rw[List.mem_singleton.1 ht]
   exact ⟨by simp,by simp,fun o ho=>by rw[List.mem_singleton.1 ho]; exact ⟨⟨by simp,by simp,by simp,by simp⟩,.inl awu⟩,by decide,by decide,by decide⟩
theorem all0:allM [txn0] []=[(((0,1,()),0,()),inc0,1,())]:=rfl
theorem lowA:lowS [[97]]:=fun s hs=>by rw[List.mem_singleton.1 hs]; decide
theorem qcA:qcM [[97]]=0:=anq (by decide) (by decide) (by
 simp only[List.any_cons,List.any_nil,Bool.or_false]
 exact vz (a:=97) (by decide) (by decide))
theorem ay0:ku [[97]] [[97]]=true:=by
 have h:ku [[97]] [[97]]=ce [[97]] [[97]]:=by
   unfold ku
   rw[qcA]; rfl
 rw[h,iT (by decide),aem (by decide) (by decide) (by decide),ie]
 decide
theorem ayQ:∃ e,cr (allM [txn0] []) [[97]]=[e]:=by
 have hl:cA (allM [txn0] [])=[([[97]],3,())]:=by rw[all0]; decide
 unfold cr selM
 rw[hl,List.filter_cons]
 simp only[ay0,if_true,List.filter_nil,List.map_cons,List.map_nil]
 exact ⟨_,rfl⟩
theorem ae4:zcf=some true:=by
 have hp:=xq av7 (by omega)
 have hu:LowU []:=⟨by simp,List.Pairwise.nil⟩
 have hi:=qO (u:=[]) av7
 unfold zcf
 rw[awm lowA (by decide),zp qcA]
 simp only[zb,List.isEmpty_cons,cond_false,List.head?_cons]
 rw[show ([((0,1,()),0,1,false,([(3,([[97]]:Path),(0,0,[],()),1,[],())]:List Op1),())]:List Txn1)=[txn0] from rfl,awN hp.low hu]
 simp only[zb]
 have ho:=hX (q:=[[97]]) hi
 rw[ad1 hi lowA ahX (by omega)]
 simp only[zb]
 rw[ad1 hi lowA ho (by omega)]
 simp only[zb]
 obtain ⟨e,he⟩:=ayQ
 have h1:dM [] (cr (allM [txn0] []) [[97]])=[sW e]:=by
   rw[he]
   unfold dM cw
   rfl
 have h2:dM (cr (allM [txn0] []) [[97]]) (cr (allM [txn0] []) [[97]])=[]:=(aeK ho.rise ho.rise).2 rfl
 rw[h1,h2]
 rfl
theorem ac9 {q:Path} (h:(decide (q.length≤12)&&q.all fun x=>decide (x.length≤120))=true):lowS q∧q.length<1000000:=by
 obtain ⟨h1,h2⟩:=zK h
 exact ⟨fun s hs=>by have:=h2 s hs; omega,by omega⟩
theorem aaf {l:List Txn1}{t:List afe}{q:Path} (ht:t.length≤6) (hg:∀ x∈t,TxnsOk l 20∧CountsOk x.1) (hq:lowS q) {i:Nat} (h:i<t.length) {seen:List Ent} (hs:VOk seen) :
   jY l t ((i:Int),(q,seen,(i:Int),()),(q,seen,(i:Int),()),())=some (.inl (((i+1:Nat):Int),(q,cr (allM l t[i].1) q,((i+1:Nat):Int),()),(q,cr (allM l t[i].1) q,((i+1:Nat):Int),()),())):=by
 obtain ⟨h1,h2⟩:=hg _ (zm h)
 have hp:=xq h1 (by omega)
 have hu:=aaG h2
 have hi:=qO (u:=t[i].1) h1
 have ho:=hX (q:=q) hi
 have hd:=awK hs ho
 have e1:((i+1:Nat):Int)=(i:Int)+1:=by omega
 unfold jY
 simp only[ac]
 rw[zp (by omega),aM h]
 simp only[zb]
 rw[awN hp.low hu]
 simp only[zb]
 rw[awh hi hq]
 simp only[zb]
 rw[ad1 hi hq hs (by omega)]
 simp only[zb]
 rw[agt hp.low hu]
 simp only[zb]
 rw[adq hi hq hs (by omega)]
 simp only[zb]
 rw[ani (by omega) (awI hs.low ho.low)]
 simp only[zb,Bool.not_true,cond_false]
 rw[awc ho]
 simp only[zb]
 rw[xu (by have:=ho.len; omega)]
 simp only[zb]
 rw[iP (by have:=ho.len; omega) ho.low]
 simp only[zb,decide_true,Bool.not_true,cond_false]
 rw[anD]
 simp only[zb,decide_true,Bool.not_true,cond_false]
 have hpk:((!decide (cr (allM l t[i].1) q=seen))==decide (((dM seen (cr (allM l t[i].1) q)).length:Int)>0))=true:=by
   by_cases he:cr (allM l t[i].1) q=seen
   · have:dM seen (cr (allM l t[i].1) q)=[]:=(aeK hs.rise ho.rise).2 he.symm
     rw[this,zt he]; rfl
   · have hne:dM seen (cr (allM l t[i].1) q)≠[]:=fun e=>he ((aeK hs.rise ho.rise).1 e).symm
     have:=List.length_pos_iff.2 hne
     rw[zf he,zt (show ((dM seen (cr (allM l t[i].1) q)).length:Int)>0 by omega)]; rfl
 rw[hpk]
 simp only[Bool.not_true,cond_false]
 rw[aD (by omega) (by omega),e1]
theorem aag {l:List Txn1}{t:List afe}{q:Path} (ht:t.length≤6) (hg:∀ x∈t,TxnsOk l 20∧CountsOk x.1) (hq:lowS q) :
   aI (jY l t) (0,(q,[],0,()),(q,[],0,()),())=some true:=by
 have:=bc (S:=List Ent) (R:=Bool) (f:=jY l t) (l:=t) (fun i s=>((i:Int),(q,s,(i:Int),()),(q,s,(i:Int),()),())) (fun _ x s=>.inl (cr (allM l x.1) q)) (fun _=>true) (fun _ s=>VOk s) (fun i h s hs=>by
   refine .inl ⟨_,rfl,aaf ht hg hq h hs,?_⟩
   exact hX (qO (hg _ (zm h)).1)) (fun s hs=>by
   unfold jY
   simp only[ac]
   rw[zn (by omega),ae4]; rfl) [] ahX
 rw[bY] at this
 exact this
theorem oc (l:List Txn1) (t:List afe) (q:Path):zaw l t q=some true:=by
 unfold zaw
 obtain ⟨b,hb,hg⟩:=agW l t
 rw[hb]
 simp only[zb,ae4,xz]
 cases b with
 | false=>rfl
 | true =>
   obtain ⟨h1,h2⟩:=hg rfl
   simp only[Bool.not_true,cond_false]
   cases hsp:(decide (q.length≤12)&&q.all fun x=>decide (x.length≤120)) with
   | false=>rfl
   | true =>
     obtain ⟨hq,hl⟩:=ac9 hsp
     simp only[Bool.not_true,cond_false]
     rw[awm hq hl]
     simp only[zb]
     rw[mH hq]
     simp only[zb]
     by_cases h:qcM q=0
     · rw[zp h,h]
       simp only[List.isEmpty_cons,cond_false,List.head?_cons,zb,decide_true,Bool.not_true]
       exact aag h1 h2 hq
     · rw[zn h]
       simp only[List.isEmpty_nil,cond_true,decide_true,Bool.not_true,cond_false,zf h,Bool.not_false]
       rfl
theorem od:∀ v:uQ.ps.V,okV uQ.ps v→uQ.fn v=some true:=fun v _=>by
 obtain ⟨l,t,q,⟨⟩⟩:=v
 exact oc l t q
end Go.Proofs.YtnbgkhdcidbkaaaGreatDoor.Q
