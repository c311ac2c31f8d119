import Derived.Test.YtnbgkhdcidbkaaaGreatDoorQwa
set_option linter.unusedVariables false
set_option linter.unusedSimpArgs false
set_option maxRecDepth 100000
namespace Go.Proofs.YtnbgkhdcidbkaaaGreatDoor.Q
open Go.EM Go.TY Go.Proofs Go.Proofs.YtnbgkhdcidbkaaaGreatDoor.Y
theorem uW {l:List aV}{q:Path}:af0 (cm l q):=by
 unfold cm
 have h:cT bB (fun v=>v) (selM l q):=List.Pairwise.sublist List.filter_sublist (gN e8 _)
 show List.Pairwise _ _
 rw[List.pairwise_map]
 refine List.Pairwise.imp (fun {a b} hab => ?_) h
 have e:cmpK (keyE (entM l a.1 a.2.1)) (keyE (entM l b.1 b.2.1))=bB a b:=by
   unfold cmpK cmpB bB orI keyE entM
   rfl
 rw[e]; exact hab
structure VOk (v:List Ent):Prop where
 len:v.length≤320
 easy:∀ e∈v,kg e
 rise:af0 v
theorem VOk.low {v:List Ent} (h:VOk v):∀ e∈v,lowE e:=fun e he=>(h.easy e he).1
theorem gU {l:List aV}{q:Path} (h:ItemsOk l):VOk (cm l q) where
 len:=by
   unfold cm
   rw[List.length_map]; exact acZ h
 easy e he:=by
   obtain ⟨y,hy,rfl⟩:=List.mem_map.1 he
   have hs:=oP h (acY hy)
   exact ⟨anI h hs.1 hs.2,fun x hx=>by have:=hs.2 x hx; omega⟩
 rise:=uW
theorem ahA:VOk []:=⟨by simp,(fun e he=>by cases he),List.Pairwise.nil⟩
abbrev W1:=Path×List Ent×Int×Unit
theorem anO {a b:List Ent} (ha:VOk a) (hb:VOk b):zch a b=some (dM a b):=awH (by have:=ha.len; have:=hb.len; omega) ha.low hb.low
theorem anN {a b:List Ent} (ha:VOk a) (hb:VOk b):zcw a b=some (dM a b):=anL (by have:=ha.len; omega) (by have:=hb.len; omega) ha.easy hb.easy ha.rise hb.rise
theorem awN {a b:List Ent} (ha:VOk a) (hb:VOk b):(dM a b).length≤640:=by
 have:=awM _ a b (Nat.le_refl _)
 have:=ha.len
 have:=hb.len
 omega
theorem adJ {x:List aV}{q:Path}{seen:List Ent}{n:Int} (hx:ItemsOk x) (hq:lowS q) (hs:VOk seen) (hn:0≤n∧n<1000000):za3 x (q,seen,n,())=some (dM seen (cm x q),(q,cm x q,n+1,()),()):=by
 unfold za3
 rw[mn hx hq]
 simp only[zb]
 rw[anO hs (gU hx)]
 simp only[zb]
 rw[wrap64 (by omega) (by omega)]
theorem ac8 {x:List aV}{q:Path}{seen:List Ent}{n:Int} (hx:ItemsOk x) (hq:lowS q) (hs:VOk seen) (hn:0≤n∧n<1000000):za0 x (q,seen,n,())=some (dM seen (cm x q),(q,cm x q,n+1,()),()):=by
 unfold za0
 rw[zJ hx hq]
 simp only[zb]
 rw[anN hs (gU hx)]
 simp only[zb]
 rw[wrap64 (by omega) (by omega)]
theorem awk {x:List aV}{q:Path}{seen:List Ent}{n:Int} (hx:ItemsOk x) (hq:lowS q):za4 x (q,seen,n,())=some (!decide (cm x q=seen),(q,seen,n,()),()):=by
 unfold za4
 rw[mn hx hq]
 simp only[zb]
 have ho:=gU (q:=q) hx
 rw[pB (by have:=ho.len; omega) ho.low]
 simp only[zb]
theorem awe {q:Path}{seen:List Ent}{n:Int} (hs:VOk seen):zay (q,seen,n,())=some (seen,(q,seen,n,()),()):=by
 unfold zay zai iv
 rw[zp (by have:=hs.len; simp only[most]; omega)]
 rfl
theorem anj {q:Path}{seen:List Ent}{n:Int}:zaw (q,seen,n,())=some (n,(q,seen,n,()),()):=rfl
theorem awp {q:Path} (hq:lowS q) (hl:q.length<1000000):zdn q=some (if qcM q=0 then ([(q,[],0,())],0,()) else ([],qcM q,())):=by
 unfold zdn
 rw[kw hq]
 simp only[zb,bW]
 by_cases h:qcM q=0
 · rw[zp h,zp h]
   unfold zap iv
   rw[zp (by simp only[most]; omega)]
   rfl
 · rw[zn h,zn h]
theorem amY {l:List Chg} (hl:l.length<1000000) (hs:∀ c∈l,lowC c):zco l l=some true:=by
 have loop:=eW (f:=wy l l) (l:=l) (fun i=>((i:Int),())) (fun _=>true) true false (fun i h=>by
   have hc:=hs _ (zm h)
   unfold wy
   simp only[ae,bW]
   rw[zp (by omega),aL h]
   simp only[zb,if_true]
   rw[xa (by simp)]
   simp only[zb]
   rw[iE (by simp) (fun e he=>by
     simp only[List.mem_cons,List.mem_nil_iff,or_false] at he
     rcases he with rfl | rfl
     · exact hc.1
     · exact hc.2)]
   simp only[zb,decide_true,Bool.not_true,cond_false]
   rw[wrap64 (by omega) (by omega)]; rfl) (by
   unfold wy
   simp only[ae]
   rw[zn (by omega)])
 rw[zp (by simp)] at loop
 unfold zco
 simp only[decide_true,Bool.not_true,cond_false]
 exact loop
abbrev aeT:=List Ref1×Unit
theorem agB (l:List Txn1) (t:List aeT):∃ b,zc7 l t=some b∧(b=true→t.length≤6∧∀ x∈t,TxnsOk l 20∧CountsOk x.1):=by
 unfold zc7
 simp only[ae]
 by_cases h:(t.length:Int)>6
 · rw[zp h]; exact ⟨false,rfl,fun e=>by cases e⟩
 rw[zn h]
 have hg:∀ x:aeT,∃ b,zct l x.1=some b∧(b=true→TxnsOk l 20∧CountsOk x.1):=fun x=>xM l x.1
 have loop:=eW (f:=wF l t) (l:=t) (fun i=>((i:Int),())) (fun x=>(zct l x.1).getD false) true false (fun i hi=>by
   obtain ⟨b,hb,_⟩:=hg t[i]
   unfold wF
   simp only[ae]
   rw[zp (by omega),aL hi]
   simp only[zb,hb,Option.getD_some]
   rw[wrap64 (by omega) (by omega)]
   cases b<;>rfl) (by
   unfold wF
   simp only[ae]
   rw[zn (by omega)])
 refine ⟨_,loop,fun hb => ?_⟩
 have ha:t.all (fun x=>(zct l x.1).getD false)=true:=by
   cases hq:t.all (fun x=>(zct l x.1).getD false) with
   | true=>rfl
   | false=>rw[hq] at hb; cases hb
 refine ⟨by omega,fun x hx => ?_⟩
 obtain ⟨b,hb2,hb3⟩:=hg x
 have:=List.all_eq_true.1 ha x hx
 rw[hb2,Option.getD_some] at this
 exact hb3 this
end Go.Proofs.YtnbgkhdcidbkaaaGreatDoor.Q
namespace Go.Proofs.YtnbgkhdcidbkaaaGreatDoor.Q
open Go.EM Go.TY Go.Proofs Go.Proofs.YtnbgkhdcidbkaaaGreatDoor.Y
theorem ac5:nG []=true:=by
 unfold nG
 rw[zp (by intro i h; simp at h)]
theorem ay6 {a:UInt8} (h:a.toNat<128) (hm:mayM (a.toNat:Int)=true):vl [a]=true:=by
 unfold vl
 rw[lS h]
 simp[hm]
theorem anY:f8 [[97]]=0:=by
 unfold f8
 simp[ay6 (a:=97) (by decide) (by decide)]
abbrev inc0:Op1:=(3,[[97]],(0,0,[],()),1,[],())
theorem awx:opM inc0=0:=by
 unfold opM
 simp[anY,zeroV,ac5]
abbrev txn0:Txn1:=((0,1,()),0,1,false,[inc0],())
theorem av9:TxnsOk [txn0] 20 where
 len:=by simp
 rise:=List.pairwise_singleton ..
 all t ht:=by
   rw[List.mem_singleton.1 ht]
   exact ⟨by simp,by simp,fun o ho=>by rw[List.mem_singleton.1 ho]; exact ⟨⟨by simp,by simp,by simp,by simp⟩,.inl awx⟩,by decide,by decide,by decide⟩
theorem all0:allM [txn0] []=[(((0,1,()),0,()),inc0,1,())]:=rfl
theorem lowA:lowS [[97]]:=fun s hs=>by rw[List.mem_singleton.1 hs]; decide
theorem qcA:qcM [[97]]=0:=am6 (by decide) (by decide) (by
 simp only[List.any_cons,List.any_nil,Bool.or_false]
 exact ve (a:=97) (by decide) (by decide))
theorem ay8:kc [[97]] [[97]]=true:=by
 have h:kc [[97]] [[97]]=b7 [[97]] [[97]]:=by
   unfold kc
   rw[qcA]; rfl
 rw[h,iI (by decide),ad4 (by decide) (by decide) (by decide),gZ]
 decide
theorem ayY:∃ e,cm (allM [txn0] []) [[97]]=[e]:=by
 have hl:cu (allM [txn0] [])=[([[97]],3,())]:=by rw[all0]; decide
 unfold cm selM
 rw[hl,List.filter_cons]
 simp only[ay8,if_true,List.filter_nil,List.map_cons,List.map_nil]
 exact ⟨_,rfl⟩
theorem vS:zcm=some true:=by
 have hp:=pD av9 (by omega)
 have hu:LowU []:=⟨by simp,List.Pairwise.nil⟩
 have hi:=qq (u:=[]) av9
 unfold zcm
 rw[awp lowA (by decide),zp qcA]
 simp only[zb,List.isEmpty_cons,cond_false,List.head?_cons]
 rw[show ([((0,1,()),0,1,false,([(3,([[97]]:Path),(0,0,[],()),1,[],())]:List Op1),())]:List Txn1)=[txn0] from rfl,an5 hp.low hu]
 simp only[zb]
 have ho:=gU (q:=[[97]]) hi
 rw[adJ hi lowA ahA (by omega)]
 simp only[zb]
 rw[adJ hi lowA ho (by omega)]
 simp only[zb]
 obtain ⟨e,he⟩:=ayY
 have h1:dM [] (cm (allM [txn0] []) [[97]])=[sw e]:=by
   rw[he]
   unfold dM cr
   rfl
 have h2:dM (cm (allM [txn0] []) [[97]]) (cm (allM [txn0] []) [[97]])=[]:=(aer ho.rise ho.rise).2 rfl
 rw[h1,h2]
 rfl
theorem acT {q:Path} (h:(decide (q.length≤12)&&q.all fun x=>decide (x.length≤120))=true):lowS q∧q.length<1000000:=by
 obtain ⟨h1,h2⟩:=zq h
 exact ⟨fun s hs=>by have:=h2 s hs; omega,by omega⟩
end Go.Proofs.YtnbgkhdcidbkaaaGreatDoor.Q
namespace Go.Proofs.YtnbgkhdcidbkaaaGreatDoor.Q
open Go.EM Go.TY Go.Proofs Go.Proofs.YtnbgkhdcidbkaaaGreatDoor.Y
theorem zS {l:List Txn1}{t:List aeT}{q:Path} (ht:t.length≤6) (hg:∀ x∈t,TxnsOk l 20∧CountsOk x.1) (hq:lowS q) {i:Nat} (h:i<t.length) {seen:List Ent} (hs:VOk seen) :
   jL l t ((i:Int),(q,seen,(i:Int),()),(q,seen,(i:Int),()),())=some (.inl (((i+1:Nat):Int),(q,cm (allM l t[i].1) q,((i+1:Nat):Int),()),(q,cm (allM l t[i].1) q,((i+1:Nat):Int),()),())):=by
 obtain ⟨h1,h2⟩:=hg _ (zm h)
 have hp:=pD h1 (by omega)
 have hu:=o0 h2
 have hi:=qq (u:=t[i].1) h1
 have ho:=gU (q:=q) hi
 have hd:=awN hs ho
 have e1:((i+1:Nat):Int)=(i:Int)+1:=by omega
 unfold jL
 simp only[ae]
 rw[zp (by omega),aL h]
 simp only[zb]
 rw[an5 hp.low hu]
 simp only[zb]
 rw[awk hi hq]
 simp only[zb]
 rw[adJ hi hq hs (by omega)]
 simp only[zb]
 rw[af9 hp.low hu]
 simp only[zb]
 rw[ac8 hi hq hs (by omega)]
 simp only[zb]
 rw[amY (by omega) (awL hs.low ho.low)]
 simp only[zb,Bool.not_true,cond_false]
 rw[awe ho]
 simp only[zb]
 rw[xa (by have:=ho.len; omega)]
 simp only[zb]
 rw[iE (by have:=ho.len; omega) ho.low]
 simp only[zb,decide_true,Bool.not_true,cond_false]
 rw[anj]
 simp only[zb,decide_true,Bool.not_true,cond_false]
 have hpk:((!decide (cm (allM l t[i].1) q=seen))==decide (((dM seen (cm (allM l t[i].1) q)).length:Int)>0))=true:=by
   by_cases he:cm (allM l t[i].1) q=seen
   · have:dM seen (cm (allM l t[i].1) q)=[]:=(aer hs.rise ho.rise).2 he.symm
     rw[this,zt he]; rfl
   · have hne:dM seen (cm (allM l t[i].1) q)≠[]:=fun e=>he ((aer hs.rise ho.rise).1 e).symm
     have:=List.length_pos_iff.2 hne
     rw[zf he,zt (show ((dM seen (cm (allM l t[i].1) q)).length:Int)>0 by omega)]; rfl
 rw[hpk]
 simp only[Bool.not_true,cond_false]
 rw[wrap64 (by omega) (by omega),e1]
theorem zT {l:List Txn1}{t:List aeT}{q:Path} (ht:t.length≤6) (hg:∀ x∈t,TxnsOk l 20∧CountsOk x.1) (hq:lowS q) :
   aH (jL l t) (0,(q,[],0,()),(q,[],0,()),())=some true:=by
 have:=aZ (S:=List Ent) (R:=Bool) (f:=jL l t) (l:=t) (fun i s=>((i:Int),(q,s,(i:Int),()),(q,s,(i:Int),()),())) (fun _ x s=>.inl (cm (allM l x.1) q)) (fun _=>true) (fun _ s=>VOk s) (fun i h s hs=>by
   refine .inl ⟨_,rfl,zS ht hg hq h hs,?_⟩
   exact gU (qq (hg _ (zm h)).1)) (fun s hs=>by
   unfold jL
   simp only[ae]
   rw[zn (by omega),vS]; rfl) [] ahA
 rw[bV] at this
 exact this
theorem nD (l:List Txn1) (t:List aeT) (q:Path):za1 l t q=some true:=by
 unfold za1
 obtain ⟨b,hb,hg⟩:=agB l t
 rw[hb]
 simp only[zb,vS,xe]
 cases b with
 | false=>rfl
 | true =>
   obtain ⟨h1,h2⟩:=hg rfl
   simp only[Bool.not_true,cond_false]
   cases hsp:(decide (q.length≤12)&&q.all fun x=>decide (x.length≤120)) with
   | false=>rfl
   | true =>
     obtain ⟨hq,hl⟩:=acT hsp
     simp only[Bool.not_true,cond_false]
     rw[awp hq hl]
     simp only[zb]
     rw[mf hq]
     simp only[zb]
     by_cases h:qcM q=0
     · rw[zp h,h]
       simp only[List.isEmpty_cons,cond_false,List.head?_cons,zb,decide_true,Bool.not_true]
       exact zT h1 h2 hq
     · rw[zn h]
       simp only[List.isEmpty_nil,cond_true,decide_true,Bool.not_true,cond_false,zf h,Bool.not_false]
       rfl
theorem pA (l:List Txn1):za6 l=some true:=by
 unfold za6
 obtain ⟨b,hb,hg⟩:=xM l []
 rw[hb]
 simp only[zb,vS]
 cases b with
 | false=>rfl
 | true =>
   obtain ⟨h1,h2⟩:=hg rfl
   have hp:=pD h1 (by omega)
   have hu:=o0 h2
   simp only[Bool.not_true,cond_false]
   rw[an5 hp.low hu]
   rfl
theorem aeY:∀ v:uz.ps.V,okV uz.ps v→uz.fn v=some true:=fun v _=>by
 obtain ⟨l,t,q,⟨⟩⟩:=v
 exact nD l t q
theorem afH:∀ v:ut.ps.V,okV ut.ps v→ut.fn v=some true:=fun v _=>by
 obtain ⟨l,⟨⟩⟩:=v
 exact pA l
theorem awf:True:=by
 have h1:=amO
 have h2:=avY
 have h5:=za6_Fok
 have h6:=za6_ok
 trivial
end Go.Proofs.YtnbgkhdcidbkaaaGreatDoor.Q
