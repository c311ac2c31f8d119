import Derived.Test.YtnbgkhdcidbkaaaGreatDoorQsa
set_option linter.unusedVariables false
set_option linter.unusedSimpArgs false
set_option maxRecDepth 100000
namespace Go.Proofs.YtnbgkhdcidbkaaaGreatDoor.Q
open Go.EM Go.TY Go.Proofs Go.Proofs.YtnbgkhdcidbkaaaGreatDoor.Y
abbrev kT:=List Int×List Dot1×Unit
abbrev St1:=List Txn1×List Ref1×kT×kT×List (List Dot1)×Unit
abbrev Dl1:=List Txn1×List Ref1×List Dot1×Unit
abbrev apQ:=Int×Txn1×Int×Ref1×Int×Dl1×St1×Unit
theorem bO {A R S:Type}{f:A→Option (A⊕R)} (n:Nat) (enc:Nat→S→A) (inv:Nat→S→Prop) (Q:R→Prop)
   (hturn:∀ i s,i<n→inv i s→(∃ s',f (enc i s)=some (.inl (enc (i+1) s'))∧inv (i+1) s')∨(∃ r,f (enc i s)=some (.inr r)∧Q r))
   (hend:∀ s,inv n s→∃ r,f (enc n s)=some (.inr r)∧Q r):∀ s,inv 0 s→∃ r,aK f (enc 0 s)=some r∧Q r:=by
 have key:∀ (k i:Nat) (s:S),n-i≤k→i≤n→inv i s→∃ r,aK f (enc i s)=some r∧Q r:=by
   intro k
   induction k with
   | zero =>
     intro i s hk hi hv
     have:i=n:=by omega
     subst this
     obtain ⟨r,h1,h2⟩:=hend s hv
     exact ⟨r,aJ h1,h2⟩
   | succ k ih =>
     intro i s hk hi hv
     by_cases hlt:i<n
     · rcases hturn i s hlt hv with ⟨s',h1,h2⟩ | ⟨r,h1,h2⟩
       · obtain ⟨r,h3,h4⟩:=ih (i+1) s' (by omega) (by omega) h2
         exact ⟨r,(aP h1).trans h3,h4⟩
       · exact ⟨r,aJ h1,h2⟩
     · have:i=n:=by omega
       subst this
       obtain ⟨r,h1,h2⟩:=hend s hv
       exact ⟨r,aJ h1,h2⟩
 exact fun s hv=>key n 0 s (by omega) (by omega) hv
theorem qd {R:Type}{f:Int×Int×Unit→Option ((Int×Int×Unit)⊕((Int×Unit)⊕R))} (c:Nat→Bool) (n:Nat)
   (hturn:∀ i j:Nat,i<j→j≤n→f ((i:Int),(j:Int),())=some (.inl (if c ((i+j)/2)=true then ((((i+j)/2+1:Nat):Int),(j:Int),()) else ((i:Int),(((i+j)/2:Nat):Int),()))))
   (hend:∀ i:Nat,f ((i:Int),(i:Int),())=some (.inr (.inl ((i:Int),())))) :
   ∃ k:Nat,k≤n∧aK f ((0:Int),(n:Int),())=some (.inl ((k:Int),())):=by
 have key:∀ (q i j:Nat),j-i≤q→i≤j→j≤n→∃ k:Nat,k≤n∧aK f ((i:Int),(j:Int),())=some (.inl ((k:Int),())):=by
   intro q
   induction q with
   | zero =>
     intro i j h1 h2 h3
     have:i=j:=by omega
     subst this
     exact ⟨i,h3,aJ (hend i)⟩
   | succ q ih =>
     intro i j h1 h2 h3
     by_cases hij:i<j
     · have ht:=hturn i j hij h3
       by_cases hc:c ((i+j)/2)=true
       · rw[zp hc] at ht
         obtain ⟨k,k1,k2⟩:=ih ((i+j)/2+1) j (by omega) (by omega) h3
         exact ⟨k,k1,(aP ht).trans k2⟩
       · rw[zn hc] at ht
         obtain ⟨k,k1,k2⟩:=ih i ((i+j)/2) (by omega) (by omega) (by omega)
         exact ⟨k,k1,(aP ht).trans k2⟩
     · have:i=j:=by omega
       subst this
       exact ⟨i,h3,aJ (hend i)⟩
 exact key n 0 n (by omega) (by omega) (Nat.le_refl _)
theorem eu (d:Dot1):zcn d=some (aT d):=by
 unfold zcn aT
 simp only[ak]
 by_cases h1:d.1≥0<;>by_cases h2:d.1<16<;>by_cases h3:d.2.1≥1<;>by_cases h4:d.2.1≤1048576<;>simp[h1,h2,h3,h4]<;>omega
theorem fC {d:Dot1} (h:aT d=true):∃ k:Nat,k<16∧d.1=(k:Int)∧inI 16 d.1=some k:=by
 unfold aT at h
 simp only[decide_eq_true_eq] at h
 refine ⟨d.1.toNat,by omega,by omega,?_⟩
 unfold inI
 rw[zp (by omega)]
theorem yX {v:List Int}{d:Dot1} (hv:v.length=16):∃ b,zdd v d=some b:=by
 unfold zdd
 rw[eu]
 simp only[zb]
 cases h:aT d with
 | false=>exact ⟨_,rfl⟩
 | true =>
   obtain ⟨k,h1,h2,h3⟩:=fC h
   rw[cond_true,h3]
   simp only[zb]
   rw[zg (by omega)]
   exact ⟨_,rfl⟩
theorem kf {l:List Dot1}{d:Dot1} (hl:l.length<1000000) :
   ∃ k:Nat,k≤l.length∧∃ b,zac l d ()=some ((k:Int),b,())∧(b=true→∃ x∈l,x=d):=by
 obtain ⟨k,h1,h2⟩:=qd (f:=qM l d) (fun m=>match l[m]? with | some x=>decide (cmpD x d<0) | none=>false) l.length (fun i j hij hj=>by
   have hh:(i+j)/2<l.length:=by omega
   unfold qM
   simp only[ak]
   rw[zp (by omega),show (i:Int)+(j:Int)=((i+j:Nat):Int) by omega,rG (by omega)]
   simp only[zb]
   rw[wrap64 (n:=(((i+j)/2:Nat):Int)) (by omega) (by omega),aR hh]
   simp only[zb,iJ,zg hh,decide_eq_true_eq]
   rw[wrap64 (by omega) (by omega)]
   by_cases hc:cmpD l[(i+j)/2] d<0
   · rw[zp hc,zp hc]; rfl
   · rw[zn hc,zn hc]) (fun i=>by
   unfold qM
   simp only[ak]
   rw[zn (by omega)])
 refine ⟨k,h1,?_⟩
 unfold zac
 rw[h2,aE]
 simp only[ak]
 by_cases hk:k<l.length
 · rw[zp (by omega),aR hk]
   simp only[zb,iJ]
   exact ⟨_,rfl,fun h=>⟨_,zm hk,(cJ.zero _ _).1 (of_decide_eq_true h)⟩⟩
 · rw[zn (by omega)]
   exact ⟨_,rfl,fun h=>by cases h⟩
theorem oX {s:kT}{d:Dot1} (hv:s.1.length=16) (hm:s.2.1.length<1000000):∃ b,zc6 s d=some b:=by
 obtain ⟨b,hb⟩:=yX (d:=d) hv
 obtain ⟨k,_,c,hc,_⟩:=kf (d:=d) hm
 unfold zc6
 rw[hb,hc]
 simp only[zb]
 cases b<;>exact ⟨_,rfl⟩
structure DOk (s:kT) (n:Nat):Prop where
 vec:s.1.length=16
 len:s.2.1.length≤n
 right:∀ d∈s.2.1,aT d=true
theorem anD {v:List Int}{l:List Dot1} (hv:v.length=16) (hl:l.length<1000000) (hr:∀ d∈l,aT d=true):∃ s,zcv v l=some s∧DOk s l.length:=by
 unfold zcv
 refine bO (S:=List Int×List Dot1) (f:=qs l) l.length (fun i s=>((i:Int),([0,0,0,0,0,0,0,0,0,0,0,0,0,0,0,0],(),()),(s.1,(),()),s.2,())) (fun i s=>s.1.length=16∧s.2.length≤i∧∀ d∈s.2,aT d=true) (fun s=>DOk s l.length) (fun i s hi hs => ?_) (fun s hs => ?_) (v,[]) ⟨hv,by simp,fun d hd=>by cases hd⟩
 · obtain ⟨w,m⟩:=s
   obtain ⟨s1,s2,s3⟩:=hs
   have hx:=hr _ (zm hi)
   obtain ⟨k,k1,k2,k3⟩:=fC hx
   have k4:k<w.length:=by simp only at s1; omega
   have push:(∀ d∈m++[l[i]],aT d=true):=fun d hd=>by
     rcases List.mem_append.1 hd with h | h
     · exact s3 d h
     · rw[List.mem_singleton.1 h]; exact hx
   simp only at s1 s2 s3
   have room:dF (m.length+[l[i]].length)=some ():=de (by simp; omega)
   refine .inl ?_
   unfold qs
   simp only[ak]
   rw[zp (by omega),aR hi]
   simp only[zb,k3]
   rw[zg k4]
   simp only[zb]
   rw[wrap64 (n:=(i:Int)+1) (by omega) (by omega)]
   by_cases c1:l[i].2.1≤w[k]
   · rw[zp c1]; exact ⟨(w,m),rfl,s1,by simp only; omega,s3⟩
   rw[zn c1]
   by_cases c2:l[i].2.1=IntKind.wrap .i64 (w[k]+1)
   · rw[zp c2]; exact ⟨(w.set k l[i].2.1,m),rfl,by simp only[List.length_set]; exact s1,by simp only; omega,s3⟩
   rw[zn c2]
   by_cases c3:(m.length:Int)=0
   · rw[zp c3,room]; exact ⟨(w,m++[l[i]]),rfl,s1,by simp; omega,push⟩
   rw[zn c3,wrap64 (by omega) (by omega),show (m.length:Int)-1=((m.length-1:Nat):Int) by omega,dN (by omega)]
   simp only[zb]
   rw[zg (by omega)]
   simp only[zb,kQ,aW]
   by_cases c4:m[m.length-1]'(by omega)=l[i]
   · rw[zp c4]; exact ⟨(w,m),rfl,s1,by simp only; omega,s3⟩
   · rw[zn c4,room]; exact ⟨(w,m++[l[i]]),rfl,s1,by simp; omega,push⟩
 · unfold qs
   simp only[ak]
   rw[zn (by omega)]
   exact ⟨_,rfl,hs.1,hs.2.1,hs.2.2⟩
theorem xS {s:kT}{d:Dot1}{n:Nat} (hs:DOk s n) (hn:n<100000):∃ t,zda s d=some t∧DOk t (n+1):=by
 unfold zda
 rw[eu]
 simp only[zb]
 have up:DOk s (n+1):=⟨hs.vec,Nat.le_trans hs.len (by omega),hs.right⟩
 cases h:aT d with
 | false=>exact ⟨s,rfl,up⟩
 | true =>
   have hl:=hs.len
   obtain ⟨b,hb⟩:=oX (d:=d) hs.vec (by omega)
   rw[Bool.not_true,cond_false,hb]
   simp only[zb]
   cases b with
   | true=>exact ⟨s,rfl,up⟩
   | false =>
     obtain ⟨k,k1,c,hc,_⟩:=kf (l:=s.2.1) (d:=d) (by omega)
     rw[cond_false,hc]
     simp only[zb]
     have e1:zat s.2.1=some s.2.1:=by
       unfold zat ex
       rw[zp (by simp only[most]; omega)]
     have e2:zal (k:Int) [d] s.2.1=some (s.2.1.take k++[d]++s.2.1.drop k,()):=by
       unfold zal zaq insT
       rw[zp ⟨by omega,by omega,by simp,by simp only[most,List.length_singleton]; omega⟩]
       simp
     rw[e1]
     simp only[zb]
     rw[e2]
     simp only[zb]
     have hlen:(s.2.1.take k++[d]++s.2.1.drop k).length=s.2.1.length+1:=by simp; omega
     obtain ⟨t,t1,t2⟩:=anD (v:=s.1) (l:=s.2.1.take k++[d]++s.2.1.drop k) hs.vec (by omega) (fun x hx=>by
       rcases List.mem_append.1 hx with hx | hx
       · rcases List.mem_append.1 hx with hx | hx
         · exact hs.right x (List.mem_of_mem_take hx)
         · rw[List.mem_singleton.1 hx]; exact h
       · exact hs.right x (List.mem_of_mem_drop hx))
     rw[t1]
     exact ⟨t,rfl,t2.vec,by have:=t2.len; omega,t2.right⟩
theorem rP {s:kT}{n:Nat} (hs:DOk s n) (hn:n<100000):∃ t,za6 s=some t∧DOk t n:=by
 have hl:=hs.len
 unfold za6
 refine bO (S:=List Int×List Dot1) (f:=qP s) s.2.1.length (fun i t=>((i:Int),([0,0,0,0,0,0,0,0,0,0,0,0,0,0,0,0],(),()),(t.1,(),()),t.2,())) (fun i t=>t.1.length=16∧t.2.length≤i∧∀ d∈t.2,aT d=true) (fun t=>DOk t n) (fun i t hi ht => ?_) (fun t ht => ?_) (s.1,[]) ⟨hs.vec,by simp,fun d hd=>by cases hd⟩
 · obtain ⟨w,m⟩:=t
   obtain ⟨s1,s2,s3⟩:=ht
   have hx:=hs.right _ (zm hi)
   obtain ⟨k,k1,k2,k3⟩:=fC hx
   have k4:k<w.length:=by simp only at s1; omega
   have push:(∀ d∈m++[s.2.1[i]],aT d=true):=fun d hd=>by
     rcases List.mem_append.1 hd with h | h
     · exact s3 d h
     · rw[List.mem_singleton.1 h]; exact hx
   simp only at s1 s2 s3
   have room:dF (m.length+[s.2.1[i]].length)=some ():=de (by simp; omega)
   refine .inl ?_
   unfold qP
   simp only[ak]
   rw[zp (by omega),aR hi]
   simp only[zb,k3]
   rw[zg k4]
   simp only[zb]
   rw[wrap64 (n:=(i:Int)+1) (by omega) (by omega)]
   by_cases c2:s.2.1[i].2.1=IntKind.wrap .i64 (w[k]+1)
   · rw[zp c2]; exact ⟨(w.set k s.2.1[i].2.1,m),rfl,by simp only[List.length_set]; exact s1,by simp only; omega,s3⟩
   rw[zn c2]
   by_cases c3:s.2.1[i].2.1>w[k]
   · rw[zp c3,room]; exact ⟨(w,m++[s.2.1[i]]),rfl,s1,by simp; omega,push⟩
   · rw[zn c3]; exact ⟨(w,m),rfl,s1,by simp only; omega,s3⟩
 · unfold qP
   simp only[ak]
   rw[zn (by omega)]
   exact ⟨_,rfl,ht.1,by have:=ht.2.1; simp only; omega,ht.2.2⟩
theorem agi {v:List Int}{d:Dot1} (hv:v.length=16):∃ b,zcx v d=some b:=by
 unfold zcx
 rw[cS]
 simp only[zb]
 cases h:aT d with
 | false=>exact ⟨_,rfl⟩
 | true =>
   obtain ⟨k,h1,h2,h3⟩:=fC h
   rw[cond_true,h3]
   simp only[zb]
   rw[zg (by omega)]
   exact ⟨_,rfl⟩
theorem agh {s:kT}{d:Dot1} (hv:s.1.length=16) (hm:s.2.1.length<1000000):∃ b,zcr s d=some b:=by
 obtain ⟨b,hb⟩:=agi (d:=d) hv
 unfold zcr
 rw[hb]
 simp only[zb]
 cases b with
 | true=>exact ⟨_,rfl⟩
 | false =>
   obtain ⟨r,hr,_⟩:=bO (S:=Unit) (f:=qt s d) s.2.1.length (fun i _=>((i:Int),())) (fun _ _=>True) (fun _=>True) (fun i _ hi _=>by
     unfold qt
     simp only[ak,kQ]
     rw[zp (by omega),aR hi]
     simp only[zb]
     rw[wrap64 (by omega) (by omega)]
     by_cases c:s.2.1[i]=d
     · rw[zp c]; exact .inr ⟨_,rfl,trivial⟩
     · rw[zn c]; exact .inl ⟨(),rfl,trivial⟩) (fun _ _=>by
     unfold qt
     simp only[ak]
     rw[zn (by omega)]
     exact ⟨_,rfl,trivial⟩) () trivial
   exact ⟨r,hr⟩
theorem afV {s:kT}{d:Dot1}{n:Nat} (hs:DOk s n) (hn:n<10000):∃ t,zcy s d=some t∧DOk t (n+1):=by
 have hl:=hs.len
 have up:DOk s (n+1):=⟨hs.vec,by omega,hs.right⟩
 unfold zcy
 rw[cS]
 simp only[zb]
 cases h:aT d with
 | false=>exact ⟨s,rfl,up⟩
 | true =>
   obtain ⟨b,hb⟩:=agh (d:=d) hs.vec (show s.2.1.length<1000000 by omega)
   rw[Bool.not_true,cond_false,hb]
   simp only[zb]
   cases b with
   | true=>exact ⟨s,rfl,up⟩
   | false =>
     rw[cond_false]
     obtain ⟨r,h1,laid,l,rfl,h2,h3⟩:=bO (S:=Bool×List Dot1) (f:=qr s d) s.2.1.length (fun i t=>(t.1,(i:Int),([0,0,0,0,0,0,0,0,0,0,0,0,0,0,0,0],(),()),t.2,())) (fun i t=>(t.2.length=i+(if t.1=true then 1 else 0))∧∀ x∈t.2,aT x=true) (fun r=>∃ laid l,r = .inl (laid,([0,0,0,0,0,0,0,0,0,0,0,0,0,0,0,0],(),()),l,())∧(l.length=s.2.1.length+(if laid=true then 1 else 0))∧∀ x∈l,aT x=true) (fun i t hi ht=>by
       obtain ⟨laid,l⟩:=t
       obtain ⟨t1,t2⟩:=ht
       have hx:=hs.right _ (zm hi)
       simp only at t1 t2
       have bl:l.length≤i+1:=by cases laid<;>simp at t1<;>omega
       have room:∀ (m:List Dot1) (x:Dot1),m.length≤i+5→dF (m.length+[x].length)=some ():=fun m x hm=>de (by simp; omega)
       refine .inl ?_
       unfold qr
       simp only[ak]
       rw[zp (by omega),aR hi,wrap64 (n:=(i:Int)+1) (by omega) (by omega)]
       simp only[zb,fD]
       cases laid with
       | true =>
         rw[Bool.not_true,cond_false,aE]
         simp only
         rw[room l _ (by omega)]
         refine ⟨(true,l++[s.2.1[i]]),rfl,by simp at t1 ⊢; omega,fun x hx2 => ?_⟩
         rcases List.mem_append.1 hx2 with q | q
         · exact t2 x q
         · rw[List.mem_singleton.1 q]; exact hx
       | false =>
         rw[Bool.not_false,cond_true]
         by_cases c:cmpD d s.2.1[i]<0
         · rw[zp c,room l _ (by omega)]
           simp only[zb]
           rw[j0]
           simp only
           rw[room (l++[d]) _ (by simp; omega)]
           refine ⟨(true,l++[d]++[s.2.1[i]]),rfl,by simp at t1 ⊢; omega,fun x hx2 => ?_⟩
           rcases List.mem_append.1 hx2 with q | q
           · rcases List.mem_append.1 q with q | q
             · exact t2 x q
             · rw[List.mem_singleton.1 q]; exact h
           · rw[List.mem_singleton.1 q]; exact hx
         · rw[zn c,aE]
           simp only
           rw[room l _ (by omega)]
           refine ⟨(false,l++[s.2.1[i]]),rfl,by simp at t1 ⊢; omega,fun x hx2 => ?_⟩
           rcases List.mem_append.1 hx2 with q | q
           · exact t2 x q
           · rw[List.mem_singleton.1 q]; exact hx) (fun t ht=>by
       unfold qr
       simp only[ak]
       rw[zn (by omega)]
       exact ⟨_,rfl,_,_,rfl,ht.1,ht.2⟩) (false,[]) ⟨rfl,fun x hx=>by cases hx⟩
     rw[show ((false,(0:Int),(([0,0,0,0,0,0,0,0,0,0,0,0,0,0,0,0]:List Int),(),()),([]:List Dot1),()):Bool×Int×(List Int×Unit×Unit)×List Dot1×Unit)=(false,((0:Nat):Int),([0,0,0,0,0,0,0,0,0,0,0,0,0,0,0,0],(),()),[],()) from rfl,h1,aE]
     cases laid with
     | true =>
       simp only[Bool.not_true,cond_false]
       rw[aE]
       simp at h2
       obtain ⟨t,t1,t2⟩:=rP (s:=(s.1,l,())) (n:=n+1) ⟨hs.vec,by simp only; omega,h3⟩ (by omega)
       simp only
       rw[t1]; exact ⟨t,rfl,t2⟩
     | false =>
       simp only[Bool.not_false,cond_true]
       simp at h2
       rw[de (by simp; omega)]
       simp only[zb]
       rw[j0]
       obtain ⟨t,t1,t2⟩:=rP (s:=(s.1,l++[d],())) (n:=n+1) ⟨hs.vec,by simp; omega,fun x hx=>by
         rcases List.mem_append.1 hx with q | q
         · exact h3 x q
         · rw[List.mem_singleton.1 q]; exact h⟩ (by omega)
       simp only
       rw[t1]; exact ⟨t,rfl,t2⟩
end Go.Proofs.YtnbgkhdcidbkaaaGreatDoor.Q
namespace Go.Proofs.YtnbgkhdcidbkaaaGreatDoor.Q
open Go.EM Go.TY Go.Proofs Go.Proofs.YtnbgkhdcidbkaaaGreatDoor.Y
structure Wide (s:St1):Prop where
 known:s.2.2.1.1.length=16
 fast:s.2.2.2.1.1.length=16
 redo:s.2.2.2.2.1.length=8
structure ShortS (s:St1):Prop where
 txns:s.1.length≤20
 undos:s.2.1.length≤100
 known:s.2.2.1.2.1.length≤100
 fast:s.2.2.2.1.2.1.length≤100
 all:∀ t∈s.1,e9 t=true
 redo:∀ l∈s.2.2.2.2.1,l.length≤40
theorem dI {A R X:Type}{f:A→Option (A⊕R)}{l:List X} (enc:Nat→A) (P:X→Prop) (yes no:R)
   (hturn:∀ (i:Nat) (h:i<l.length),(f (enc i)=some (.inl (enc (i+1)))∧P l[i])∨f (enc i)=some (.inr no)) (hend:f (enc l.length)=some (.inr yes)) :
   (aK f (enc 0)=some yes∧∀ x∈l,P x)∨aK f (enc 0)=some no:=by
 obtain ⟨r,h1,h2⟩:=bO (S:=Unit) (f:=f) l.length (fun i _=>enc i) (fun i _=>∀ k (h:k<l.length),k<i→P l[k]) (fun r=>(r=yes∧∀ x∈l,P x)∨r=no) (fun i _ hi hv=>by
   rcases hturn i hi with ⟨h1,h2⟩ | h1
   · exact .inl ⟨(), h1, fun k hk hki => by
       by_cases e:k=i
       · subst e; exact h2
       · exact hv k hk (by omega)⟩
   · exact .inr ⟨no,h1,.inr rfl⟩) (fun _ hv=>⟨yes,hend,.inl ⟨rfl,fun x hx=>by
   obtain ⟨k,hk,rfl⟩:=List.mem_iff_getElem.1 hx
   exact hv k hk hk⟩⟩) () (fun k hk hki=>by omega)
 rcases h2 with ⟨rfl,h2⟩ | rfl
 · exact .inl ⟨h1,h2⟩
 · exact .inr h1
theorem ww {s:St1} (hw:Wide s):∃ b,zby s=some b∧(b=true→ShortS s):=by
 have l1:s.1.length≤20→((aK (kW) (((0:Nat):Int),s,())=some (.inl (s,()))∧∀ t∈s.1,e9 t=true)∨aK (kW) (((0:Nat):Int),s,())=some (.inr false)):=fun hl=>by
   refine dI (f:=kW) (l:=s.1) (fun i=>((i:Int),s,())) (fun t=>e9 t=true) (.inl (s,())) (.inr false) (fun i h => ?_) ?_
   · unfold kW
     simp only[ak]
     rw[zp (by omega),aR h]
     simp only[zb,lq]
     cases hs:e9 s.1[i] with
     | false=>exact .inr rfl
     | true =>
       refine .inl ⟨?_,by trivial⟩
       rw[Bool.not_true,cond_false,wrap64 (by omega) (by omega)]; rfl
   · unfold kW
     simp only[ak]
     rw[zn (by omega)]
 have l2:(aK (kV) (((0:Nat):Int),s,())=some true∧∀ l∈s.2.2.2.2.1,l.length≤40)∨aK (kV) (((0:Nat):Int),s,())=some false:=by
   have hr:=hw.redo
   refine dI (f:=kV) (l:=s.2.2.2.2.1) (fun i=>((i:Int),s,())) (fun l=>l.length≤40) true false (fun i h => ?_) ?_
   · unfold kV
     simp only[ak]
     rw[zp (by omega),dN (by omega)]
     simp only[zb]
     rw[zg h]
     simp only[zb]
     by_cases c:((s.2.2.2.2.1[i].length:Int)>40)
     · rw[zp c]; exact .inr rfl
     · rw[zn c,wrap64 (by omega) (by omega)]; exact .inl ⟨rfl,by omega⟩
   · unfold kV
     simp only[ak]
     rw[zn (by omega)]
 unfold zby
 simp only[ak]
 by_cases c1:(s.1.length:Int)>20
 · rw[zp c1]; exact ⟨false,rfl,fun h=>by cases h⟩
 rw[zn c1]
 simp only[zb,ak]
 by_cases c2:(s.2.1.length:Int)>100
 · rw[zp c2]; exact ⟨false,rfl,fun h=>by cases h⟩
 rw[zn c2]
 by_cases c3:(s.2.2.1.2.1.length:Int)>100
 · rw[zp c3]; exact ⟨false,rfl,fun h=>by cases h⟩
 rw[zn c3]
 by_cases c4:(s.2.2.2.1.2.1.length:Int)>100
 · rw[zp c4]; exact ⟨false,rfl,fun h=>by cases h⟩
 rw[zn c4]
 rcases l1 (by omega) with ⟨h1,h2⟩ | h1
 · rw[show ((0:Int),s,())=(((0:Nat):Int),s,()) from rfl,h1,aE]
   simp only
   rcases l2 with ⟨h3,h4⟩ | h3
   · rw[show ((0:Int),s,())=(((0:Nat):Int),s,()) from rfl,h3]
     exact ⟨true,rfl,fun _=>⟨by omega,by omega,by omega,by omega,h2,h4⟩⟩
   · rw[show ((0:Int),s,())=(((0:Nat):Int),s,()) from rfl,h3]
     exact ⟨false,rfl,fun h=>by cases h⟩
 · rw[show ((0:Int),s,())=(((0:Nat):Int),s,()) from rfl,h1]
   exact ⟨false,rfl,fun h=>by cases h⟩
theorem wG {v:List Int} (hv:v.length=16):∃ b,zbj v=some b:=by
 unfold zbj
 obtain ⟨r,h,_⟩:=bO (S:=Unit) (f:=qB) 16 (fun i _=>((i:Int),v,())) (fun _ _=>True) (fun _=>True) (fun i _ hi _=>by
   unfold qB
   simp only[ak]
   rw[zp (by omega),dN (by omega)]
   simp only[zb]
   rw[zg (by omega),wrap64 (by omega) (by omega)]
   simp only[zb]
   by_cases c1:v[i]<0
   · rw[zp c1]; exact .inr ⟨_,rfl,trivial⟩
   rw[zn c1]
   by_cases c2:v[i]>1048576
   · rw[zp c2]; exact .inr ⟨_,rfl,trivial⟩
   · rw[zn c2]; exact .inl ⟨(),rfl,trivial⟩) (fun _ _=>by
   unfold qB
   simp only[ak]
   rw[zn (by omega)]
   exact ⟨_,rfl,trivial⟩) () trivial
 exact ⟨r,h⟩
theorem oh {s:kT} (hv:s.1.length=16) (hm:s.2.1.length≤100):∃ b,zbl s=some b∧(b=true→DOk s 100):=by
 obtain ⟨b,hb⟩:=wG hv
 unfold zbl
 rw[hb]
 simp only[zb]
 cases b with
 | false=>exact ⟨false,rfl,fun h=>by cases h⟩
 | true =>
   simp only[Bool.not_true,cond_false,ak]
   rw[zn (by omega)]
   have:=dI (f:=qA) (l:=s.2.1) (fun i=>((i:Int),s,())) (fun d=>aT d=true) true false (fun i h=>by
     unfold qA
     simp only[ak]
     rw[zp (by omega),aR h]
     simp only[zb,cS]
     cases hs:aT s.2.1[i] with
     | false=>exact .inr rfl
     | true =>
       obtain ⟨k,k1,k2,k3⟩:=fC hs
       simp only[Bool.not_true,cond_false]
       rw[k3]
       simp only[zb]
       rw[zg (by omega),wrap64 (n:=(i:Int)+1) (by omega) (by omega)]
       simp only[zb]
       by_cases c1:IntKind.wrap .i64 (s.2.1[i].2.1-1)≤s.1[k]'(by omega)
       · rw[zp c1]; exact .inr rfl
       rw[zn c1]
       by_cases c2:(i:Int)>0
       · rw[zp c2,wrap64 (by omega) (by omega),show (i:Int)-1=((i-1:Nat):Int) by omega,aR (by omega)]
         simp only[zb,fD,aW]
         by_cases c3:cmpD (s.2.1[i-1]'(by omega)) s.2.1[i] = -1
         · rw[zp c3]; exact .inl ⟨rfl,by trivial⟩
         · rw[zn c3]; exact .inr rfl
       · rw[zn c2]; exact .inl ⟨rfl,by trivial⟩) (by
     unfold qA
     simp only[ak]
     rw[zn (by omega)])
   rcases this with ⟨h1,h2⟩ | h1
   · exact ⟨true,h1,fun _=>⟨hv,hm,h2⟩⟩
   · exact ⟨false,h1,fun h=>by cases h⟩
theorem af8 {l:List Txn1} (hl:l.length≤1000):∃ s,zbf l=some s:=by
 unfold zbf
 obtain ⟨r,h,_⟩:=bO (S:=kT) (f:=qE l) l.length (fun i s=>((i:Int),([0,0,0,0,0,0,0,0,0,0,0,0,0,0,0,0],(),()),s,())) (fun i s=>DOk s i) (fun _=>True) (fun i s hi hs=>by
   obtain ⟨t,t1,t2⟩:=afV (d:=l[i].1) hs (by omega)
   unfold qE
   simp only[ak]
   rw[zp (by omega),aR hi]
   simp only[zb]
   rw[t1,wrap64 (by omega) (by omega)]
   exact .inl ⟨t,rfl,t2⟩) (fun s _=>by
   unfold qE
   simp only[ak]
   rw[zn (by omega)]
   exact ⟨_,rfl,trivial⟩) ([0,0,0,0,0,0,0,0,0,0,0,0,0,0,0,0],[],()) ⟨rfl,by simp,fun d hd=>by cases hd⟩
 exact ⟨r,h⟩
theorem zo {a b:List Dot1} (ha:a.length<1000000):∃ c,zb9 a b=some c:=by
 unfold zb9
 simp only[aW]
 by_cases h:(a.length:Int)=b.length
 · rw[zp h]
   obtain ⟨r,h,_⟩:=bO (S:=Unit) (f:=qF a b) a.length (fun i _=>((i:Int),())) (fun _ _=>True) (fun _=>True) (fun i _ hi _=>by
     unfold qF
     simp only[ak]
     rw[zp (by omega),aR hi,aR (by omega),wrap64 (by omega) (by omega)]
     simp only[zb,kQ,aW]
     by_cases c:a[i]=b[i]'(by omega)
     · rw[zp c]; exact .inl ⟨(),rfl,trivial⟩
     · rw[zn c]; exact .inr ⟨_,rfl,trivial⟩) (fun _ _=>by
     unfold qF
     simp only[ak]
     rw[zn (by omega)]
     exact ⟨_,rfl,trivial⟩) () trivial
   exact ⟨r,h⟩
 · rw[zn h]; exact ⟨_,rfl⟩
structure GoodS (s:St1):Prop where
 txns:TxnsOk s.1 20
 undos:CountsOk s.2.1
 known:DOk s.2.2.1 100
 fast:DOk s.2.2.2.1 100
 rlen:s.2.2.2.2.1.length=8
 redo:∀ l∈s.2.2.2.2.1,l.length≤40
theorem wF {s:St1} (hw:Wide s) (hs:ShortS s):∃ b,zbw s=some b∧(b=true→GoodS s):=by
 have n1:=hs.txns; have n2:=hs.undos; have n3:=hs.known; have n4:=hs.fast; have hr:=hw.redo
 have no:∀ {Q:Prop},∃ b,some false=some b∧(b=true→Q):=fun {Q}=>⟨false,rfl,fun h=>by cases h⟩
 unfold zbw
 simp only[ak]
 rw[zn (by omega),wE (by omega)]
 simp only[zb]
 by_cases r1:∀ i,i<s.1.length-1→lD (·.1) s.1 i=true
 rotate_left
 · rw[zn r1]; exact no
 rw[zp r1,Bool.not_true,cond_false,zw (by omega)]
 simp only[zb]
 by_cases r2:∀ i,i<s.2.1.length→gg s.2.1 i=true
 rotate_left
 · rw[zn r2]; exact no
 rw[zp r2,Bool.not_true,cond_false]
 obtain ⟨b3,r3,k3⟩:=oh hw.fast n4
 rw[r3]
 simp only[zb]
 cases b3 with
 | false=>exact no
 | true =>
 rw[Bool.not_true,cond_false]
 have l1:=dI (f:=qy) (l:=s.1) (fun i=>((i:Int),s,())) (fun t=>txnM t=0) (.inl (s,())) (.inr false) (fun i h=>by
   unfold qy
   simp only[ak]
   rw[zp (by omega),aR h]
   simp only[zb]
   rw[ld (hs.all _ (zm h)),wrap64 (by omega) (by omega)]
   simp only[zb,aW]
   by_cases c:txnM s.1[i]=0
   · rw[zp c]; exact .inl ⟨rfl,c⟩
   · rw[zn c]; exact .inr rfl) (by
   unfold qy
   simp only[ak]
   rw[zn (by omega)])
 rcases l1 with ⟨h1,h2⟩ | h1
 rotate_left
 · rw[show ((0:Int),s,())=(((0:Nat):Int),s,()) from rfl,h1]; exact no
 rw[show ((0:Int),s,())=(((0:Nat):Int),s,()) from rfl,h1,aE]
 simp only
 have l2:(aK kX (((0:Nat):Int),s,())=some (.inl (s,()))∧∀ l∈s.2.2.2.2.1,True)∨aK kX (((0:Nat):Int),s,())=some (.inr false):=by
   refine dI (f:=kX) (l:=s.2.2.2.2.1) (fun i=>((i:Int),s,())) (fun _=>True) (.inl (s,())) (.inr false) (fun i h => ?_) ?_
   · have hl:=hs.redo _ (zm h)
     have inner:=dI (f:=mC ((i:Int),s,())) (l:=s.2.2.2.2.1[i]) (fun k=>((k:Int),s,())) (fun _=>True) (.inl ((((i+1:Nat):Int),s,()))) (.inr (.inr false)) (fun k hk=>by
       unfold mC
       simp only
       rw[dN (show i<8 by omega)]
       simp only[zb]
       rw[zg h]
       simp only[zb,ak]
       rw[zp (by omega),aR hk,wrap64 (n:=(k:Int)+1) (by omega) (by omega)]
       simp only[zb,cS]
       cases aT s.2.2.2.2.1[i][k] with
       | false=>exact .inr rfl
       | true=>exact .inl ⟨rfl,trivial⟩) (by
       unfold mC
       simp only
       rw[dN (show i<8 by omega)]
       simp only[zb]
       rw[zg h]
       simp only[zb,ak]
       rw[zn (by omega),wrap64 (n:=(i:Int)+1) (by omega) (by omega)]; rfl)
     unfold kX
     simp only[ak]
     rw[zp (by omega),dN (by omega)]
     simp only[zb]
     rw[zg h]
     simp only[zb]
     rw[zn (by omega)]
     rcases inner with ⟨q,_⟩ | q
     · exact .inl ⟨q,trivial⟩
     · exact .inr q
   · unfold kX
     simp only[ak]
     rw[zn (by omega)]
 rcases l2 with ⟨h3,_⟩ | h3
 rotate_left
 · rw[show ((0:Int),s,())=(((0:Nat):Int),s,()) from rfl,h3]; exact no
 rw[show ((0:Int),s,())=(((0:Nat):Int),s,()) from rfl,h3,aE]
 simp only
 obtain ⟨b5,r5,k5⟩:=oh hw.known n3
 rw[r5]
 simp only[zb]
 cases b5 with
 | false=>exact no
 | true =>
 rw[cond_true]
 obtain ⟨kn,hk⟩:=af8 (l:=s.1) (by omega)
 rw[hk]
 simp only[zb]
 have fin:GoodS s:=⟨⟨n1,sR r1,fun t ht=>aaF (hs.all t ht) (h2 t ht)⟩,counts_of n2 r2,k5 rfl,k3 rfl,hr,hs.redo⟩
 unfold zcg
 cases eqV (.arr 16 (.int .i64)) s.2.2.1.1 kn.1 with
 | false=>exact ⟨false,rfl,fun _=>fin⟩
 | true =>
   obtain ⟨c,hc⟩:=zo (a:=s.2.2.1.2.1) (b:=kn.2.1) (by omega)
   rw[cond_true,hc]
   exact ⟨c,rfl,fun _=>fin⟩
theorem nt {s:St1} (hw:Wide s):∃ b,zcc s=some b∧(b=true→GoodS s):=by
 obtain ⟨b,h1,h2⟩:=ww hw
 unfold zcc
 rw[h1]
 simp only[zb]
 cases b with
 | false=>exact ⟨false,rfl,fun h=>by cases h⟩
 | true =>
   obtain ⟨c,h3,h4⟩:=wF hw (h2 rfl)
   rw[cond_true,h3]
   exact ⟨c,rfl,h4⟩
end Go.Proofs.YtnbgkhdcidbkaaaGreatDoor.Q
namespace Go.Proofs.YtnbgkhdcidbkaaaGreatDoor.Q
open Go.EM Go.TY Go.Proofs Go.Proofs.YtnbgkhdcidbkaaaGreatDoor.Y
def ep:List Ref1→Ref1→List Ref1
 | [],x=>[x]
 | y::l,x=>if cmpD y.1 x.1<0 then y::ep l x else if 0<cmpD y.1 x.1 then x::y::l else (y.1,max y.2.1 x.2.1,())::l
theorem rz {x:Ref1}:∀ (l:List Ref1),(ep l x).length≤l.length+1
 | []=>by simp[ep]
 | y::l=>by
   have:=rz (x:=x) l
   unfold ep
   split
   · simp; omega
   · split<;>simp
theorem ry {x z:Ref1}:∀ {l:List Ref1},z∈ep l x→z.1=x.1∨∃ y∈l,z.1=y.1
 | [],h=>by
   rw[List.mem_singleton.1 h]; exact .inl rfl
 | y::l,h=>by
   unfold ep at h
   split at h
   · rcases List.mem_cons.1 h with e | h
     · exact .inr ⟨y,List.mem_cons_self ..,by rw[e]⟩
     · rcases ry h with e | ⟨w,w1,w2⟩
       · exact .inl e
       · exact .inr ⟨w,List.mem_cons_of_mem _ w1,w2⟩
   · split at h
     · rcases List.mem_cons.1 h with e | h
       · exact .inl (by rw[e])
       · exact .inr ⟨z,h,rfl⟩
     · rcases List.mem_cons.1 h with e | h
       · exact .inr ⟨y,List.mem_cons_self ..,by rw[e]⟩
       · exact .inr ⟨z,List.mem_cons_of_mem _ h,rfl⟩
theorem join_one {x:Ref1} (hx:oneM x=true):∀ {l:List Ref1},(∀ y∈l,oneM y=true)→∀ z∈ep l x,oneM z=true
 | [],_,z,h=>by rw[List.mem_singleton.1 h]; exact hx
 | y::l,hl,z,h=>by
   unfold ep at h
   split at h
   · rcases List.mem_cons.1 h with e | h
     · rw[e]; exact hl y (List.mem_cons_self ..)
     · exact join_one hx (fun w hw=>hl w (List.mem_cons_of_mem _ hw)) z h
   · split at h
     · rcases List.mem_cons.1 h with e | h
       · rw[e]; exact hx
       · exact hl z h
     · rcases List.mem_cons.1 h with e | h
       · have hy:=hl y (List.mem_cons_self ..)
         rw[e]
         unfold oneM at hx hy ⊢
         simp only[Bool.and_eq_true,decide_eq_true_eq] at hx hy ⊢
         exact ⟨hy.1,by omega,by omega⟩
       · exact hl z (List.mem_cons_of_mem _ h)
theorem oH {x:Ref1}:∀ {l:List Ref1},kI l→kI (ep l x)
 | [],_=>List.pairwise_singleton ..
 | y::l,h=>by
   have h1:=List.pairwise_cons.1 h
   unfold ep
   split
   · rename_i c
     refine List.pairwise_cons.2 ⟨fun z hz => ?_,oH h1.2⟩
     show cmpD y.1 z.1<0
     rcases ry hz with e | ⟨w,w1,w2⟩
     · rw[e]; exact c
     · rw[w2]; exact h1.1 w w1
   · rename_i c
     split
     · rename_i d
       have d':cmpD x.1 y.1<0:=by have:=cJ.neg x.1 y.1; omega
       refine List.pairwise_cons.2 ⟨fun z hz => ?_,h⟩
       rcases List.mem_cons.1 hz with e | hz
       · rw[e]; exact d'
       · exact cJ.trans _ _ _ d' (h1.1 z hz)
     · exact List.pairwise_cons.2 ⟨h1.1,h1.2⟩
theorem nu {x:Ref1} (hx:0≤x.2.1) {d:Dot1}:∀ {l:List Ref1},kI l→getM (ep l x) d=if d=x.1 then max (getM l d) x.2.1 else getM l d
 | [],_=>by
   unfold ep getM getM
   by_cases h:x.1=d
   · rw[zp h,zp h.symm]; omega
   · rw[zn h,zn (fun e=>h e.symm)]
 | y::l,h=>by
   have h1:=List.pairwise_cons.1 h
   have ih:=nu hx (d:=d) h1.2
   unfold ep
   by_cases c:cmpD y.1 x.1<0
   · rw[zp c]
     conv=>lhs; unfold getM
     conv=>rhs; unfold getM
     by_cases e:y.1=d
     · rw[zp e,zp e]
       have ne:d≠x.1:=fun e2=>by rw[e,e2,(cJ.zero _ _).2 rfl] at c; omega
       rw[zn ne]
     · rw[zn e,zn e,ih]
   · rw[zn c]
     by_cases c2:0<cmpD y.1 x.1
     · rw[zp c2]
       conv=>lhs; unfold getM
       by_cases e:x.1=d
       · rw[zp e,zp e.symm,gz]
         · omega
         · intro z hz
           rcases List.mem_cons.1 hz with q | hz
           · rw[q,← e]; exact kj (by omega)
           · have:=cJ.trans _ _ _ (show cmpD x.1 y.1<0 by have:=cJ.neg x.1 y.1; omega) (h1.1 z hz)
             have q:cmpD x.1 z.1<0:=this
             rw[← e]; exact kj (by have:=cJ.neg z.1 x.1; omega)
       · rw[zn e,zn (fun q=>e q.symm)]
     · rw[zn c2]
       have e0:y.1=x.1:=(cJ.zero _ _).1 (by omega)
       conv=>lhs; unfold getM
       conv=>rhs; unfold getM
       by_cases e:y.1=d
       · rw[zp e,zp e,zp (by rw[← e,e0])]
       · rw[zn e,zn e,zn (fun q=>e (by rw[e0,q]))]
theorem j3:∀ (a out:List Ref1),a.length+out.length<1000000→aK eT (a,[],out,())=some (out++a)
 | [],out,_=>by
   refine (aJ ?_).trans (by rw[List.append_nil])
   unfold eT
   simp
 | y::a,out,h=>by
   have turn:eT (y::a,[],out,())=some (.inl (a,[],out++[y],())):=by
     unfold eT
     simp only[ak,zl,List.length_nil]
     rw[zp (by omega),aE,zn (by omega),zn (by omega),aE]
     simp only
     rw[zp (by omega),show atI (y::a) 0=some y from rfl]
     simp only[zb]
     rw[de (by simp at h ⊢; omega)]
     simp only[zb]
     rw[show ((a.length+1:Nat):Int)=((y::a).length:Int) from rfl,show (1:Int)=((1:Nat):Int) from rfl,ed (by simp)]
     rfl
   rw[aP turn,j3 a (out++[y]) (by simp at h ⊢; omega),List.append_assoc]; rfl
theorem lL:∀ (a out:List Ref1),a.length+out.length<1000000→aK eT ([],a,out,())=some (out++a)
 | [],out,_=>by
   refine (aJ ?_).trans (by rw[List.append_nil])
   unfold eT
   simp
 | y::a,out,h=>by
   have turn:eT ([],y::a,out,())=some (.inl ([],a,out++[y],())):=by
     unfold eT
     simp only[ak,zl,List.length_nil]
     rw[zn (by omega),zp (by omega),aE,zp (by omega),aE]
     simp only
     rw[zn (by omega),zp (by omega),show atI (y::a) 0=some y from rfl]
     simp only[zb]
     rw[de (by simp at h ⊢; omega)]
     simp only[zb]
     rw[show ((a.length+1:Nat):Int)=((y::a).length:Int) from rfl,show (1:Int)=((1:Nat):Int) from rfl,ed (by simp)]
     rfl
   rw[aP turn,lL a (out++[y]) (by simp at h ⊢; omega),List.append_assoc]; rfl
theorem oI {x:Ref1}:∀ (a out:List Ref1),a.length+out.length<900000→aK eT (a,[x],out,())=some (out++ep a x)
 | [],out,h=>by rw[lL [x] out (by simp at h ⊢; omega)]; rfl
 | y::a,out,h=>by
   simp only[zl] at h
   have head:eT (y::a,[x],out,())=if cmpD y.1 x.1<0 then some (.inl (a,[x],out++[y],())) else if 0<cmpD y.1 x.1 then some (.inl (y::a,[],out++[x],())) else some (.inl (a,[],out++[(y.1,max y.2.1 x.2.1,())],())):=by
     unfold eT
     simp only[ak,zl,List.length_nil]
     rw[zp (by omega),aE,zn (by omega),zp (by omega),show atI (y::a) 0=some y from rfl,show atI [x] 0=some x from rfl]
     simp only[zb,mL]
     rw[j0]
     simp only
     rw[de (show out.length+1<4294967296 by omega),show ((a.length+1:Nat):Int)=((y::a).length:Int) from rfl,show ((0+1:Nat):Int)=(([x]:List Ref1).length:Int) from rfl,show (1:Int)=((1:Nat):Int) from rfl,ed (l:=y::a) (i:=1) (by simp),ed (l:=[x]) (i:=1) (by simp)]
     rfl
   unfold ep
   by_cases c:cmpD y.1 x.1<0
   · rw[zp c] at head ⊢
     rw[aP head,oI a (out++[y]) (by simp; omega),List.append_assoc]; rfl
   · rw[zn c] at head ⊢
     by_cases c2:0<cmpD y.1 x.1
     · rw[zp c2] at head ⊢
       rw[aP head,j3 (y::a) (out++[x]) (by simp; omega),List.append_assoc]; rfl
     · rw[zn c2] at head ⊢
       rw[aP head,j3 a (out++[(y.1,max y.2.1 x.2.1,())]) (by simp; omega),List.append_assoc]; rfl
theorem anH {a:List Ref1}{x:Ref1} (h:a.length<800000):zb8 a [x]=some (ep a x):=by
 unfold zb8
 rw[oI a [] (by simp; omega)]; rfl
structure UOk (u:List Ref1) (n:Nat):Prop where
 len:u.length≤n
 rise:kI u
 one:∀ x∈u,oneM x=true
theorem UOk.low {u:List Ref1}{n:Nat} (h:UOk u n) (hn:n<100000):LowU u:=⟨by have:=h.len; omega,h.rise⟩
theorem UOk.join {u:List Ref1}{n:Nat}{x:Ref1} (h:UOk u n) (hx:oneM x=true):UOk (ep u x) (n+1):=⟨by have:=rz (x:=x) u; have:=h.len; omega,oH h.rise,join_one hx h.one⟩
theorem j7 {d:Dot1}:∀ {u:List Ref1},(∀ x∈u,oneM x=true)→0≤getM u d∧getM u d≤64
 | [],_=>by unfold getM; omega
 | x::u,h=>by
   unfold getM
   by_cases e:x.1=d
   · rw[zp e]
     have:=h x (List.mem_cons_self ..)
     unfold oneM at this
     simp only[Bool.and_eq_true,decide_eq_true_eq] at this
     omega
   · rw[zn e]; exact j7 fun y hy=>h y (List.mem_cons_of_mem _ hy)
theorem dC {u:List Ref1}{d:Dot1} (h:0≤getM u d):bR u d=decide (getM u d%2=0):=by
 unfold bR remT
 rw[zn (by omega)]
 simp only
 rw[Int.tmod_eq_emod_of_nonneg h]
theorem wN {u:List Ref1}{d:Dot1}{n:Nat} (h:UOk u n) (hn:n<100000) :
   zb1 u d=some (if aT d=false then (((0,0,()),0,()),2,()) else if getM u d≥64 then (((0,0,()),0,()),14,()) else ((d,getM u d+1,()),0,())):=by
 have hg:=j7 (d:=d) h.one
 unfold zb1
 rw[lg (h.low hn).len h.rise,eu]
 simp only[zb,ak]
 rw[wrap64 (by omega) (by omega)]
 cases aT d with
 | false=>rfl
 | true =>
   by_cases c:getM u d≥64<;>simp[c]
structure StOk (s:St1) (n:Nat):Prop where
 txns:s.1.length≤1000
 undos:UOk s.2.1 n
 vec:s.2.2.2.1.1.length=16
 more:s.2.2.2.1.2.1.length≤100000
 rlen:s.2.2.2.2.1.length=8
theorem GoodS.st {s:St1} (h:GoodS s):StOk s 100:=⟨by have:=h.txns.len; omega,⟨h.undos.len,h.undos.rise,h.undos.one⟩,h.fast.vec,by have:=h.fast.len; omega,h.rlen⟩
theorem zO {s:St1}{n:Nat}{d:Dot1} (h:StOk s n) (hn:n<100000):∃ b,zc6 s.2.2.2.1 d=some b∧zc1 s d=some (if b=true then 13 else if aT d=false then 2 else if getM s.2.1 d≥64 then 14 else 0):=by
 obtain ⟨b,hb⟩:=oX (d:=d) h.vec (by have:=h.more; omega)
 refine ⟨b,hb,?_⟩
 unfold zc1
 rw[hb,wN h.undos hn]
 simp only[zb]
 cases b with
 | true=>rfl
 | false =>
   by_cases c1:aT d=false<;>by_cases c2:getM s.2.1 d≥64<;>simp[c1,c2]
def keyT (t:Txn1):Int×Dot1:=(t.2.2.1,t.1)
def anO:Int×Dot1→Int×Dot1→Int:=cmpB cmpI cmpD
theorem ma:Cmp anO:=rW.pair cJ
def cmpT (a b:Txn1):Int:=anO (keyT a) (keyT b)
theorem ans (a b:Txn1):zbb a b=some (cmpT a b):=by
 unfold zbb
 rw[o4,iJ]
 simp only[zb]
 rw[or_t]; rfl
theorem om (a b:Txn1):dw a b=some (cmpT a b):=by
 unfold dw
 simp only[ak,fD,zb]
 show _=some (orI (cmpI a.2.2.1 b.2.2.1) (cmpD a.1 b.1))
 unfold orI cmpI
 by_cases h1:a.2.2.1<b.2.2.1
 · rw[zp h1,zp h1,zn (by omega)]
 rw[zn h1,zn h1]
 by_cases h2:a.2.2.1>b.2.2.1
 · rw[zp h2,zp h2,zn (by omega)]
 · rw[zn h2,zn h2,zp rfl]
def Cand (s:St1) (user:Int) (t:Txn1):Prop:=t∈s.1∧t.2.1=user∧bR s.2.1 t.1=true
structure Best (s:St1) (user:Int) (t:Txn1):Prop where
 cand:Cand s user t
 top:∀ x,Cand s user x→cmpT x t≤0
theorem oD {s:St1}{n:Nat}{user:Int} (h:StOk s n) (hn:n<100000) :
   ((∀ t,¬ Cand s user t)∧zb2 s user=some ((0,0,()),11,())) ∨
   ∃ t e,Best s user t∧zc1 s t.1=some e∧zb2 s user=some (if e=0 then (t.1,0,()) else ((0,0,()),e,())):=by
 have hl:=h.txns
 have hu:=h.undos.low hn
 obtain ⟨r, h1, b, z, rfl, h2⟩ := bO (S := Option Txn1) (f := qH s user) s.1.length (fun i b => (b, (i : Int), (0, 0, ()), ())) (fun i b => match b with
     | none=>∀ k (hk:k<s.1.length),k<i→¬ (s.1[k].2.1=user∧bR s.2.1 s.1[k].1=true)
     | some t=>Cand s user t∧∀ k (hk:k<s.1.length),k<i→s.1[k].2.1=user∧bR s.2.1 s.1[k].1=true→cmpT s.1[k] t≤0)
   (fun r=>∃ b z,r = .inl (b,z,())∧match b with
     | none=>∀ t,¬ Cand s user t
     | some t=>Best s user t) (fun i b hi hv=>by
   have hm:=zm hi
   have hw:IntKind.wrap .i64 ((i:Int)+1)=((i+1:Nat):Int):=by rw[wrap64 (by omega) (by omega)]; rfl
   have fst:(if s.1[i].2.1=user then ((zcf s.2.1 s.1[i].1).bind fun r2=>some (r2,((0,0,()):Dot1),())) else some (false,((0,0,()):Dot1),()))=some (decide (s.1[i].2.1=user∧bR s.2.1 s.1[i].1=true),((0,0,()):Dot1),()):=by
     by_cases c:s.1[i].2.1=user
     · rw[zp c,eB hu.len hu.rise]
       simp[c]
     · rw[zn c]; simp[c]
   refine .inl ?_
   unfold qH
   simp only[ak]
   rw[zp (by omega),aR hi]
   simp only[zb]
   rw[fst]
   simp only[zb,ak,hw]
   by_cases c:s.1[i].2.1=user∧bR s.2.1 s.1[i].1=true
   · rw[zp c]
     cases b with
     | none =>
       refine ⟨some s.1[i],rfl,⟨hm,c.1,c.2⟩,fun k hk hki hc => ?_⟩
       by_cases e:k=i
       · subst e
         have:=(ma.zero (keyT s.1[k]) (keyT s.1[k])).2 rfl
         unfold cmpT; omega
       · exact absurd hc (hv k hk (by omega))
     | some t =>
       obtain ⟨v1,v2⟩:=hv
       simp only[Option.isNone_some,cond_false,zb,ans]
       by_cases d:cmpT t s.1[i]<0
       · rw[zp d]
         refine ⟨some s.1[i],rfl,⟨hm,c.1,c.2⟩,fun k hk hki hc => ?_⟩
         by_cases e:k=i
         · subst e
           have:=(ma.zero (keyT s.1[k]) (keyT s.1[k])).2 rfl
           unfold cmpT; omega
         · have q:=v2 k hk (by omega) hc
           rcases Int.lt_or_eq_of_le q with q | q
           · have:=ma.trans _ _ _ q d
             unfold cmpT; omega
           · have:=(ma.zero _ _).1 q
             unfold cmpT at d ⊢
             rw[this]; omega
       · rw[zn d]
         refine ⟨some t,rfl,v1,fun k hk hki hc => ?_⟩
         by_cases e:k=i
         · subst e
           have:=ma.neg (keyT t) (keyT s.1[k])
           unfold cmpT at d ⊢
           omega
         · exact v2 k hk (by omega) hc
   · rw[zn c]
     refine ⟨b,rfl,?_⟩
     cases b with
     | none =>
       exact fun k hk hki=>by
         by_cases e:k=i
         · subst e; exact c
         · exact hv k hk (by omega)
     | some t =>
       exact ⟨hv.1,fun k hk hki hc=>by
         by_cases e:k=i
         · subst e; exact absurd hc c
         · exact hv.2 k hk (by omega) hc⟩) (fun b hv=>by
   unfold qH
   simp only[ak]
   rw[zn (by omega)]
   refine ⟨_,rfl,b,_,rfl,?_⟩
   cases b with
   | none =>
     exact fun t ht=>by
       obtain ⟨k,hk,rfl⟩:=List.mem_iff_getElem.1 ht.1
       exact hv k hk hk ht.2
   | some t =>
     exact ⟨hv.1,fun x hx=>by
       obtain ⟨k,hk,rfl⟩:=List.mem_iff_getElem.1 hx.1
       exact hv.2 k hk hk hx.2⟩) none (fun k hk hki=>by omega)
 unfold zb2
 rw[show ((none:Option Txn1),(0:Int),((0,0,()):Dot1),())=(none,((0:Nat):Int),(0,0,()),()) from rfl,h1,aE]
 cases b with
 | none=>exact .inl ⟨h2,rfl⟩
 | some t =>
   obtain ⟨c,hc,hm⟩:=zO (d:=t.1) h hn
   refine .inr ⟨t,_,h2,hm,?_⟩
   simp only[Option.isNone_some,cond_false,zb]
   rw[hm]
   simp only[zb,aW]
   exact (apply_ite some _ _ _).symm
end Go.Proofs.YtnbgkhdcidbkaaaGreatDoor.Q
namespace Go.Proofs.YtnbgkhdcidbkaaaGreatDoor.Q
open Go.EM Go.TY Go.Proofs Go.Proofs.YtnbgkhdcidbkaaaGreatDoor.Y
abbrev mJ (user:Int) (u:Ref1) (back:Int):apQ:=(2,((0,0,()),0,0,false,[],()),user,u,back,([],[],[],()),([],[],([0,0,0,0,0,0,0,0,0,0,0,0,0,0,0,0],[],()),([0,0,0,0,0,0,0,0,0,0,0,0,0,0,0,0],[],()),[[],[],[],[],[],[],[],[]],()),())
theorem zx {x:Ref1} (h:oneM x=true):zb0 [x]=some true:=by
 unfold oneM at h
 simp only[Bool.and_eq_true,decide_eq_true_eq] at h
 have t1:nR [x] (0,())=some (.inl (1,())):=by
   unfold nR
   rw[show atI [x] 0=some x from rfl]
   simp only[zb,eu,h.1,Bool.not_true,cond_false,ak,List.length_singleton]
   rw[zp (by decide),zn (by omega),zf (show ¬ x.2.1<1 by omega)]
   simp only[cond_false,zb]
   rw[zf (show ¬ x.2.1>64 by omega)]
   rfl
 have t2:nR [x] (1,())=some (.inr true):=by
   unfold nR
   rfl
 unfold zb0
 rw[aP t1,aJ t2]
theorem aaK {s:St1}{n:Nat}{user:Int}{d:Dot1}{back:Int} (h:StOk s n) (hn:n<100000) (hu:0≤user∧user<8) (hb:0≤back∧back≤2) (hd:aT d=true) (hg:getM s.2.1 d<64) :
   zch s user d back=some (mJ user (d,getM s.2.1 d+1,()) back,0,()):=by
 have hg0:=j7 (d:=d) h.undos.one
 have h1:oneM (d,getM s.2.1 d+1,())=true:=by
   unfold oneM
   simp only[Bool.and_eq_true,decide_eq_true_eq]
   exact ⟨hd,by omega,by omega⟩
 unfold zch
 rw[wN h.undos hn,zn (by rw[hd]; decide),zn (by omega)]
 simp only[zb,aW]
 rw[zp trivial]
 have e:za7 (mJ user (d,getM s.2.1 d+1,()) back)=some true:=by
   unfold za7 zbd
   simp only[ak]
   rw[zn (by decide),zp trivial,zp hu.1]
   simp only[zb,ak]
   rw[zp hu.2,zx h1]
   simp only[zb,cond_true]
   rw[zp hb.1,zt hb.2]
 unfold mJ at e
 rw[e]
 rfl
theorem yY {l:List Dot1}{user:Int}{u:Ref1} (h:l.length<100000):zbc l (mJ user u 1)=some (l++[u.1]):=by
 unfold zbc
 simp only[ak]
 rw[zp trivial]
 have e1:zat l=some l:=by
   unfold zat ex
   rw[zp (by simp only[most]; omega)]
 rw[e1]
 simp only[zb]
 rw[de (by simp; omega)]
 rfl
theorem zD {l:List Dot1}{user:Int}{u:Ref1} (h:l.length<100000):zbc (l++[u.1]) (mJ user u 2)=some l:=by
 have e1:zat l=some l:=by
   unfold zat ex
   rw[zp (by simp only[most]; omega)]
 unfold zbc
 simp only[ak]
 rw[zn (by decide),zp trivial,wrap64 (by simp only[List.length_append,List.length_singleton]; omega) (by simp only[List.length_append,List.length_singleton]; omega),show ((l++[u.1]).length:Int)-1=(l.length:Int) by simp only[List.length_append,List.length_singleton]; omega]
 refine aJ ?_
 unfold aaw
 simp only[ak]
 rw[zp (by omega),iv,List.getElem?_append_right (Nat.le_refl _),Nat.sub_self]
 simp only[List.getElem?_cons_zero,zb,kQ,ak]
 rw[zp trivial,show (0:Int)=((0:Nat):Int) from rfl,qU (Nat.zero_le _) (by simp),List.take_left' rfl,List.drop_zero]
 simp only[zb]
 rw[e1]; rfl
theorem lZ {s:St1}{n:Nat}{user:Int}{u:Ref1}{back:Int}{l m:List Dot1}{k:Nat} (h:StOk s n) (hn:n<100000) (hk:k<8) (hu:user=(k:Int)) (hl:s.2.2.2.2.1[k]? = some l) (hm:zbc l (mJ user u back)=some m) :
   zbt s (mJ user u back)=some (s.1,ep s.2.1 u,s.2.2.1,s.2.2.2.1,s.2.2.2.2.1.set k m,()):=by
 subst hu
 unfold zbt za8
 simp only[ak]
 rw[zn (by decide),zp trivial,anH (by have:=h.undos.len; omega)]
 simp only[zb]
 rw[dN hk]
 simp only[zb]
 rw[hl]
 simp only[zb]
 rw[hm]
 rfl
theorem gD {l:List Txn1}{d:Dot1} (hl:l.length<1000000):∃ r,zb6 l d=some r∧((r<0∧∀ t∈l,t.1≠d)∨∃ k:Nat,r=(k:Int)∧∃ h:k<l.length,l[k].1=d):=by
 unfold zb6
 refine bO (S:=Unit) (f:=qG l d) l.length (fun i _=>((i:Int),())) (fun i _=>∀ k (h:k<l.length),k<i→l[k].1≠d) _ (fun i _ hi hv => ?_) (fun _ hv => ?_) () (fun k hk hki=>by omega)
 · unfold qG
   simp only[ak,kQ]
   rw[zp (by omega),aR hi,wrap64 (by omega) (by omega)]
   simp only[zb]
   by_cases c:l[i].1=d
   · rw[zp c]; exact .inr ⟨_,rfl,.inr ⟨i,rfl,hi,c⟩⟩
   · rw[zn c]
     exact .inl ⟨(),rfl,fun k hk hki=>by
       by_cases e:k=i
       · subst e; exact c
       · exact hv k hk (by omega)⟩
 · unfold qG
   simp only[ak]
   rw[zn (by omega)]
   exact ⟨_,rfl,.inl ⟨by omega,fun t ht=>by
     obtain ⟨k,hk,rfl⟩:=List.mem_iff_getElem.1 ht
     exact hv k hk hk⟩⟩
theorem qZ {l:List Txn1} (h:anu l) {a b:Txn1} (ha:a∈l) (hb:b∈l) (e:a.1=b.1):a=b:=by
 induction l with
 | nil=>cases ha
 | cons x l ih =>
   have h1:=List.pairwise_cons.1 h
   rcases List.mem_cons.1 ha with ea | ha<;>rcases List.mem_cons.1 hb with eb | hb
   · rw[ea,eb]
   · have q:cmpD x.1 b.1<0:=h1.1 b hb
     rw[← ea,e,(cJ.zero _ _).2 rfl] at q; omega
   · have q:cmpD x.1 a.1<0:=h1.1 a ha
     rw[← eb,e,(cJ.zero _ _).2 rfl] at q; omega
   · exact ih h1.2 ha hb
structure Undone (s u:St1) (t:Txn1) (k:Nat) (l:List Dot1):Prop where
 txns:u.1=s.1
 get:∀ d,getM u.2.1 d=if d=t.1 then getM s.2.1 t.1+1 else getM s.2.1 d
 st:StOk u 101
 fast:u.2.2.2.1=s.2.2.2.1
 redo:u.2.2.2.2.1[k]? = some (l++[t.1])
theorem jw {u v:List Ref1}{d:Dot1} (h:getM u d=getM v d):bR u d=bR v d:=by
 unfold bR; rw[h]
theorem wg {s:St1}{user:Int}{k:Nat}{t:Txn1}{l:List Dot1} (st:StOk s 100) (hr:aT t.1=true) (hlen:l.length≤40) (hk:k<8) (hu:user=(k:Int)) (hb:Best s user t) (h0:zc1 s t.1=some 0) (hl:s.2.2.2.2.1[k]? = some l) :
   ∃ u,zch s user t.1 1=some (mJ user (t.1,getM s.2.1 t.1+1,()) 1,0,())∧zbt s (mJ user (t.1,getM s.2.1 t.1+1,()) 1)=some u∧Undone s u t k l ∧
     getM s.2.1 t.1<64∧aT t.1=true∧zc6 s.2.2.2.1 t.1=some false:=by
 obtain ⟨b,hb1,hb2⟩:=zO (d:=t.1) st (by omega)
 rw[h0] at hb2
 have hg0:=j7 (d:=t.1) st.undos.one
 have hbf:b=false∧getM s.2.1 t.1<64:=by
   simp only[Option.some.injEq] at hb2
   cases b with
   | true=>simp at hb2
   | false =>
     rw[hr] at hb2
     by_cases c:getM s.2.1 t.1≥64
     · simp[c] at hb2
     · exact ⟨rfl,by omega⟩
 obtain ⟨rfl,hg⟩:=hbf
 have h1:oneM (t.1,getM s.2.1 t.1+1,())=true:=by
   unfold oneM
   simp only[Bool.and_eq_true,decide_eq_true_eq]
   exact ⟨hr,by omega,by omega⟩
 have hrl:=st.rlen
 refine ⟨_,aaK st (by omega) (by omega) (by omega) hr hg,lZ st (by omega) hk hu hl (yY (by omega)),⟨rfl,fun d => ?_,⟨st.txns,st.undos.join h1,st.vec,st.more,by simp only[List.length_set]; exact hrl⟩,rfl,?_⟩,hg,hr,hb1⟩
 · simp only
   rw[nu (by simp only; omega) st.undos.rise]
   by_cases c:d=t.1
   · rw[zp c,zp c,c]; simp only; omega
   · rw[zn c,zn c]
 · simp only
   rw[List.getElem?_set_self (by omega)]
theorem rn {a:Int}{u v:List Ref1}{d:Dot1} (h0:0≤getM u d) (h:bR u d=true) (h1:getM v d=getM u d+1):bR v d=false:=by
 rw[dC h0] at h
 rw[dC (by omega),h1]
 simp only[decide_eq_true_eq] at h
 simp only[decide_eq_false_iff_not]
 omega
theorem mM (aw:zbo=some true) {s:St1}{user:Int} (hw:Wide s):dL s user=some true:=by
 obtain ⟨b,h1,h2⟩:=nt hw
 unfold dL
 rw[h1]
 simp only[zb,aw]
 cases b with
 | false=>rfl
 | true =>
 have hs:=h2 rfl
 have st:=hs.st
 rw[Bool.not_true,cond_false]
 simp only[ak,aW]
 by_cases c1:user<0
 · rw[zp c1]
 rw[zn c1]
 by_cases c2:user≥8
 · rw[zp c2]
 rw[zn c2]
 obtain ⟨k,rfl⟩:∃ k:Nat,user=(k:Int):=⟨user.toNat,by omega⟩
 have hrl:=hs.rlen
 have htl:=hs.txns.len
 rcases oD (user:=(k:Int)) st (by omega) with ⟨_,hl⟩ | ⟨t,e,hb,hm,hl⟩
 · rw[hl]
   simp only[zb]
   rw[zn (by decide)]
 rw[hl]
 simp only[zb]
 by_cases c3:e=0
 rotate_left
 · rw[zn c3]
   simp only
   rw[zn c3]
 subst c3
 rw[zp rfl]
 simp only
 rw[zp trivial]
 have lowU:=st.undos.low (n:=100) (by omega)
 obtain ⟨r,hf,hr⟩:=gD (l:=s.1) (d:=t.1) (by omega)
 rw[hf]
 simp only[zb]
 rcases hr with ⟨_,hr⟩ | ⟨i,rfl,hi,hit⟩
 · exact absurd rfl (hr t hb.cand.1)
 have et:s.1[i]=t:=qZ hs.txns.rise (zm hi) hb.cand.1 hit
 rw[zn (by omega),aR hi]
 simp only[zb]
 rw[et,zp hb.cand.2.1,fb lowU.len,hb.cand.2.2]
 simp only[zb,Bool.not_true,cond_false]
 have lp:aK (bu s (k:Int) (i:Int)) (((0:Nat):Int),t.1,())=some (.inl (t.1,())):=by
   obtain ⟨q,q1,q2⟩:=bO (S:=Unit) (f:=bu s (k:Int) (i:Int)) s.1.length (fun j _=>((j:Int),t.1,())) (fun _ _=>True) (fun q=>q = .inl (t.1,())) (fun j _ hj _=>by
     refine .inl ⟨(),?_,trivial⟩
     unfold bu
     simp only[ak]
     rw[zp (by omega),aR hj,aR hi,wrap64 (by omega) (by omega)]
     simp only[zb,om]
     rw[fb lowU.len,et]
     by_cases c:s.1[j].2.1=(k:Int)
     · rw[zp c]
       simp only[zb]
       cases hsn:bR s.2.1 s.1[j].1 with
       | false=>rfl
       | true =>
         have:=hb.top _ ⟨zm hj,c,hsn⟩
         simp only[cond_true]
         rw[zn (by omega)]; rfl
     · rw[zn c]; rfl) (fun _ _=>by
     unfold bu
     simp only[ak]
     rw[zn (by omega)]
     exact ⟨_,rfl,rfl⟩) () trivial
   rw[q1,q2]
 rw[show ((0:Int),t.1,())=(((0:Nat):Int),t.1,()) from rfl,lp,aE]
 simp only
 have hk:k<s.2.2.2.2.1.length:=by omega
 obtain ⟨u,u1,u2,hU,hg,hr,hd⟩:=wg st (hs.txns.all t hb.cand.1).dot (hs.redo _ (zm hk)) (by omega) rfl hb hm (zg hk)
 rw[u1]
 simp only[zb]
 rw[u2]
 simp only[zb]
 rcases oD (user:=(k:Int)) hU.st (by omega) with ⟨_,hl2⟩ | ⟨t2,e2,hb2,hm2,hl2⟩
 · rw[hl2]
   simp only[zb]
   rw[zn (by decide)]
 rw[hl2]
 simp only[zb]
 by_cases c4:e2=0
 rotate_left
 · rw[zn c4]
   simp only
   rw[zn c4]
 subst c4
 rw[zp rfl]
 simp only
 rw[zp trivial]
 have m2:t2∈s.1:=by have:=hb2.cand.1; rw[hU.txns] at this; exact this
 have hg0:=j7 (d:=t.1) st.undos.one
 have ne:t2.1≠t.1:=fun e=>by
   have q:=rn (a:=0) hg0.1 hb.cand.2.2 (by rw[hU.get,zp rfl])
   have q2:=hb2.cand.2.2
   rw[e,q] at q2
   cases q2
 have sn:bR s.2.1 t2.1=true:=by
   rw[← hb2.cand.2.2]
   exact jw (by rw[hU.get,zn ne])
 have lt:cmpT t2 t<0:=by
   rcases Int.lt_or_eq_of_le (hb.top t2 ⟨m2,hb2.cand.2.1,sn⟩) with q | q
   · exact q
   · have:=(ma.zero _ _).1 q
     exact absurd (congrArg Prod.snd this) ne
 obtain ⟨r,hf,hr⟩:=gD (l:=s.1) (d:=t2.1) (by omega)
 rw[hf]
 simp only[zb]
 rcases hr with ⟨_,hr⟩ | ⟨j,rfl,hj,hjt⟩
 · exact absurd rfl (hr t2 m2)
 have et2:s.1[j]=t2:=qZ hs.txns.rise (zm hj) m2 hjt
 rw[zp (by omega),aR hj]
 simp only[zb,om]
 rw[et2,zp lt]
end Go.Proofs.YtnbgkhdcidbkaaaGreatDoor.Q
namespace Go.Proofs.YtnbgkhdcidbkaaaGreatDoor.Q
open Go.EM Go.TY Go.Proofs Go.Proofs.YtnbgkhdcidbkaaaGreatDoor.Y
theorem wk {p:Path} (hp:p.length<1000000):zau p p=some true:=by
 have loop:=eG (f:=qI p p) (l:=p) (fun i=>((i:Int),())) (fun _=>true) true false (fun i h=>by
   unfold qI
   simp only[ak,aW]
   rw[zp (by omega),aR h]
   simp only[zb]
   rw[zp trivial,wrap64 (by omega) (by omega),zp trivial]; rfl) (by
   unfold qI
   simp only[ak]
   rw[zn (by omega)])
 rw[zp (by simp)] at loop
 unfold zau
 simp only[decide_true,Bool.not_true,cond_false]
 exact loop
theorem wH {s:List Ref1} (hs:s.length<1000000):zar s s=some true:=by
 have loop:=eG (f:=qJ s s) (l:=s) (fun i=>((i:Int),())) (fun _=>true) true false (fun i h=>by
   unfold qJ
   simp only[ak,aW]
   rw[zp (by omega),aR h]
   simp only[zb]
   rw[show (eqV (.agg (.cons (.agg (.cons (.int .i64) (.cons (.int .i64) .unit))) (.cons (.int .i64) .unit))) s[i] s[i])=eqV iR s[i] s[i] from rfl,pY,zt rfl]
   simp only[Bool.not_true,cond_false]
   rw[wrap64 (by omega) (by omega),zp trivial]; rfl) (by
   unfold qJ
   simp only[ak]
   rw[zn (by omega)])
 rw[zp (by simp)] at loop
 unfold zar
 simp only[decide_true,Bool.not_true,cond_false]
 exact loop
theorem xr {y:fO} (hp:y.2.1.2.1.length<1000000) (hs:y.2.1.2.2.2.2.1.length<1000000):zbz y y=some true:=by
 unfold zbz zdf
 rw[show (eqV (.agg (.cons (.agg (.cons (.int .i64) (.cons (.int .i64) .unit))) (.cons (.int .i64) .unit))) y.1 y.1)=eqV iR y.1 y.1 from rfl,pY,zt rfl]
 simp only[agn,decide_true,cond_true,zb]
 rw[wk hp]
 simp only[zb,cond_true]
 rw[wH hs]; rfl
theorem th {l:List fO} (h:ItemsOk l):zct l l=some true:=by
 have hl:=h.len
 have loop:=eG (f:=qN l l) (l:=l) (fun i=>((i:Int),())) (fun _=>true) true false (fun i hi=>by
   have ho:=(h.op _ (zm hi)).2.1
   unfold qN
   simp only[ak]
   rw[zp (by omega),aR hi]
   simp only[zb]
   rw[xr (by have:=ho.1; omega) (by have:=ho.2.2.2; omega)]
   simp only[zb,Bool.not_true,cond_false]
   rw[wrap64 (by omega) (by omega),zp trivial]; rfl) (by
   unfold qN
   simp only[ak]
   rw[zn (by omega)])
 rw[zp (by simp)] at loop
 unfold zct zaa
 simp only[decide_true,Bool.not_true,cond_false]
 rw[show ((0:Int),())=(((0:Nat):Int),()) from rfl,loop]; rfl
theorem aaR {u:St1}{user:Int}{k:Nat}{l:List Dot1}{d:Dot1} (h:StOk u 101) (hk:k<8) (hu:user=(k:Int)) (hl:u.2.2.2.2.1[k]? = some (l++[d])) (hn:l.length≤100) (hs:bR u.2.1 d=false) (hm:zc1 u d=some 0) :
   zci u user=some (d,0,()):=by
 subst hu
 have lowU:=h.undos.low (by omega)
 unfold zci
 simp only[ak]
 rw[zn (by omega),zn (by omega),dN hk]
 simp only[zb]
 rw[hl]
 simp only[zb]
 rw[wrap64 (by simp only[List.length_append,List.length_singleton]; omega) (by simp only[List.length_append,List.length_singleton]; omega),show ((l++[d]).length:Int)-1=(l.length:Int) by simp only[List.length_append,List.length_singleton]; omega]
 refine aJ ?_
 unfold ut
 simp only[ak]
 rw[zp (by omega),iv,List.getElem?_append_right (Nat.le_refl _),Nat.sub_self]
 simp only[List.getElem?_cons_zero,zb]
 rw[eB lowU.len lowU.rise,hs]
 simp only[zb,cond_false]
 rw[hm]
 rfl
theorem xP {u v:List Ref1}{d:Dot1} (h0:0≤getM u d) (h1:getM v d=getM u d+2):bR v d=bR u d:=by
 rw[dC h0,dC (by omega),h1]
 congr 1
 simp only[eq_iff_iff]
 omega
theorem w9 {u:St1}{d:Dot1}{g:Int} (h:StOk u 101) (hd:aT d=true) (hf:zc6 u.2.2.2.1 d=some false) (hg:getM u.2.1 d<64):zc1 u d=some 0:=by
 obtain ⟨b,hb1,hb2⟩:=zO (d:=d) h (by omega)
 rw[hf] at hb1
 cases hb1
 rw[hb2,hd]
 simp only[Bool.false_eq_true,Bool.true_eq_false,if_false]
 rw[zn (by omega)]
theorem pA {s u:St1}{t:Txn1}{k:Nat}{l:List Dot1} (hs:s.1.length≤1000) (h1:LowU s.2.1) (h2:LowU u.2.1) (hU:Undone s u t k l) :
   aK (jn) (((0:Nat):Int),s,t.1,u,())=some (.inl (s,t.1,u,())):=by
 obtain ⟨q,q1,q2⟩:=bO (S:=Unit) (f:=jn) s.1.length (fun j _=>((j:Int),s,t.1,u,())) (fun _ _=>True) (fun q=>q = .inl (s,t.1,u,())) (fun j _ hj _=>by
   refine .inl ⟨(),?_,trivial⟩
   unfold jn
   simp only[ak,aW,kQ]
   rw[zp (by omega),aR hj,wrap64 (by omega) (by omega)]
   simp only[zb]
   rw[fb h1.len,fb h2.len]
   by_cases c:s.1[j].1=t.1
   · rw[zp c]; rfl
   · rw[zn c,jw (u:=u.2.1) (v:=s.2.1) (by rw[hU.get,zn c])]
     simp) (fun _ _=>by
   unfold jn
   simp only[ak]
   rw[zn (by omega)]
   exact ⟨_,rfl,rfl⟩) () trivial
 rw[q1,q2]
theorem ju (aw:zbo=some true) {s:St1}{user:Int} (hw:Wide s):zaw s user=some true:=by
 obtain ⟨b,h1,h2⟩:=nt hw
 unfold zaw
 rw[h1]
 simp only[zb,aw]
 cases b with
 | false=>rfl
 | true =>
 have hs:=h2 rfl
 have st:=hs.st
 rw[Bool.not_true,cond_false]
 simp only[ak,aW]
 by_cases c1:user<0
 · rw[zp c1]
 rw[zn c1]
 by_cases c2:user≥8
 · rw[zp c2]
 rw[zn c2]
 obtain ⟨k,rfl⟩:∃ k:Nat,user=(k:Int):=⟨user.toNat,by omega⟩
 have hrl:=hs.rlen
 have htl:=hs.txns.len
 have hk:k<s.2.2.2.2.1.length:=by omega
 have hk8:k<8:=by omega
 rw[dN hk8]
 simp only[zb]
 rw[zg hk]
 simp only[zb]
 by_cases c3:(s.2.2.2.2.1[k].length:Int)≥40
 · rw[zp c3]
 rw[zn c3]
 rcases oD (user:=(k:Int)) st (by omega) with ⟨_,hl⟩ | ⟨t,e,hb,hm,hl⟩
 · rw[hl]
   simp only[zb]
   rw[zn (by decide)]; rfl
 rw[hl]
 simp only[zb]
 by_cases c4:e=0
 rotate_left
 · rw[zn c4]
   simp only
   rw[zn c4]; rfl
 subst c4
 rw[zp rfl]
 simp only
 rw[zp trivial]
 have lowU:=st.undos.low (n:=100) (by omega)
 obtain ⟨u,u1,u2,hU,hg,hr,hd⟩:=wg st (hs.txns.all t hb.cand.1).dot (hs.redo _ (zm hk)) hk8 rfl hb hm (zg hk)
 have lowV:=hU.st.undos.low (n:=101) (by omega)
 have hg0:=j7 (d:=t.1) st.undos.one
 have gu:getM u.2.1 t.1=getM s.2.1 t.1+1:=by rw[hU.get,zp rfl]
 have odd:=rn (a:=0) hg0.1 hb.cand.2.2 gu
 have ev:=hb.cand.2.2
 rw[dC hg0.1] at ev
 simp only[decide_eq_true_eq] at ev
 have hlt:getM u.2.1 t.1<64:=by omega
 rw[u1]
 simp only[zb]
 rw[u2]
 simp only[zb]
 rw[zp trivial,fb lowV.len,odd]
 simp only[zb,cond_false]
 obtain ⟨r,hf,hrr⟩:=gD (l:=s.1) (d:=t.1) (by omega)
 rw[hf]
 simp only[zb]
 rcases hrr with ⟨_,hrr⟩ | ⟨i,rfl,hi,hit⟩
 · exact absurd rfl (hrr t hb.cand.1)
 rw[zn (by omega),show ((0:Int),s,t.1,u,())=(((0:Nat):Int),s,t.1,u,()) from rfl,pA (by omega) lowU lowV hU,aE]
 simp only
 have mayU:zc1 u t.1=some 0:=w9 (g:=0) hU.st hr (by rw[hU.fast]; exact hd) hlt
 have hrk:=hs.redo _ (zm hk)
 rw[aaR hU.st hk8 rfl hU.redo (by omega) odd mayU]
 simp only[zb]
 rw[zp trivial,aaK hU.st (by omega) (by omega) (by omega) hr hlt]
 simp only[zb]
 have o2:oneM (t.1,getM u.2.1 t.1+1,())=true:=by
   unfold oneM
   simp only[Bool.and_eq_true,decide_eq_true_eq]
   exact ⟨hr,by omega,by omega⟩
 rw[lZ hU.st (by omega) hk8 rfl hU.redo (zD (u:=(t.1,getM u.2.1 t.1+1,())) (by omega))]
 simp only[zb,kQ,ak]
 rw[zp trivial]
 simp only[zb,decide_true,cond_true]
 unfold zba
 simp only
 have low:=(zd hs.txns (by omega)).low
 have lowW:=(hU.st.undos.join o2).low (by omega)
 have gw:∀ d,getM (ep u.2.1 (t.1,getM u.2.1 t.1+1,())) d=if d=t.1 then getM s.2.1 t.1+2 else getM s.2.1 d:=fun d=>by
   rw[nu (by simp only; omega) hU.st.undos.rise]
   by_cases c:d=t.1
   · rw[zp c,zp c,c,gu]; simp only; omega
   · rw[zn c,zn c,hU.get,zn c]
 rw[hU.txns,anQ low lowW,anQ low lowU,yp (u:=ep u.2.1 (t.1,getM u.2.1 t.1+1,())) (v:=s.2.1) (fun x hx=>by
   by_cases c:x.1=t.1
   · exact xP (j7 st.undos.one).1 (by rw[gw,zp c,c])
   · exact jw (by rw[gw,zn c]))]
 simp only[zb]
 rw[th (zZ hs.txns)]
 simp only[zb,cond_true]
 have hul:=hU.st.rlen
 rw[List.getElem?_set_self (by omega),zg hk]
 simp only[zb]
 rw[zp trivial]
end Go.Proofs.YtnbgkhdcidbkaaaGreatDoor.Q
namespace Go.Proofs.YtnbgkhdcidbkaaaGreatDoor.Q
open Go.EM Go.TY Go.Proofs Go.Proofs.YtnbgkhdcidbkaaaGreatDoor.Y
theorem xH {l:List Txn1}{d:Dot1} (hl:l.length<1000000) :
   ∃ k:Nat,k≤l.length∧∃ b,zad l d ()=some ((k:Int),b,())∧(b=true→∃ x∈l,x.1=d):=by
 obtain ⟨k,h1,h2⟩:=qd (f:=qL l d) (fun m=>match l[m]? with | some x=>decide (cmpD x.1 d<0) | none=>false) l.length (fun i j hij hj=>by
   have hh:(i+j)/2<l.length:=by omega
   unfold qL zce
   simp only[ak]
   rw[zp (by omega),show (i:Int)+(j:Int)=((i+j:Nat):Int) by omega,rG (by omega)]
   simp only[zb]
   rw[wrap64 (n:=(((i+j)/2:Nat):Int)) (by omega) (by omega),aR hh]
   simp only[zb,iJ,zg hh,decide_eq_true_eq]
   rw[wrap64 (by omega) (by omega)]
   by_cases hc:cmpD l[(i+j)/2].1 d<0
   · rw[zp hc,zp hc]; rfl
   · rw[zn hc,zn hc]) (fun i=>by
   unfold qL
   simp only[ak]
   rw[zn (by omega)])
 refine ⟨k,h1,?_⟩
 unfold zad
 rw[h2,aE]
 simp only[ak]
 by_cases hk:k<l.length
 · rw[zp (by omega),aR hk]
   unfold zce
   simp only[zb,iJ]
   exact ⟨_,rfl,fun h=>⟨_,zm hk,(cJ.zero _ _).1 (of_decide_eq_true h)⟩⟩
 · rw[zn (by omega)]
   exact ⟨_,rfl,fun h=>by cases h⟩
theorem wV {l:List Txn1}{d:Dot1} (hl:l.length<1000000) :
   ∃ k:Nat,k≤l.length∧∃ b,zae l d ()=some ((k:Int),b,())∧(b=true→∃ x∈l,x.1=d):=by
 obtain ⟨k,h1,h2⟩:=qd (f:=qK l d) (fun m=>match l[m]? with | some x=>decide (cmpD x.1 d<0) | none=>false) l.length (fun i j hij hj=>by
   have hh:(i+j)/2<l.length:=by omega
   unfold qK zcw
   simp only[ak]
   rw[zp (by omega),show (i:Int)+(j:Int)=((i+j:Nat):Int) by omega,rG (by omega)]
   simp only[zb]
   rw[wrap64 (n:=(((i+j)/2:Nat):Int)) (by omega) (by omega),aR hh]
   simp only[zb,iJ,zg hh,decide_eq_true_eq]
   rw[wrap64 (by omega) (by omega)]
   by_cases hc:cmpD l[(i+j)/2].1 d<0
   · rw[zp hc,zp hc]; rfl
   · rw[zn hc,zn hc]) (fun i=>by
   unfold qK
   simp only[ak]
   rw[zn (by omega)])
 refine ⟨k,h1,?_⟩
 unfold zae
 rw[h2,aE]
 simp only[ak]
 by_cases hk:k<l.length
 · rw[zp (by omega),aR hk]
   unfold zcw
   simp only[zb,iJ]
   exact ⟨_,rfl,fun h=>⟨_,zm hk,(cJ.zero _ _).1 (of_decide_eq_true h)⟩⟩
 · rw[zn (by omega)]
   exact ⟨_,rfl,fun h=>by cases h⟩
theorem afT {s:St1}{t:Txn1}{n:Nat} (hl:s.1.length≤500) (hk:DOk s.2.2.1 n) (hn:n<10000) (h:∀ x∈s.1,x.1≠t.1) :
   ∃ l' kn,zc0 s t=some (l',s.2.1,kn,s.2.2.2.1,s.2.2.2.2.1,())∧(∀ x,x∈l'↔x=t∨x∈s.1)∧l'.length=s.1.length+1∧DOk kn (n+1):=by
 have no:∀ {b:Bool},(b=true→∃ x∈s.1,x.1=t.1)→b=false:=fun {b} hb=>by
   cases b with
   | false=>rfl
   | true=>obtain ⟨x,h1,h2⟩:=hb rfl; exact absurd h2 (h x h1)
 obtain ⟨k1,_,b1,f1,g1⟩:=xH (l:=s.1) (d:=t.1) (by omega)
 obtain ⟨k2,l2,b2,f2,g2⟩:=wV (l:=s.1) (d:=t.1) (by omega)
 obtain ⟨kn,d1,d2⟩:=xS (d:=t.1) hk (by omega)
 rw[no g1] at f1
 rw[no g2] at f2
 have e1:zas s.1=some s.1:=by
   unfold zas ex
   rw[zp (by simp only[most]; omega)]
 have e2:zap (k2:Int) [t] s.1=some ((),s.1.take k2++[t]++s.1.drop k2,()):=by
   unfold zap insT
   rw[zp ⟨by omega,by omega,by simp,by simp only[most,List.length_singleton]; omega⟩]
   simp
 refine ⟨s.1.take k2++[t]++s.1.drop k2,kn,?_,fun x => ?_,by simp; omega,d2⟩
 · unfold zc0 zc9 zdg
   rw[f1,f2]
   simp only[zb,Bool.not_false,cond_true,cond_false,ak]
   rw[zn (by decide),e1]
   simp only[zb]
   rw[e2]
   simp only[zb]
   rw[d1]
   rfl
 · rw[List.mem_append,List.mem_append,List.mem_singleton]
   constructor
   · intro hx
     rcases hx with (q | q) | q
     · exact .inr (List.mem_of_mem_take q)
     · exact .inl q
     · exact .inr (List.mem_of_mem_drop q)
   · intro hx
     rcases hx with q | q
     · exact .inl (.inr q)
     · rw[← List.take_append_drop k2 s.1] at q
       rcases List.mem_append.1 q with q | q
       · exact .inl (.inl q)
       · exact .inr q
theorem agz {k:Nat} (h:k<16):([0,0,0,0,0,0,0,0,0,0,0,0,0,0,0,0]:List Int)[k]? = some 0:=by
 revert h; revert k; decide
theorem rD {d:Dot1} (h:aT d=true):zc6 ([0,0,0,0,0,0,0,0,0,0,0,0,0,0,0,0],[],()) d=some false:=by
 obtain ⟨k,k1,k2,k3⟩:=fC h
 have hr:=h
 unfold aT at hr
 simp only[decide_eq_true_eq] at hr
 obtain ⟨m,_,b,hb,hb2⟩:=kf (l:=[]) (d:=d) (by simp)
 have:b=false:=by
   cases b with
   | false=>rfl
   | true=>obtain ⟨x,h1,_⟩:=hb2 rfl; cases h1
 subst this
 unfold zc6 zdd
 rw[eu,h]
 simp only[zb,cond_true]
 rw[k3]
 simp only[zb]
 rw[agz k1]
 simp only[zb,ak]
 rw[zn (by omega),hb]
 rfl
theorem ya {a b:Txn1} (h:a.2.2.1<b.2.2.1):cmpT b a=1∧cmpT a b = -1:=by
 have h1:cmpT b a=orI (cmpI b.2.2.1 a.2.2.1) (cmpD b.1 a.1):=rfl
 have h2:cmpT a b=orI (cmpI a.2.2.1 b.2.2.1) (cmpD a.1 b.1):=rfl
 have e1:cmpI b.2.2.1 a.2.2.1=1:=by unfold cmpI; rw[zn (by omega),zp h]
 have e2:cmpI a.2.2.1 b.2.2.1 = -1:=by unfold cmpI; rw[zp h]
 rw[h1,h2,e1,e2]
 exact ⟨rfl,rfl⟩
theorem xl {s:St1}{n:Nat}{user:Int}{t:Txn1} (h:StOk s n) (hn:n<100000) (hc:Cand s user t) (hd:aT t.1=true) (hf:zc6 s.2.2.2.1 t.1=some false) (hg:getM s.2.1 t.1<64) (hx:∀ x,Cand s user x→x≠t→x.2.2.1<t.2.2.1) :
   Best s user t∧zc1 s t.1=some 0∧zb2 s user=some (t.1,0,()):=by
 have hm:zc1 s t.1=some 0:=by
   obtain ⟨b,hb1,hb2⟩:=zO (d:=t.1) h hn
   rw[hf] at hb1
   cases hb1
   rw[hb2,hd]
   simp only[Bool.false_eq_true,Bool.true_eq_false,if_false]
   rw[zn (by omega)]
 rcases oD (user:=user) h hn with ⟨h1,_⟩ | ⟨t2,e,hb,he,hl⟩
 · exact absurd hc (h1 t)
 · by_cases c:t2=t
   · subst c
     rw[hm] at he
     cases he
     exact ⟨hb,hm,by rw[hl,zp rfl]⟩
   · have q:=hb.top t hc
     rw[(ya (hx t2 hb.cand c)).1] at q
     omega
theorem ant {s:St1} (h:s.1.length≤1000):∃ n,hC s=some n∧0≤n∧∀ x∈s.1,x.2.2.1≤n:=by
 unfold hC
 refine bO (S:=Int) (f:=dv s) s.1.length (fun i m=>(m,(i:Int),())) (fun i m=>0≤m∧∀ k (hk:k<s.1.length),k<i→s.1[k].2.2.1≤m) _ (fun i m hi hv => ?_) (fun m hv => ?_) 0 ⟨by omega,fun k hk hki=>by omega⟩
 · refine .inl ⟨max m s.1[i].2.2.1,?_,by omega,fun k hk hki => ?_⟩
   · unfold dv
     simp only[ak]
     rw[zp (by omega),aR hi,wrap64 (by omega) (by omega)]; rfl
   · by_cases e:k=i
     · subst e; omega
     · have:=hv.2 k hk (by omega); omega
 · unfold dv
   simp only[ak]
   rw[zn (by omega)]
   exact ⟨_,rfl,hv.1,fun x hx=>by
     obtain ⟨k,hk,rfl⟩:=List.mem_iff_getElem.1 hx
     exact hv.2 k hk hk⟩
theorem nZ {u:List Ref1}{d:Dot1} (h:getM u d=0):bR u d=true:=by
 rw[dC (by omega),h]; rfl
theorem iS (aw:zbo=some true) {s:St1}{t:Txn1} (hw:Wide s):cE s t=some true:=by
 obtain ⟨b,h1,h2⟩:=nt hw
 unfold cE
 rw[h1]
 simp only[zb,aw]
 cases b with
 | false=>rfl
 | true =>
 have hs:=h2 rfl
 have st:=hs.st
 rw[Bool.not_true,cond_false,lq]
 simp only[zb]
 cases hsh:e9 t with
 | false=>rfl
 | true =>
 rw[Bool.not_true,cond_false,ld hsh]
 simp only[zb,aW,ak]
 by_cases c1:txnM t=0
 rotate_left
 · rw[zn c1]
 rw[zp c1]
 have ok:=aaF hsh c1
 have htl:=hs.txns.len
 obtain ⟨r,hf,hr⟩:=gD (l:=s.1) (d:=t.1) (by omega)
 rw[hf]
 simp only[zb]
 rcases hr with ⟨r0,hno⟩ | ⟨i,rfl,_,_⟩
 rotate_left
 · rw[zp (by omega)]
 rw[zn (by omega)]
 have hul:=hs.undos.len
 have lp:=dI (f:=bJ s) (l:=s.2.1) (fun i=>((i:Int),t,())) (fun x=>x.1≠t.1) (.inl (t,())) (.inr true) (fun i hi=>by
   unfold bJ
   simp only[ak,kQ]
   rw[zp (by omega),aR hi,wrap64 (by omega) (by omega)]
   simp only[zb,aw]
   by_cases c:s.2.1[i].1=t.1
   · rw[zp c]; exact .inr rfl
   · rw[zn c]; exact .inl ⟨rfl,c⟩) (by
   unfold bJ
   simp only[ak]
   rw[zn (by omega)])
 rcases lp with ⟨lp,hnu⟩ | lp
 rotate_left
 · rw[show ((0:Int),t,())=(((0:Nat):Int),t,()) from rfl,lp]; rfl
 rw[show ((0:Int),t,())=(((0:Nat):Int),t,()) from rfl,lp,aE]
 simp only
 have g0:getM s.2.1 t.1=0:=gz hnu
 obtain ⟨n,hn,n0,htop⟩:=ant (s:=s) (by omega)
 rw[hn]
 simp only[zb]
 by_cases c2:n≥1099511627776
 · rw[zp c2]
 rw[zn c2,wrap64 (by omega) (by omega)]
 obtain ⟨k,hk,hku⟩:∃ k:Nat,k<8∧t.2.1=(k:Int):=⟨t.2.1.toNat,by have:=ok.user; omega,by have:=ok.user; omega⟩
 have hrl:=hs.rlen
 obtain ⟨l',kn,p1,p2,p3,p4⟩:=afT (s:=s) (t:=(t.1,t.2.1,n+1,t.2.2.2.1,t.2.2.2.2.1,())) (by omega) hs.known (by omega) hno
 have hdone:zbt s (1,(t.1,t.2.1,n+1,t.2.2.2.1,t.2.2.2.2.1,()),0,((0,0,()),0,()),0,([],[],[],()),([],[],([0,0,0,0,0,0,0,0,0,0,0,0,0,0,0,0],[],()),([0,0,0,0,0,0,0,0,0,0,0,0,0,0,0,0],[],()),[[],[],[],[],[],[],[],[]],()),())=some (l',s.2.1,kn,s.2.2.2.1,s.2.2.2.2.1.set k [],()):=by
   unfold zbt
   simp only[ak]
   rw[zp trivial,p1]
   simp only[zb]
   rw[hku,dN hk]
   simp only[zb]
   rw[zg (by omega)]
   rfl
 rw[hdone]
 simp only[zb]
 have su:StOk (l',s.2.1,kn,([0,0,0,0,0,0,0,0,0,0,0,0,0,0,0,0],[],()),s.2.2.2.2.1.set k [],()) 100:=⟨by simp only; omega,st.undos,rfl,by simp,by simp only[List.length_set]; exact hrl⟩
 obtain ⟨_,_,hl⟩:=xl (user:=t.2.1) (t:=(t.1,t.2.1,n+1,t.2.2.2.1,t.2.2.2.2.1,())) su (by omega) ⟨(p2 _).2 (.inl rfl),rfl,nZ g0⟩ ok.dot (rD ok.dot) (by simp only; omega) (fun x hx hne=>by
   rcases (p2 x).1 hx.1 with q | q
   · exact absurd q hne
   · have:=htop x q
     simp only; omega)
 rw[hl]
 simp only[zb]
 have hb:zci (l',s.2.1,kn,([0,0,0,0,0,0,0,0,0,0,0,0,0,0,0,0],[],()),s.2.2.2.2.1.set k [],()) t.2.1=some ((0,0,()),11,()):=by
   unfold zci
   simp only[ak]
   rw[hku,zn (by omega),zn (by omega),dN hk]
   simp only[zb]
   rw[List.getElem?_set_self (by omega)]
   simp only[zb]
   refine aJ ?_
   unfold ut
   rfl
 rw[hb]
 simp only[zb,kQ,ak]
 rw[zp trivial,zp trivial,zp trivial]
theorem qf:zbo=some true:=by
 have r1:aT (0,1,())=true:=by decide
 have r2:aT (0,2,())=true:=by decide
 unfold zbo zc2
 simp only[zb]
 obtain ⟨l1,k1,a1,a2,a3,a4⟩:=afT (s:=(([],[],([0,0,0,0,0,0,0,0,0,0,0,0,0,0,0,0],[],()),([0,0,0,0,0,0,0,0,0,0,0,0,0,0,0,0],[],()),[[],[],[],[],[],[],[],[]],()):St1)) (t:=((0,1,()),1,1,false,([(3,([[97]]:Path),(0,0,[],()),1,[],())]:List Op1),())) (n:=0) (by simp) ⟨rfl,by simp,fun d hd=>by cases hd⟩ (by omega) (fun x hx=>by cases hx)
 rw[a1]
 simp only[zb]
 have m1:∀ x,x∈l1→x=((0,1,()),1,1,false,([(3,([[97]]:Path),(0,0,[],()),1,[],())]:List Op1),()):=fun x hx=>by
   rcases (a2 x).1 hx with q | q
   · exact q
   · cases q
 obtain ⟨l2,k2,b1,b2,b3,b4⟩:=afT (s:=((l1,[],k1,([0,0,0,0,0,0,0,0,0,0,0,0,0,0,0,0],[],()),[[],[],[],[],[],[],[],[]],()):St1)) (t:=((0,2,()),1,2,false,([(3,([[97]]:Path),(0,0,[],()),1,[],())]:List Op1),())) (n:=1) (by simp only[List.length_nil] at a3; simp only; omega) a4 (by omega) (fun x hx=>by rw[m1 x hx]; decide)
 rw[b1]
 simp only[zb]
 have st:StOk (l2,[],k2,([0,0,0,0,0,0,0,0,0,0,0,0,0,0,0,0],[],()),[[],[],[],[],[],[],[],[]],()) 100:=⟨by simp only[List.length_nil] at a3 b3; simp only; omega,⟨by simp,List.Pairwise.nil,fun x hx=>by cases hx⟩,rfl,by simp,rfl⟩
 obtain ⟨hb,hm,hl⟩:=xl (user:=1) (t:=((0,2,()),1,2,false,([(3,([[97]]:Path),(0,0,[],()),1,[],())]:List Op1),())) st (by omega) ⟨(b2 _).2 (.inl rfl),rfl,nZ rfl⟩ r2 (rD r2) (by show (0:Int)<64; decide) (fun x hx hne=>by
   rcases (b2 x).1 hx.1 with q | q
   · exact absurd q hne
   · rw[m1 x q]; decide)
 rw[hl]
 simp only[zb]
 obtain ⟨u,u1,u2,hU,hg,hr,hd⟩:=wg (user:=1) (k:=1) (l:=[]) st r2 (by simp) (by omega) rfl hb hm rfl
 rw[u1]
 simp only[zb]
 rw[u2]
 simp only[zb]
 have gu:getM u.2.1 (0,2,())=1:=by rw[hU.get,zp rfl]; rfl
 have odd:bR u.2.1 (0,2,())=false:=by rw[dC (by omega),gu]; rfl
 have mayU:zc1 u (0,2,())=some 0:=w9 (g:=0) hU.st r2 (by rw[hU.fast]; exact hd) (by omega)
 rw[aaR (user:=1) (k:=1) hU.st (by omega) rfl hU.redo (by simp) odd mayU]
 simp only[zb]
 rcases oD (user:=0) st (by omega) with ⟨_,h0⟩ | ⟨t,e,hb0,_,_⟩
 · rw[h0]; rfl
 · rcases (b2 t).1 hb0.cand.1 with q | q
   · have:=hb0.cand.2.1; rw[q] at this; cases this
   · have:=hb0.cand.2.1; rw[m1 t q] at this; cases this
theorem pz {s:St1} (h:okV (.agg (.cons (.sl (.agg (.cons (.agg (.cons (.int .i64) (.cons (.int .i64) .unit))) (.cons (.int .i64) (.cons (.int .i64) (.cons .bool (.cons (.sl (.agg (.cons (.int .i64) (.cons (.sl .str) (.cons (.agg (.cons (.int .i64) (.cons (.int .i64) (.cons .str .unit)))) (.cons (.int .i64) (.cons (.sl (.agg (.cons (.agg (.cons (.int .i64) (.cons (.int .i64) .unit))) (.cons (.int .i64) .unit)))) .unit))))))) .unit))))))) (.cons (.sl (.agg (.cons (.agg (.cons (.int .i64) (.cons (.int .i64) .unit))) (.cons (.int .i64) .unit)))) (.cons (.agg (.cons (.arr 16 (.int .i64)) (.cons (.sl (.agg (.cons (.int .i64) (.cons (.int .i64) .unit)))) .unit))) (.cons (.agg (.cons (.arr 16 (.int .i64)) (.cons (.sl (.agg (.cons (.int .i64) (.cons (.int .i64) .unit)))) .unit))) (.cons (.arr 8 (.sl (.agg (.cons (.int .i64) (.cons (.int .i64) .unit))))) .unit)))))) s):Wide s:=by
 obtain ⟨_,_,h3,h4,h5,_⟩:=h
 exact ⟨h3.1.1,h4.1.1,h5.1⟩
theorem zh:∀ v:cT.ps.V,okV cT.ps v→cT.fn v=some true:=fun v h=>mM qf (pz h.1)
theorem wn:∀ v:pr.ps.V,okV pr.ps v→pr.fn v=some true:=fun v h=>ju qf (pz h.1)
theorem tM:∀ v:cm.ps.V,okV cm.ps v→cm.fn v=some true:=fun v h=>iS qf (pz h.1)
end Go.Proofs.YtnbgkhdcidbkaaaGreatDoor.Q
