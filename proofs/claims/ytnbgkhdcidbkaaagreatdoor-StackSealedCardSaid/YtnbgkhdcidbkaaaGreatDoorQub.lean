import Derived.Test.YtnbgkhdcidbkaaaGreatDoorQua
set_option linter.unusedVariables false
set_option linter.unusedSimpArgs false
set_option maxRecDepth 100000
namespace Go.Proofs.YtnbgkhdcidbkaaaGreatDoor.Q
open Go.EM Go.TY Go.Proofs Go.Proofs.YtnbgkhdcidbkaaaGreatDoor.Y
abbrev apz (l:List Dot1):Prop:=l.Pairwise fun x y=>cmpD x y≤0
abbrev aaf (l:List Dot1):Prop:=l.Pairwise fun x y=>cmpD x y<0
theorem lt_le {x y z:Dot1} (h:cmpD x y<0) (h2:cmpD y z≤0):cmpD x z<0:=by
 rcases Int.lt_or_eq_of_le h2 with q | q
 · exact bR.trans _ _ _ h q
 · rw[← (bR.zero _ _).1 q]; exact h
def hasV (v:List Int) (d:Dot1):Prop:=∃ k:Nat,k<16∧d.1=(k:Int)∧∃ n,v[k]? = some n∧d.2.1≤n
theorem aaE {v:List Int}{d x:Dot1}{k:Nat} (hk:x.1=(k:Int)) {n:Int} (hn:v[k]? = some n) (h:¬ x.2.1≤n) (hd:hasV v d):hasV (v.set k x.2.1) d:=by
 obtain ⟨j,j1,j2,m,j3,j4⟩:=hd
 have hlt:k<v.length:=by
   rcases Nat.lt_or_ge k v.length with q | q
   · exact q
   · rw[List.getElem?_eq_none q] at hn; cases hn
 by_cases e:j=k
 · subst e
   rw[hn] at j3
   cases j3
   exact ⟨j,j1,j2,x.2.1,by rw[List.getElem?_set_self hlt],by omega⟩
 · exact ⟨j,j1,j2,m,by rw[List.getElem?_set_ne (Ne.symm e)]; exact j3,j4⟩
structure Made (v:List Int) (l:List Dot1) (s:iX):Prop where
 ok:DOk s l.length
 rise:aaf s.2.1
 old:∀ d,hasV v d→hasV s.1 d
 all:∀ d∈l,hasV s.1 d∨d∈s.2.1
theorem xO {v:List Int}{l:List Dot1} (hv:v.length=16) (hl:l.length<1000000) (hr:∀ d∈l,aM d=true) (hw:apz l):∃ s,zc4 v l=some s∧Made v l s:=by
 unfold zc4
 refine bY (S:=List Int×List Dot1) (f:=ji l) l.length (fun i s=>((i:Int),([0,0,0,0,0,0,0,0,0,0,0,0,0,0,0,0],(),()),(s.1,(),()),s.2,())) (fun i s=>s.1.length=16∧s.2.length≤i∧(∀ d∈s.2,aM d=true)∧aaf s.2∧(∀ d,hasV v d→hasV s.1 d)∧(∀ d∈s.2,∃ k,∃ h:k<l.length,k<i∧l[k]=d)∧∀ k (h:k<l.length),k<i→hasV s.1 l[k]∨l[k]∈s.2) (fun s=>Made v l s) (fun i s hi hs => ?_) (fun s hs => ?_) (v,[]) ⟨hv,by simp,(fun d hd=>by cases hd),List.Pairwise.nil,fun d h=>h,(fun d hd=>by cases hd),fun k _ hk=>by omega⟩
 · obtain ⟨w,m⟩:=s
   obtain ⟨s1,s2,s3,s4,s5,s6,s7⟩:=hs
   have hx:=hr _ (zm hi)
   obtain ⟨k,k1,k2,k3⟩:=dU hx
   have k4:k<w.length:=by simp only at s1; omega
   simp only at s1 s2 s3 s4 s5 s6 s7
   have room:dD (m.length+[l[i]].length)=some ():=ct (by simp; omega)
   have old:∀ (w':List Int),(∀ d,hasV w d→hasV w' d)→hasV w' l[i]→∀ k (h:k<l.length),k<i+1→hasV w' l[k]∨l[k]∈m:=fun w' h1 h2 k hk hki=>by
     by_cases e:k=i
     · subst e; exact .inl h2
     · exact (s7 k hk (by omega)).imp_left (h1 _)
   have below:∀ d∈m,cmpD d l[i]≤0:=fun d hd=>by
     obtain ⟨j,hj,hji,rfl⟩:=s6 d hd
     exact List.pairwise_iff_getElem.1 hw j i hj hi hji
   have push:(∀ d∈m,cmpD d l[i]<0)→(w.length=16∧(m++[l[i]]).length≤i+1∧(∀ d∈m++[l[i]],aM d=true)∧aaf (m++[l[i]])∧(∀ d,hasV v d→hasV w d)∧(∀ d∈m++[l[i]],∃ k,∃ h:k<l.length,k<i+1∧l[k]=d)∧∀ k (h:k<l.length),k<i+1→hasV w l[k]∨l[k]∈m++[l[i]]):=fun hlt=>by
     refine ⟨s1,by simp; omega,fun d hd => ?_,List.pairwise_append.2 ⟨s4,List.pairwise_singleton ..,fun a ha b hb=>by rw[List.mem_singleton.1 hb]; exact hlt a ha⟩,s5,fun d hd => ?_,fun k hk hki => ?_⟩
     · rcases List.mem_append.1 hd with h | h
       · exact s3 d h
       · rw[List.mem_singleton.1 h]; exact hx
     · rcases List.mem_append.1 hd with h | h
       · obtain ⟨j,hj,hji,e⟩:=s6 d h
         exact ⟨j,hj,by omega,e⟩
       · exact ⟨i,hi,by omega,(List.mem_singleton.1 h).symm⟩
     · by_cases e:k=i
       · subst e; exact .inr (by simp)
       · exact (s7 k hk (by omega)).imp_right fun h=>List.mem_append.2 (.inl h)
   refine .inl ?_
   unfold ji
   simp only[am]
   rw[zp (by omega),bg hi]
   simp only[zb,k3]
   rw[zg k4]
   simp only[zb]
   rw[wrap64 (n:=(i:Int)+1) (by omega) (by omega)]
   by_cases c1:l[i].2.1≤w[k]
   · rw[zp c1]
     exact ⟨(w,m),rfl,s1,by simp only; omega,s3,s4,s5,(fun d hd=>by
       obtain ⟨j,hj,hji,e⟩:=s6 d hd
       exact ⟨j,hj,by omega,e⟩),old w (fun _ h=>h) ⟨k,k1,k2,w[k],zg k4,c1⟩⟩
   rw[zn c1]
   by_cases c2:l[i].2.1=IntKind.wrap .i64 (w[k]+1)
   · rw[zp c2]
     have grow:∀ d,hasV w d→hasV (w.set k l[i].2.1) d:=fun d hd=>aaE k2 (zg k4) c1 hd
     exact ⟨(w.set k l[i].2.1,m),rfl,by simp only[List.length_set]; exact s1,by simp only; omega,s3,s4,(fun d hd=>grow d (s5 d hd)),(fun d hd=>by
       obtain ⟨j,hj,hji,e⟩:=s6 d hd
       exact ⟨j,hj,by omega,e⟩),old _ grow ⟨k,k1,k2,l[i].2.1,by rw[List.getElem?_set_self k4],Int.le_refl _⟩⟩
   rw[zn c2]
   by_cases c3:(m.length:Int)=0
   · rw[zp c3,room]
     exact ⟨(w,m++[l[i]]),rfl,push fun d hd=>by
       have:m=[]:=List.eq_nil_of_length_eq_zero (by omega)
       rw[this] at hd; cases hd⟩
   rw[zn c3,wrap64 (by omega) (by omega),show (m.length:Int)-1=((m.length-1:Nat):Int) by omega,dI (by omega)]
   simp only[zb]
   rw[zg (by omega)]
   simp only[zb,yx,bm]
   by_cases c4:m[m.length-1]'(by omega)=l[i]
   · rw[zp c4]
     exact ⟨(w,m),rfl,s1,by simp only; omega,s3,s4,s5,(fun d hd=>by
       obtain ⟨j,hj,hji,e⟩:=s6 d hd
       exact ⟨j,hj,by omega,e⟩),fun j hj hji=>by
       by_cases e:j=i
       · subst e; exact .inr (by rw[← c4]; exact zm _)
       · exact s7 j hj (by omega)⟩
   · rw[zn c4,room]
     refine ⟨(w,m++[l[i]]),rfl,push fun d hd => ?_⟩
     obtain ⟨j,hj,rfl⟩:=List.mem_iff_getElem.1 hd
     have hlast:cmpD (m[m.length-1]'(by omega)) l[i]<0:=by
       rcases Int.lt_or_eq_of_le (below _ (zm (show m.length-1<m.length by omega))) with q | q
       · exact q
       · exact absurd ((bR.zero _ _).1 q) c4
     by_cases e:j=m.length-1
     · subst e; exact hlast
     · exact bR.trans _ _ _ (List.pairwise_iff_getElem.1 s4 j (m.length-1) hj (by omega) (by omega)) hlast
 · unfold ji
   simp only[am]
   rw[zn (by omega)]
   obtain ⟨s1,s2,s3,s4,s5,s6,s7⟩:=hs
   exact ⟨_,rfl,⟨s1,s2,s3⟩,s4,s5,fun d hd=>by
     obtain ⟨k,hk,rfl⟩:=List.mem_iff_getElem.1 hd
     exact s7 k hk hk⟩
theorem nS {l:List Dot1} (hl:l.length<1000000):∃ m,zao l=some ((),m,())∧m.Perm l∧apz m:=by
 obtain ⟨s,h1,h2,h3⟩:=wU (c:=cmpD) (key:=fun v:Dot1=>v) (cmp:=fun x y=>zbl x y) (xs:=l) bR (fun x _ y _=>fk x y) (by omega)
 refine ⟨s,?_,h2,h3⟩
 unfold zao
 rw[h1]; rfl
theorem yG {a b:List Dot1} (ha:a.length<100000) (hb:b.length<100000):zav [a,b]=some (a++b):=by
 have l1:aN (iy [a,b]) (0,0,())=some (.inl (((a.length+b.length:Nat):Int),())):=by
   have t1:iy [a,b] (0,0,())=some (.inl ((a.length:Int),1,())):=by
     unfold iy
     simp only[am]
     rw[zp (by simp),show atI [a,b] 0=some a from rfl]
     simp only[zb]
     rw[wrap64 (by omega) (by omega),zn (by omega),Int.zero_add]; rfl
   have t2:iy [a,b] ((a.length:Int),1,())=some (.inl (((a.length+b.length:Nat):Int),2,())):=by
     unfold iy
     simp only[am]
     rw[zp (by simp),show atI [a,b] 1=some b from rfl]
     simp only[zb]
     rw[wrap64 (by omega) (by omega),zn (by omega)]; rfl
   have t3:iy [a,b] (((a.length+b.length:Nat):Int),2,())=some (.inr (.inl (((a.length+b.length:Nat):Int),()))):=by
     unfold iy
     simp only[am]
     rw[zn (by simp)]
   rw[aL t1,aL t2,aH t3]
 have l2:aN (e9 [a,b]) (0,[],())=some (a++b):=by
   have t1:e9 [a,b] (0,[],())=some (.inl (1,a,())):=by
     unfold e9
     simp only[am]
     rw[zp (by simp),show atI [a,b] 0=some a from rfl]
     simp only[zb]
     rw[ct (by simp; omega)]; rfl
   have t2:e9 [a,b] (1,a,())=some (.inl (2,a++b,())):=by
     unfold e9
     simp only[am]
     rw[zp (by simp),show atI [a,b] 1=some b from rfl]
     simp only[zb]
     rw[ct (by omega)]; rfl
   have t3:e9 [a,b] (2,a++b,())=some (.inr (a++b)):=by
     unfold e9
     simp only[am]
     rw[zn (by simp)]
   rw[aL t1,aL t2,aH t3]
 unfold zav
 rw[l1,aF]
 have g:za1 () ((a.length+b.length:Nat):Int)=some []:=by
   unfold za1 aaG
   rw[zp ⟨by omega,by simp only[most]; omega⟩]
 rw[g]
 exact l2
theorem wJ {a b:List Int} (ha:a.length=16) (hb:b.length=16):∃ v,zdp a b=some v∧v.length=16∧∀ d,hasV a d∨hasV b d→hasV v d:=by
 obtain ⟨r,h1,h2⟩:=bY (S:=List Int) (f:=qY) 16 (fun i v=>((i:Int),v,b,[0,0,0,0,0,0,0,0,0,0,0,0,0,0,0,0],())) (fun i v=>v.length=16∧∀ k (h:k<16),∃ n,v[k]? = some n∧(∀ m,a[k]? = some m→m≤n)∧(k<i→∀ m,b[k]? = some m→m≤n)∧(i≤k→a[k]? = some n)) (fun v=>v.length=16∧∀ k (h:k<16),∃ n,v[k]? = some n∧(∀ m,a[k]? = some m→m≤n)∧∀ m,b[k]? = some m→m≤n) (fun i v hi hv=>by
   obtain ⟨v1,v2⟩:=hv
   obtain ⟨n,n1,n2,n3,n4⟩:=v2 i hi
   have hbi:b[i]? = some (b[i]'(by omega)):=zg _
   refine .inl ⟨v.set i (max n (b[i]'(by omega))),?_,by rw[List.length_set]; exact v1,fun k hk => ?_⟩
   · unfold qY zcq
     simp only[am]
     rw[zp (by omega),dI hi]
     simp only[zb]
     rw[n1,hbi,wrap64 (by omega) (by omega)]
     rfl
   · by_cases e:k=i
     · subst e
       refine ⟨max n (b[k]'(by omega)),by rw[List.getElem?_set_self (by omega)],fun m hm => ?_,fun _ m hm => ?_,fun q=>by omega⟩
       · have:=n2 m hm; omega
       · rw[hbi] at hm; cases hm; omega
     · obtain ⟨p,p1,p2,p3,p4⟩:=v2 k hk
       exact ⟨p,by rw[List.getElem?_set_ne (fun q=>e q.symm)]; exact p1,p2,fun q=>p3 (by omega),fun q=>p4 (by omega)⟩) (fun v hv=>by
   unfold qY
   simp only[am]
   rw[zn (by omega)]
   exact ⟨_,rfl,hv.1,fun k hk=>by
     obtain ⟨n,n1,n2,n3,_⟩:=hv.2 k hk
     exact ⟨n,n1,n2,n3 hk⟩⟩) a ⟨ha,fun k hk=>⟨a[k]'(by omega),zg _,fun m hm=>by
     rw[zg (show k<a.length by omega)] at hm; cases hm; exact Int.le_refl _,fun q=>by omega,fun _=>zg _⟩⟩
 refine ⟨r,?_,h2.1,fun d hd => ?_⟩
 · unfold zdp za3
   rw[show ((0:Int))=((0:Nat):Int) from rfl]
   have h1':=h1
   simp only[Int.natCast_zero] at h1' ⊢
   rw[h1']; rfl
 · rcases hd with ⟨k,k1,k2,m,k3,k4⟩ | ⟨k,k1,k2,m,k3,k4⟩
   · obtain ⟨n,n1,n2,_⟩:=h2.2 k k1
     exact ⟨k,k1,k2,n,n1,by have:=n2 m k3; omega⟩
   · obtain ⟨n,n1,_,n3⟩:=h2.2 k k1
     exact ⟨k,k1,k2,n,n1,by have:=n3 m k3; omega⟩
theorem apI (d:Dot1):zdg d=some (!aM d):=by
 unfold zdg
 rw[cV]; rfl
theorem yC (d:Dot1):zap [d]=some ((),(if aM d=true then [d] else []),()):=by
 have ix:zaq [d] ()=some (if aM d=true then -1 else 0):=by
   unfold zaq
   cases h:aM d with
   | true =>
     have t1:jm [d] (0,())=some (.inl (1,())):=by
       unfold jm
       rw[show atI [d] 0=some d from rfl]
       simp only[zb,apI,h,am]
       rw[zp (by simp)]; rfl
     have t2:jm [d] (1,())=some (.inr (-1)):=by
       unfold jm
       rfl
     rw[aL t1,aH t2]; rfl
   | false =>
     have t1:jm [d] (0,())=some (.inr 0):=by
       unfold jm
       rw[show atI [d] 0=some d from rfl]
       simp only[zb,apI,h,am]
       rw[zp (by simp)]; rfl
     rw[aH t1]; rfl
 have g:zN [d]=some (if aM d=true then [d] else []):=by
   unfold zN
   rw[ix]
   simp only[zb]
   cases h:aM d with
   | true=>rfl
   | false =>
     have t1:wh (0,1,[d],())=some (.inr (.inl (0,[d],()))):=by
       unfold wh
       rfl
     have w1:IntKind.wrap .i64 ((0:Int)+1)=1:=by rw[wrap64 (by omega) (by omega)]; rfl
     simp only[Bool.false_eq_true,if_false,am]
     rw[zn (by omega),w1,aH t1,aF]
     rfl
 unfold zap
 rw[g]; rfl
theorem tH {l:List Dot1} (h:l.length<100000):zay l=some l:=by
 unfold zay er
 rw[zp (by simp only[most]; omega)]
theorem apH (d:Dot1):∃ s,zds [d]=some s∧DOk s 1∧(aM d=true→hasV s.1 d∨d∈s.2.1):=by
 have hl:(if aM d=true then [d] else []).length≤1:=by split<;>simp
 obtain ⟨m,m1,m2,m3⟩:=nS (l:=if aM d=true then [d] else []) (by omega)
 have hr:∀ x∈m,aM x=true:=fun x hx=>by
   have:=m2.mem_iff.1 hx
   split at this
   · rename_i c
     rw[List.mem_singleton.1 this]; exact c
   · cases this
 have hml:=m2.length_eq
 obtain ⟨s,s1,s2⟩:=xO (v:=[0,0,0,0,0,0,0,0,0,0,0,0,0,0,0,0]) rfl (by omega) hr m3
 refine ⟨s,?_,⟨s2.ok.vec,by have:=s2.ok.len; omega,s2.ok.right⟩,fun h=>s2.all d (m2.mem_iff.2 (by rw[zp h]; exact List.mem_singleton.2 rfl))⟩
 unfold zds
 rw[tH (by simp)]
 simp only[zb]
 rw[yC]
 simp only[zb]
 rw[m1]
 simp only[zb]
 rw[s1]; rfl
theorem ag8 {s:iX}{d:Dot1} (hv:s.1.length=16) (hd:aM d=true) (hr:aaf s.2.1) (hl:s.2.1.length<1000000) (h:hasV s.1 d∨d∈s.2.1):zdl s d=some true:=by
 obtain ⟨k,k1,k2,k3⟩:=dU hd
 have hvec:zdt s.1 d=some (decide (d.2.1≤s.1[k]'(by omega))):=by
   unfold zdt
   rw[cV,hd]
   simp only[zb,cond_true]
   rw[k3]
   simp only[zb]
   rw[zg (by omega)]
   rfl
 unfold zdl
 rw[hvec]
 simp only[zb,am]
 by_cases c:d.2.1≤s.1[k]'(by omega)
 · rw[zp c]
 · rw[zn c]
   rcases h with ⟨j,j1,j2,n,j3,j4⟩ | h
   · have:j=k:=by omega
     subst this
     rw[zg (by omega)] at j3
     have j5:=Option.some.inj j3
     exact absurd (by rw[j5]; exact j4) c
   · obtain ⟨i,hi,e⟩:=List.mem_iff_getElem.1 h
     -- the search ends at its place
     have key:∀ (q a b:Nat),b-a≤q→a≤i→i≤b→b≤s.2.1.length→a≤b→aN (gp s.2.1 d) ((a:Int),(b:Int),())=some (.inl ((i:Int),())):=by
       intro q
       induction q with
       | zero =>
         intro a b h1 h2 h3 h4 h5
         have:a=i:=by omega
         have hb:b=i:=by omega
         subst this
         subst hb
         refine aH ?_
         unfold gp
         simp only[am]
         rw[zn (by omega)]
       | succ q ih =>
         intro a b h1 h2 h3 h4 h5
         by_cases hab:a<b
         · have hh:(a+b)/2<s.2.1.length:=by omega
           have turn:gp s.2.1 d ((a:Int),(b:Int),())=some (.inl (if cmpD s.2.1[(a+b)/2] d<0 then ((((a+b)/2+1:Nat):Int),(b:Int),()) else ((a:Int),(((a+b)/2:Nat):Int),()))):=by
             unfold gp
             simp only[am]
             rw[zp (by omega),show (a:Int)+(b:Int)=((a+b:Nat):Int) by omega,oI (by omega)]
             simp only[zb]
             rw[wrap64 (n:=(((a+b)/2:Nat):Int)) (by omega) (by omega),bg hh]
             simp only[zb,fk]
             rw[wrap64 (by omega) (by omega)]
             by_cases hc:cmpD s.2.1[(a+b)/2] d<0
             · rw[zp hc,zp hc]; rfl
             · rw[zn hc,zn hc]
           by_cases hlt:(a+b)/2<i
           · have q1:cmpD s.2.1[(a+b)/2] s.2.1[i]<0:=List.pairwise_iff_getElem.1 hr _ _ hh hi hlt
             rw[e] at q1
             rw[zp q1] at turn
             rw[aL turn]
             exact ih _ _ (by omega) (by omega) h3 h4 (by omega)
           · have q1 : ¬ cmpD s.2.1[(a + b) / 2] d < 0 := by
               by_cases ei:(a+b)/2=i
               · have:s.2.1[(a+b)/2]=d:=by rw[← e]; congr 1
                 rw[this,(bR.zero _ _).2 rfl]; omega
               · have q2:cmpD s.2.1[i] s.2.1[(a+b)/2]<0:=List.pairwise_iff_getElem.1 hr _ _ hi hh (by omega)
                 rw[e] at q2
                 have:=bR.neg d s.2.1[(a+b)/2]
                 omega
             rw[zn q1] at turn
             rw[aL turn]
             exact ih _ _ (by omega) h2 (by omega) (by omega) (by omega)
         · have:a=i:=by omega
           have hb:b=i:=by omega
           subst this
           subst hb
           refine aH ?_
           unfold gp
           simp only[am]
           rw[zn (by omega)]
     unfold zab
     have:=key s.2.1.length 0 s.2.1.length (by omega) (by omega) (by omega) (Nat.le_refl _) (by omega)
     rw[show ((0:Int),(s.2.1.length:Int),())=(((0:Nat):Int),(s.2.1.length:Int),()) from rfl,this,aF]
     simp only[am]
     rw[zp (by omega),bg hi,e]
     simp only[zb,fk]
     rw[(bR.zero d d).2 rfl]
     rfl
theorem apD {s:St1}{d:Dot1} (hs:DOk s.2.2.2.1 100):∃ f,zcg s [d]=some (s.1,s.2.1,s.2.2.1,f,s.2.2.2.2.1,())∧DOk f 101∧(aM d=true→zdl f d=some true):=by
 obtain ⟨o,o1,o2,o3⟩:=apH d
 obtain ⟨v,v1,v2,v3⟩:=wJ hs.vec o2.vec
 have l1:=hs.len
 have l2:=o2.len
 have hlen:(s.2.2.2.1.2.1++o.2.1).length≤101:=by rw[List.length_append]; omega
 obtain ⟨m,m1,m2,m3⟩:=nS (l:=s.2.2.2.1.2.1++o.2.1) (by omega)
 have hml:=m2.length_eq
 obtain ⟨f,f1,f2⟩:=xO v2 (l:=m) (by omega) (fun x hx=>by
   rcases List.mem_append.1 (m2.mem_iff.1 hx) with q | q
   · exact hs.right x q
   · exact o2.right x q) m3
 refine ⟨f,?_,⟨f2.ok.vec,by have:=f2.ok.len; omega,f2.ok.right⟩,fun h=>ag8 f2.ok.vec h f2.rise (by have:=f2.ok.len; omega) ?_⟩
 · unfold zcg zcs
   rw[o1]
   simp only[zb]
   rw[yG (by omega) (by omega)]
   simp only[zb]
   rw[m1]
   simp only[zb]
   rw[v1]
   simp only[zb]
   rw[f1]
   rfl
 · rcases o3 h with q | q
   · exact .inl (f2.old d (v3 d (.inr q)))
   · exact f2.all d (m2.mem_iff.2 (List.mem_append.2 (.inr q)))
theorem yQ {s:St1}{n:Nat}{user:Int} (h:StOk s n) (hn:n<100000) (hr:∀ l∈s.2.2.2.2.1,l.length≤1000):∃ d e,zcu s user=some (d,e,())∧(e=0→zdf s d=some 0):=by
 have hrl:=h.rlen
 have hu:=h.undos.low hn
 unfold zcu
 simp only[am]
 by_cases c1:user<0
 · rw[zp c1]; exact ⟨_,_,rfl,fun q=>by cases q⟩
 rw[zn c1]
 by_cases c2:user≥8
 · rw[zp c2]; exact ⟨_,_,rfl,fun q=>by cases q⟩
 rw[zn c2]
 obtain ⟨k,rfl⟩:∃ k:Nat,user=(k:Int):=⟨user.toNat,by omega⟩
 have hk:k<s.2.2.2.2.1.length:=by omega
 rw[dI (by omega)]
 simp only[zb]
 rw[zg hk]
 simp only[zb]
 have hlen:=hr _ (zm hk)
 generalize s.2.2.2.2.1[k]=l at hlen
 have key:∀ j:Nat,j≤l.length→∃ d e,aN (kW l) ((j:Int)-1,s,(0,0,()),())=some (d,e,())∧(e=0→zdf s d=some 0):=by
   intro j
   induction j with
   | zero =>
     intro _
     refine ⟨(0,0,()),11,aH ?_,fun q=>by cases q⟩
     unfold kW
     rfl
   | succ j ih =>
     intro hj
     obtain ⟨b,_,hm⟩:=ey (d:=l[j]) h hn
     have head:kW l (((j+1:Nat):Int)-1,s,(0,0,()),())=if fP s.2.1 l[j]=true then some (.inl ((j:Int)-1,s,(0,0,()),())) else (zdf s l[j]).bind fun r6=>if r6=0 then some (.inr (l[j],0,())) else some (.inr ((0,0,()),r6,())):=by
       unfold kW
       rw[show ((j+1:Nat):Int)-1=(j:Int) by omega,bg (show j<l.length by omega)]
       simp only[zb,am]
       rw[zp (by omega),ex hu.len hu.rise,wrap64 (by omega) (by omega)]
       simp only[zb]
       cases fP s.2.1 l[j] with
       | true=>rfl
       | false =>
         simp only[cond_false,Bool.false_eq_true,if_false,bm]
     by_cases c:fP s.2.1 l[j]=true
     · rw[zp c] at head
       obtain ⟨d,e,h1,h2⟩:=ih (by omega)
       exact ⟨d,e,(aL head).trans h1,h2⟩
     · rw[zn c,hm] at head
       simp only[zb] at head
       generalize hr6:(if b=true then 13 else if aM l[j]=false then 2 else if getM s.2.1 l[j]≥64 then 14 else (0:Int))=r6 at head hm
       by_cases c0:r6=0
       · rw[zp c0] at head
         exact ⟨l[j],0,aH head,fun _=>by rw[hm,c0]⟩
       · rw[zn c0] at head
         exact ⟨(0,0,()),r6,aH head,fun q=>absurd q c0⟩
 have:=key l.length (Nat.le_refl _)
 rw[wrap64 (by omega) (by omega)]
 exact this
theorem xT {s:St1}{n:Nat}{user:Int} (h:StOk s n) (hn:n<100000):∃ d e,zck s user=some (d,e,())∧(e=0→zdf s d=some 0):=by
 rcases jt (user:=user) h hn with ⟨_,hl⟩ | ⟨t,e,_,hm,hl⟩
 · exact ⟨_,_,hl,fun q=>by cases q⟩
 · by_cases c:e=0
   · rw[zp c] at hl
     exact ⟨_,_,hl,fun _=>by rw[hm,c]⟩
   · rw[zn c] at hl
     exact ⟨_,_,hl,fun q=>absurd q c⟩
theorem tt {l:List Txn1}{d:Dot1} (hl:l.length<1000000):∃ r,zdo l d=some r:=by
 obtain ⟨k,_,b,hb,_⟩:=oM (l:=l) (d:=d) hl
 unfold zdo
 rw[hb]
 cases b<;>exact ⟨_,rfl⟩
theorem tc {s:St1}{n:Nat}{d:Dot1}{redo:Bool} (h:StOk s n) (hn:n<100000):∃ e,zcb s d redo=some e∧(zdl s.2.2.2.1 d=some true→e=13∨e=12):=by
 have hl:=h.txns
 have hu:=h.undos.low hn
 obtain ⟨r,hr⟩:=tt (l:=s.1) (d:=d) (by omega)
 obtain ⟨b,hb,hm⟩:=ey (d:=d) h hn
 unfold zcb
 rw[hr,hb,ex hu.len hu.rise,hm]
 simp only[zb,am]
 by_cases c:r<0
 · rw[zp c]; exact ⟨12,rfl,fun _=>.inr rfl⟩
 rw[zn c]
 cases b with
 | true=>exact ⟨13,rfl,fun _=>.inl rfl⟩
 | false =>
   simp only[cond_false]
   cases fP s.2.1 d==redo with
   | true=>exact ⟨_,rfl,fun q=>by cases q⟩
   | false=>exact ⟨_,rfl,fun q=>by cases q⟩
theorem xf (d:Dot1):zb7 d=some (aM d):=by
 unfold zb7 aM
 simp only[am]
 by_cases h1:d.1≥0<;>by_cases h2:d.1<16<;>by_cases h3:d.2.1≥1<;>by_cases h4:d.2.1≤1048576<;>simp[h1,h2,h3,h4]<;>omega
theorem js (aw:zb0=some true) {s:St1}{user:Int}{d:Dot1}{redo:Bool} (hw:Wide s):za4 s user d redo=some true:=by
 obtain ⟨b,h1,h2⟩:=aaI hw
 unfold za4
 rw[h1]
 simp only[zb,aw]
 cases b with
 | false=>rfl
 | true =>
 have hs:=h2 rfl
 obtain ⟨f,f1,f2,f3⟩:=apD (s:=s) (d:=d) hs.fast
 rw[Bool.not_true,cond_false,f1]
 simp only[zb]
 have st:StOk (s.1,s.2.1,s.2.2.1,f,s.2.2.2.2.1,()) 100:=⟨by have:=hs.txns.len; simp only; omega,hs.st.undos,f2.vec,by have:=f2.len; simp only; omega,hs.rlen⟩
 obtain ⟨d1,e1,p1,p2⟩:=xT (user:=user) st (by omega)
 obtain ⟨d2,e2,q1,q2⟩:=yQ (user:=user) st (by omega) (fun l hl=>by have:=hs.redo l hl; omega)
 obtain ⟨e3,r1,r2⟩:=tc (d:=d) (redo:=redo) st (by omega)
 rw[p1,q1,r1]
 simp only[zb,xf,yx,am]
 cases hd:aM d with
 | false =>
   simp only[Bool.not_false,cond_true]
   by_cases c1:e1=0<;>by_cases c2:d1=d<;>by_cases c3:e2=0<;>by_cases c4:d2=d<;>simp[c1,c2,c3,c4,bw]
 | true =>
   have hh:=f3 hd
   obtain ⟨b',hb',hm⟩:=ey (d:=d) st (by omega)
   simp only at hb'
   rw[hh] at hb'
   cases hb'
   rw[zp rfl] at hm
   have no1:e1=0→d1≠d:=fun c e=>by
     have:=p2 c
     rw[e,hm] at this
     cases this
   have no2:e2=0→d2≠d:=fun c e=>by
     have:=q2 c
     rw[e,hm] at this
     cases this
   have hn:e3=13∨e3=12:=r2 hh
   have fin:(if e3=13 then some true else if e3=12 then some true else some false)=some true:=by
     rcases hn with rfl | rfl<;>rfl
   simp only[Bool.not_true,cond_false]
   by_cases c1:e1=0
   · rw[zp c1,zn (no1 c1)]
     by_cases c3:e2=0
     · rw[zp c3,zn (no2 c3),aF]; exact fin
     · rw[zn c3,aF]; exact fin
   · rw[zn c1]
     by_cases c3:e2=0
     · rw[zp c3,zn (no2 c3),aF]; exact fin
     · rw[zn c3,aF]; exact fin
theorem wP:∀ v:pK.ps.V,okV pK.ps v→pK.fn v=some true:=fun v h=>js ahz (agN h.1)
end Go.Proofs.YtnbgkhdcidbkaaaGreatDoor.Q
