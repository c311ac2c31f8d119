import Derived.Test.YtgfpkhlabdcbmaaDoorT14
import Derived.Test.YtgfpkhlabdcbmaaDoorE30
set_option linter.unusedVariables false
namespace Go.TY
open Go.EM
end Go.TY
namespace Go.TY
open Go.EM
end Go.TY
namespace Go.TY
open Go.EM
def decodeT (s:List UInt8):Option (Int×Int×Unit):=some ((Lib.decodeGo ⟨s.toArray⟩).1,(Lib.decodeGo ⟨s.toArray⟩).2,())
def decodeT_T:TFn:={ ps:=.cons .str .unit,res:=.tup (.cons (.int .i32) (.cons (.int .i64) .unit)),fn:=fun v=>decodeT v.1 }
theorem decodeT_ok:TOk decodeF decodeT_T:=⟨rfl,rfl,rfl,fun v r xs hr hps=>by
 simp only[R,decodeT_T] at hps
 obtain ⟨l1,l2,rfl,rfl,rfl⟩:=hps
 cases hr
 exact ⟨_,rfl,_,rfl,_,_,rfl,rfl,_,[],rfl,rfl,rfl⟩⟩
end Go.TY
namespace Go.TY
open Go.EM
def cloneT {A:Type} (l:List A):Option (List A):=if l.length<most then some l else none
def cloneT_T (u:Ty):TFn:={ ps:=.cons (.sl u) .unit,res:=.sl u,fn:=fun v=>cloneT v.1 }
theorem cloneT_ok {M:Nat}{u:Ty} (hu:u.size=M) (hv:u.isV=true) (hc:u.closed=true):TOk (cloneF M) (cloneT_T u):=by
 have hk:(Ty.sl u).closed=true:=by simp only[Ty.closed,hv,hc,Bool.and_self]
 refine ⟨by simp only[cloneT_T,Ty.closed,hv,hc,Bool.and_self],hk,rfl,fun v r xs hr hps => ?_⟩
 obtain ⟨v,⟨⟩⟩:=v
 simp only[R,cloneT_T] at hps
 obtain ⟨l1,l2,rfl,hx,rfl⟩:=hps
 simp only[cloneT_T,cloneT] at hr
 split at hr
 · rename_i hlt
   cases hr
   rcases hx with ⟨rfl,rfl⟩ | ⟨f,n,bs,rfl,hn,ha⟩
   · exact ⟨_,rfl,.inr ⟨false,0,[],rfl,.inl rfl,trivial⟩⟩
   · cases r with
     | nil =>
       match bs,ha with
       | [],_=>exact ⟨.tree false 0 [],rfl,.inr ⟨false,0,[],rfl,.inl rfl,trivial⟩⟩
     | cons x r =>
       match bs,ha with
       | a::bs,ha =>
         have hn:n=M:=by
           rcases hn with h | h
           · cases h
           · rw[h,hu]
         subst hn
         have hlen:=All2_len ha
         have hl2:bs.length+1<most:=by simp only[List.length_cons] at hlen hlt; omega
         exact ⟨.tree false n (a::bs),by simp only[cloneF,List.singleton_append]; rw[if_pos ⟨trivial,hl2⟩],.inr ⟨false,n,a::bs,rfl,.inr hu.symm,ha⟩⟩
 · cases hr
end Go.TY
namespace Go.TY
open Go.EM
section
variable {A R X S:Type}
def foldE (step:Nat→X→S→S⊕R) (fin:S→R):Nat→List X→S→R
 | _,[],s=>fin s
 | i,x::l,s=>match step i x s with
   | .inl s'=>foldE step fin (i+1) l s'
   | .inr r=>r
theorem loop_list {f:A→Option (A⊕R)}{l:List X} (enc:Nat→S→A) (step:Nat→X→S→S⊕R) (fin:S→R) (inv:Nat→S→Prop)
   (hturn:∀ (i:Nat) (h:i<l.length) (s:S),inv i s→(∃ s',step i l[i] s = .inl s'∧f (enc i s)=some (.inl (enc (i+1) s'))∧inv (i+1) s')∨(∃ r,step i l[i] s = .inr r∧f (enc i s)=some (.inr r)))
   (hend:∀ s,inv l.length s→f (enc l.length s)=some (.inr (fin s))):∀ s,inv 0 s→loopT f (enc 0 s)=some (foldE step fin 0 l s):=by
 have key:∀ (k i:Nat) (s:S),l.length-i≤k→i≤l.length→inv i s→loopT f (enc i s)=some (foldE step fin i (l.drop i) s):=by
   intro k
   induction k with
   | zero =>
     intro i s hk hi hv
     have:i=l.length:=by omega
     subst this
     rw[List.drop_eq_nil_of_le (Nat.le_refl _),loopT_inr (hend s hv)]
     rfl
   | succ k ih =>
     intro i s hk hi hv
     by_cases hlt:i<l.length
     · rw[List.drop_eq_getElem_cons hlt]
       simp only[foldE]
       rcases hturn i hlt s hv with ⟨s',h1,h2,h3⟩ | ⟨r,h1,h2⟩
       · rw[loopT_inl h2,ih (i+1) s' (by omega) (by omega) h3,h1]
       · rw[loopT_inr h2,h1]
     · have:i=l.length:=by omega
       subst this
       rw[List.drop_eq_nil_of_le (Nat.le_refl _),loopT_inr (hend s hv)]
       rfl
 intro s hv
 have:=key l.length 0 s (by omega) (by omega) hv
 simpa using this
theorem loop_all {f:A→Option (A⊕R)}{l:List X} (enc:Nat→A) (p:X→Bool) (yes no:R)
   (hturn:∀ (i:Nat) (h:i<l.length),f (enc i)=some (if p l[i] then .inl (enc (i+1)) else .inr no)) (hend:f (enc l.length)=some (.inr yes)):loopT f (enc 0)=some (if l.all p then yes else no):=by
 have:=loop_list (S:=Unit) (fun i _=>enc i) (fun _ x _=>if p x then .inl () else .inr no) (fun _=>yes) (fun _ _=>True) (l:=l) (f:=f) (fun i h s _=>by
   by_cases hp:p l[i]=true
   · exact .inl ⟨(),by rw[if_pos hp],by rw[hturn i h,if_pos hp],trivial⟩
   · exact .inr ⟨no,by rw[if_neg hp],by rw[hturn i h,if_neg hp]⟩) (fun s _=>hend) () trivial
 rw[this]
 congr 1
 have gen:∀ (l:List X) (i:Nat),foldE (S:=Unit) (fun _ x _=>if p x then .inl () else .inr no) (fun _=>yes) i l ()=if l.all p then yes else no:=by
   intro l
   induction l with
   | nil=>intro i; rfl
   | cons x l ih =>
     intro i
     have h:=ih (i+1)
     by_cases hp:p x=true
     · simp only[foldE,hp,if_true]
       rw[h]
       simp[hp]
     · simp[foldE,hp]
 exact gen l 0
theorem loop_map {Y:Type}{f:A→Option (A⊕R)}{l:List X} (enc:Nat→List Y→A) (g:X→List Y) (fin:List Y→R) (m:Nat) (hg:∀ x∈l,(g x).length≤m)
   (hturn:∀ (i:Nat) (h:i<l.length) (o:List Y),o.length≤i*m→f (enc i o)=some (.inl (enc (i+1) (o++g l[i])))) (hend:∀ o,o.length≤l.length*m→f (enc l.length o)=some (.inr (fin o))) :
   loopT f (enc 0 [])=some (fin (l.flatMap g)):=by
 have:=loop_list (S:=List Y) enc (fun _ x o=>.inl (o++g x)) fin (fun i o=>o.length≤i*m) (l:=l) (f:=f) (fun i h o ho=>.inl ⟨_,rfl,hturn i h o ho,by
   have:=hg l[i] (List.getElem_mem h)
   rw[List.length_append,Nat.succ_mul]; omega⟩) hend [] (by simp)
 rw[this]
 congr 1
 have gen:∀ (l:List X) (i:Nat) (o:List Y),foldE (S:=List Y) (R:=R) (fun _ x o=>.inl (o++g x)) fin i l o=fin (o++l.flatMap g):=by
   intro l
   induction l with
   | nil=>intro i o; simp[foldE]
   | cons x l ih=>intro i o; simp only[foldE]; rw[ih]; simp[List.flatMap_cons]
 rw[gen]; rfl
def all2 {Y:Type} (q:X→Y→Bool):List X→List Y→Bool
 | [],[]=>true
 | x::l,y::m=>q x y&&all2 q l m
 | _,_=>false
theorem loop_all2 {Y:Type}{f:A→Option (A⊕R)}{l:List X}{m:List Y} (enc:Nat→A) (q:X→Y→Bool) (yes no:R) (hl:l.length=m.length)
   (hturn:∀ (i:Nat) (h:i<l.length) (h':i<m.length),f (enc i)=some (if q l[i] m[i]=true then .inl (enc (i+1)) else .inr no)) (hend:f (enc l.length)=some (.inr yes)):loopT f (enc 0)=some (if all2 q l m=true then yes else no):=by
 have key:∀ (k i:Nat),l.length-i≤k→i≤l.length→loopT f (enc i)=some (if all2 q (l.drop i) (m.drop i)=true then yes else no):=by
   intro k
   induction k with
   | zero =>
     intro i hk hi
     have e:i=l.length:=by omega
     subst e
     rw[loopT_inr hend,List.drop_eq_nil_of_le (Nat.le_refl _),List.drop_eq_nil_of_le (by omega)]
     rfl
   | succ k ih =>
     intro i hk hi
     by_cases hlt:i<l.length
     · have h2:i<m.length:=by omega
       rw[List.drop_eq_getElem_cons hlt,List.drop_eq_getElem_cons h2]
       have ht:=hturn i hlt h2
       by_cases hq:q l[i] m[i]=true
       · rw[if_pos hq] at ht
         rw[loopT_inl ht,ih (i+1) (by omega) (by omega)]
         simp only[all2,hq,Bool.true_and]
       · rw[if_neg hq] at ht
         rw[loopT_inr ht]
         simp[all2,hq]
     · have e:i=l.length:=by omega
       subst e
       rw[loopT_inr hend,List.drop_eq_nil_of_le (Nat.le_refl _),List.drop_eq_nil_of_le (by omega)]
       rfl
 have:=key l.length 0 (by omega) (by omega)
 simpa using this
theorem all2_dec [DecidableEq X]:∀ {l m:List X},all2 (fun x y=>decide (x=y)) l m=decide (l=m)
 | [],[]=>rfl
 | [],_::_=>by simp[all2]
 | _::_,[]=>by simp[all2]
 | x::l,y::m=>by
   simp only[all2,all2_dec (l:=l) (m:=m),List.cons.injEq,Bool.decide_and]
open Classical in
theorem loop_allI {f:A→Option (A⊕R)} (n:Nat) (enc:Nat→A) (p:Nat→Bool) (yes no:R)
   (hturn:∀ (i:Nat) (h:i<n),f (enc i)=some (if p i=true then .inl (enc (i+1)) else .inr no)) (hend:f (enc n)=some (.inr yes)):loopT f (enc 0)=some (if (∀ i,i<n→p i=true) then yes else no):=by
 have key:∀ (k i:Nat),n-i≤k→i≤n→loopT f (enc i)=some (if (∀ j,i≤j→j<n→p j=true) then yes else no):=by
   intro k
   induction k with
   | zero =>
     intro i hk hi
     have e:i=n:=by omega
     subst e
     rw[loopT_inr hend,if_pos (fun j h1 h2=>by omega)]
   | succ k ih =>
     intro i hk hi
     by_cases hlt:i<n
     · have ht:=hturn i hlt
       by_cases hq:p i=true
       · rw[if_pos hq] at ht
         rw[loopT_inl ht,ih (i+1) (by omega) (by omega)]
         by_cases ha:∀ j,i+1≤j→j<n→p j=true
         · rw [if_pos ha, if_pos (fun j h1 h2 => by
             rcases Nat.lt_or_eq_of_le h1 with h | h
             · exact ha j h h2
             · rw[← h]; exact hq)]
         · rw[if_neg ha,if_neg (fun hb=>ha (fun j h1 h2=>hb j (by omega) h2))]
       · rw[if_neg hq] at ht
         rw[loopT_inr ht,if_neg (fun hb=>hq (hb i (Nat.le_refl _) hlt))]
     · have e:i=n:=by omega
       subst e
       rw[loopT_inr hend,if_pos (fun j h1 h2=>by omega)]
 have:=key n 0 (by omega) (by omega)
 rw[this]
 congr 1
 by_cases ha:∀ i,i<n→p i=true
 · rw[if_pos ha,if_pos (fun j _ h2=>ha j h2)]
 · rw[if_neg ha,if_neg (fun hb=>ha (fun j h2=>hb j (Nat.zero_le _) h2))]
end
end Go.TY
set_option linter.unusedSectionVars false
namespace Go.TY
structure Cmp {K:Type} (c:K→K→Int):Prop where
 one:∀ a b,-1≤c a b∧c a b≤1
 neg:∀ a b,c b a = - c a b
 zero:∀ a b,c a b=0↔a=b
 trans:∀ a b d,c a b<0→c b d<0→c a d<0
def cmpL {K:Type} (c:K→K→Int):List K→List K→Int
 | [],[]=>0
 | [],_::_ => -1
 | _::_,[]=>1
 | x::a,y::b=>if c x y=0 then cmpL c a b else c x y
section
variable {K:Type}{c:K→K→Int}
theorem Cmp.list (h:Cmp c):Cmp (cmpL c) where
 one:=by
   intro a
   induction a with
   | nil=>intro b; cases b<;>simp[cmpL]
   | cons x a ih =>
     intro b
     cases b with
     | nil=>simp[cmpL]
     | cons y b =>
       simp only[cmpL]
       split
       · exact ih b
       · exact h.one x y
 neg:=by
   intro a
   induction a with
   | nil=>intro b; cases b<;>simp[cmpL]
   | cons x a ih =>
     intro b
     cases b with
     | nil=>simp[cmpL]
     | cons y b =>
       simp only[cmpL]
       have:=h.neg x y
       by_cases h0:c x y=0
       · rw[if_pos h0,if_pos (by omega)]; exact ih b
       · rw[if_neg h0,if_neg (by omega)]; exact this
 zero:=by
   intro a
   induction a with
   | nil=>intro b; cases b<;>simp[cmpL]
   | cons x a ih =>
     intro b
     cases b with
     | nil=>simp[cmpL]
     | cons y b =>
       simp only[cmpL]
       by_cases h0:c x y=0
       · rw[if_pos h0,ih b,(h.zero x y).1 h0]; simp
       · rw[if_neg h0]
         constructor
         · intro k; exact absurd k h0
         · intro k; cases k; exact absurd ((h.zero x x).2 rfl) h0
 trans:=by
   intro a
   induction a with
   | nil =>
     intro b d h1 h2
     cases b with
     | nil=>simp[cmpL] at h1
     | cons y b =>
       cases d with
       | nil=>simp[cmpL] at h2
       | cons z d=>simp[cmpL]
   | cons x a ih =>
     intro b d h1 h2
     cases b with
     | nil=>simp[cmpL] at h1
     | cons y b =>
       cases d with
       | nil=>simp[cmpL] at h2
       | cons z d =>
         simp only[cmpL] at h1 h2 ⊢
         by_cases h0:c x y=0
         · rw[if_pos h0] at h1
           have e:=(h.zero x y).1 h0
           subst e
           by_cases h3:c x z=0
           · rw[if_pos h3] at h2 ⊢; exact ih b d h1 h2
           · rw[if_neg h3] at h2 ⊢; exact h2
         · rw[if_neg h0] at h1
           by_cases h3:c y z=0
           · have e:=(h.zero y z).1 h3
             subst e
             rw[if_neg h0]; exact h1
           · rw[if_neg h3] at h2
             have:=h.trans x y z h1 h2
             rw[if_neg (by omega)]; exact this
def cmpB {L:Type} (c:K→K→Int) (d:L→L→Int) (a b:K×L):Int:=if c a.1 b.1=0 then d a.2 b.2 else c a.1 b.1
theorem Cmp.pair {L:Type}{d:L→L→Int} (h:Cmp c) (k:Cmp d):Cmp (cmpB c d) where
 one a b:=by
   unfold cmpB
   split
   · exact k.one _ _
   · exact h.one _ _
 neg a b:=by
   unfold cmpB
   have:=h.neg a.1 b.1
   by_cases h0:c a.1 b.1=0
   · rw[if_pos h0,if_pos (by omega)]; exact k.neg _ _
   · rw[if_neg h0,if_neg (by omega)]; exact this
 zero a b:=by
   unfold cmpB
   obtain ⟨a1,a2⟩:=a
   obtain ⟨b1,b2⟩:=b
   simp only
   by_cases h0:c a1 b1=0
   · rw[if_pos h0,k.zero,(h.zero _ _).1 h0]; simp
   · rw[if_neg h0]
     constructor
     · intro e; exact absurd e h0
     · intro e; cases e; exact absurd ((h.zero _ _).2 rfl) h0
 trans a b e h1 h2:=by
   unfold cmpB at h1 h2 ⊢
   obtain ⟨a1,a2⟩:=a
   obtain ⟨b1,b2⟩:=b
   obtain ⟨e1,e2⟩:=e
   simp only at h1 h2 ⊢
   by_cases h0:c a1 b1=0
   · rw[if_pos h0] at h1
     have q:=(h.zero _ _).1 h0
     subst q
     by_cases h3:c a1 e1=0
     · rw[if_pos h3] at h2 ⊢; exact k.trans _ _ _ h1 h2
     · rw[if_neg h3] at h2 ⊢; exact h2
   · rw[if_neg h0] at h1
     by_cases h3:c b1 e1=0
     · have q:=(h.zero _ _).1 h3
       subst q
       rw[if_neg h0]; exact h1
     · rw[if_neg h3] at h2
       have:=h.trans _ _ _ h1 h2
       rw[if_neg (by omega)]; exact this
theorem Cmp.irr (h:Cmp c) (a:K):¬ c a a<0:=by have:=(h.zero a a).2 rfl; omega
end
section
variable {X K C:Type} (c:K→K→Int) (key:X→K) (same:X→X→Bool) (G M:X→C) (T:X→X→C) (leaf:C→K)
def ins (v:C):List C→List C
 | []=>[v]
 | e::l=>if c (leaf v) (leaf e)<0 then v::e::l else e::ins v l
def Rises (a:List X):Prop:=a.Pairwise fun x y=>c (key x) (key y)<0
variable {c key same G M T leaf}
variable (hc:Cmp c) (hG:∀ x,leaf (G x)=key x) (hM:∀ x,leaf (M x)=key x) (hT:∀ x y,leaf (T x y)=key x)
include hc hG hT
include hM
end
end Go.TY
set_option linter.unusedSimpArgs false
namespace Go.TY
open Go.EM
theorem row_one {Φ:Frame}{Γ:Ctx}{st:Store}{g:Reg} (hm:MemR Φ Γ [g] st):RegR Γ st 0 g:=hm.reg 0 (by simp)
end Go.TY
namespace Go.TY
section
variable {X K:Type} (c:K→K→Int) (key:X→K)
def lo (k:K) (l:List X):List X:=l.takeWhile fun x=>decide (c (key x) k<0)
def hi (k:K) (l:List X):List X:=l.dropWhile fun x=>decide (c (key x) k<0)
variable {c key}
theorem lohi {k:K}{l:List X}:lo c key k l++hi c key k l=l:=List.takeWhile_append_dropWhile
theorem lo_below {k:K}:∀ {l:List X},∀ x∈lo c key k l,c (key x) k<0
 | [],x,h=>by cases h
 | y::l,x,h=>by
   unfold lo at h
   rw[List.takeWhile_cons] at h
   by_cases hy:c (key y) k<0
   · rw[decide_eq_true hy] at h
     simp only[if_true] at h
     rcases List.mem_cons.1 h with rfl | h
     · exact hy
     · exact lo_below x h
   · rw[decide_eq_false hy] at h
     cases h
theorem hi_head {k:K}:∀ {l:List X}{x:X}{q:List X},hi c key k l=x::q→¬ c (key x) k<0
 | [],x,q,h=>by cases h
 | y::l,x,q,h=>by
   unfold hi at h
   rw[List.dropWhile_cons] at h
   by_cases hy:c (key y) k<0
   · rw[decide_eq_true hy] at h
     exact hi_head (l:=l) h
   · rw[decide_eq_false hy] at h
     cases h
     exact hy
theorem hi_above (hc:Cmp c) {k:K}{l:List X} (hr:Rises c key l) {x:X}{q:List X} (h:hi c key k l=x::q):0≤c (key x) k∧∀ y∈q,0<c (key y) k:=by
 have h1:=hi_head h
 have e:lo c key k l++x::q=l:=by rw[← h]; exact lohi
 rw[← e] at hr
 have h2:=(List.pairwise_append.1 hr).2.1
 have h3:=(List.pairwise_cons.1 h2).1
 refine ⟨by omega,fun y hy => ?_⟩
 have h4:=h3 y hy
 have n1:=hc.neg (key y) k
 by_cases h5:c (key x) k=0
 · rw[← (hc.zero _ _).1 h5] at n1 ⊢
   have:=hc.neg (key x) (key y)
   omega
 · have n2:=hc.neg (key x) k
   have:=hc.trans k (key x) (key y) (by omega) h4
   omega
theorem at_lo {k:K}{l:List X}{h:Nat} (hh:h<l.length) (h2:h<(lo c key k l).length):c (key l[h]) k<0:=by
 have e:l[h]=(lo c key k l++hi c key k l)[h]'(by rw[lohi]; exact hh):=by simp only[lohi]
 rw[e,List.getElem_append_left h2]
 exact lo_below _ (List.getElem_mem _)
theorem at_hi (hc:Cmp c) {k:K}{l:List X} (hr:Rises c key l) {h:Nat} (hh:h<l.length) (h2:(lo c key k l).length≤h):0≤c (key l[h]) k:=by
 have e:l[h]=(lo c key k l++hi c key k l)[h]'(by rw[lohi]; exact hh):=by simp only[lohi]
 rw[e,List.getElem_append_right h2]
 have hm:∀ y∈hi c key k l,0≤c (key y) k:=by
   intro y hy
   cases hq:hi c key k l with
   | nil=>rw[hq] at hy; cases hy
   | cons x q =>
     rw[hq] at hy
     obtain ⟨a1,a2⟩:=hi_above hc hr hq
     rcases List.mem_cons.1 hy with rfl | hy
     · exact a1
     · have:=a2 y hy; omega
 exact hm _ (List.getElem_mem _)
variable [DecidableEq X] (c key)
variable {c key}
end
end Go.TY
namespace Go.TY
open Go.EM Go.Proofs Go.Sort
def cmpIx {A:Type} (c:A→A→Option Int) (xs:List A) (i j:Nat):Int :=
 match xs[clIx xs.length i]?,xs[clIx xs.length j]? with
 | some x,some y=>(c x y).getD 0
 | _,_=>0
def sortIxT {A:Type} (c:A→A→Option Int) (xs:List A):List Nat:=(pdq (ltOf (cmpIx c xs)) (Array.range xs.length) 0 xs.length (Lib.bitLen xs.length) true true).toList
open Classical in
noncomputable def sortT {A:Type} (c:A→A→Option Int) (xs:List A):Option (List A) :=
 if xs=[] then some [] else if (∀ x∈xs,∀ y∈xs,∃ n,c x y=some n)∧SWO (ltOf (cmpIx c xs))∧xs.length<4611686018427387904 then some ((sortIxT c xs).filterMap fun i=>xs[i]?) else none
noncomputable def sortR (z:Bool) (g e:Nat) (t:Ty) (c:t.V→t.V→Option Int):TRaw:={ ps:=.cons (.own 0) (.cons (.fn g) .unit),ins:=[.row z e t],res:=.tup .unit,outs:=[.row z e t],fn:=(fun _ w=>(sortT c w.1).map fun l=>((),(l,()))),stay:=true }
theorem getL_at:∀ {bs:List AVal}{i:Nat}{a:AVal},bs[i]? = some a→getL bs i=a
 | x::bs,0,a,h=>by simpa [getL] using h
 | x::bs,i+1,a,h=>getL_at (bs:=bs) (by simpa using h)
theorem sorted_mem {c:Nat→Nat→Int} (hO:SWO (ltOf c)) {n:Nat}:∀ i∈(pdq (ltOf c) (Array.range n) 0 n (Lib.bitLen n) true true).toList,i<n:=by
 intro i hi
 have perm:=(pdq_sorts (ltOf c) hO (Array.range n) 0 (Array.range n).size (Lib.bitLen (Array.range n).size) true true (Nat.zero_le _) (Nat.le_refl _) (Or.inl rfl)).1
 rw[Array.size_range] at perm
 generalize pdq (ltOf c) (Array.range n) 0 n (Lib.bitLen n) true true=d' at *
 obtain ⟨p1,_,p3⟩:=perm
 rw[Array.size_range] at p1
 have e1:(d'.extract 0 n).toList=d'.toList:=by rw[← p1]; simp
 have e2:((Array.range n).extract 0 n).toList=(Array.range n).toList:=by
   have:(Array.range n).extract 0 n=Array.range n:=by
     conv=>lhs; arg 3; rw[← Array.size_range (n:=n)]
     simp
   rw[this]
 rw[e1,e2] at p3
 simpa using p3.mem_iff.1 hi
theorem sort_cmp {Γ:Ctx}{t:Ty}{F:PFn}{c:t.V→t.V→Option Int} (hF:TOk F { ps:=.cons t (.cons t .unit),res:=.int .i64,fn:=fun v=>c v.1 v.2.1 }) {xs:List t.V}{bs:List AVal} (ha:All2 (fun x a=>R Γ t x false [a]) xs bs)
   (hc:t.closed=true) (hall:∀ x∈xs,∀ y∈xs,∃ n,c x y=some n):(∀ i j,i<bs.length→j<bs.length→∃ n,F [getL bs i,getL bs j]=some (.int .i64 n))∧(xs≠[]→cmpAt F bs=cmpIx c xs):=by
 have hlen:=All2_len ha
 have at_:∀ i j,i<xs.length→j<xs.length→∃ x y n,xs[i]? = some x∧xs[j]? = some y∧c x y=some n∧F [getL bs i,getL bs j]=some (.int .i64 n):=by
   intro i j hi hj
   obtain ⟨a,a1,a2⟩:=All2_get ha (List.getElem?_eq_getElem hi)
   obtain ⟨b,b1,b2⟩:=All2_get ha (List.getElem?_eq_getElem hj)
   obtain ⟨n,hn⟩:=hall _ (List.getElem_mem hi) _ (List.getElem_mem hj)
   obtain ⟨r,r1,r2⟩:=hF.run (xs[i],xs[j],()) n [a,b] hn ⟨[a],[b],rfl,R_move hc a2,[b],[],rfl,R_move hc b2,rfl⟩
   simp only[R] at r2
   cases r2
   exact ⟨_,_,n,List.getElem?_eq_getElem hi,List.getElem?_eq_getElem hj,hn,by rw[getL_at a1,getL_at b1]; exact r1⟩
 refine ⟨fun i j hi hj => ?_,fun hne => ?_⟩
 · obtain ⟨x,y,n,_,_,_,h⟩:=at_ i j (by omega) (by omega)
   exact ⟨n,h⟩
 · have h0:0<xs.length:=List.length_pos_iff.2 hne
   funext i j
   obtain ⟨x,y,n,h1,h2,h3,h4⟩:=at_ _ _ (clIx_lt (i:=i) h0) (clIx_lt (i:=j) h0)
   unfold cmpAt cmpIx
   rw[hlen,h1,h2,h4]
   simp only[h3,Option.getD_some]
theorem pick_all2 {A:Type}{p:A→AVal→Prop}{xs:List A}{bs:List AVal} (ha:All2 p xs bs):∀ {l:List Nat},(∀ i∈l,i<xs.length)→All2 p (l.filterMap fun i=>xs[i]?) (l.map (getL bs))
 | [],_=>trivial
 | i::l,h=>by
   have hi:=h i (List.mem_cons_self ..)
   obtain ⟨a,a1,a2⟩:=All2_get ha (List.getElem?_eq_getElem hi)
   rw[List.filterMap_cons,List.getElem?_eq_getElem hi,List.map_cons,getL_at a1]
   exact ⟨a2,pick_all2 ha (fun j hj=>h j (List.mem_cons_of_mem _ hj))⟩
theorem sortR_ok {M e g:Nat}{z:Bool}{u:Ty}{F:PFn}{c:u.V→u.V→Option Int} (hu:u.size=M) (hv:u.isV=true) (hc:u.closed=true) (hk:u.okRow=true) (hF:TOk F { ps:=.cons u (.cons u .unit),res:=.int .i64,fn:=fun v=>c v.1 v.2.1 }):TRawOk (sortS F g M e) (sortR z g e u c):=by
 refine ⟨fun Φ Γ st pv v zs r w hm hps hr => ?_⟩
 obtain ⟨⟨⟩,⟨⟩,⟨⟩⟩:=pv
 obtain ⟨xs,⟨⟩⟩:=v
 simp only[sortR,R] at hps
 obtain ⟨l1,l2,rfl,hown,l3,l4,rfl,rfl,rfl⟩:=hps
 simp only[sortR] at hr hm ⊢
 rw[Option.map_eq_some_iff] at hr
 obtain ⟨out,hr,hr2⟩:=hr
 cases hr2
 obtain ⟨k1,k2,k3,k4,k5⟩:=row_one hm
 simp only[leaveM] at hm ⊢
 dsimp only at k5
 have hR:R Γ (.tup .unit) () false [.tup []]:=⟨[],rfl,rfl⟩
 rcases k5 with ⟨rfl,bz,k5,kz⟩ | ⟨r,zs,k5,k6,k7,k8⟩
 · rw[k5] at hown
   have:out=[]:=by
     unfold sortT at hr
     rw[if_pos rfl] at hr
     cases hr; rfl
   subst this
   rcases hown with rfl | ⟨_,k,rfl⟩
   · exact ⟨_,st,Γ,by simp only[List.singleton_append,List.append_nil,sortS],hR,hm,fun _ _ _ h=>h⟩
   · exact ⟨_,st,Γ,by simp only[List.singleton_append,List.append_nil,sortS],hR,hm,fun _ _ _ h=>h⟩
 · rw[k5] at hown
   subst hown
   have hal:=All2_len k7
   have hrlt:=hm.lt 0 _ _ _ k5
   have hrow:EM.rowAt st r u.size xs.length=some zs:=by simp only[EM.rowAt,k6,hal,and_self,if_true]
   by_cases hx:xs=[]
   · subst hx
     have:out=[]:=by
       unfold sortT at hr
       rw[if_pos rfl] at hr
       cases hr; rfl
     subst this
     refine ⟨_,st,Γ,?_,hR,hm,fun _ _ _ h=>h⟩
     simp only[List.singleton_append,List.append_nil,sortS]
     rw[if_pos ⟨hu,trivial,trivial,by simp only[EM.rowTy,k6],trivial⟩,hrow]
     simp
   · have h0:0<xs.length:=List.length_pos_iff.2 hx
     unfold sortT at hr
     rw[if_neg hx] at hr
     split at hr
     · rename_i hs
       obtain ⟨hall,hO,hbig⟩:=hs
       cases hr
       obtain ⟨htab,hcmp⟩:=sort_cmp hF k7 hc hall
       have hcmp:=hcmp hx
       have hcl:closedL zs=true:=closedL_all2 (fun x a hx=>by rw[← closedL_one]; exact R_closed hc hx) k7
       have hix:sortIx F zs=sortIxT c xs:=by unfold sortIx sortIxT; rw[hcmp,hal]
       have hmem:∀ i∈sortIxT c xs,i<xs.length:=sorted_mem hO
       have hp:=pick_all2 k7 hmem
       have hlen:=All2_len hp
       have hll:((sortIxT c xs).map (getL zs)).length=xs.length:=by
         rw[List.length_map]
         have perm:=(pdq_sorts (ltOf (cmpIx c xs)) hO (Array.range xs.length) 0 (Array.range xs.length).size (Lib.bitLen (Array.range xs.length).size) true true (Nat.zero_le _) (Nat.le_refl _) (Or.inl rfl)).1.1
         rw[Array.size_range] at perm
         simpa [sortIxT] using perm
       refine ⟨_,st.set r (.row e u.size ((sortIx F zs).map (getL zs))),Γ,?_,hR,?_,fun _ _ _ h=>h⟩
       · simp only[List.singleton_append,List.append_nil,sortS]
         rw[if_pos ⟨hu,trivial,trivial,by simp only[EM.rowTy,k6],trivial⟩,hrow]
         simp only[Option.bind_some]
         rw[if_neg (by omega),if_pos ⟨⟨hcl,htab,by rw[hcmp]; exact hO⟩,hbig⟩]
       · rw[hix]
         have:=hm.set (id:=0) (g:=.row z e u ((sortIxT c xs).filterMap fun i=>xs[i]?)) (ag:=.row e u.size ((sortIxT c xs).map (getL zs))) (by simp) k5 ⟨hv,hc,hk,k4,.inr ⟨r,_,by rw[k5,← hlen,hll],List.getElem?_set_self hrlt,hp,fun hz e'=>hx (by
           rw[e'] at hlen
           rw[hlen] at hll
           exact List.length_eq_zero_iff.1 hll.symm)⟩⟩
         exact this
     · cases hr
end Go.TY
namespace Go.TY
open Go.EM Go.Proofs Go.Sort
section
variable {A K:Type}{c:K→K→Int}{key:A→K}
theorem rises_unique (hc:Cmp c):∀ {l m:List A},Rises c key l→Rises c key m→(∀ x,x∈l↔x∈m)→l=m
 | [],[],_,_,_=>rfl
 | [],y::m,_,_,h=>by have:=(h y).2 (List.mem_cons_self ..); cases this
 | x::l,[],_,_,h=>by have:=(h x).1 (List.mem_cons_self ..); cases this
 | x::l,y::m,hl,hm,h=>by
   have hl':=List.pairwise_cons.1 hl
   have hm':=List.pairwise_cons.1 hm
   have e:x=y:=by
     rcases List.mem_cons.1 ((h x).1 (List.mem_cons_self ..)) with e | h1
     · exact e
     · rcases List.mem_cons.1 ((h y).2 (List.mem_cons_self ..)) with e | h2
       · exact e.symm
       · have a:=hm'.1 x h1
         have b:=hl'.1 y h2
         have:=hc.neg (key x) (key y)
         omega
   subst e
   congr 1
   refine rises_unique hc hl'.2 hm'.2 fun z => ?_
   have hz:=h z
   constructor
   · intro hzl
     rcases List.mem_cons.1 (hz.1 (List.mem_cons_of_mem _ hzl)) with e | h1
     · subst e; exact absurd (hl'.1 z hzl) (hc.irr _)
     · exact h1
   · intro hzm
     rcases List.mem_cons.1 (hz.2 (List.mem_cons_of_mem _ hzm)) with e | h1
     · subst e; exact absurd (hm'.1 z hzm) (hc.irr _)
     · exact h1
theorem swo_of (hc:Cmp c) {cf:Nat→Nat→Int}{k:Nat→K} (h:∀ i j,cf i j=c (k i) (k j)):SWO (ltOf cf) where
 irrefl x:=by
   unfold ltOf
   rw[h]
   exact decide_eq_false (hc.irr _)
 trans x y z h1 h2:=by
   unfold ltOf at *
   simp only[h,decide_eq_true_eq] at *
   exact hc.trans _ _ _ h1 h2
 ntrans x y z h1 h2:=by
   unfold ltOf at *
   simp only[h,decide_eq_false_iff_not] at *
   intro h3
   have n1:=hc.neg (k x) (k y)
   by_cases h0:c (k y) (k x)=0
   · have e:=(hc.zero _ _).1 h0
     rw[e] at h2
     exact h2 h3
   · have:=hc.trans (k y) (k x) (k z) (by omega) h3
     exact h2 this
theorem range_pick (xs:List A):(List.range xs.length).filterMap (fun i=>xs[i]?)=xs:=by
 have key:∀ (l pre:List A),(List.range' pre.length l.length).filterMap (fun i=>(pre++l)[i]?)=l:=by
   intro l
   induction l with
   | nil=>intro pre; rfl
   | cons x l ih =>
     intro pre
     rw[List.length_cons,List.range'_succ,List.filterMap_cons]
     have e:(pre++x::l)[pre.length]? = some x:=by simp
     rw[e]
     have:=ih (pre++[x])
     simp only[List.length_append,List.length_cons,List.length_nil,Nat.zero_add,List.append_assoc,List.singleton_append] at this
     rw[this]
 have:=key xs []
 rw[List.range_eq_range']
 simpa using this
theorem sortT_law (hc:Cmp c) {cmp:A→A→Option Int}{xs:List A} (hcmp:∀ x∈xs,∀ y∈xs,cmp x y=some (c (key x) (key y))) (hb:xs.length<4611686018427387904):∃ l,sortT cmp xs=some l∧l.Perm xs∧l.Pairwise fun x y=>c (key x) (key y)≤0:=by
 by_cases h0:xs=[]
 · subst h0
   exact ⟨[],by unfold sortT; rw[if_pos rfl],List.Perm.refl _,List.Pairwise.nil⟩
 · have hn:0<xs.length:=List.length_pos_iff.2 h0
   have hix:∀ i j,cmpIx cmp xs i j=c (key (xs[clIx xs.length i]'(clIx_lt hn))) (key (xs[clIx xs.length j]'(clIx_lt hn))):=by
     intro i j
     unfold cmpIx
     rw[List.getElem?_eq_getElem (clIx_lt hn),List.getElem?_eq_getElem (clIx_lt hn)]
     simp only[hcmp _ (List.getElem_mem _) _ (List.getElem_mem _),Option.getD_some]
   have hO:SWO (ltOf (cmpIx cmp xs)):=swo_of hc (k:=fun i=>key (xs[clIx xs.length i]'(clIx_lt hn))) hix
   have hs:sortT cmp xs=some ((sortIxT cmp xs).filterMap fun i=>xs[i]?):=by
     unfold sortT
     rw[if_neg h0,if_pos ⟨fun x hx y hy=>⟨_,hcmp x hx y hy⟩,hO,hb⟩]
   refine ⟨_,hs,?_,?_⟩
   · have perm:=(pdq_sorts (ltOf (cmpIx cmp xs)) hO (Array.range xs.length) 0 (Array.range xs.length).size (Lib.bitLen (Array.range xs.length).size) true true (Nat.zero_le _) (Nat.le_refl _) (Or.inl rfl)).1
     rw[Array.size_range] at perm
     unfold sortIxT
     generalize pdq (ltOf (cmpIx cmp xs)) (Array.range xs.length) 0 xs.length (Lib.bitLen xs.length) true true=d' at *
     obtain ⟨p1,_,p3⟩:=perm
     rw[Array.size_range] at p1
     have e1:(d'.extract 0 xs.length).toList=d'.toList:=by rw[← p1]; simp
     have e2:((Array.range xs.length).extract 0 xs.length).toList=List.range xs.length:=by
       have:(Array.range xs.length).extract 0 xs.length=Array.range xs.length:=by
         conv=>lhs; arg 3; rw[← Array.size_range (n:=xs.length)]
         simp
       rw[this]
       simp
     rw[e1,e2] at p3
     refine (p3.filterMap _).trans ?_
     have:(List.range xs.length).filterMap (fun i=>xs[i]?)=xs:=range_pick xs
     rw[this]
   · rw[List.pairwise_filterMap]
     have sorted:=(pdq_sorts (ltOf (cmpIx cmp xs)) hO (Array.range xs.length) 0 (Array.range xs.length).size (Lib.bitLen (Array.range xs.length).size) true true (Nat.zero_le _) (Nat.le_refl _) (Or.inl rfl)).2
     have hmem:=sorted_mem hO (n:=xs.length)
     have hsz:=(pdq_sorts (ltOf (cmpIx cmp xs)) hO (Array.range xs.length) 0 (Array.range xs.length).size (Lib.bitLen (Array.range xs.length).size) true true (Nat.zero_le _) (Nat.le_refl _) (Or.inl rfl)).1.1
     rw[Array.size_range] at sorted hsz
     unfold sortIxT
     generalize pdq (ltOf (cmpIx cmp xs)) (Array.range xs.length) 0 xs.length (Lib.bitLen xs.length) true true=d' at *
     rw[List.pairwise_iff_getElem]
     intro i j hi hj hij a ha b hb'
     have hi':i<d'.size:=by simpa using hi
     have hj':j<d'.size:=by simpa using hj
     have hsn:=sorted i j (Nat.zero_le _) hij (by omega)
     rw[getElem!_pos d' j hj',getElem!_pos d' i hi'] at hsn
     unfold ltOf at hsn
     rw[hix] at hsn
     have q1:=hmem _ (List.getElem_mem hi)
     have q2:=hmem _ (List.getElem_mem hj)
     simp only[Array.getElem_toList] at ha hb' q1 q2
     rw[List.getElem?_eq_getElem q1] at ha
     rw[List.getElem?_eq_getElem q2] at hb'
     cases ha; cases hb'
     have c1:clIx xs.length d'[i]=d'[i]:=if_pos q1
     have c2:clIx xs.length d'[j]=d'[j]:=if_pos q2
     simp only[c1,c2,decide_eq_false_iff_not] at hsn
     have:=hc.neg (key xs[d'[j]]) (key xs[d'[i]])
     omega
end
end Go.TY
namespace Go.TY
open Go.EM
section
variable (P:Program) (E:Env) (h:Hints) (ET:TEnv) (H:TH)
end
section
variable {P:Program}{E:Env}{ET:TEnv}{h:Hints}{H:TH}
end
end Go.TY
namespace Go.TY
open Go.EM Go.Proofs Go.Sort
end Go.TY
namespace Go.TY
open Go.EM
section
variable {A:Type} [DecidableEq A]
def sqzS (o:List A) (x:A):List A:=if o.getLast? = some x then o else o++[x]
def sqz (l:List A):List A:=l.foldl sqzS []
variable {K:Type}{c:K→K→Int}{key:A→K}
end
section
variable {A:Type}{c:A→A→Int}
abbrev riseA (c:A→A→Int) (o:List A):Prop:=Rises c (fun v=>v) o
def insU (c:A→A→Int) (o:List A) (v:A):List A:=match o with
 | []=>[v]
 | x::l=>if c v x=0 then x::l else if c v x<0 then v::x::l else x::insU c l v
theorem insU_mem (hc:Cmp c) {v x:A}:∀ {o:List A},x∈insU c o v↔x=v∨x∈o
 | []=>by simp[insU]
 | y::l=>by
   unfold insU
   split
   · rename_i h
     have e:=(hc.zero _ _).1 h
     subst e
     simp
   · split
     · simp
     · rw[List.mem_cons,insU_mem hc,List.mem_cons]
       constructor
       · rintro (h | h | h)
         · exact .inr (.inl h)
         · exact .inl h
         · exact .inr (.inr h)
       · rintro (h | h | h)
         · exact .inr (.inl h)
         · exact .inl h
         · exact .inr (.inr h)
theorem insU_rises (hc:Cmp c) {v:A}:∀ {o:List A},riseA c o→riseA c (insU c o v)
 | [],_=>List.pairwise_singleton ..
 | y::l,h=>by
   have h':=List.pairwise_cons.1 h
   unfold insU
   split
   · exact h
   · rename_i h0
     split
     · rename_i h1
       refine List.pairwise_cons.2 ⟨fun z hz => ?_,h⟩
       rcases List.mem_cons.1 hz with e | hz
       · subst e; exact h1
       · exact hc.trans _ _ _ h1 (h'.1 z hz)
     · rename_i h1
       refine List.pairwise_cons.2 ⟨fun z hz => ?_,insU_rises hc h'.2⟩
       rcases (insU_mem hc).1 hz with e | hz
       · subst e
         have h2:=hc.neg z y
         show c y z<0
         omega
       · exact h'.1 z hz
def uniq (c:A→A→Int) (l:List A):List A:=l.foldl (insU c) []
theorem fold_law {f:List A→A→List A} (hm:∀ o v x,riseA c o→(x∈f o v↔x=v∨x∈o)) (hr:∀ o v,riseA c o→riseA c (f o v)):∀ (l o:List A),riseA c o→riseA c (l.foldl f o)∧∀ x,x∈l.foldl f o↔x∈o∨x∈l
 | [],o,h=>⟨h,fun x=>by simp⟩
 | v::l,o,h=>by
   obtain ⟨h1,h2⟩:=fold_law hm hr l (f o v) (hr o v h)
   refine ⟨h1,fun x => ?_⟩
   rw[List.foldl_cons,h2,hm o v x h,List.mem_cons]
   constructor
   · rintro ((h | h) | h)
     · exact .inr (.inl h)
     · exact .inl h
     · exact .inr (.inr h)
   · rintro (h | h | h)
     · exact .inl (.inr h)
     · exact .inl (.inl h)
     · exact .inr h
theorem uniq_law (hc:Cmp c) (l:List A):riseA c (uniq c l)∧∀ x,x∈uniq c l↔x∈l:=by
 obtain ⟨h1,h2⟩:=fold_law (f:=insU c) (fun o v x (_:riseA c o)=>insU_mem hc) (fun o v h=>insU_rises hc h) l [] List.Pairwise.nil
 exact ⟨h1,fun x=>by have:=h2 x; simpa [uniq] using this⟩
theorem uniq_rises (hc:Cmp c) (l:List A):riseA c (uniq c l):=(uniq_law hc l).1
theorem uniq_mem (hc:Cmp c) (l:List A) (x:A):x∈uniq c l↔x∈l:=(uniq_law hc l).2 x
theorem fold_uniq (hc:Cmp c) {f:List A→A→List A} (hm:∀ o v x,riseA c o→(x∈f o v↔x=v∨x∈o)) (hr:∀ o v,riseA c o→riseA c (f o v)) (l:List A):l.foldl f []=uniq c l:=by
 obtain ⟨h1,h2⟩:=fold_law hm hr l [] List.Pairwise.nil
 refine rises_unique hc (key:=fun v=>v) h1 (uniq_rises hc l) fun x => ?_
 rw[h2,uniq_mem hc]; simp
abbrev loA (c:A→A→Int) (v:A) (o:List A):List A:=lo c (fun x=>x) v o
abbrev hiA (c:A→A→Int) (v:A) (o:List A):List A:=hi c (fun x=>x) v o
theorem lohiA {v:A}{o:List A}:loA c v o++hiA c v o=o:=lohi
theorem rises_midA {p q:List A}{y:A}:riseA c (p++y::q)↔riseA c (p++q)∧(∀ x∈p,c x y<0)∧∀ x∈q,c y x<0:=by
 unfold riseA Rises
 rw[List.pairwise_append,List.pairwise_append,List.pairwise_cons]
 constructor
 · rintro ⟨h1,⟨h2,h3⟩,h4⟩
   exact ⟨⟨h1,h3,fun a ha b hb=>h4 a ha b (List.mem_cons_of_mem _ hb)⟩,fun x hx=>h4 x hx y (List.mem_cons_self ..),h2⟩
 · rintro ⟨⟨h1,h3,h4⟩,h5,h2⟩
   refine ⟨h1,⟨h2,h3⟩,fun a ha b hb => ?_⟩
   rcases List.mem_cons.1 hb with rfl | hb
   · exact h5 a ha
   · exact h4 a ha b hb
def putU (c:A→A→Int) (o:List A) (v:A):List A:=match hiA c v o with
 | []=>loA c v o++[v]
 | y::q=>if c y v=0 then o else loA c v o++v::y::q
theorem putU_mem (hc:Cmp c) {o:List A}{v x:A}:x∈putU c o v↔x=v∨x∈o:=by
 have e:loA c v o++hiA c v o=o:=lohiA
 unfold putU
 split
 · rename_i h
   rw[h,List.append_nil] at e
   rw[e,List.mem_append,List.mem_singleton,or_comm]
 · rename_i y q h
   rw[h] at e
   split
   · rename_i h0
     have e2:=(hc.zero _ _).1 h0
     subst e2
     constructor
     · exact .inr
     · rintro (h1 | h1)
       · rw[h1,← e]; simp
       · exact h1
   · conv=>rhs; rw[← e]
     simp only[List.mem_append,List.mem_cons]
     constructor
     · rintro (h | h | h | h)
       · exact .inr (.inl h)
       · exact .inl h
       · exact .inr (.inr (.inl h))
       · exact .inr (.inr (.inr h))
     · rintro (h | h | h | h)
       · exact .inr (.inl h)
       · exact .inl h
       · exact .inr (.inr (.inl h))
       · exact .inr (.inr (.inr h))
theorem loA_below {v:A}{o:List A}:∀ x∈loA c v o,c x v<0:=lo_below (c:=c) (key:=fun x=>x)
theorem putU_rises (hc:Cmp c) {o:List A}{v:A} (hr:riseA c o):riseA c (putU c o v):=by
 have e:loA c v o++hiA c v o=o:=lohiA
 unfold putU
 split
 · rename_i h
   rw[h,List.append_nil] at e
   refine List.pairwise_append.2 ⟨by rw[e]; exact hr,List.pairwise_singleton ..,fun a ha b hb => ?_⟩
   rw[List.mem_singleton] at hb
   subst hb
   exact loA_below a ha
 · rename_i y q h
   split
   · exact hr
   · rename_i h0
     have ha:=hi_above hc (key:=fun x=>x) hr h
     rw[h] at e
     refine rises_midA.2 ⟨by rw[e]; exact hr,fun x hx=>loA_below x hx,fun x hx => ?_⟩
     have hn:=hc.neg x v
     show c v x<0
     rcases List.mem_cons.1 hx with e' | hx
     · subst e'; have:=ha.1; omega
     · have:=ha.2 x hx; omega
theorem put_uniq (hc:Cmp c) (l:List A):l.foldl (putU c) []=uniq c l:=fold_uniq hc (fun o v x _=>putU_mem hc) (fun o v h=>putU_rises hc h) l
end
section
variable {A B:Type}
end
end Go.TY
