import Derived.Test.YtnbgkhdcidbkaaaGreatDoorT14
import Derived.Test.YtnbgkhdcidbkaaaGreatDoorE32
set_option linter.unusedVariables false
namespace Go.TY
open Go.EM
end Go.TY
namespace Go.TY
open Go.EM
end Go.TY
namespace Go.TY
open Go.EM
def cmpT (a b:List UInt8):Option Int:=some (Lib.compareBytes a b)
def acj:TFn:={ ps:=.cons .str (.cons .str .unit),res:=.int .i64,fn:=fun v=>cmpT v.1 v.2.1 }
theorem aj8:TOk cmpF acj:=⟨rfl,rfl,rfl,fun v r xs hr hps=>by
 simp only[R,acj] at hps
 obtain ⟨l1,l2,rfl,rfl,l3,l4,rfl,rfl,rfl⟩:=hps
 cases hr
 exact ⟨_,rfl,rfl⟩⟩
end Go.TY
namespace Go.TY
open Go.EM
def eR {A:Type} (l:List A):Option (List A):=if l.length<most then some l else none
def fM (u:Ty):TFn:={ ps:=.cons (.sl u) .unit,res:=.sl u,fn:=fun v=>eR v.1 }
theorem mm {M:Nat}{u:Ty} (hu:u.size=M) (hv:u.isV=true) (hc:u.closed=true):TOk (j9 M) (fM u):=by
 have hk:(Ty.sl u).closed=true:=by simp only[Ty.closed,hv,hc,Bool.and_self]
 refine ⟨by simp only[fM,Ty.closed,hv,hc,Bool.and_self],hk,rfl,fun v r xs hr hps => ?_⟩
 obtain ⟨v,⟨⟩⟩:=v
 simp only[R,fM] at hps
 obtain ⟨l1,l2,rfl,hx,rfl⟩:=hps
 simp only[fM,eR] at hr
 split at hr
 · rename_i hlt
   cases hr
   rcases hx with ⟨rfl,rfl⟩ | ⟨f,n,bs,rfl,hn,ha⟩
   · exact ⟨_,rfl,.inr ⟨false,0,[],rfl,.inl rfl,trivial⟩⟩
   · cases r with
     | nil =>
       match bs,ha with
       | [],_=>exact ⟨.tree false 0 [],rfl,.inr ⟨false,0,[],rfl,.inl rfl,trivial⟩⟩
     | cons x r =>
       match bs,ha with
       | a::bs,ha =>
         have hn:n=M:=by
           rcases hn with h | h
           · cases h
           · rw[h,hu]
         subst hn
         have hlen:=aU ha
         have hl2:bs.length+1<most:=by simp only[List.length_cons] at hlen hlt; omega
         exact ⟨.tree false n (a::bs),by simp only[j9,List.singleton_append]; rw[if_pos ⟨trivial,hl2⟩],.inr ⟨false,n,a::bs,rfl,.inr hu.symm,ha⟩⟩
 · cases hr
end Go.TY
namespace Go.TY
open Go.EM
section
variable {A R X S:Type}
def dp (step:Nat→X→S→S⊕R) (fin:S→R):Nat→List X→S→R
 | _,[],s=>fin s
 | i,x::l,s=>match step i x s with
   | .inl s'=>dp step fin (i+1) l s'
   | .inr r=>r
theorem bS {f:A→Option (A⊕R)}{l:List X} (enc:Nat→S→A) (step:Nat→X→S→S⊕R) (fin:S→R) (inv:Nat→S→Prop)
   (hturn:∀ (i:Nat) (h:i<l.length) (s:S),inv i s→(∃ s',step i l[i] s = .inl s'∧f (enc i s)=some (.inl (enc (i+1) s'))∧inv (i+1) s')∨(∃ r,step i l[i] s = .inr r∧f (enc i s)=some (.inr r)))
   (hend:∀ s,inv l.length s→f (enc l.length s)=some (.inr (fin s))):∀ s,inv 0 s→aJ f (enc 0 s)=some (dp step fin 0 l s):=by
 have key:∀ (k i:Nat) (s:S),l.length-i≤k→i≤l.length→inv i s→aJ f (enc i s)=some (dp step fin i (l.drop i) s):=by
   intro k
   induction k with
   | zero =>
     intro i s hk hi hv
     have:i=l.length:=by omega
     subst this
     rw[List.drop_eq_nil_of_le (Nat.le_refl _),aw (hend s hv)]
     rfl
   | succ k ih =>
     intro i s hk hi hv
     by_cases hlt:i<l.length
     · rw[List.drop_eq_getElem_cons hlt]
       simp only[dp]
       rcases hturn i hlt s hv with ⟨s',h1,h2,h3⟩ | ⟨r,h1,h2⟩
       · rw[aD h2,ih (i+1) s' (by omega) (by omega) h3,h1]
       · rw[aw h2,h1]
     · have:i=l.length:=by omega
       subst this
       rw[List.drop_eq_nil_of_le (Nat.le_refl _),aw (hend s hv)]
       rfl
 intro s hv
 have:=key l.length 0 s (by omega) (by omega) hv
 simpa using this
theorem gK {f:A→Option (A⊕R)}{l:List X} (enc:Nat→A) (p:X→Bool) (yes no:R)
   (hturn:∀ (i:Nat) (h:i<l.length),f (enc i)=some (if p l[i] then .inl (enc (i+1)) else .inr no)) (hend:f (enc l.length)=some (.inr yes)):aJ f (enc 0)=some (if l.all p then yes else no):=by
 have:=bS (S:=Unit) (fun i _=>enc i) (fun _ x _=>if p x then .inl () else .inr no) (fun _=>yes) (fun _ _=>True) (l:=l) (f:=f) (fun i h s _=>by
   by_cases hp:p l[i]=true
   · exact .inl ⟨(),by rw[if_pos hp],by rw[hturn i h,if_pos hp],trivial⟩
   · exact .inr ⟨no,by rw[if_neg hp],by rw[hturn i h,if_neg hp]⟩) (fun s _=>hend) () trivial
 rw[this]
 congr 1
 have gen:∀ (l:List X) (i:Nat),dp (S:=Unit) (fun _ x _=>if p x then .inl () else .inr no) (fun _=>yes) i l ()=if l.all p then yes else no:=by
   intro l
   induction l with
   | nil=>intro i; rfl
   | cons x l ih =>
     intro i
     have h:=ih (i+1)
     by_cases hp:p x=true
     · simp only[dp,hp,if_true]
       rw[h]
       simp[hp]
     · simp[dp,hp]
 exact gen l 0
theorem iO {Y:Type}{f:A→Option (A⊕R)}{l:List X} (enc:Nat→List Y→A) (g:X→List Y) (fin:List Y→R) (m:Nat) (hg:∀ x∈l,(g x).length≤m)
   (hturn:∀ (i:Nat) (h:i<l.length) (o:List Y),o.length≤i*m→f (enc i o)=some (.inl (enc (i+1) (o++g l[i])))) (hend:∀ o,o.length≤l.length*m→f (enc l.length o)=some (.inr (fin o))) :
   aJ f (enc 0 [])=some (fin (l.flatMap g)):=by
 have:=bS (S:=List Y) enc (fun _ x o=>.inl (o++g x)) fin (fun i o=>o.length≤i*m) (l:=l) (f:=f) (fun i h o ho=>.inl ⟨_,rfl,hturn i h o ho,by
   have:=hg l[i] (List.getElem_mem h)
   rw[List.length_append,Nat.succ_mul]; omega⟩) hend [] (by simp)
 rw[this]
 congr 1
 have gen:∀ (l:List X) (i:Nat) (o:List Y),dp (S:=List Y) (R:=R) (fun _ x o=>.inl (o++g x)) fin i l o=fin (o++l.flatMap g):=by
   intro l
   induction l with
   | nil=>intro i o; simp[dp]
   | cons x l ih=>intro i o; simp only[dp]; rw[ih]; simp[List.flatMap_cons]
 rw[gen]; rfl
def all2 {Y:Type} (q:X→Y→Bool):List X→List Y→Bool
 | [],[]=>true
 | x::l,y::m=>q x y&&all2 q l m
 | _,_=>false
theorem iP {Y:Type}{f:A→Option (A⊕R)}{l:List X}{m:List Y} (enc:Nat→A) (q:X→Y→Bool) (yes no:R) (hl:l.length=m.length)
   (hturn:∀ (i:Nat) (h:i<l.length) (h':i<m.length),f (enc i)=some (if q l[i] m[i]=true then .inl (enc (i+1)) else .inr no)) (hend:f (enc l.length)=some (.inr yes)):aJ f (enc 0)=some (if all2 q l m=true then yes else no):=by
 have key:∀ (k i:Nat),l.length-i≤k→i≤l.length→aJ f (enc i)=some (if all2 q (l.drop i) (m.drop i)=true then yes else no):=by
   intro k
   induction k with
   | zero =>
     intro i hk hi
     have e:i=l.length:=by omega
     subst e
     rw[aw hend,List.drop_eq_nil_of_le (Nat.le_refl _),List.drop_eq_nil_of_le (by omega)]
     rfl
   | succ k ih =>
     intro i hk hi
     by_cases hlt:i<l.length
     · have h2:i<m.length:=by omega
       rw[List.drop_eq_getElem_cons hlt,List.drop_eq_getElem_cons h2]
       have ht:=hturn i hlt h2
       by_cases hq:q l[i] m[i]=true
       · rw[if_pos hq] at ht
         rw[aD ht,ih (i+1) (by omega) (by omega)]
         simp only[all2,hq,Bool.true_and]
       · rw[if_neg hq] at ht
         rw[aw ht]
         simp[all2,hq]
     · have e:i=l.length:=by omega
       subst e
       rw[aw hend,List.drop_eq_nil_of_le (Nat.le_refl _),List.drop_eq_nil_of_le (by omega)]
       rfl
 have:=key l.length 0 (by omega) (by omega)
 simpa using this
theorem jh [DecidableEq X]:∀ {l m:List X},all2 (fun x y=>decide (x=y)) l m=decide (l=m)
 | [],[]=>rfl
 | [],_::_=>by simp[all2]
 | _::_,[]=>by simp[all2]
 | x::l,y::m=>by
   simp only[all2,jh (l:=l) (m:=m),List.cons.injEq,Bool.decide_and]
open Classical in
theorem lM {f:A→Option (A⊕R)} (n:Nat) (enc:Nat→A) (p:Nat→Bool) (yes no:R)
   (hturn:∀ (i:Nat) (h:i<n),f (enc i)=some (if p i=true then .inl (enc (i+1)) else .inr no)) (hend:f (enc n)=some (.inr yes)):aJ f (enc 0)=some (if (∀ i,i<n→p i=true) then yes else no):=by
 have key:∀ (k i:Nat),n-i≤k→i≤n→aJ f (enc i)=some (if (∀ j,i≤j→j<n→p j=true) then yes else no):=by
   intro k
   induction k with
   | zero =>
     intro i hk hi
     have e:i=n:=by omega
     subst e
     rw[aw hend,if_pos (fun j h1 h2=>by omega)]
   | succ k ih =>
     intro i hk hi
     by_cases hlt:i<n
     · have ht:=hturn i hlt
       by_cases hq:p i=true
       · rw[if_pos hq] at ht
         rw[aD ht,ih (i+1) (by omega) (by omega)]
         by_cases ha:∀ j,i+1≤j→j<n→p j=true
         · rw [if_pos ha, if_pos (fun j h1 h2 => by
             rcases Nat.lt_or_eq_of_le h1 with h | h
             · exact ha j h h2
             · rw[← h]; exact hq)]
         · rw[if_neg ha,if_neg (fun hb=>ha (fun j h1 h2=>hb j (by omega) h2))]
       · rw[if_neg hq] at ht
         rw[aw ht,if_neg (fun hb=>hq (hb i (Nat.le_refl _) hlt))]
     · have e:i=n:=by omega
       subst e
       rw[aw hend,if_pos (fun j h1 h2=>by omega)]
 have:=key n 0 (by omega) (by omega)
 rw[this]
 congr 1
 by_cases ha:∀ i,i<n→p i=true
 · rw[if_pos ha,if_pos (fun j _ h2=>ha j h2)]
 · rw[if_neg ha,if_neg (fun hb=>ha (fun j h2=>hb j (Nat.zero_le _) h2))]
end
end Go.TY
set_option linter.unusedSectionVars false
namespace Go.TY
structure Cmp {K:Type} (c:K→K→Int):Prop where
 one:∀ a b,-1≤c a b∧c a b≤1
 neg:∀ a b,c b a = - c a b
 zero:∀ a b,c a b=0↔a=b
 trans:∀ a b d,c a b<0→c b d<0→c a d<0
def cmpL {K:Type} (c:K→K→Int):List K→List K→Int
 | [],[]=>0
 | [],_::_ => -1
 | _::_,[]=>1
 | x::a,y::b=>if c x y=0 then cmpL c a b else c x y
section
variable {K:Type}{c:K→K→Int}
theorem Cmp.list (h:Cmp c):Cmp (cmpL c) where
 one:=by
   intro a
   induction a with
   | nil=>intro b; cases b<;>simp[cmpL]
   | cons x a ih =>
     intro b
     cases b with
     | nil=>simp[cmpL]
     | cons y b =>
       simp only[cmpL]
       split
       · exact ih b
       · exact h.one x y
 neg:=by
   intro a
   induction a with
   | nil=>intro b; cases b<;>simp[cmpL]
   | cons x a ih =>
     intro b
     cases b with
     | nil=>simp[cmpL]
     | cons y b =>
       simp only[cmpL]
       have:=h.neg x y
       by_cases h0:c x y=0
       · rw[if_pos h0,if_pos (by omega)]; exact ih b
       · rw[if_neg h0,if_neg (by omega)]; exact this
 zero:=by
   intro a
   induction a with
   | nil=>intro b; cases b<;>simp[cmpL]
   | cons x a ih =>
     intro b
     cases b with
     | nil=>simp[cmpL]
     | cons y b =>
       simp only[cmpL]
       by_cases h0:c x y=0
       · rw[if_pos h0,ih b,(h.zero x y).1 h0]; simp
       · rw[if_neg h0]
         constructor
         · intro k; exact absurd k h0
         · intro k; cases k; exact absurd ((h.zero x x).2 rfl) h0
 trans:=by
   intro a
   induction a with
   | nil =>
     intro b d h1 h2
     cases b with
     | nil=>simp[cmpL] at h1
     | cons y b =>
       cases d with
       | nil=>simp[cmpL] at h2
       | cons z d=>simp[cmpL]
   | cons x a ih =>
     intro b d h1 h2
     cases b with
     | nil=>simp[cmpL] at h1
     | cons y b =>
       cases d with
       | nil=>simp[cmpL] at h2
       | cons z d =>
         simp only[cmpL] at h1 h2 ⊢
         by_cases h0:c x y=0
         · rw[if_pos h0] at h1
           have e:=(h.zero x y).1 h0
           subst e
           by_cases h3:c x z=0
           · rw[if_pos h3] at h2 ⊢; exact ih b d h1 h2
           · rw[if_neg h3] at h2 ⊢; exact h2
         · rw[if_neg h0] at h1
           by_cases h3:c y z=0
           · have e:=(h.zero y z).1 h3
             subst e
             rw[if_neg h0]; exact h1
           · rw[if_neg h3] at h2
             have:=h.trans x y z h1 h2
             rw[if_neg (by omega)]; exact this
def cmpB {L:Type} (c:K→K→Int) (d:L→L→Int) (a b:K×L):Int:=if c a.1 b.1=0 then d a.2 b.2 else c a.1 b.1
theorem Cmp.pair {L:Type}{d:L→L→Int} (h:Cmp c) (k:Cmp d):Cmp (cmpB c d) where
 one a b:=by
   unfold cmpB
   split
   · exact k.one _ _
   · exact h.one _ _
 neg a b:=by
   unfold cmpB
   have:=h.neg a.1 b.1
   by_cases h0:c a.1 b.1=0
   · rw[if_pos h0,if_pos (by omega)]; exact k.neg _ _
   · rw[if_neg h0,if_neg (by omega)]; exact this
 zero a b:=by
   unfold cmpB
   obtain ⟨a1,a2⟩:=a
   obtain ⟨b1,b2⟩:=b
   simp only
   by_cases h0:c a1 b1=0
   · rw[if_pos h0,k.zero,(h.zero _ _).1 h0]; simp
   · rw[if_neg h0]
     constructor
     · intro e; exact absurd e h0
     · intro e; cases e; exact absurd ((h.zero _ _).2 rfl) h0
 trans a b e h1 h2:=by
   unfold cmpB at h1 h2 ⊢
   obtain ⟨a1,a2⟩:=a
   obtain ⟨b1,b2⟩:=b
   obtain ⟨e1,e2⟩:=e
   simp only at h1 h2 ⊢
   by_cases h0:c a1 b1=0
   · rw[if_pos h0] at h1
     have q:=(h.zero _ _).1 h0
     subst q
     by_cases h3:c a1 e1=0
     · rw[if_pos h3] at h2 ⊢; exact k.trans _ _ _ h1 h2
     · rw[if_neg h3] at h2 ⊢; exact h2
   · rw[if_neg h0] at h1
     by_cases h3:c b1 e1=0
     · have q:=(h.zero _ _).1 h3
       subst q
       rw[if_neg h0]; exact h1
     · rw[if_neg h3] at h2
       have:=h.trans _ _ _ h1 h2
       rw[if_neg (by omega)]; exact this
theorem Cmp.irr (h:Cmp c) (a:K):¬ c a a<0:=by have:=(h.zero a a).2 rfl; omega
end
section
variable {X K C:Type} (c:K→K→Int) (key:X→K) (same:X→X→Bool) (G M:X→C) (T:X→X→C) (leaf:C→K)
def df:List X→List X→List C
 | [],b=>b.map M
 | x::a,[]=>(x::a).map G
 | x::a,y::b=>if c (key x) (key y)<0 then G x::df a (y::b) else if c (key x) (key y)>0 then M y::df (x::a) b else (if same x y then [] else [T x y])++df a b
termination_by a b=>a.length+b.length
def ins (v:C):List C→List C
 | []=>[v]
 | e::l=>if c (leaf v) (leaf e)<0 then v::e::l else e::ins v l
def dF (a:List X):Prop:=a.Pairwise fun x y=>c (key x) (key y)<0
variable {c key same G M T leaf}
variable (hc:Cmp c) (hG:∀ x,leaf (G x)=key x) (hM:∀ x,leaf (M x)=key x) (hT:∀ x y,leaf (T x y)=key x)
include hc hG hT
include hM
end
end Go.TY
set_option linter.unusedSimpArgs false
namespace Go.TY
open Go.EM
def sg (e:Nat) (u:Ty):TNew:={ ps:=.cons (.sl u) .unit,e:=e,t:=.sl u,fn:=fun v=>eR v.1,row:=true }
theorem acm {M e:Nat}{u:Ty} (hu:u.size=M) (hv:u.isV=true) (hc:u.closed=true):TNewOk (oh M e) (sg e u):=by
 refine ⟨(fun h=>by cases h),fun _ _ st v r zs Γ hps hr => ?_,(fun _ h=>by cases h),fun _ h=>by cases h⟩
 obtain ⟨v,⟨⟩⟩:=v
 simp only[R,sg] at hps
 obtain ⟨l1,l2,rfl,hx,rfl⟩:=hps
 simp only[sg,eR] at hr
 split at hr
 · rename_i hlt
   cases hr
   simp only[sg,aff,List.append_nil]
   rcases hx with ⟨rfl,rfl⟩ | ⟨f,n,bs,rfl,hn,ha⟩
   · exact ⟨st,fun _ _=>rfl,.inl ⟨rfl,.inl rfl⟩⟩
   · cases r with
     | nil =>
       match bs,ha with
       | [],_=>exact ⟨st,fun _ _=>rfl,.inl ⟨rfl,.inr ⟨0,rfl⟩⟩⟩
     | cons x r =>
       match bs,ha with
       | a::bs,ha =>
         have hn:n=M:=by
           rcases hn with h | h
           · cases h
           · rw[h,hu]
         subst hn
         have hlen:=aU ha
         have hl2:bs.length+1<most:=by simp only[List.length_cons] at hlen hlt; omega
         refine ⟨st++[.row e u.size (a::bs)],fun q hq=>List.getElem?_append_left hq,.inr ⟨st.length,a::bs,?_,Nat.le_refl _,by simp,aG (p:=fun x a=>R Γ u x false [a]) (fun x a hx=>aP hc hx) ha⟩⟩
         simp only[oh]
         rw[if_pos ⟨trivial,hl2⟩,hu]
         rfl
 · cases hr
theorem row_one {Φ:Frame}{Γ:Ctx}{st:aq}{g:Reg} (hm:MemR Φ Γ [g] st):RegR Γ st 0 g:=hm.reg 0 (by simp)
theorem pH {Φ:Frame}{Γ:Ctx}{st st':aq}{g g':Reg}{r n l:Nat} (hm:MemR Φ Γ [g] st) (hst:st.length≤st'.length) (hr:r<st'.length) (hg:RegR (grown Γ 0 (r,n,l)) st' 0 g') (hΦ:∀ r' g,Φ r'=some g→st'[r']? = some g) (hd:∀ g,Φ r≠some g):MemR Φ (grown Γ 0 (r,n,l)) [g'] st':=by
 have none:∀ i y,i≠0→Γ i≠some y:=fun i y hi h=>by
   rw[hm.out i (by simp; omega)] at h; cases h
 exact hm.grow (id:=0) (by simp) hst (fun i _ _ _ hi h=>absurd h (none i _ hi)) hr (fun i _ _ _ hi h=>absurd h (none i _ hi)) hg hΦ hd
def insT {A:Type} (l:List A) (i:Int) (ys:List A):Option (List A):=if 0≤i∧i≤l.length∧ys≠[]∧l.length+ys.length<most then some (l.take i.toNat++ys++l.drop i.toNat) else none
def insR (z:Bool) (e:Nat) (t:Ty):TRaw:={ ps:=.cons (.own 0) (.cons (.int .i64) (.cons (.sl t) .unit)),ins:=[.row z e t],res:=.own 0,outs:=[.row z e t],fn:=fun v w=>(insT w.1 v.2.1 v.2.2.1).map fun l=>((),(l,())) }
theorem abI {A:Type}{l ys r:List A}{i:Int} (h:insT l i ys=some r):∃ k:Nat,i=(k:Int)∧k≤l.length∧ys≠[]∧l.length+ys.length<most∧r=l.take k++ys++l.drop k:=by
 unfold insT at h
 split at h
 · rename_i hb
   cases h
   exact ⟨i.toNat,by omega,by omega,hb.2.2.1,hb.2.2.2,rfl⟩
 · cases h
theorem abJ {M e:Nat}{z:Bool}{u:Ty} (hu:u.size=M) (hv:u.isV=true) (hc:u.closed=true) (hk:u.okRow=true) (hM:M≠0):TRawOk (ey M e) (insR z e u):=by
 refine TRawOk.ofBox rfl fun Φ Γ st pv v zs r w hm hps hr => ?_
 obtain ⟨⟨⟩,i,ys,⟨⟩⟩:=pv
 obtain ⟨xs,⟨⟩⟩:=v
 simp only[insR,R] at hps
 obtain ⟨l1,l2,rfl,hown,l3,l4,rfl,rfl,l5,l6,rfl,hys,rfl⟩:=hps
 simp only[insR] at hr hm ⊢
 rw[Option.map_eq_some_iff] at hr
 obtain ⟨out,hr,hr2⟩:=hr
 cases hr2
 obtain ⟨i,rfl,hil,hne,hmost,rfl⟩:=abI hr
 · rcases hys with ⟨rfl,_⟩ | ⟨f,n,bs,rfl,hn,hb2⟩
   · exact absurd rfl hne
   · have hbl:=aU hb2
     match ys,bs,hb2,hbl,hne with
     | y::ys,b::bs,hb2,hbl,hne =>
     have hn:n=M:=by
       rcases hn with h | h
       · cases h
       · rw[h,hu]
     subst hn
     have hcl:aA (b::bs)=true:=dS (fun x a hx=>by rw[← aT]; exact bq hc hx) hb2
     have hb3:All2 (fun x a=>R (grown Γ 0 (0,0,0)) u x false [a]) (y::ys) (b::bs):=aG (p:=fun x a=>R Γ u x false [a]) (fun x a hx=>aP hc hx) hb2
     obtain ⟨k1,k2,k3,k4,k5⟩:=row_one hm
     simp only[aL] at hm ⊢
     dsimp only at k5
     rcases k5 with ⟨rfl,bz,k5,kz⟩ | ⟨r,zs,k5,k6,k7,k8⟩
     · rw[k5] at hown
       have h0:i=0:=Nat.le_zero.1 hil
       subst h0
       have hF:∀ a0,(l1=[a0])→ey n e (l1++([.int .i64 ((0:Nat):Int)]++([.tree f n (b::bs)]++[]))) st=some (bf st e n (b::bs)):=by
         intro a0 ha
         have hlt:(b::bs).length<most:=by rw[hbl]; exact Nat.lt_of_le_of_lt (Nat.le_add_left _ _) hmost
         rcases hown with h | ⟨_,k,h⟩
         · subst h
           simp only[List.singleton_append,List.append_nil,ey]
           rw[if_pos ⟨trivial,rfl,hlt⟩]
         · subst h
           simp only[List.singleton_append,List.append_nil,ey]
           rw[if_pos ⟨trivial,rfl,hlt⟩]
       have hone:∃ a0,l1=[a0]:=by rcases hown with h | ⟨_,k,h⟩<;>exact ⟨_,h⟩
       obtain ⟨a0,ha0⟩:=hone
       refine ⟨_,_,grown Γ 0 (st.length,u.size,(y::ys).length),hF a0 ha0,?_,?_,?_⟩
       · simp only[R,grown,if_true,hbl,hu]
       · rw[show (List.take 0 ([]:List u.V)++(y::ys)++List.drop 0 ([]:List u.V))=y::ys by simp]
         refine pH hm (by simp) (by simp) ⟨hv,hc,hk,k4,.inr ⟨st.length,b::bs,by simp[grown],by simp[hu],aG (p:=fun x a=>R Γ u x false [a]) (fun x a hx=>aP hc hx) hb2,fun _ h=>by cases h⟩⟩ (fun r' g h=>by rw[List.getElem?_append_left (hm.oldlt h)]; exact hm.old r' g h) (fun g h=>Nat.lt_irrefl _ (hm.oldlt h))
       · intro j y' hj
         match j,hj with
         | 0,hj=>cases hj
         | j+1,hj=>cases hj
     · rw[k5] at hown
       subst hown
       have hal:=aU k7
       have hil:i≤xs.length:=hil
       have hrlt:=hm.lt 0 _ _ _ k5
       have hrow:EM.rowAt st r u.size xs.length=some zs:=by simp only[EM.rowAt,k6,hal,and_self,if_true]
       have hF:ey n e ([.own r u.size xs.length 0 xs.length]++([.int .i64 (i:Int)]++([.tree f n (b::bs)]++[]))) st=some (.own r u.size (xs.length+(b::bs).length) 0 (xs.length+(b::bs).length),st.set r (.row e u.size (zs.take i++(b::bs)++zs.drop i))):=by
         simp only[List.singleton_append,List.append_nil,ey]
         rw[if_pos ⟨hu,trivial,trivial,trivial,by simp only[EM.rowTy,k6],Int.natCast_nonneg _,Int.ofNat_le.2 hil,by rw[hbl]; exact hmost,hcl⟩,hrow]
         simp
       have hlen:(xs.take i++(y::ys)++xs.drop i).length=xs.length+(b::bs).length:=by
         rw[List.length_append,List.length_append,List.length_take,List.length_drop,hbl]; omega
       refine ⟨_,_,grown Γ 0 (r,u.size,xs.length+(b::bs).length),hF,?_,?_,?_⟩
       · simp only[R,grown,if_true]
       · refine pH hm (by simp) (by simpa using hrlt) ⟨hv,hc,hk,k4,.inr ⟨r,zs.take i++(b::bs)++zs.drop i,by rw[hlen]; simp[grown],List.getElem?_set_self hrlt,ch (ch (fv i ?_) ?_) (fw i ?_),fun _ h=>by simp at h⟩⟩ (fun r' g h => ?_) (fun g h=>hm.dis r g 0 _ _ h k5)
         · exact aG (p:=fun x a=>R Γ u x false [a]) (fun x a hx=>aP hc hx) k7
         · exact aG (p:=fun x a=>R Γ u x false [a]) (fun x a hx=>aP hc hx) hb2
         · exact aG (p:=fun x a=>R Γ u x false [a]) (fun x a hx=>aP hc hx) k7
         · rw[List.getElem?_set_ne (fun e'=>by subst e'; exact hm.dis _ _ 0 _ _ h k5)]
           exact hm.old r' g h
       · intro j y' hj
         match j,hj with
         | 0,hj=>cases hj
         | j+1,hj=>cases hj
def delT {A:Type} (l:List A) (i j:Int):Option (List A):=if 0≤i∧i<j∧j≤l.length then some (l.take i.toNat++l.drop j.toNat) else none
def delR (e:Nat) (t:Ty):TRaw:={ ps:=.cons (.own 0) (.cons (.int .i64) (.cons (.int .i64) .unit)),ins:=[.row false e t],res:=.own 0,outs:=[.row false e t],fn:=fun v w=>(delT w.1 v.2.1 v.2.2.1).map fun l=>((),(l,())) }
theorem acd {A:Type}{l r:List A}{i j:Int} (h:delT l i j=some r):∃ a b:Nat,i=(a:Int)∧j=(b:Int)∧a<b∧b≤l.length∧r=l.take a++l.drop b:=by
 unfold delT at h
 split at h
 · rename_i hb
   cases h
   exact ⟨i.toNat,j.toNat,by omega,by omega,by omega,by omega,rfl⟩
 · cases h
theorem aj1 {M e:Nat}{u:Ty} (hu:u.size=M) (hv:u.isV=true) (hc:u.closed=true) (hk:u.okRow=true) (hM:M≠0):TRawOk (ij M e) (delR e u):=by
 refine TRawOk.ofBox rfl fun Φ Γ st pv v zs r w hm hps hr => ?_
 obtain ⟨⟨⟩,i,j,⟨⟩⟩:=pv
 obtain ⟨xs,⟨⟩⟩:=v
 simp only[delR,R] at hps
 obtain ⟨l1,l2,rfl,hown,l3,l4,rfl,rfl,l5,l6,rfl,rfl,rfl⟩:=hps
 simp only[delR] at hr hm ⊢
 rw[Option.map_eq_some_iff] at hr
 obtain ⟨out,hr,hr2⟩:=hr
 cases hr2
 obtain ⟨i,j,rfl,rfl,hij,hjl,rfl⟩:=acd hr
 · obtain ⟨k1,k2,k3,k4,k5⟩:=row_one hm
   simp only[aL] at hm ⊢
   dsimp only at k5
   rcases k5 with ⟨rfl,bz,k5,kz⟩ | ⟨r,zs,k5,k6,k7,k8⟩
   · have:j≤0:=hjl
     omega
   · rw[k5] at hown
     subst hown
     have hal:=aU k7
     have hjl:j≤xs.length:=hjl
     have hrlt:=hm.lt 0 _ _ _ k5
     have hrow:EM.rowAt st r u.size xs.length=some zs:=by simp only[EM.rowAt,k6,hal,and_self,if_true]
     have hF:ij M e ([.own r u.size xs.length 0 xs.length]++([.int .i64 (i:Int)]++([.int .i64 (j:Int)]++[]))) st=some (.own st.length u.size (xs.length-(j-i)) 0 (xs.length-(j-i)),st.set r .dead++[.row e u.size (zs.take i++zs.drop j)]):=by
       simp only[List.singleton_append,List.append_nil,ij]
       rw[if_pos ⟨hu,trivial,trivial,by simp only[EM.rowTy,k6],Int.natCast_nonneg _,Int.ofNat_lt.2 hij,Int.ofNat_le.2 hjl⟩,hrow]
       simp
     have hlen:(xs.take i++xs.drop j).length=xs.length-(j-i):=by
       rw[List.length_append,List.length_take,List.length_drop]; omega
     refine ⟨_,_,grown Γ 0 (st.length,u.size,xs.length-(j-i)),hF,?_,?_,?_⟩
     · simp only[R,grown,if_true]
     · refine pH hm (by simp) (by simp) ⟨hv,hc,hk,k4,.inr ⟨st.length,zs.take i++zs.drop j,by rw[hlen]; simp[grown],by simp,ch (fv i ?_) (fw j ?_),fun h=>by cases h⟩⟩ (fun r' g h => ?_) (fun g h=>Nat.lt_irrefl _ (hm.oldlt h))
       · exact aG (p:=fun x a=>R Γ u x false [a]) (fun x a hx=>aP hc hx) k7
       · exact aG (p:=fun x a=>R Γ u x false [a]) (fun x a hx=>aP hc hx) k7
       · rw[List.getElem?_append_left (by simpa using hm.oldlt h),List.getElem?_set_ne (fun e'=>by subst e'; exact hm.dis _ _ 0 _ _ h k5)]
         exact hm.old r' g h
     · intro j y' hj
       match j,hj with
       | 0,hj=>cases hj
       | j+1,hj=>cases hj
end Go.TY
namespace Go.TY
section
variable {X K:Type} (c:K→K→Int) (key:X→K)
def lo (k:K) (l:List X):List X:=l.takeWhile fun x=>decide (c (key x) k<0)
def hi (k:K) (l:List X):List X:=l.dropWhile fun x=>decide (c (key x) k<0)
variable {c key}
theorem lohi {k:K}{l:List X}:lo c key k l++hi c key k l=l:=List.takeWhile_append_dropWhile
theorem pw {k:K}:∀ {p q:List X},(∀ x∈p,c (key x) k<0)→(∀ x∈q,¬ c (key x) k<0)→lo c key k (p++q)=p∧hi c key k (p++q)=q
 | [],[],_,_=>⟨rfl,rfl⟩
 | [],y::q,_,h=>by
   have h1:=h y (List.mem_cons_self ..)
   unfold lo hi
   rw[List.nil_append,List.takeWhile_cons,List.dropWhile_cons,decide_eq_false h1]
   exact ⟨rfl,rfl⟩
 | x::p,q,g,h=>by
   have h1:=g x (List.mem_cons_self ..)
   have ih:=pw (p:=p) (q:=q) (fun y hy=>g y (List.mem_cons_of_mem _ hy)) h
   unfold lo hi at ih ⊢
   rw[List.cons_append,List.takeWhile_cons,List.dropWhile_cons,decide_eq_true h1]
   simp only[if_true]
   rw[ih.1,ih.2]
   exact ⟨rfl,rfl⟩
theorem iQ {k:K}:∀ {l:List X},∀ x∈lo c key k l,c (key x) k<0
 | [],x,h=>by cases h
 | y::l,x,h=>by
   unfold lo at h
   rw[List.takeWhile_cons] at h
   by_cases hy:c (key y) k<0
   · rw[decide_eq_true hy] at h
     simp only[if_true] at h
     rcases List.mem_cons.1 h with rfl | h
     · exact hy
     · exact iQ x h
   · rw[decide_eq_false hy] at h
     cases h
theorem abN {k:K}:∀ {l:List X}{x:X}{q:List X},hi c key k l=x::q→¬ c (key x) k<0
 | [],x,q,h=>by cases h
 | y::l,x,q,h=>by
   unfold hi at h
   rw[List.dropWhile_cons] at h
   by_cases hy:c (key y) k<0
   · rw[decide_eq_true hy] at h
     exact abN (l:=l) h
   · rw[decide_eq_false hy] at h
     cases h
     exact hy
theorem ky (hc:Cmp c) {k:K}{l:List X} (hr:dF c key l) {x:X}{q:List X} (h:hi c key k l=x::q):0≤c (key x) k∧∀ y∈q,0<c (key y) k:=by
 have h1:=abN h
 have e:lo c key k l++x::q=l:=by rw[← h]; exact lohi
 rw[← e] at hr
 have h2:=(List.pairwise_append.1 hr).2.1
 have h3:=(List.pairwise_cons.1 h2).1
 refine ⟨by omega,fun y hy => ?_⟩
 have h4:=h3 y hy
 have n1:=hc.neg (key y) k
 by_cases h5:c (key x) k=0
 · rw[← (hc.zero _ _).1 h5] at n1 ⊢
   have:=hc.neg (key x) (key y)
   omega
 · have n2:=hc.neg (key x) k
   have:=hc.trans k (key x) (key y) (by omega) h4
   omega
theorem akf {k:K}{l:List X}{h:Nat} (hh:h<l.length) (h2:h<(lo c key k l).length):c (key l[h]) k<0:=by
 have e:l[h]=(lo c key k l++hi c key k l)[h]'(by rw[lohi]; exact hh):=by simp only[lohi]
 rw[e,List.getElem_append_left h2]
 exact iQ _ (List.getElem_mem _)
theorem akg (hc:Cmp c) {k:K}{l:List X} (hr:dF c key l) {h:Nat} (hh:h<l.length) (h2:(lo c key k l).length≤h):0≤c (key l[h]) k:=by
 have e:l[h]=(lo c key k l++hi c key k l)[h]'(by rw[lohi]; exact hh):=by simp only[lohi]
 rw[e,List.getElem_append_right h2]
 have hm:∀ y∈hi c key k l,0≤c (key y) k:=by
   intro y hy
   cases hq:hi c key k l with
   | nil=>rw[hq] at hy; cases hy
   | cons x q =>
     rw[hq] at hy
     obtain ⟨a1,a2⟩:=ky hc hr hq
     rcases List.mem_cons.1 hy with rfl | hy
     · exact a1
     · have:=a2 y hy; omega
 exact hm _ (List.getElem_mem _)
variable [DecidableEq X] (c key)
def fF (d:Int×X×X×Unit):X:=if d.1=1 then d.2.2.1 else d.2.1
def lC (l:List X) (d:Int×X×X×Unit) (a b:List X):List X⊕Int :=
 if d.1<1∨d.1>3 then .inr 18
 else if d.1=1 then match b with
   | x::q=>if c (key x) (key d.2.2.1)=0 then .inr 12 else .inl (a++d.2.2.1::x::q)
   | []=>.inl (a++[d.2.2.1])
 else match b with
   | x::q=>if x=d.2.1 then (if d.1=3 then (if c (key d.2.1) (key d.2.2.1)=0 then .inl (a++d.2.2.1::q) else .inr 2) else .inl (a++q)) else .inr 12
   | []=>.inr 12
def kl (l:List X) (d:Int×X×X×Unit):List X⊕Int:=lC c key l d (lo c key (key (fF d)) l) (hi c key (key (fF d)) l)
def fZ:List X→List (Int×X×X×Unit)→List X×Int×Unit
 | l,[]=>(l,0,())
 | l,d::ds=>match kl c key l d with
   | .inl l'=>fZ l' ds
   | .inr e=>([],e,())
variable {c key}
theorem qd (hc:Cmp c) {x y:K} (h:c x y<0):¬ c y x<0:=by have:=hc.neg x y; omega
theorem qC (hc:Cmp c) {p q:List X}{z y:X} (hp:∀ x∈p,c (key x) (key y)<0) (hq:∀ x∈q,c (key y) (key x)<0):kl c key (p++q) (1,z,y,()) = .inl (p++y::q):=by
 unfold kl
 have e:fF ((1,z,y,()):Int×X×X×Unit)=y:=if_pos rfl
 have:=pw hp (fun x hx=>qd hc (hq x hx))
 rw[e,this.1,this.2]
 unfold lC
 rw[if_neg (by simp),if_pos rfl]
 cases q with
 | nil=>rfl
 | cons x q =>
   have h1:=hq x (List.mem_cons_self ..)
   have h2:=hc.neg (key y) (key x)
   simp only
   rw[if_neg (by omega)]
theorem qD (hc:Cmp c) {p q:List X}{z y:X} (hp:∀ x∈p,c (key x) (key y)<0) (hq:∀ x∈q,c (key y) (key x)<0):kl c key (p++y::q) (2,y,z,()) = .inl (p++q):=by
 unfold kl
 have e:fF ((2,y,z,()):Int×X×X×Unit)=y:=if_neg (by simp)
 have:=pw (q:=y::q) hp (fun x hx=>by
   rcases List.mem_cons.1 hx with rfl | hx
   · exact hc.irr _
   · exact qd hc (hq x hx))
 rw[e,this.1,this.2]
 unfold lC
 rw[if_neg (by simp),if_neg (by simp)]
 simp only
 rw[if_pos trivial,if_neg (by decide)]
theorem aaB (hc:Cmp c) {p q:List X}{x y:X} (hxy:c (key x) (key y)=0) (hp:∀ x'∈p,c (key x') (key x)<0) (hq:∀ x'∈q,c (key x) (key x')<0):kl c key (p++x::q) (3,x,y,()) = .inl (p++y::q):=by
 unfold kl
 have e:fF ((3,x,y,()):Int×X×X×Unit)=x:=if_neg (by simp)
 have:=pw (q:=x::q) hp (fun x' hx=>by
   rcases List.mem_cons.1 hx with rfl | hx
   · exact hc.irr _
   · exact qd hc (hq x' hx))
 rw[e,this.1,this.2]
 unfold lC
 rw[if_neg (by simp),if_neg (by simp)]
 simp only
 rw[if_pos trivial,if_pos trivial,if_pos hxy]
theorem cL {p q:List X}{y:X}:dF c key (p++y::q)↔dF c key (p++q)∧(∀ x∈p,c (key x) (key y)<0)∧∀ x∈q,c (key y) (key x)<0:=by
 unfold dF
 rw[List.pairwise_append,List.pairwise_append,List.pairwise_cons]
 constructor
 · rintro ⟨h1,⟨h2,h3⟩,h4⟩
   exact ⟨⟨h1,h3,fun a ha b hb=>h4 a ha b (List.mem_cons_of_mem _ hb)⟩,fun x hx=>h4 x hx y (List.mem_cons_self ..),h2⟩
 · rintro ⟨⟨h1,h3,h4⟩,h5,h2⟩
   refine ⟨h1,⟨h2,h3⟩,fun a ha b hb => ?_⟩
   rcases List.mem_cons.1 hb with rfl | hb
   · exact h5 a ha
   · exact h4 a ha b hb
theorem nC {p q:List X}{x y:X} (hc:Cmp c) (hxy:c (key x) (key y)=0) (h:dF c key (p++x::q)):dF c key (p++y::q):=by
 have e:=(hc.zero _ _).1 hxy
 rw[cL] at h ⊢
 rw[← e]
 exact h
theorem eH {p q:List X}{y:X}:p++y::q=(p++[y])++q:=by simp
theorem oA (hc:Cmp c) {z:X}:∀ (n:Nat) (p a b:List X),a.length+b.length≤n→dF c key (p++a)→dF c key (p++b) →
   fZ c key (p++a) (df c key (fun x y=>decide (x=y)) (fun x=>((2:Int),x,z,())) (fun y=>((1:Int),z,y,())) (fun x y=>((3:Int),x,y,())) a b)=(p++b,0,()):=by
 intro n
 have noA:∀ (b p:List X),dF c key (p++b)→fZ c key p (b.map fun y=>((1:Int),z,y,()))=(p++b,0,()):=by
   intro b
   induction b with
   | nil=>intro p _; simp[fZ]
   | cons y b ih =>
     intro p h
     have:=(cL.1 h).2
     have s:=qC (z:=z) (q:=[]) hc this.1 (fun x hx=>by cases hx)
     rw[List.append_nil] at s
     rw[List.map_cons,fZ,s]
     simp only
     rw[eH] at h
     rw[ih _ h]
     simp
 induction n with
 | zero =>
   intro p a b hn
   have e1:a=[]:=List.eq_nil_of_length_eq_zero (by omega)
   have e2:b=[]:=List.eq_nil_of_length_eq_zero (by omega)
   subst e1; subst e2
   intro _ _
   rw[df.eq_def]; rfl
 | succ n ih =>
   intro p a b hn ra rb
   match a,b,hn with
   | [],b,hn =>
     rw[df.eq_def,List.append_nil]
     exact noA b p rb
   | x::a,[],hn =>
     have e:df c key (fun x y=>decide (x=y)) (fun x=>((2:Int),x,z,())) (fun y=>((1:Int),z,y,())) (fun x y=>((3:Int),x,y,())) a ([]:List X)=a.map fun x=>((2:Int),x,z,()):=by
       cases a with
       | nil=>rw[df.eq_def]; rfl
       | cons=>rw[df.eq_def]
     have:=(cL.1 ra).2
     have s:=qD (z:=z) hc this.1 this.2
     rw[df.eq_def]
     simp only[List.map_cons]
     rw[fZ,s,← e]
     exact ih p a [] (by simp only[List.length_cons,List.length_nil] at hn ⊢; omega) (cL.1 ra).1 rb
   | x::a,y::b,hn =>
     simp only[List.length_cons] at hn
     have ma:=cL.1 ra
     have mb:=cL.1 rb
     rw[df.eq_def]
     simp only
     split
     · have s:=qD (z:=z) hc ma.2.1 ma.2.2
       rw[fZ,s]
       exact ih p a (y::b) (by simp only[List.length_cons]; omega) ma.1 rb
     · split
       · rename_i h1 h2
         have hyx:c (key y) (key x)<0:=by have:=hc.neg (key x) (key y); omega
         have s:=qC (z:=z) (q:=x::a) hc mb.2.1 (fun w hw=>by
           rcases List.mem_cons.1 hw with rfl | hw
           · exact hyx
           · exact hc.trans _ _ _ hyx (ma.2.2 w hw))
         rw[fZ,s]
         have hr:dF c key ((p++[y])++x::a):=by
           rw[← eH]
           exact cL.2 ⟨ra,mb.2.1,fun w hw=>by
             rcases List.mem_cons.1 hw with rfl | hw
             · exact hyx
             · exact hc.trans _ _ _ hyx (ma.2.2 w hw)⟩
         rw[eH (p:=p) (y:=y) (q:=x::a),eH (p:=p) (y:=y) (q:=b)]
         exact ih (p++[y]) (x::a) b (by simp only[List.length_cons]; omega) hr (by rw[← eH]; exact rb)
       · rename_i h1 h2
         have h0:c (key x) (key y)=0:=by omega
         have ra2:=nC hc h0 ra
         have i:=ih (p++[y]) a b (by omega) (by rw[← eH]; exact ra2) (by rw[← eH]; exact rb)
         by_cases hxy:x=y
         · rw[decide_eq_true hxy]
           simp only[if_true,List.nil_append]
           rw[hxy,eH,eH (q:=b)]
           exact i
         · rw[decide_eq_false hxy]
           have s:=aaB hc h0 ma.2.1 ma.2.2
           simp only[if_false,Bool.false_eq_true,List.cons_append,List.nil_append]
           rw[fZ,s]
           simp only
           rw[eH,eH (q:=b)]
           exact i
theorem rS (hc:Cmp c) {C:Type}{G M:X→C}{T:X→X→C}:∀ a:List X,df c key (fun x y=>decide (x=y)) G M T a a=[]
 | []=>by rw[df.eq_def]; rfl
 | x::a=>by
   rw[df.eq_def]
   simp only
   have:=(hc.zero (key x) (key x)).2 rfl
   rw[if_neg (by omega),if_neg (by omega)]
   simp only[decide_true,if_true,List.nil_append]
   exact rS hc a
theorem aet (hc:Cmp c) {z:X}{a b:List X} (ra:dF c key a) (rb:dF c key b) (h:df c key (fun x y=>decide (x=y)) (fun x=>((2:Int),x,z,())) (fun y=>((1:Int),z,y,())) (fun x y=>((3:Int),x,y,())) a b=[]):a=b:=by
 have:=oA hc (z:=z) _ [] a b (Nat.le_refl _) ra rb
 rw[h] at this
 simp only[List.nil_append,fZ] at this
 exact congrArg Prod.fst this
theorem xa (hc:Cmp c) {l l':List X}{d:Int×X×X×Unit} (hr:dF c key l) (h:kl c key l d = .inl l'):dF c key l'∧l'.length≤l.length+1∧∀ x∈l',x∈l∨x=d.2.2.1:=by
 obtain ⟨k,x,y,⟨⟩⟩:=d
 have e:lo c key (key (fF ((k,x,y,()):Int×X×X×Unit))) l++hi c key (key (fF ((k,x,y,()):Int×X×X×Unit))) l=l:=lohi
 have hb:=iQ (c:=c) (key:=key) (k:=key (fF ((k,x,y,()):Int×X×X×Unit))) (l:=l)
 have ha:=fun (w:X) (q:List X)=>ky hc (k:=key (fF ((k,x,y,()):Int×X×X×Unit))) hr (x:=w) (q:=q)
 unfold kl at h
 generalize lo c key (key (fF ((k,x,y,()):Int×X×X×Unit))) l=p at *
 generalize hi c key (key (fF ((k,x,y,()):Int×X×X×Unit))) l=q at *
 unfold lC at h
 split at h
 · cases h
 · split at h
   · rename_i h1 h2
     simp only at h2
     rw[show fF ((k,x,y,()):Int×X×X×Unit)=y from if_pos h2] at hb ha
     subst e
     split at h
     · rename_i w q'
       split at h
       · cases h
       · rename_i h3
         simp only at h3
         cases h
         obtain ⟨a1,a2⟩:=ha w q' rfl
         refine ⟨cL.2 ⟨hr,hb,fun v hv => ?_⟩,by simp only[List.length_append,List.length_cons]; omega,fun v hv => ?_⟩
         · show c (key y) (key v)<0
           have n1:=hc.neg (key v) (key y)
           rcases List.mem_cons.1 hv with rfl | hv
           · omega
           · have:=a2 v hv; omega
         · simp only[List.mem_append,List.mem_cons] at hv ⊢
           rcases hv with hv | hv | hv | hv
           · exact .inl (.inl hv)
           · exact .inr hv
           · exact .inl (.inr (.inl hv))
           · exact .inl (.inr (.inr hv))
     · cases h
       refine ⟨cL.2 ⟨hr,hb,fun v hv=>by cases hv⟩,by simp only[List.length_append,List.length_cons]; omega,fun v hv => ?_⟩
       simp only[List.mem_append,List.mem_cons] at hv ⊢
       rcases hv with hv | hv | hv
       · exact .inl (.inl hv)
       · exact .inr hv
       · cases hv
   · rename_i h1 h2
     simp only at h2
     subst e
     split at h
     · rename_i w q'
       split at h
       · rename_i hw
         simp only at hw
         subst hw
         split at h
         · split at h
           · rename_i h4
             cases h
             refine ⟨nC hc h4 hr,by simp only[List.length_append,List.length_cons]; omega,fun v hv => ?_⟩
             simp only[List.mem_append,List.mem_cons] at hv ⊢
             rcases hv with hv | hv | hv
             · exact .inl (.inl hv)
             · exact .inr hv
             · exact .inl (.inr (.inr hv))
           · cases h
         · cases h
           refine ⟨(cL.1 hr).1,by simp only[List.length_append,List.length_cons]; omega,fun v hv => ?_⟩
           simp only[List.mem_append,List.mem_cons] at hv ⊢
           rcases hv with hv | hv
           · exact .inl (.inl hv)
           · exact .inl (.inr (.inr hv))
       · cases h
     · cases h
end
end Go.TY
namespace Go.TY
open Go.EM Go.Proofs Go.Sort
def jS {A:Type} (c:A→A→Option Int) (xs:List A) (i j:Nat):Int :=
 match xs[clIx xs.length i]?,xs[clIx xs.length j]? with
 | some x,some y=>(c x y).getD 0
 | _,_=>0
def eh {A:Type} (c:A→A→Option Int) (xs:List A):List Nat:=(pdq (ltOf (jS c xs)) (Array.range xs.length) 0 xs.length (Lib.bitLen xs.length) true true).toList
open Classical in
noncomputable def mL {A:Type} (c:A→A→Option Int) (xs:List A):Option (List A) :=
 if xs=[] then some [] else if (∀ x∈xs,∀ y∈xs,∃ n,c x y=some n)∧SWO (ltOf (jS c xs))∧xs.length<4611686018427387904 then some ((eh c xs).filterMap fun i=>xs[i]?) else none
noncomputable def aaC (z:Bool) (g e:Nat) (t:Ty) (c:t.V→t.V→Option Int):TRaw:={ ps:=.cons (.own 0) (.cons (.fn g) .unit),ins:=[.row z e t],res:=.tup .unit,outs:=[.row z e t],fn:=(fun _ w=>(mL c w.1).map fun l=>((),(l,()))),stay:=true }
theorem pK:∀ {bs:List AVal}{i:Nat}{a:AVal},bs[i]? = some a→getL bs i=a
 | x::bs,0,a,h=>by simpa [getL] using h
 | x::bs,i+1,a,h=>pK (bs:=bs) (by simpa using h)
theorem nr {c:Nat→Nat→Int} (hO:SWO (ltOf c)) {n:Nat}:∀ i∈(pdq (ltOf c) (Array.range n) 0 n (Lib.bitLen n) true true).toList,i<n:=by
 intro i hi
 have perm:=(pdq_sorts (ltOf c) hO (Array.range n) 0 (Array.range n).size (Lib.bitLen (Array.range n).size) true true (Nat.zero_le _) (Nat.le_refl _) (Or.inl rfl)).1
 rw[Array.size_range] at perm
 generalize pdq (ltOf c) (Array.range n) 0 n (Lib.bitLen n) true true=d' at *
 obtain ⟨p1,_,p3⟩:=perm
 rw[Array.size_range] at p1
 have e1:(d'.extract 0 n).toList=d'.toList:=by rw[← p1]; simp
 have e2:((Array.range n).extract 0 n).toList=(Array.range n).toList:=by
   have:(Array.range n).extract 0 n=Array.range n:=by
     conv=>lhs; arg 3; rw[← Array.size_range (n:=n)]
     simp
   rw[this]
 rw[e1,e2] at p3
 simpa using p3.mem_iff.1 hi
theorem adB {Γ:Ctx}{t:Ty}{F:PFn}{c:t.V→t.V→Option Int} (hF:TOk F { ps:=.cons t (.cons t .unit),res:=.int .i64,fn:=fun v=>c v.1 v.2.1 }) {xs:List t.V}{bs:List AVal} (ha:All2 (fun x a=>R Γ t x false [a]) xs bs)
   (hc:t.closed=true) (hall:∀ x∈xs,∀ y∈xs,∃ n,c x y=some n):(∀ i j,i<bs.length→j<bs.length→∃ n,F [getL bs i,getL bs j]=some (.int .i64 n))∧(xs≠[]→ml F bs=jS c xs):=by
 have hlen:=aU ha
 have at_:∀ i j,i<xs.length→j<xs.length→∃ x y n,xs[i]? = some x∧xs[j]? = some y∧c x y=some n∧F [getL bs i,getL bs j]=some (.int .i64 n):=by
   intro i j hi hj
   obtain ⟨a,a1,a2⟩:=fR ha (List.getElem?_eq_getElem hi)
   obtain ⟨b,b1,b2⟩:=fR ha (List.getElem?_eq_getElem hj)
   obtain ⟨n,hn⟩:=hall _ (List.getElem_mem hi) _ (List.getElem_mem hj)
   obtain ⟨r,r1,r2⟩:=hF.run (xs[i],xs[j],()) n [a,b] hn ⟨[a],[b],rfl,aP hc a2,[b],[],rfl,aP hc b2,rfl⟩
   simp only[R] at r2
   cases r2
   exact ⟨_,_,n,List.getElem?_eq_getElem hi,List.getElem?_eq_getElem hj,hn,by rw[pK a1,pK b1]; exact r1⟩
 refine ⟨fun i j hi hj => ?_,fun hne => ?_⟩
 · obtain ⟨x,y,n,_,_,_,h⟩:=at_ i j (by omega) (by omega)
   exact ⟨n,h⟩
 · have h0:0<xs.length:=List.length_pos_iff.2 hne
   funext i j
   obtain ⟨x,y,n,h1,h2,h3,h4⟩:=at_ _ _ (eE (i:=i) h0) (eE (i:=j) h0)
   unfold ml jS
   rw[hlen,h1,h2,h4]
   simp only[h3,Option.getD_some]
theorem q9 {A:Type}{p:A→AVal→Prop}{xs:List A}{bs:List AVal} (ha:All2 p xs bs):∀ {l:List Nat},(∀ i∈l,i<xs.length)→All2 p (l.filterMap fun i=>xs[i]?) (l.map (getL bs))
 | [],_=>trivial
 | i::l,h=>by
   have hi:=h i (List.mem_cons_self ..)
   obtain ⟨a,a1,a2⟩:=fR ha (List.getElem?_eq_getElem hi)
   rw[List.filterMap_cons,List.getElem?_eq_getElem hi,List.map_cons,pK a1]
   exact ⟨a2,q9 ha (fun j hj=>h j (List.mem_cons_of_mem _ hj))⟩
theorem vo {M e g:Nat}{z:Bool}{u:Ty}{F:PFn}{c:u.V→u.V→Option Int} (hu:u.size=M) (hv:u.isV=true) (hc:u.closed=true) (hk:u.okRow=true) (hF:TOk F { ps:=.cons u (.cons u .unit),res:=.int .i64,fn:=fun v=>c v.1 v.2.1 }):TRawOk (oT F g M e) (aaC z g e u c):=by
 refine ⟨fun Φ Γ st pv v zs r w hm hps hr => ?_⟩
 obtain ⟨⟨⟩,⟨⟩,⟨⟩⟩:=pv
 obtain ⟨xs,⟨⟩⟩:=v
 simp only[aaC,R] at hps
 obtain ⟨l1,l2,rfl,hown,l3,l4,rfl,rfl,rfl⟩:=hps
 simp only[aaC] at hr hm ⊢
 rw[Option.map_eq_some_iff] at hr
 obtain ⟨out,hr,hr2⟩:=hr
 cases hr2
 obtain ⟨k1,k2,k3,k4,k5⟩:=row_one hm
 simp only[aL] at hm ⊢
 dsimp only at k5
 have hR:R Γ (.tup .unit) () false [.tup []]:=⟨[],rfl,rfl⟩
 rcases k5 with ⟨rfl,bz,k5,kz⟩ | ⟨r,zs,k5,k6,k7,k8⟩
 · rw[k5] at hown
   have:out=[]:=by
     unfold mL at hr
     rw[if_pos rfl] at hr
     cases hr; rfl
   subst this
   rcases hown with rfl | ⟨_,k,rfl⟩
   · exact ⟨_,st,Γ,by simp only[List.singleton_append,List.append_nil,oT],hR,hm,fun _ _ _ h=>h⟩
   · exact ⟨_,st,Γ,by simp only[List.singleton_append,List.append_nil,oT],hR,hm,fun _ _ _ h=>h⟩
 · rw[k5] at hown
   subst hown
   have hal:=aU k7
   have hrlt:=hm.lt 0 _ _ _ k5
   have hrow:EM.rowAt st r u.size xs.length=some zs:=by simp only[EM.rowAt,k6,hal,and_self,if_true]
   by_cases hx:xs=[]
   · subst hx
     have:out=[]:=by
       unfold mL at hr
       rw[if_pos rfl] at hr
       cases hr; rfl
     subst this
     refine ⟨_,st,Γ,?_,hR,hm,fun _ _ _ h=>h⟩
     simp only[List.singleton_append,List.append_nil,oT]
     rw[if_pos ⟨hu,trivial,trivial,by simp only[EM.rowTy,k6],trivial⟩,hrow]
     simp
   · have h0:0<xs.length:=List.length_pos_iff.2 hx
     unfold mL at hr
     rw[if_neg hx] at hr
     split at hr
     · rename_i hs
       obtain ⟨hall,hO,hbig⟩:=hs
       cases hr
       obtain ⟨htab,hcmp⟩:=adB hF k7 hc hall
       have hcmp:=hcmp hx
       have hcl:aA zs=true:=dS (fun x a hx=>by rw[← aT]; exact bq hc hx) k7
       have hix:qI F zs=eh c xs:=by unfold qI eh; rw[hcmp,hal]
       have hmem:∀ i∈eh c xs,i<xs.length:=nr hO
       have hp:=q9 k7 hmem
       have hlen:=aU hp
       have hll:((eh c xs).map (getL zs)).length=xs.length:=by
         rw[List.length_map]
         have perm:=(pdq_sorts (ltOf (jS c xs)) hO (Array.range xs.length) 0 (Array.range xs.length).size (Lib.bitLen (Array.range xs.length).size) true true (Nat.zero_le _) (Nat.le_refl _) (Or.inl rfl)).1.1
         rw[Array.size_range] at perm
         simpa [eh] using perm
       refine ⟨_,st.set r (.row e u.size ((qI F zs).map (getL zs))),Γ,?_,hR,?_,fun _ _ _ h=>h⟩
       · simp only[List.singleton_append,List.append_nil,oT]
         rw[if_pos ⟨hu,trivial,trivial,by simp only[EM.rowTy,k6],trivial⟩,hrow]
         simp only[Option.bind_some]
         rw[if_neg (by omega),if_pos ⟨⟨hcl,htab,by rw[hcmp]; exact hO⟩,hbig⟩]
       · rw[hix]
         have:=hm.set (id:=0) (g:=.row z e u ((eh c xs).filterMap fun i=>xs[i]?)) (ag:=.row e u.size ((eh c xs).map (getL zs))) (by simp) k5 ⟨hv,hc,hk,k4,.inr ⟨r,_,by rw[k5,← hlen,hll],List.getElem?_set_self hrlt,hp,fun hz e'=>hx (by
           rw[e'] at hlen
           rw[hlen] at hll
           exact List.length_eq_zero_iff.1 hll.symm)⟩⟩
         exact this
     · cases hr
end Go.TY
namespace Go.TY
open Go.EM Go.Proofs Go.Sort
section
variable {A K:Type}{c:K→K→Int}{key:A→K}
theorem dO (hc:Cmp c):∀ {l m:List A},dF c key l→dF c key m→(∀ x,x∈l↔x∈m)→l=m
 | [],[],_,_,_=>rfl
 | [],y::m,_,_,h=>by have:=(h y).2 (List.mem_cons_self ..); cases this
 | x::l,[],_,_,h=>by have:=(h x).1 (List.mem_cons_self ..); cases this
 | x::l,y::m,hl,hm,h=>by
   have hl':=List.pairwise_cons.1 hl
   have hm':=List.pairwise_cons.1 hm
   have e:x=y:=by
     rcases List.mem_cons.1 ((h x).1 (List.mem_cons_self ..)) with e | h1
     · exact e
     · rcases List.mem_cons.1 ((h y).2 (List.mem_cons_self ..)) with e | h2
       · exact e.symm
       · have a:=hm'.1 x h1
         have b:=hl'.1 y h2
         have:=hc.neg (key x) (key y)
         omega
   subst e
   congr 1
   refine dO hc hl'.2 hm'.2 fun z => ?_
   have hz:=h z
   constructor
   · intro hzl
     rcases List.mem_cons.1 (hz.1 (List.mem_cons_of_mem _ hzl)) with e | h1
     · subst e; exact absurd (hl'.1 z hzl) (hc.irr _)
     · exact h1
   · intro hzm
     rcases List.mem_cons.1 (hz.2 (List.mem_cons_of_mem _ hzm)) with e | h1
     · subst e; exact absurd (hm'.1 z hzm) (hc.irr _)
     · exact h1
theorem aqh (hc:Cmp c) {cf:Nat→Nat→Int}{k:Nat→K} (h:∀ i j,cf i j=c (k i) (k j)):SWO (ltOf cf) where
 irrefl x:=by
   unfold ltOf
   rw[h]
   exact decide_eq_false (hc.irr _)
 trans x y z h1 h2:=by
   unfold ltOf at *
   simp only[h,decide_eq_true_eq] at *
   exact hc.trans _ _ _ h1 h2
 ntrans x y z h1 h2:=by
   unfold ltOf at *
   simp only[h,decide_eq_false_iff_not] at *
   intro h3
   have n1:=hc.neg (k x) (k y)
   by_cases h0:c (k y) (k x)=0
   · have e:=(hc.zero _ _).1 h0
     rw[e] at h2
     exact h2 h3
   · have:=hc.trans (k y) (k x) (k z) (by omega) h3
     exact h2 this
theorem xw (xs:List A):(List.range xs.length).filterMap (fun i=>xs[i]?)=xs:=by
 have key:∀ (l pre:List A),(List.range' pre.length l.length).filterMap (fun i=>(pre++l)[i]?)=l:=by
   intro l
   induction l with
   | nil=>intro pre; rfl
   | cons x l ih =>
     intro pre
     rw[List.length_cons,List.range'_succ,List.filterMap_cons]
     have e:(pre++x::l)[pre.length]? = some x:=by simp
     rw[e]
     have:=ih (pre++[x])
     simp only[List.length_append,List.length_cons,List.length_nil,Nat.zero_add,List.append_assoc,List.singleton_append] at this
     rw[this]
 have:=key xs []
 rw[List.range_eq_range']
 simpa using this
theorem qH (hc:Cmp c) {cmp:A→A→Option Int}{xs:List A} (hcmp:∀ x∈xs,∀ y∈xs,cmp x y=some (c (key x) (key y))) (hb:xs.length<4611686018427387904):∃ l,mL cmp xs=some l∧l.Perm xs∧l.Pairwise fun x y=>c (key x) (key y)≤0:=by
 by_cases h0:xs=[]
 · subst h0
   exact ⟨[],by unfold mL; rw[if_pos rfl],List.Perm.refl _,List.Pairwise.nil⟩
 · have hn:0<xs.length:=List.length_pos_iff.2 h0
   have hix:∀ i j,jS cmp xs i j=c (key (xs[clIx xs.length i]'(eE hn))) (key (xs[clIx xs.length j]'(eE hn))):=by
     intro i j
     unfold jS
     rw[List.getElem?_eq_getElem (eE hn),List.getElem?_eq_getElem (eE hn)]
     simp only[hcmp _ (List.getElem_mem _) _ (List.getElem_mem _),Option.getD_some]
   have hO:SWO (ltOf (jS cmp xs)):=aqh hc (k:=fun i=>key (xs[clIx xs.length i]'(eE hn))) hix
   have hs:mL cmp xs=some ((eh cmp xs).filterMap fun i=>xs[i]?):=by
     unfold mL
     rw[if_neg h0,if_pos ⟨fun x hx y hy=>⟨_,hcmp x hx y hy⟩,hO,hb⟩]
   refine ⟨_,hs,?_,?_⟩
   · have perm:=(pdq_sorts (ltOf (jS cmp xs)) hO (Array.range xs.length) 0 (Array.range xs.length).size (Lib.bitLen (Array.range xs.length).size) true true (Nat.zero_le _) (Nat.le_refl _) (Or.inl rfl)).1
     rw[Array.size_range] at perm
     unfold eh
     generalize pdq (ltOf (jS cmp xs)) (Array.range xs.length) 0 xs.length (Lib.bitLen xs.length) true true=d' at *
     obtain ⟨p1,_,p3⟩:=perm
     rw[Array.size_range] at p1
     have e1:(d'.extract 0 xs.length).toList=d'.toList:=by rw[← p1]; simp
     have e2:((Array.range xs.length).extract 0 xs.length).toList=List.range xs.length:=by
       have:(Array.range xs.length).extract 0 xs.length=Array.range xs.length:=by
         conv=>lhs; arg 3; rw[← Array.size_range (n:=xs.length)]
         simp
       rw[this]
       simp
     rw[e1,e2] at p3
     refine (p3.filterMap _).trans ?_
     have:(List.range xs.length).filterMap (fun i=>xs[i]?)=xs:=xw xs
     rw[this]
   · rw[List.pairwise_filterMap]
     have sorted:=(pdq_sorts (ltOf (jS cmp xs)) hO (Array.range xs.length) 0 (Array.range xs.length).size (Lib.bitLen (Array.range xs.length).size) true true (Nat.zero_le _) (Nat.le_refl _) (Or.inl rfl)).2
     have hmem:=nr hO (n:=xs.length)
     have hsz:=(pdq_sorts (ltOf (jS cmp xs)) hO (Array.range xs.length) 0 (Array.range xs.length).size (Lib.bitLen (Array.range xs.length).size) true true (Nat.zero_le _) (Nat.le_refl _) (Or.inl rfl)).1.1
     rw[Array.size_range] at sorted hsz
     unfold eh
     generalize pdq (ltOf (jS cmp xs)) (Array.range xs.length) 0 xs.length (Lib.bitLen xs.length) true true=d' at *
     rw[List.pairwise_iff_getElem]
     intro i j hi hj hij a ha b hb'
     have hi':i<d'.size:=by simpa using hi
     have hj':j<d'.size:=by simpa using hj
     have hsn:=sorted i j (Nat.zero_le _) hij (by omega)
     rw[getElem!_pos d' j hj',getElem!_pos d' i hi'] at hsn
     unfold ltOf at hsn
     rw[hix] at hsn
     have q1:=hmem _ (List.getElem_mem hi)
     have q2:=hmem _ (List.getElem_mem hj)
     simp only[Array.getElem_toList] at ha hb' q1 q2
     rw[List.getElem?_eq_getElem q1] at ha
     rw[List.getElem?_eq_getElem q2] at hb'
     cases ha; cases hb'
     have c1:clIx xs.length d'[i]=d'[i]:=if_pos q1
     have c2:clIx xs.length d'[j]=d'[j]:=if_pos q2
     simp only[c1,c2,decide_eq_false_iff_not] at hsn
     have:=hc.neg (key xs[d'[j]]) (key xs[d'[i]])
     omega
end
end Go.TY
namespace Go.TY
open Go.EM
section
variable (P:Program) (E:Env) (h:Hints) (ET:TEnv) (H:TH)
def pQ (σ:TS) (m:Mem) (rs:List ResultVar) (u:Ty):Option (List u.V) :=
 match resT P σ m rs with
 | some [⟨.own i,_⟩]=>match getM m i with
   | .row _ _ u' xs=>cond (Nat.beq i 0) (dq (.sl u') xs (.sl u) fun x=>x) none
   | _=>none
 | some [⟨.vw i,v⟩]=>match getM m i with
   | .row _ _ u' xs=>cond (Nat.beq i 0) ((dq (.sl u') xs (.sl u) fun x=>x).bind fun xs=>cond xs.isEmpty none (if v.1+v.2≤xs.length then some ((xs.drop v.1).take v.2) else none)) none
   | _=>none
 | _=>none
noncomputable def aej (fn:Func) (ps:Ty) (z:Bool) (e:Nat) (u:Ty) (v:ps.V) (w:List u.V):Option (List u.V) :=
 cond (Nat.beq (rowLen ps) (fn.params.size+fn.nfree)&&rowV ps&&u.closed&&ct fn.ntmps (fn.body.getD .skip)&&Nat.ble (fn.params.size+fn.nfree) fn.ntmps)
   (match fn.body with
    | some c=>DT P E h ET H c (List u.V) (eO ps v 0) [.row z e u w] (fun x σ m=>match x with
       | .normal=>pQ P σ m fn.results.toList u
       | .ret=>pQ P σ m fn.results.toList u
       | _=>none)
    | none=>none) none
end
section
variable {P:Program}{E:Env}{ET:TEnv}{h:Hints}{H:TH}
theorem vU (hE:EnvT E ET) {fn:Func}{ps u:Ty}{z:Bool}{e:Nat}{fnT:ps.V→List u.V→Option (List u.V)} (hrun:aej P E h ET H fn ps z e u=fnT) :
   TRawOk (pI (runF P E h fn)) { ps:=ps,ins:=[.row z e u],res:=.sl u,outs:=[.gone],fn:=fun v w=>(fnT v w.1).map fun l=>(l,()) }:=by
 refine TRawOk.ofBox rfl fun Φ Γ st pv v bs r w hmem hps hr => ?_
 obtain ⟨xs,⟨⟩⟩:=v
 simp only at hr hps hmem
 rw[Option.map_eq_some_iff] at hr
 obtain ⟨out,hr,hr2⟩:=hr
 obtain ⟨e1,e2⟩:=Prod.mk.inj hr2
 subst e1
 clear hr2 e2
 rw[← hrun] at hr
 unfold aej at hr
 cases hc:(Nat.beq (rowLen ps) (fn.params.size+fn.nfree)&&rowV ps&&u.closed&&ct fn.ntmps (fn.body.getD .skip)&&Nat.ble (fn.params.size+fn.nfree) fn.ntmps) with
 | false=>rw[hc] at hr; cases hr
 | true =>
   rw[hc,cond_true] at hr
   simp only[Bool.and_eq_true,Nat.beq_eq] at hc
   obtain ⟨⟨⟨⟨c1,c2⟩,c3⟩,c9⟩,c10⟩:=hc
   split at hr
   · rename_i c hb
     have hlen:=(d6 (n:=0) (k:=0) c2 hps).1
     have hslot:co Γ (eO ps pv 0) (dA (List.range (fn.params.size+fn.nfree)) 0 bs):=by
       intro k w hw
       obtain ⟨g1,g2,g3,g4⟩:=(d6 (n:=0) (k:=k) c2 hps).2 w hw
       refine ⟨g1,?_⟩
       rw[List.range_eq_range',fe _ _ _ _ (by omega) (by omega)]
       rw[Nat.sub_zero] at g3
       exact g3
     obtain ⟨x,σ1,m1,σA1,st1,Γ1,g1,g2,g3,g4,g5,g6⟩:=kr hE c hslot hmem hr
     have hend:pQ P σ1 m1 fn.results.toList u=some out∧(x = .normal∨x = .ret):=by
       cases x with
       | normal=>exact ⟨g1,.inl rfl⟩
       | ret=>exact ⟨g1,.inr rfl⟩
       | exit i=>cases g1
     obtain ⟨he,hee⟩:=hend
     have hrunF:∀ av,resV P σA1 st1 fn.results.toList=some av→runF P E h fn bs st=some (av,st1):=by
       intro av hv
       unfold runF
       have:Nat.beq bs.length (fn.params.size+fn.nfree)=true:=by rw[Nat.beq_eq]; omega
       rw[hb] at c9
       simp only[Option.getD_some] at c9
       rw[this,hb]
       simp only[cond_true,Option.getD_some,c9,c10,Bool.and_self]
       rw[g6]
       rcases hee with rfl | rfl<;>simp only[hv,Option.map_some]
     -- what lies behind
     have gone:∀ (st':aq),(∀ r g,Φ r=some g→st'[r]? = some g)→MemR Φ (fun _=>none) (aL [] [.gone] () 0) st':=fun st' hold =>
       ⟨(fun id hid=>by
         have:id=0:=by simp[aL] at hid; omega
         subst this; trivial),(fun _ _=>rfl),(fun i j r n l n' l' h=>by cases h),(fun i r n l h=>by cases h),hold,(fun r g i n l _ h=>by cases h)⟩
     have dead:∀ r0 n l j,Γ1 j=some (.inr (r0,n,l))→∀ r g,Φ r=some g→(st1.set r0 .dead)[r]? = some g:=fun r0 n l j hj r g hg=>by
       rw[List.getElem?_set_ne (fun e'=>by subst e'; exact g3.dis _ _ j _ _ hg hj)]
       exact g3.old r g hg
     unfold pQ at he
     split at he
     · rename_i i _ hl
       obtain ⟨as',q1,q2⟩:=j0 (P:=P) g2 g3 hl
       split at he
       · rename_i z' e' u' ys hg
         cases hi0:Nat.beq i 0 with
         | false=>rw[hi0] at he; cases he
         | true =>
           rw[hi0,cond_true] at he
           obtain ⟨ee,hxx⟩:=aV he
           cases ee
           subst hxx
           have hreg:=g3.at i
           rw[hg] at hreg
           obtain ⟨_,_,_,_,h5⟩:=hreg
           match as',q2 with
           | [a],q2 =>
             have q3:=q2.1.2
             simp only[R] at q3
             rcases h5 with ⟨rfl,b,h5,_⟩ | ⟨r0,zs,h5,h6,h7,_⟩
             · simp only[h5] at q3
               rcases q3 with q3 | ⟨_,n,q3⟩
               · cases q3
                 exact ⟨.nil,st1,fun _=>none,by simp only[pI,hrunF _ (iF q1),Option.bind_some,tP],.inl ⟨rfl,rfl⟩,gone st1 g3.old,(fun j y hb _=>by cases j<;>cases hb)⟩
               · cases q3
                 exact ⟨.tree true n [],st1,fun _=>none,by simp only[pI,hrunF _ (iF q1),Option.bind_some,tP],.inr ⟨true,n,[],rfl,.inl rfl,trivial⟩,gone st1 g3.old,(fun j y hb _=>by cases j<;>cases hb)⟩
             · simp only[h5] at q3
               cases q3
               have hal:=aU h7
               have hrow:EM.rowAt st1 r0 u.size out.length=some zs:=by simp only[EM.rowAt,h6,hal,and_self,if_true]
               refine ⟨.tree false u.size zs,st1.set r0 .dead,fun _=>none,?_,.inr ⟨false,u.size,zs,rfl,.inr rfl,aG (p:=fun x a=>R Γ1 u x false [a]) (fun x a hx=>aP c3 hx) h7⟩,gone _ (dead r0 _ _ i h5),(fun j y hb _=>by cases j<;>cases hb)⟩
               simp only[pI,hrunF _ (iF q1),Option.bind_some,tP]
               rw[if_pos (by omega),hrow]
               simp only[Option.map_some,List.drop_zero]
               rw[List.take_of_length_le (by omega)]
       · cases he
     · rename_i i v hl
       obtain ⟨as',q1,q2⟩:=j0 (P:=P) g2 g3 hl
       split at he
       · rename_i z' e' u' ys hg
         cases hi0:Nat.beq i 0 with
         | false=>rw[hi0] at he; cases he
         | true =>
           rw[hi0,cond_true,Option.bind_eq_some_iff] at he
           obtain ⟨ys',he1,he⟩:=he
           obtain ⟨ee,hxx⟩:=aV he1
           cases ee
           subst hxx
           cases hem:ys'.isEmpty with
           | true=>rw[hem] at he; cases he
           | false =>
           rw[hem,cond_false] at he
           obtain ⟨hle,rfl⟩:=dd he
           have hreg:=g3.at i
           rw[hg] at hreg
           obtain ⟨_,_,_,_,h5⟩:=hreg
           match as',q2 with
           | [a],q2 =>
             have q3:=q2.1.2
             simp only[R] at q3
             obtain ⟨r1,n1,l1,q4,q5⟩:=q3
             cases q5
             rcases h5 with ⟨rfl,_⟩ | ⟨r0,zs,h5,h6,h7,_⟩
             · cases hem
             · rw[h5] at q4
               cases q4
               have hal:=aU h7
               have hrow:EM.rowAt st1 r1 u.size ys'.length=some zs:=by simp only[EM.rowAt,h6,hal,and_self,if_true]
               refine ⟨.tree false u.size ((zs.drop v.1).take v.2),st1.set r1 .dead,fun _=>none,?_,.inr ⟨false,u.size,_,rfl,.inr rfl,aG (p:=fun x a=>R Γ1 u x false [a]) (fun x a hx=>aP c3 hx) (fv _ (fw _ h7))⟩,gone _ (dead r1 _ _ i h5),(fun j y hb _=>by cases j<;>cases hb)⟩
               simp only[pI,hrunF _ (iF q1),Option.bind_some,tP]
               rw[if_pos hle,hrow]
               rfl
       · cases he
     · cases he
   · cases hr
end
end Go.TY
namespace Go.TY
open Go.EM Go.Proofs Go.Sort
end Go.TY
namespace Go.TY
open Go.EM
section
variable {A:Type} [DecidableEq A]
def sqzS (o:List A) (x:A):List A:=if o.getLast? = some x then o else o++[x]
def sqz (l:List A):List A:=l.foldl sqzS []
theorem oS {l:List A}{x:A}:sqz (l++[x])=sqzS (sqz l) x:=by unfold sqz; rw[List.foldl_append]; rfl
theorem adA:∀ {l:List A},(sqz l).getLast? = l.getLast? := by
 intro l
 rcases List.eq_nil_or_concat l with rfl | ⟨l,x,rfl⟩
 · rfl
 · rw[List.concat_eq_append,oS]
   unfold sqzS
   by_cases h:(sqz l).getLast? = some x
   · rw[if_pos h,h]; simp
   · rw[if_neg h]; simp
theorem oR {x:A}:∀ (n:Nat) (l:List A),l.length=n→(x∈sqz l↔x∈l):=by
 intro n
 induction n with
 | zero=>intro l h; rw[List.length_eq_zero_iff.1 h]; exact Iff.rfl
 | succ n ih =>
   intro l h
   rcases List.eq_nil_or_concat l with rfl | ⟨l,y,rfl⟩
   · cases h
   · rw[List.concat_eq_append] at h ⊢
     rw[List.length_append] at h
     have:=ih l (by simpa using h)
     rw[oS]
     unfold sqzS
     split
     · rename_i hl
       rw[this,List.mem_append,List.mem_singleton]
       constructor
       · exact .inl
       · rintro (h1 | h1)
         · exact h1
         · subst h1; rw[← this]; exact List.mem_of_getLast? hl
     · rw[List.mem_append,List.mem_append,this]
variable {K:Type}{c:K→K→Int}{key:A→K}
theorem qF (hc:Cmp c) (hk:∀ a b,c (key a) (key b)=0→a=b):∀ (n:Nat) (l:List A),l.length=n→(l.Pairwise fun x y=>c (key x) (key y)≤0)→dF c key (sqz l):=by
 intro n
 induction n with
 | zero=>intro l h _; rw[List.length_eq_zero_iff.1 h]; exact List.Pairwise.nil
 | succ n ih =>
   intro l h hp
   rcases List.eq_nil_or_concat l with rfl | ⟨l,y,rfl⟩
   · cases h
   · rw[List.concat_eq_append] at h hp ⊢
     rw[List.length_append] at h
     have hp':=List.pairwise_append.1 hp
     have hr:=ih l (by simpa using h) hp'.1
     rw[oS]
     unfold sqzS
     split
     · exact hr
     · rename_i hl
       refine List.pairwise_append.2 ⟨hr,List.pairwise_singleton ..,fun a ha b hb => ?_⟩
       rw[List.mem_singleton] at hb
       subst hb
       have ha':=(oR _ l rfl).1 ha
       have hab:=hp'.2.2 a ha' b (List.mem_singleton.2 rfl)
       rcases Int.lt_or_eq_of_le hab with h1 | h1
       · exact h1
       · have e:=hk _ _ h1
         subst e
         rcases List.eq_nil_or_concat (sqz l) with e0 | ⟨q,z,e0⟩
         · rw[e0] at ha; cases ha
         · rw[List.concat_eq_append] at e0
           rw[e0] at hl ha hr
           have hz:z∈l:=by rw[← oR _ l rfl,e0]; simp
           have hza:=hp'.2.2 z hz a (List.mem_singleton.2 rfl)
           rw[List.getLast?_append] at hl
           simp only[List.getLast?_singleton,Option.some_or,Option.some.injEq] at hl
           rcases List.mem_append.1 ha with hq | hq
           · have:=(List.pairwise_append.1 hr).2.2 a hq z (List.mem_singleton.2 rfl)
             have hn:=hc.neg (key a) (key z)
             omega
           · exact absurd (List.mem_singleton.1 hq).symm hl
end
section
variable {A:Type}{c:A→A→Int}
abbrev eW (c:A→A→Int) (o:List A):Prop:=dF c (fun v=>v) o
def insU (c:A→A→Int) (o:List A) (v:A):List A:=match o with
 | []=>[v]
 | x::l=>if c v x=0 then x::l else if c v x<0 then v::x::l else x::insU c l v
theorem pD (hc:Cmp c) {v x:A}:∀ {o:List A},x∈insU c o v↔x=v∨x∈o
 | []=>by simp[insU]
 | y::l=>by
   unfold insU
   split
   · rename_i h
     have e:=(hc.zero _ _).1 h
     subst e
     simp
   · split
     · simp
     · rw[List.mem_cons,pD hc,List.mem_cons]
       constructor
       · rintro (h | h | h)
         · exact .inr (.inl h)
         · exact .inl h
         · exact .inr (.inr h)
       · rintro (h | h | h)
         · exact .inr (.inl h)
         · exact .inl h
         · exact .inr (.inr h)
theorem nZ (hc:Cmp c) {v:A}:∀ {o:List A},eW c o→eW c (insU c o v)
 | [],_=>List.pairwise_singleton ..
 | y::l,h=>by
   have h':=List.pairwise_cons.1 h
   unfold insU
   split
   · exact h
   · rename_i h0
     split
     · rename_i h1
       refine List.pairwise_cons.2 ⟨fun z hz => ?_,h⟩
       rcases List.mem_cons.1 hz with e | hz
       · subst e; exact h1
       · exact hc.trans _ _ _ h1 (h'.1 z hz)
     · rename_i h1
       refine List.pairwise_cons.2 ⟨fun z hz => ?_,nZ hc h'.2⟩
       rcases (pD hc).1 hz with e | hz
       · subst e
         have h2:=hc.neg z y
         show c y z<0
         omega
       · exact h'.1 z hz
def uniq (c:A→A→Int) (l:List A):List A:=l.foldl (insU c) []
theorem pN {f:List A→A→List A} (hm:∀ o v x,eW c o→(x∈f o v↔x=v∨x∈o)) (hr:∀ o v,eW c o→eW c (f o v)):∀ (l o:List A),eW c o→eW c (l.foldl f o)∧∀ x,x∈l.foldl f o↔x∈o∨x∈l
 | [],o,h=>⟨h,fun x=>by simp⟩
 | v::l,o,h=>by
   obtain ⟨h1,h2⟩:=pN hm hr l (f o v) (hr o v h)
   refine ⟨h1,fun x => ?_⟩
   rw[List.foldl_cons,h2,hm o v x h,List.mem_cons]
   constructor
   · rintro ((h | h) | h)
     · exact .inr (.inl h)
     · exact .inl h
     · exact .inr (.inr h)
   · rintro (h | h | h)
     · exact .inl (.inr h)
     · exact .inl (.inl h)
     · exact .inr h
theorem vk (hc:Cmp c) (l:List A):eW c (uniq c l)∧∀ x,x∈uniq c l↔x∈l:=by
 obtain ⟨h1,h2⟩:=pN (f:=insU c) (fun o v x (_:eW c o)=>pD hc) (fun o v h=>nZ hc h) l [] List.Pairwise.nil
 exact ⟨h1,fun x=>by have:=h2 x; simpa [uniq] using this⟩
theorem gB (hc:Cmp c) (l:List A):eW c (uniq c l):=(vk hc l).1
theorem ku (hc:Cmp c) (l:List A) (x:A):x∈uniq c l↔x∈l:=(vk hc l).2 x
theorem abW (hc:Cmp c) {f:List A→A→List A} (hm:∀ o v x,eW c o→(x∈f o v↔x=v∨x∈o)) (hr:∀ o v,eW c o→eW c (f o v)) (l:List A):l.foldl f []=uniq c l:=by
 obtain ⟨h1,h2⟩:=pN hm hr l [] List.Pairwise.nil
 refine dO hc (key:=fun v=>v) h1 (gB hc l) fun x => ?_
 rw[h2,ku hc]; simp
theorem vP {v:A}:∀ {o:List A},(insU c o v).length≤o.length+1
 | []=>Nat.le_refl _
 | y::l=>by
   unfold insU
   split
   · omega
   · split
     · simp
     · have:=vP (v:=v) (o:=l)
       simp only[List.length_cons]; omega
theorem vX:∀ (l o:List A),(l.foldl (insU c) o).length≤o.length+l.length
 | [],o=>Nat.le_refl _
 | v::l,o=>by
   have:=vX l (insU c o v)
   have := @vP A c v o
   rw[List.foldl_cons,List.length_cons]; omega
theorem adu (l:List A):(uniq c l).length≤l.length:=by
 have:=vX (c:=c) l []
 simpa [uniq] using this
abbrev loA (c:A→A→Int) (v:A) (o:List A):List A:=lo c (fun x=>x) v o
abbrev hiA (c:A→A→Int) (v:A) (o:List A):List A:=hi c (fun x=>x) v o
theorem abw {v:A}{o:List A}:loA c v o++hiA c v o=o:=lohi
theorem xm {p q:List A}{y:A}:eW c (p++y::q)↔eW c (p++q)∧(∀ x∈p,c x y<0)∧∀ x∈q,c y x<0:=by
 unfold eW dF
 rw[List.pairwise_append,List.pairwise_append,List.pairwise_cons]
 constructor
 · rintro ⟨h1,⟨h2,h3⟩,h4⟩
   exact ⟨⟨h1,h3,fun a ha b hb=>h4 a ha b (List.mem_cons_of_mem _ hb)⟩,fun x hx=>h4 x hx y (List.mem_cons_self ..),h2⟩
 · rintro ⟨⟨h1,h3,h4⟩,h5,h2⟩
   refine ⟨h1,⟨h2,h3⟩,fun a ha b hb => ?_⟩
   rcases List.mem_cons.1 hb with rfl | hb
   · exact h5 a ha
   · exact h4 a ha b hb
def putU (c:A→A→Int) (o:List A) (v:A):List A:=match hiA c v o with
 | []=>loA c v o++[v]
 | y::q=>if c y v=0 then o else loA c v o++v::y::q
theorem adT (hc:Cmp c) {o:List A}{v x:A}:x∈putU c o v↔x=v∨x∈o:=by
 have e:loA c v o++hiA c v o=o:=abw
 unfold putU
 split
 · rename_i h
   rw[h,List.append_nil] at e
   rw[e,List.mem_append,List.mem_singleton,or_comm]
 · rename_i y q h
   rw[h] at e
   split
   · rename_i h0
     have e2:=(hc.zero _ _).1 h0
     subst e2
     constructor
     · exact .inr
     · rintro (h1 | h1)
       · rw[h1,← e]; simp
       · exact h1
   · conv=>rhs; rw[← e]
     simp only[List.mem_append,List.mem_cons]
     constructor
     · rintro (h | h | h | h)
       · exact .inr (.inl h)
       · exact .inl h
       · exact .inr (.inr (.inl h))
       · exact .inr (.inr (.inr h))
     · rintro (h | h | h | h)
       · exact .inr (.inl h)
       · exact .inl h
       · exact .inr (.inr (.inl h))
       · exact .inr (.inr (.inr h))
theorem rn {v:A}{o:List A}:∀ x∈loA c v o,c x v<0:=iQ (c:=c) (key:=fun x=>x)
theorem nE (hc:Cmp c) {o:List A}{v:A} (hr:eW c o):eW c (putU c o v):=by
 have e:loA c v o++hiA c v o=o:=abw
 unfold putU
 split
 · rename_i h
   rw[h,List.append_nil] at e
   refine List.pairwise_append.2 ⟨by rw[e]; exact hr,List.pairwise_singleton ..,fun a ha b hb => ?_⟩
   rw[List.mem_singleton] at hb
   subst hb
   exact rn a ha
 · rename_i y q h
   split
   · exact hr
   · rename_i h0
     have ha:=ky hc (key:=fun x=>x) hr h
     rw[h] at e
     refine xm.2 ⟨by rw[e]; exact hr,fun x hx=>rn x hx,fun x hx => ?_⟩
     have hn:=hc.neg x v
     show c v x<0
     rcases List.mem_cons.1 hx with e' | hx
     · subst e'; have:=ha.1; omega
     · have:=ha.2 x hx; omega
theorem adU {o:List A}{v:A}:(putU c o v).length≤o.length+1:=by
 have e:loA c v o++hiA c v o=o:=abw
 have el:(loA c v o).length+(hiA c v o).length=o.length:=by rw[← List.length_append,e]
 unfold putU
 split
 · rename_i h; rw[h] at el; simp only[List.length_append,List.length_singleton,List.length_nil] at *; omega
 · rename_i y q h
   split
   · omega
   · rw[h] at el; simp only[List.length_append,List.length_cons] at *; omega
theorem adP (hc:Cmp c) (l:List A):l.foldl (putU c) []=uniq c l:=abW hc (fun o v x _=>adT hc) (fun o v h=>nE hc h) l
end
section
variable {A B:Type}
end
end Go.TY
