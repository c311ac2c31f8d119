import Derived.Test.YtnbgkhdcidbkaaaGreatDoorT14
import Derived.Test.YtnbgkhdcidbkaaaGreatDoorE32
set_option linter.unusedVariables false
namespace Go.TY
open Go.EM
end Go.TY
namespace Go.TY
open Go.EM
end Go.TY
namespace Go.TY
open Go.EM
def cmpT (a b:List UInt8):Option Int:=some (Lib.compareBytes a b)
def yD (s:List UInt8):Option (Int×Int×Unit):=some ((Lib.decodeGo ⟨s.toArray⟩).1,(Lib.decodeGo ⟨s.toArray⟩).2,())
def kg:TFn:={ ps:=.cons .str .unit,res:=.tup (.cons (.int .i32) (.cons (.int .i64) .unit)),fn:=fun v=>yD v.1 }
theorem tF:TOk nu kg:=⟨rfl,rfl,rfl,fun v r xs hr hps=>by
 simp only[R,kg] at hps
 obtain ⟨l1,l2,rfl,rfl,rfl⟩:=hps
 cases hr
 exact ⟨_,rfl,_,rfl,_,_,rfl,rfl,_,[],rfl,rfl,rfl⟩⟩
end Go.TY
namespace Go.TY
open Go.EM
def er {A:Type} (l:List A):Option (List A):=if l.length<most then some l else none
def eN (u:Ty):TFn:={ ps:=.cons (.sl u) .unit,res:=.sl u,fn:=fun v=>er v.1 }
theorem kl {M:Nat}{u:Ty} (hu:u.size=M) (hv:u.isV=true) (hc:u.closed=true):TOk (iH M) (eN u):=by
 have hk:(Ty.sl u).closed=true:=by simp only[Ty.closed,hv,hc,Bool.and_self]
 refine ⟨by simp only[eN,Ty.closed,hv,hc,Bool.and_self],hk,rfl,fun v r xs hr hps => ?_⟩
 obtain ⟨v,⟨⟩⟩:=v
 simp only[R,eN] at hps
 obtain ⟨l1,l2,rfl,hx,rfl⟩:=hps
 simp only[eN,er] at hr
 split at hr
 · rename_i hlt
   cases hr
   rcases hx with ⟨rfl,rfl⟩ | ⟨f,n,bs,rfl,hn,ha⟩
   · exact ⟨_,rfl,.inr ⟨false,0,[],rfl,.inl rfl,trivial⟩⟩
   · cases r with
     | nil =>
       match bs,ha with
       | [],_=>exact ⟨.tree false 0 [],rfl,.inr ⟨false,0,[],rfl,.inl rfl,trivial⟩⟩
     | cons x r =>
       match bs,ha with
       | a::bs,ha =>
         have hn:n=M:=by
           rcases hn with h | h
           · cases h
           · rw[h,hu]
         subst hn
         have hlen:=aU ha
         have hl2:bs.length+1<most:=by simp only[List.length_cons] at hlen hlt; omega
         exact ⟨.tree false n (a::bs),by simp only[iH,List.singleton_append]; rw[if_pos ⟨trivial,hl2⟩],.inr ⟨false,n,a::bs,rfl,.inr hu.symm,ha⟩⟩
 · cases hr
end Go.TY
namespace Go.TY
open Go.EM
section
variable {A R X S:Type}
def nq (step:Nat→X→S→S⊕R) (fin:S→R):Nat→List X→S→R
 | _,[],s=>fin s
 | i,x::l,s=>match step i x s with
   | .inl s'=>nq step fin (i+1) l s'
   | .inr r=>r
theorem ot {f:A→Option (A⊕R)}{l:List X} (enc:Nat→S→A) (step:Nat→X→S→S⊕R) (fin:S→R) (inv:Nat→S→Prop)
   (hturn:∀ (i:Nat) (h:i<l.length) (s:S),inv i s→(∃ s',step i l[i] s = .inl s'∧f (enc i s)=some (.inl (enc (i+1) s'))∧inv (i+1) s')∨(∃ r,step i l[i] s = .inr r∧f (enc i s)=some (.inr r)))
   (hend:∀ s,inv l.length s→f (enc l.length s)=some (.inr (fin s))):∀ s,inv 0 s→aN f (enc 0 s)=some (nq step fin 0 l s):=by
 have key:∀ (k i:Nat) (s:S),l.length-i≤k→i≤l.length→inv i s→aN f (enc i s)=some (nq step fin i (l.drop i) s):=by
   intro k
   induction k with
   | zero =>
     intro i s hk hi hv
     have:i=l.length:=by omega
     subst this
     rw[List.drop_eq_nil_of_le (Nat.le_refl _),aH (hend s hv)]
     rfl
   | succ k ih =>
     intro i s hk hi hv
     by_cases hlt:i<l.length
     · rw[List.drop_eq_getElem_cons hlt]
       simp only[nq]
       rcases hturn i hlt s hv with ⟨s',h1,h2,h3⟩ | ⟨r,h1,h2⟩
       · rw[aL h2,ih (i+1) s' (by omega) (by omega) h3,h1]
       · rw[aH h2,h1]
     · have:i=l.length:=by omega
       subst this
       rw[List.drop_eq_nil_of_le (Nat.le_refl _),aH (hend s hv)]
       rfl
 intro s hv
 have:=key l.length 0 s (by omega) (by omega) hv
 simpa using this
theorem ja {f:A→Option (A⊕R)}{l:List X} (enc:Nat→A) (p:X→Bool) (yes no:R)
   (hturn:∀ (i:Nat) (h:i<l.length),f (enc i)=some (if p l[i] then .inl (enc (i+1)) else .inr no)) (hend:f (enc l.length)=some (.inr yes)):aN f (enc 0)=some (if l.all p then yes else no):=by
 have:=ot (S:=Unit) (fun i _=>enc i) (fun _ x _=>if p x then .inl () else .inr no) (fun _=>yes) (fun _ _=>True) (l:=l) (f:=f) (fun i h s _=>by
   by_cases hp:p l[i]=true
   · exact .inl ⟨(),by rw[if_pos hp],by rw[hturn i h,if_pos hp],trivial⟩
   · exact .inr ⟨no,by rw[if_neg hp],by rw[hturn i h,if_neg hp]⟩) (fun s _=>hend) () trivial
 rw[this]
 congr 1
 have gen:∀ (l:List X) (i:Nat),nq (S:=Unit) (fun _ x _=>if p x then .inl () else .inr no) (fun _=>yes) i l ()=if l.all p then yes else no:=by
   intro l
   induction l with
   | nil=>intro i; rfl
   | cons x l ih =>
     intro i
     have h:=ih (i+1)
     by_cases hp:p x=true
     · simp only[nq,hp,if_true]
       rw[h]
       simp[hp]
     · simp[nq,hp]
 exact gen l 0
def all2 {Y:Type} (q:X→Y→Bool):List X→List Y→Bool
 | [],[]=>true
 | x::l,y::m=>q x y&&all2 q l m
 | _,_=>false
open Classical in
theorem jR {f:A→Option (A⊕R)} (n:Nat) (enc:Nat→A) (p:Nat→Bool) (yes no:R)
   (hturn:∀ (i:Nat) (h:i<n),f (enc i)=some (if p i=true then .inl (enc (i+1)) else .inr no)) (hend:f (enc n)=some (.inr yes)):aN f (enc 0)=some (if (∀ i,i<n→p i=true) then yes else no):=by
 have key:∀ (k i:Nat),n-i≤k→i≤n→aN f (enc i)=some (if (∀ j,i≤j→j<n→p j=true) then yes else no):=by
   intro k
   induction k with
   | zero =>
     intro i hk hi
     have e:i=n:=by omega
     subst e
     rw[aH hend,if_pos (fun j h1 h2=>by omega)]
   | succ k ih =>
     intro i hk hi
     by_cases hlt:i<n
     · have ht:=hturn i hlt
       by_cases hq:p i=true
       · rw[if_pos hq] at ht
         rw[aL ht,ih (i+1) (by omega) (by omega)]
         by_cases ha:∀ j,i+1≤j→j<n→p j=true
         · rw [if_pos ha, if_pos (fun j h1 h2 => by
             rcases Nat.lt_or_eq_of_le h1 with h | h
             · exact ha j h h2
             · rw[← h]; exact hq)]
         · rw[if_neg ha,if_neg (fun hb=>ha (fun j h1 h2=>hb j (by omega) h2))]
       · rw[if_neg hq] at ht
         rw[aH ht,if_neg (fun hb=>hq (hb i (Nat.le_refl _) hlt))]
     · have e:i=n:=by omega
       subst e
       rw[aH hend,if_pos (fun j h1 h2=>by omega)]
 have:=key n 0 (by omega) (by omega)
 rw[this]
 congr 1
 by_cases ha:∀ i,i<n→p i=true
 · rw[if_pos ha,if_pos (fun j _ h2=>ha j h2)]
 · rw[if_neg ha,if_neg (fun hb=>ha (fun j h2=>hb j (Nat.zero_le _) h2))]
end
end Go.TY
set_option linter.unusedSectionVars false
namespace Go.TY
structure Cmp {K:Type} (c:K→K→Int):Prop where
 one:∀ a b,-1≤c a b∧c a b≤1
 neg:∀ a b,c b a = - c a b
 zero:∀ a b,c a b=0↔a=b
 trans:∀ a b d,c a b<0→c b d<0→c a d<0
def cmpL {K:Type} (c:K→K→Int):List K→List K→Int
 | [],[]=>0
 | [],_::_ => -1
 | _::_,[]=>1
 | x::a,y::b=>if c x y=0 then cmpL c a b else c x y
section
variable {K:Type}{c:K→K→Int}
theorem Cmp.list (h:Cmp c):Cmp (cmpL c) where
 one:=by
   intro a
   induction a with
   | nil=>intro b; cases b<;>simp[cmpL]
   | cons x a ih =>
     intro b
     cases b with
     | nil=>simp[cmpL]
     | cons y b =>
       simp only[cmpL]
       split
       · exact ih b
       · exact h.one x y
 neg:=by
   intro a
   induction a with
   | nil=>intro b; cases b<;>simp[cmpL]
   | cons x a ih =>
     intro b
     cases b with
     | nil=>simp[cmpL]
     | cons y b =>
       simp only[cmpL]
       have:=h.neg x y
       by_cases h0:c x y=0
       · rw[if_pos h0,if_pos (by omega)]; exact ih b
       · rw[if_neg h0,if_neg (by omega)]; exact this
 zero:=by
   intro a
   induction a with
   | nil=>intro b; cases b<;>simp[cmpL]
   | cons x a ih =>
     intro b
     cases b with
     | nil=>simp[cmpL]
     | cons y b =>
       simp only[cmpL]
       by_cases h0:c x y=0
       · rw[if_pos h0,ih b,(h.zero x y).1 h0]; simp
       · rw[if_neg h0]
         constructor
         · intro k; exact absurd k h0
         · intro k; cases k; exact absurd ((h.zero x x).2 rfl) h0
 trans:=by
   intro a
   induction a with
   | nil =>
     intro b d h1 h2
     cases b with
     | nil=>simp[cmpL] at h1
     | cons y b =>
       cases d with
       | nil=>simp[cmpL] at h2
       | cons z d=>simp[cmpL]
   | cons x a ih =>
     intro b d h1 h2
     cases b with
     | nil=>simp[cmpL] at h1
     | cons y b =>
       cases d with
       | nil=>simp[cmpL] at h2
       | cons z d =>
         simp only[cmpL] at h1 h2 ⊢
         by_cases h0:c x y=0
         · rw[if_pos h0] at h1
           have e:=(h.zero x y).1 h0
           subst e
           by_cases h3:c x z=0
           · rw[if_pos h3] at h2 ⊢; exact ih b d h1 h2
           · rw[if_neg h3] at h2 ⊢; exact h2
         · rw[if_neg h0] at h1
           by_cases h3:c y z=0
           · have e:=(h.zero y z).1 h3
             subst e
             rw[if_neg h0]; exact h1
           · rw[if_neg h3] at h2
             have:=h.trans x y z h1 h2
             rw[if_neg (by omega)]; exact this
def cmpB {L:Type} (c:K→K→Int) (d:L→L→Int) (a b:K×L):Int:=if c a.1 b.1=0 then d a.2 b.2 else c a.1 b.1
theorem Cmp.pair {L:Type}{d:L→L→Int} (h:Cmp c) (k:Cmp d):Cmp (cmpB c d) where
 one a b:=by
   unfold cmpB
   split
   · exact k.one _ _
   · exact h.one _ _
 neg a b:=by
   unfold cmpB
   have:=h.neg a.1 b.1
   by_cases h0:c a.1 b.1=0
   · rw[if_pos h0,if_pos (by omega)]; exact k.neg _ _
   · rw[if_neg h0,if_neg (by omega)]; exact this
 zero a b:=by
   unfold cmpB
   obtain ⟨a1,a2⟩:=a
   obtain ⟨b1,b2⟩:=b
   simp only
   by_cases h0:c a1 b1=0
   · rw[if_pos h0,k.zero,(h.zero _ _).1 h0]; simp
   · rw[if_neg h0]
     constructor
     · intro e; exact absurd e h0
     · intro e; cases e; exact absurd ((h.zero _ _).2 rfl) h0
 trans a b e h1 h2:=by
   unfold cmpB at h1 h2 ⊢
   obtain ⟨a1,a2⟩:=a
   obtain ⟨b1,b2⟩:=b
   obtain ⟨e1,e2⟩:=e
   simp only at h1 h2 ⊢
   by_cases h0:c a1 b1=0
   · rw[if_pos h0] at h1
     have q:=(h.zero _ _).1 h0
     subst q
     by_cases h3:c a1 e1=0
     · rw[if_pos h3] at h2 ⊢; exact k.trans _ _ _ h1 h2
     · rw[if_neg h3] at h2 ⊢; exact h2
   · rw[if_neg h0] at h1
     by_cases h3:c b1 e1=0
     · have q:=(h.zero _ _).1 h3
       subst q
       rw[if_neg h0]; exact h1
     · rw[if_neg h3] at h2
       have:=h.trans _ _ _ h1 h2
       rw[if_neg (by omega)]; exact this
theorem Cmp.irr (h:Cmp c) (a:K):¬ c a a<0:=by have:=(h.zero a a).2 rfl; omega
end
section
variable {X K C:Type} (c:K→K→Int) (key:X→K) (same:X→X→Bool) (G M:X→C) (T:X→X→C) (leaf:C→K)
def ins (v:C):List C→List C
 | []=>[v]
 | e::l=>if c (leaf v) (leaf e)<0 then v::e::l else e::ins v l
def qE (a:List X):Prop:=a.Pairwise fun x y=>c (key x) (key y)<0
variable {c key same G M T leaf}
variable (hc:Cmp c) (hG:∀ x,leaf (G x)=key x) (hM:∀ x,leaf (M x)=key x) (hT:∀ x y,leaf (T x y)=key x)
include hc hG hT
include hM
end
end Go.TY
set_option linter.unusedSimpArgs false
namespace Go.TY
open Go.EM
def lZ (e:Nat) (u:Ty):TNew:={ ps:=.cons (.sl u) .unit,e:=e,t:=.sl u,fn:=fun v=>er v.1,row:=true }
theorem o9 {M e:Nat}{u:Ty} (hu:u.size=M) (hv:u.isV=true) (hc:u.closed=true):TNewOk (ko M e) (lZ e u):=by
 refine ⟨(fun h=>by cases h),fun _ _ st v r zs Γ hps hr => ?_,(fun _ h=>by cases h),fun _ h=>by cases h⟩
 obtain ⟨v,⟨⟩⟩:=v
 simp only[R,lZ] at hps
 obtain ⟨l1,l2,rfl,hx,rfl⟩:=hps
 simp only[lZ,er] at hr
 split at hr
 · rename_i hlt
   cases hr
   simp only[lZ,yX,List.append_nil]
   rcases hx with ⟨rfl,rfl⟩ | ⟨f,n,bs,rfl,hn,ha⟩
   · exact ⟨st,fun _ _=>rfl,.inl ⟨rfl,.inl rfl⟩⟩
   · cases r with
     | nil =>
       match bs,ha with
       | [],_=>exact ⟨st,fun _ _=>rfl,.inl ⟨rfl,.inr ⟨0,rfl⟩⟩⟩
     | cons x r =>
       match bs,ha with
       | a::bs,ha =>
         have hn:n=M:=by
           rcases hn with h | h
           · cases h
           · rw[h,hu]
         subst hn
         have hlen:=aU ha
         have hl2:bs.length+1<most:=by simp only[List.length_cons] at hlen hlt; omega
         refine ⟨st++[.row e u.size (a::bs)],fun q hq=>List.getElem?_append_left hq,.inr ⟨st.length,a::bs,?_,Nat.le_refl _,by simp,aG (p:=fun x a=>R Γ u x false [a]) (fun x a hx=>aS hc hx) ha⟩⟩
         simp only[ko]
         rw[if_pos ⟨trivial,hl2⟩,hu]
         rfl
 · cases hr
theorem row_one {Φ:Frame}{Γ:Ctx}{st:az}{g:Reg} (hm:MemR Φ Γ [g] st):RegR Γ st 0 g:=hm.reg 0 (by simp)
theorem rG {Φ:Frame}{Γ:Ctx}{st st':az}{g g':Reg}{r n l:Nat} (hm:MemR Φ Γ [g] st) (hst:st.length≤st'.length) (hr:r<st'.length) (hg:RegR (grown Γ 0 (r,n,l)) st' 0 g') (hΦ:∀ r' g,Φ r'=some g→st'[r']? = some g) (hd:∀ g,Φ r≠some g):MemR Φ (grown Γ 0 (r,n,l)) [g'] st':=by
 have none:∀ i y,i≠0→Γ i≠some y:=fun i y hi h=>by
   rw[hm.out i (by simp; omega)] at h; cases h
 exact hm.grow (id:=0) (by simp) hst (fun i _ _ _ hi h=>absurd h (none i _ hi)) hr (fun i _ _ _ hi h=>absurd h (none i _ hi)) hg hΦ hd
def insT {A:Type} (l:List A) (i:Int) (ys:List A):Option (List A):=if 0≤i∧i≤l.length∧ys≠[]∧l.length+ys.length<most then some (l.take i.toNat++ys++l.drop i.toNat) else none
def insR (z:Bool) (e:Nat) (t:Ty):TRaw:={ ps:=.cons (.own 0) (.cons (.int .i64) (.cons (.sl t) .unit)),ins:=[.row z e t],res:=.own 0,outs:=[.row z e t],fn:=fun v w=>(insT w.1 v.2.1 v.2.2.1).map fun l=>((),(l,())) }
theorem yb {A:Type}{l ys r:List A}{i:Int} (h:insT l i ys=some r):∃ k:Nat,i=(k:Int)∧k≤l.length∧ys≠[]∧l.length+ys.length<most∧r=l.take k++ys++l.drop k:=by
 unfold insT at h
 split at h
 · rename_i hb
   cases h
   exact ⟨i.toNat,by omega,by omega,hb.2.2.1,hb.2.2.2,rfl⟩
 · cases h
theorem yc {M e:Nat}{z:Bool}{u:Ty} (hu:u.size=M) (hv:u.isV=true) (hc:u.closed=true) (hk:u.okRow=true) (hM:M≠0):TRawOk (dH M e) (insR z e u):=by
 refine TRawOk.ofBox rfl fun Φ Γ st pv v zs r w hm hps hr => ?_
 obtain ⟨⟨⟩,i,ys,⟨⟩⟩:=pv
 obtain ⟨xs,⟨⟩⟩:=v
 simp only[insR,R] at hps
 obtain ⟨l1,l2,rfl,hown,l3,l4,rfl,rfl,l5,l6,rfl,hys,rfl⟩:=hps
 simp only[insR] at hr hm ⊢
 rw[Option.map_eq_some_iff] at hr
 obtain ⟨out,hr,hr2⟩:=hr
 cases hr2
 obtain ⟨i,rfl,hil,hne,hmost,rfl⟩:=yb hr
 · rcases hys with ⟨rfl,_⟩ | ⟨f,n,bs,rfl,hn,hb2⟩
   · exact absurd rfl hne
   · have hbl:=aU hb2
     match ys,bs,hb2,hbl,hne with
     | y::ys,b::bs,hb2,hbl,hne =>
     have hn:n=M:=by
       rcases hn with h | h
       · cases h
       · rw[h,hu]
     subst hn
     have hcl:aD (b::bs)=true:=dl (fun x a hx=>by rw[← aT]; exact bj hc hx) hb2
     have hb3:All2 (fun x a=>R (grown Γ 0 (0,0,0)) u x false [a]) (y::ys) (b::bs):=aG (p:=fun x a=>R Γ u x false [a]) (fun x a hx=>aS hc hx) hb2
     obtain ⟨k1,k2,k3,k4,k5⟩:=row_one hm
     simp only[aP] at hm ⊢
     dsimp only at k5
     rcases k5 with ⟨rfl,bz,k5,kz⟩ | ⟨r,zs,k5,k6,k7,k8⟩
     · rw[k5] at hown
       have h0:i=0:=Nat.le_zero.1 hil
       subst h0
       have hF:∀ a0,(l1=[a0])→dH n e (l1++([.int .i64 ((0:Nat):Int)]++([.tree f n (b::bs)]++[]))) st=some (a8 st e n (b::bs)):=by
         intro a0 ha
         have hlt:(b::bs).length<most:=by rw[hbl]; exact Nat.lt_of_le_of_lt (Nat.le_add_left _ _) hmost
         rcases hown with h | ⟨_,k,h⟩
         · subst h
           simp only[List.singleton_append,List.append_nil,dH]
           rw[if_pos ⟨trivial,rfl,hlt⟩]
         · subst h
           simp only[List.singleton_append,List.append_nil,dH]
           rw[if_pos ⟨trivial,rfl,hlt⟩]
       have hone:∃ a0,l1=[a0]:=by rcases hown with h | ⟨_,k,h⟩<;>exact ⟨_,h⟩
       obtain ⟨a0,ha0⟩:=hone
       refine ⟨_,_,grown Γ 0 (st.length,u.size,(y::ys).length),hF a0 ha0,?_,?_,?_⟩
       · simp only[R,grown,if_true,hbl,hu]
       · rw[show (List.take 0 ([]:List u.V)++(y::ys)++List.drop 0 ([]:List u.V))=y::ys by simp]
         refine rG hm (by simp) (by simp) ⟨hv,hc,hk,k4,.inr ⟨st.length,b::bs,by simp[grown],by simp[hu],aG (p:=fun x a=>R Γ u x false [a]) (fun x a hx=>aS hc hx) hb2,fun _ h=>by cases h⟩⟩ (fun r' g h=>by rw[List.getElem?_append_left (hm.oldlt h)]; exact hm.old r' g h) (fun g h=>Nat.lt_irrefl _ (hm.oldlt h))
       · intro j y' hj
         match j,hj with
         | 0,hj=>cases hj
         | j+1,hj=>cases hj
     · rw[k5] at hown
       subst hown
       have hal:=aU k7
       have hil:i≤xs.length:=hil
       have hrlt:=hm.lt 0 _ _ _ k5
       have hrow:EM.rowAt st r u.size xs.length=some zs:=by simp only[EM.rowAt,k6,hal,and_self,if_true]
       have hF:dH n e ([.own r u.size xs.length 0 xs.length]++([.int .i64 (i:Int)]++([.tree f n (b::bs)]++[]))) st=some (.own r u.size (xs.length+(b::bs).length) 0 (xs.length+(b::bs).length),st.set r (.row e u.size (zs.take i++(b::bs)++zs.drop i))):=by
         simp only[List.singleton_append,List.append_nil,dH]
         rw[if_pos ⟨hu,trivial,trivial,trivial,by simp only[EM.rowTy,k6],Int.natCast_nonneg _,Int.ofNat_le.2 hil,by rw[hbl]; exact hmost,hcl⟩,hrow]
         simp
       have hlen:(xs.take i++(y::ys)++xs.drop i).length=xs.length+(b::bs).length:=by
         rw[List.length_append,List.length_append,List.length_take,List.length_drop,hbl]; omega
       refine ⟨_,_,grown Γ 0 (r,u.size,xs.length+(b::bs).length),hF,?_,?_,?_⟩
       · simp only[R,grown,if_true]
       · refine rG hm (by simp) (by simpa using hrlt) ⟨hv,hc,hk,k4,.inr ⟨r,zs.take i++(b::bs)++zs.drop i,by rw[hlen]; simp[grown],List.getElem?_set_self hrlt,bU (bU (fB i ?_) ?_) (gW i ?_),fun _ h=>by simp at h⟩⟩ (fun r' g h => ?_) (fun g h=>hm.dis r g 0 _ _ h k5)
         · exact aG (p:=fun x a=>R Γ u x false [a]) (fun x a hx=>aS hc hx) k7
         · exact aG (p:=fun x a=>R Γ u x false [a]) (fun x a hx=>aS hc hx) hb2
         · exact aG (p:=fun x a=>R Γ u x false [a]) (fun x a hx=>aS hc hx) k7
         · rw[List.getElem?_set_ne (fun e'=>by subst e'; exact hm.dis _ _ 0 _ _ h k5)]
           exact hm.old r' g h
       · intro j y' hj
         match j,hj with
         | 0,hj=>cases hj
         | j+1,hj=>cases hj
end Go.TY
namespace Go.TY
section
variable {X K:Type} (c:K→K→Int) (key:X→K)
def lo (k:K) (l:List X):List X:=l.takeWhile fun x=>decide (c (key x) k<0)
def hi (k:K) (l:List X):List X:=l.dropWhile fun x=>decide (c (key x) k<0)
variable {c key}
theorem lohi {k:K}{l:List X}:lo c key k l++hi c key k l=l:=List.takeWhile_append_dropWhile
theorem nb {k:K}:∀ {l:List X},∀ x∈lo c key k l,c (key x) k<0
 | [],x,h=>by cases h
 | y::l,x,h=>by
   unfold lo at h
   rw[List.takeWhile_cons] at h
   by_cases hy:c (key y) k<0
   · rw[decide_eq_true hy] at h
     simp only[if_true] at h
     rcases List.mem_cons.1 h with rfl | h
     · exact hy
     · exact nb x h
   · rw[decide_eq_false hy] at h
     cases h
theorem yf {k:K}:∀ {l:List X}{x:X}{q:List X},hi c key k l=x::q→¬ c (key x) k<0
 | [],x,q,h=>by cases h
 | y::l,x,q,h=>by
   unfold hi at h
   rw[List.dropWhile_cons] at h
   by_cases hy:c (key y) k<0
   · rw[decide_eq_true hy] at h
     exact yf (l:=l) h
   · rw[decide_eq_false hy] at h
     cases h
     exact hy
theorem rE (hc:Cmp c) {k:K}{l:List X} (hr:qE c key l) {x:X}{q:List X} (h:hi c key k l=x::q):0≤c (key x) k∧∀ y∈q,0<c (key y) k:=by
 have h1:=yf h
 have e:lo c key k l++x::q=l:=by rw[← h]; exact lohi
 rw[← e] at hr
 have h2:=(List.pairwise_append.1 hr).2.1
 have h3:=(List.pairwise_cons.1 h2).1
 refine ⟨by omega,fun y hy => ?_⟩
 have h4:=h3 y hy
 have n1:=hc.neg (key y) k
 by_cases h5:c (key x) k=0
 · rw[← (hc.zero _ _).1 h5] at n1 ⊢
   have:=hc.neg (key x) (key y)
   omega
 · have n2:=hc.neg (key x) k
   have:=hc.trans k (key x) (key y) (by omega) h4
   omega
theorem asc {k:K}{l:List X}{h:Nat} (hh:h<l.length) (h2:h<(lo c key k l).length):c (key l[h]) k<0:=by
 have e:l[h]=(lo c key k l++hi c key k l)[h]'(by rw[lohi]; exact hh):=by simp only[lohi]
 rw[e,List.getElem_append_left h2]
 exact nb _ (List.getElem_mem _)
theorem asd (hc:Cmp c) {k:K}{l:List X} (hr:qE c key l) {h:Nat} (hh:h<l.length) (h2:(lo c key k l).length≤h):0≤c (key l[h]) k:=by
 have e:l[h]=(lo c key k l++hi c key k l)[h]'(by rw[lohi]; exact hh):=by simp only[lohi]
 rw[e,List.getElem_append_right h2]
 have hm:∀ y∈hi c key k l,0≤c (key y) k:=by
   intro y hy
   cases hq:hi c key k l with
   | nil=>rw[hq] at hy; cases hy
   | cons x q =>
     rw[hq] at hy
     obtain ⟨a1,a2⟩:=rE hc hr hq
     rcases List.mem_cons.1 hy with rfl | hy
     · exact a1
     · have:=a2 y hy; omega
 exact hm _ (List.getElem_mem _)
variable [DecidableEq X] (c key)
variable {c key}
end
end Go.TY
namespace Go.TY
open Go.EM Go.Proofs Go.Sort
def ip {A:Type} (c:A→A→Option Int) (xs:List A) (i j:Nat):Int :=
 match xs[clIx xs.length i]?,xs[clIx xs.length j]? with
 | some x,some y=>(c x y).getD 0
 | _,_=>0
def dA {A:Type} (c:A→A→Option Int) (xs:List A):List Nat:=(pdq (ltOf (ip c xs)) (Array.range xs.length) 0 xs.length (Lib.bitLen xs.length) true true).toList
open Classical in
noncomputable def mG {A:Type} (c:A→A→Option Int) (xs:List A):Option (List A) :=
 if xs=[] then some [] else if (∀ x∈xs,∀ y∈xs,∃ n,c x y=some n)∧SWO (ltOf (ip c xs))∧xs.length<4611686018427387904 then some ((dA c xs).filterMap fun i=>xs[i]?) else none
noncomputable def z6 (z:Bool) (g e:Nat) (t:Ty) (c:t.V→t.V→Option Int):TRaw:={ ps:=.cons (.own 0) (.cons (.fn g) .unit),ins:=[.row z e t],res:=.tup .unit,outs:=[.row z e t],fn:=(fun _ w=>(mG c w.1).map fun l=>((),(l,()))),stay:=true }
theorem nl:∀ {bs:List AVal}{i:Nat}{a:AVal},bs[i]? = some a→getL bs i=a
 | x::bs,0,a,h=>by simpa [getL] using h
 | x::bs,i+1,a,h=>nl (bs:=bs) (by simpa using h)
theorem lp {c:Nat→Nat→Int} (hO:SWO (ltOf c)) {n:Nat}:∀ i∈(pdq (ltOf c) (Array.range n) 0 n (Lib.bitLen n) true true).toList,i<n:=by
 intro i hi
 have perm:=(pdq_sorts (ltOf c) hO (Array.range n) 0 (Array.range n).size (Lib.bitLen (Array.range n).size) true true (Nat.zero_le _) (Nat.le_refl _) (Or.inl rfl)).1
 rw[Array.size_range] at perm
 generalize pdq (ltOf c) (Array.range n) 0 n (Lib.bitLen n) true true=d' at *
 obtain ⟨p1,_,p3⟩:=perm
 rw[Array.size_range] at p1
 have e1:(d'.extract 0 n).toList=d'.toList:=by rw[← p1]; simp
 have e2:((Array.range n).extract 0 n).toList=(Array.range n).toList:=by
   have:(Array.range n).extract 0 n=Array.range n:=by
     conv=>lhs; arg 3; rw[← Array.size_range (n:=n)]
     simp
   rw[this]
 rw[e1,e2] at p3
 simpa using p3.mem_iff.1 hi
theorem zY {Γ:Ctx}{t:Ty}{F:PFn}{c:t.V→t.V→Option Int} (hF:TOk F { ps:=.cons t (.cons t .unit),res:=.int .i64,fn:=fun v=>c v.1 v.2.1 }) {xs:List t.V}{bs:List AVal} (ha:All2 (fun x a=>R Γ t x false [a]) xs bs)
   (hc:t.closed=true) (hall:∀ x∈xs,∀ y∈xs,∃ n,c x y=some n):(∀ i j,i<bs.length→j<bs.length→∃ n,F [getL bs i,getL bs j]=some (.int .i64 n))∧(xs≠[]→kj F bs=ip c xs):=by
 have hlen:=aU ha
 have at_:∀ i j,i<xs.length→j<xs.length→∃ x y n,xs[i]? = some x∧xs[j]? = some y∧c x y=some n∧F [getL bs i,getL bs j]=some (.int .i64 n):=by
   intro i j hi hj
   obtain ⟨a,a1,a2⟩:=eR ha (List.getElem?_eq_getElem hi)
   obtain ⟨b,b1,b2⟩:=eR ha (List.getElem?_eq_getElem hj)
   obtain ⟨n,hn⟩:=hall _ (List.getElem_mem hi) _ (List.getElem_mem hj)
   obtain ⟨r,r1,r2⟩:=hF.run (xs[i],xs[j],()) n [a,b] hn ⟨[a],[b],rfl,aS hc a2,[b],[],rfl,aS hc b2,rfl⟩
   simp only[R] at r2
   cases r2
   exact ⟨_,_,n,List.getElem?_eq_getElem hi,List.getElem?_eq_getElem hj,hn,by rw[nl a1,nl b1]; exact r1⟩
 refine ⟨fun i j hi hj => ?_,fun hne => ?_⟩
 · obtain ⟨x,y,n,_,_,_,h⟩:=at_ i j (by omega) (by omega)
   exact ⟨n,h⟩
 · have h0:0<xs.length:=List.length_pos_iff.2 hne
   funext i j
   obtain ⟨x,y,n,h1,h2,h3,h4⟩:=at_ _ _ (dM (i:=i) h0) (dM (i:=j) h0)
   unfold kj ip
   rw[hlen,h1,h2,h4]
   simp only[h3,Option.getD_some]
theorem om {A:Type}{p:A→AVal→Prop}{xs:List A}{bs:List AVal} (ha:All2 p xs bs):∀ {l:List Nat},(∀ i∈l,i<xs.length)→All2 p (l.filterMap fun i=>xs[i]?) (l.map (getL bs))
 | [],_=>trivial
 | i::l,h=>by
   have hi:=h i (List.mem_cons_self ..)
   obtain ⟨a,a1,a2⟩:=eR ha (List.getElem?_eq_getElem hi)
   rw[List.filterMap_cons,List.getElem?_eq_getElem hi,List.map_cons,nl a1]
   exact ⟨a2,om ha (fun j hj=>h j (List.mem_cons_of_mem _ hj))⟩
theorem zZ {M e g:Nat}{z:Bool}{u:Ty}{F:PFn}{c:u.V→u.V→Option Int} (hu:u.size=M) (hv:u.isV=true) (hc:u.closed=true) (hk:u.okRow=true) (hF:TOk F { ps:=.cons u (.cons u .unit),res:=.int .i64,fn:=fun v=>c v.1 v.2.1 }):TRawOk (nQ F g M e) (z6 z g e u c):=by
 refine ⟨fun Φ Γ st pv v zs r w hm hps hr => ?_⟩
 obtain ⟨⟨⟩,⟨⟩,⟨⟩⟩:=pv
 obtain ⟨xs,⟨⟩⟩:=v
 simp only[z6,R] at hps
 obtain ⟨l1,l2,rfl,hown,l3,l4,rfl,rfl,rfl⟩:=hps
 simp only[z6] at hr hm ⊢
 rw[Option.map_eq_some_iff] at hr
 obtain ⟨out,hr,hr2⟩:=hr
 cases hr2
 obtain ⟨k1,k2,k3,k4,k5⟩:=row_one hm
 simp only[aP] at hm ⊢
 dsimp only at k5
 have hR:R Γ (.tup .unit) () false [.tup []]:=⟨[],rfl,rfl⟩
 rcases k5 with ⟨rfl,bz,k5,kz⟩ | ⟨r,zs,k5,k6,k7,k8⟩
 · rw[k5] at hown
   have:out=[]:=by
     unfold mG at hr
     rw[if_pos rfl] at hr
     cases hr; rfl
   subst this
   rcases hown with rfl | ⟨_,k,rfl⟩
   · exact ⟨_,st,Γ,by simp only[List.singleton_append,List.append_nil,nQ],hR,hm,fun _ _ _ h=>h⟩
   · exact ⟨_,st,Γ,by simp only[List.singleton_append,List.append_nil,nQ],hR,hm,fun _ _ _ h=>h⟩
 · rw[k5] at hown
   subst hown
   have hal:=aU k7
   have hrlt:=hm.lt 0 _ _ _ k5
   have hrow:EM.rowAt st r u.size xs.length=some zs:=by simp only[EM.rowAt,k6,hal,and_self,if_true]
   by_cases hx:xs=[]
   · subst hx
     have:out=[]:=by
       unfold mG at hr
       rw[if_pos rfl] at hr
       cases hr; rfl
     subst this
     refine ⟨_,st,Γ,?_,hR,hm,fun _ _ _ h=>h⟩
     simp only[List.singleton_append,List.append_nil,nQ]
     rw[if_pos ⟨hu,trivial,trivial,by simp only[EM.rowTy,k6],trivial⟩,hrow]
     simp
   · have h0:0<xs.length:=List.length_pos_iff.2 hx
     unfold mG at hr
     rw[if_neg hx] at hr
     split at hr
     · rename_i hs
       obtain ⟨hall,hO,hbig⟩:=hs
       cases hr
       obtain ⟨htab,hcmp⟩:=zY hF k7 hc hall
       have hcmp:=hcmp hx
       have hcl:aD zs=true:=dl (fun x a hx=>by rw[← aT]; exact bj hc hx) k7
       have hix:nR F zs=dA c xs:=by unfold nR dA; rw[hcmp,hal]
       have hmem:∀ i∈dA c xs,i<xs.length:=lp hO
       have hp:=om k7 hmem
       have hlen:=aU hp
       have hll:((dA c xs).map (getL zs)).length=xs.length:=by
         rw[List.length_map]
         have perm:=(pdq_sorts (ltOf (ip c xs)) hO (Array.range xs.length) 0 (Array.range xs.length).size (Lib.bitLen (Array.range xs.length).size) true true (Nat.zero_le _) (Nat.le_refl _) (Or.inl rfl)).1.1
         rw[Array.size_range] at perm
         simpa [dA] using perm
       refine ⟨_,st.set r (.row e u.size ((nR F zs).map (getL zs))),Γ,?_,hR,?_,fun _ _ _ h=>h⟩
       · simp only[List.singleton_append,List.append_nil,nQ]
         rw[if_pos ⟨hu,trivial,trivial,by simp only[EM.rowTy,k6],trivial⟩,hrow]
         simp only[Option.bind_some]
         rw[if_neg (by omega),if_pos ⟨⟨hcl,htab,by rw[hcmp]; exact hO⟩,hbig⟩]
       · rw[hix]
         have:=hm.set (id:=0) (g:=.row z e u ((dA c xs).filterMap fun i=>xs[i]?)) (ag:=.row e u.size ((dA c xs).map (getL zs))) (by simp) k5 ⟨hv,hc,hk,k4,.inr ⟨r,_,by rw[k5,← hlen,hll],List.getElem?_set_self hrlt,hp,fun hz e'=>hx (by
           rw[e'] at hlen
           rw[hlen] at hll
           exact List.length_eq_zero_iff.1 hll.symm)⟩⟩
         exact this
     · cases hr
end Go.TY
namespace Go.TY
open Go.EM Go.Proofs Go.Sort
section
variable {A K:Type}{c:K→K→Int}{key:A→K}
theorem apC (hc:Cmp c) {cf:Nat→Nat→Int}{k:Nat→K} (h:∀ i j,cf i j=c (k i) (k j)):SWO (ltOf cf) where
 irrefl x:=by
   unfold ltOf
   rw[h]
   exact decide_eq_false (hc.irr _)
 trans x y z h1 h2:=by
   unfold ltOf at *
   simp only[h,decide_eq_true_eq] at *
   exact hc.trans _ _ _ h1 h2
 ntrans x y z h1 h2:=by
   unfold ltOf at *
   simp only[h,decide_eq_false_iff_not] at *
   intro h3
   have n1:=hc.neg (k x) (k y)
   by_cases h0:c (k y) (k x)=0
   · have e:=(hc.zero _ _).1 h0
     rw[e] at h2
     exact h2 h3
   · have:=hc.trans (k y) (k x) (k z) (by omega) h3
     exact h2 this
theorem sU (xs:List A):(List.range xs.length).filterMap (fun i=>xs[i]?)=xs:=by
 have key:∀ (l pre:List A),(List.range' pre.length l.length).filterMap (fun i=>(pre++l)[i]?)=l:=by
   intro l
   induction l with
   | nil=>intro pre; rfl
   | cons x l ih =>
     intro pre
     rw[List.length_cons,List.range'_succ,List.filterMap_cons]
     have e:(pre++x::l)[pre.length]? = some x:=by simp
     rw[e]
     have:=ih (pre++[x])
     simp only[List.length_append,List.length_cons,List.length_nil,Nat.zero_add,List.append_assoc,List.singleton_append] at this
     rw[this]
 have:=key xs []
 rw[List.range_eq_range']
 simpa using this
theorem wU (hc:Cmp c) {cmp:A→A→Option Int}{xs:List A} (hcmp:∀ x∈xs,∀ y∈xs,cmp x y=some (c (key x) (key y))) (hb:xs.length<4611686018427387904):∃ l,mG cmp xs=some l∧l.Perm xs∧l.Pairwise fun x y=>c (key x) (key y)≤0:=by
 by_cases h0:xs=[]
 · subst h0
   exact ⟨[],by unfold mG; rw[if_pos rfl],List.Perm.refl _,List.Pairwise.nil⟩
 · have hn:0<xs.length:=List.length_pos_iff.2 h0
   have hix:∀ i j,ip cmp xs i j=c (key (xs[clIx xs.length i]'(dM hn))) (key (xs[clIx xs.length j]'(dM hn))):=by
     intro i j
     unfold ip
     rw[List.getElem?_eq_getElem (dM hn),List.getElem?_eq_getElem (dM hn)]
     simp only[hcmp _ (List.getElem_mem _) _ (List.getElem_mem _),Option.getD_some]
   have hO:SWO (ltOf (ip cmp xs)):=apC hc (k:=fun i=>key (xs[clIx xs.length i]'(dM hn))) hix
   have hs:mG cmp xs=some ((dA cmp xs).filterMap fun i=>xs[i]?):=by
     unfold mG
     rw[if_neg h0,if_pos ⟨fun x hx y hy=>⟨_,hcmp x hx y hy⟩,hO,hb⟩]
   refine ⟨_,hs,?_,?_⟩
   · have perm:=(pdq_sorts (ltOf (ip cmp xs)) hO (Array.range xs.length) 0 (Array.range xs.length).size (Lib.bitLen (Array.range xs.length).size) true true (Nat.zero_le _) (Nat.le_refl _) (Or.inl rfl)).1
     rw[Array.size_range] at perm
     unfold dA
     generalize pdq (ltOf (ip cmp xs)) (Array.range xs.length) 0 xs.length (Lib.bitLen xs.length) true true=d' at *
     obtain ⟨p1,_,p3⟩:=perm
     rw[Array.size_range] at p1
     have e1:(d'.extract 0 xs.length).toList=d'.toList:=by rw[← p1]; simp
     have e2:((Array.range xs.length).extract 0 xs.length).toList=List.range xs.length:=by
       have:(Array.range xs.length).extract 0 xs.length=Array.range xs.length:=by
         conv=>lhs; arg 3; rw[← Array.size_range (n:=xs.length)]
         simp
       rw[this]
       simp
     rw[e1,e2] at p3
     refine (p3.filterMap _).trans ?_
     have:(List.range xs.length).filterMap (fun i=>xs[i]?)=xs:=sU xs
     rw[this]
   · rw[List.pairwise_filterMap]
     have sorted:=(pdq_sorts (ltOf (ip cmp xs)) hO (Array.range xs.length) 0 (Array.range xs.length).size (Lib.bitLen (Array.range xs.length).size) true true (Nat.zero_le _) (Nat.le_refl _) (Or.inl rfl)).2
     have hmem:=lp hO (n:=xs.length)
     have hsz:=(pdq_sorts (ltOf (ip cmp xs)) hO (Array.range xs.length) 0 (Array.range xs.length).size (Lib.bitLen (Array.range xs.length).size) true true (Nat.zero_le _) (Nat.le_refl _) (Or.inl rfl)).1.1
     rw[Array.size_range] at sorted hsz
     unfold dA
     generalize pdq (ltOf (ip cmp xs)) (Array.range xs.length) 0 xs.length (Lib.bitLen xs.length) true true=d' at *
     rw[List.pairwise_iff_getElem]
     intro i j hi hj hij a ha b hb'
     have hi':i<d'.size:=by simpa using hi
     have hj':j<d'.size:=by simpa using hj
     have hsn:=sorted i j (Nat.zero_le _) hij (by omega)
     rw[getElem!_pos d' j hj',getElem!_pos d' i hi'] at hsn
     unfold ltOf at hsn
     rw[hix] at hsn
     have q1:=hmem _ (List.getElem_mem hi)
     have q2:=hmem _ (List.getElem_mem hj)
     simp only[Array.getElem_toList] at ha hb' q1 q2
     rw[List.getElem?_eq_getElem q1] at ha
     rw[List.getElem?_eq_getElem q2] at hb'
     cases ha; cases hb'
     have c1:clIx xs.length d'[i]=d'[i]:=if_pos q1
     have c2:clIx xs.length d'[j]=d'[j]:=if_pos q2
     simp only[c1,c2,decide_eq_false_iff_not] at hsn
     have:=hc.neg (key xs[d'[j]]) (key xs[d'[i]])
     omega
end
end Go.TY
namespace Go.TY
open Go.EM
section
variable (P:Program) (E:Env) (h:Hints) (ET:TEnv) (H:TH)
end
section
variable {P:Program}{E:Env}{ET:TEnv}{h:Hints}{H:TH}
end
end Go.TY
namespace Go.TY
open Go.EM Go.Proofs Go.Sort
end Go.TY
namespace Go.TY
open Go.EM
section
variable {A:Type} [DecidableEq A]
def sqzS (o:List A) (x:A):List A:=if o.getLast? = some x then o else o++[x]
def sqz (l:List A):List A:=l.foldl sqzS []
variable {K:Type}{c:K→K→Int}{key:A→K}
end
section
variable {A:Type}{c:A→A→Int}
end
section
variable {A B:Type}
end
end Go.TY
namespace Go.TY
open Go.EM
def abi (ps:Ty) (z:Bool) (e:Nat) (u:Ty) (fn:ps.V→jpM [.row z e u]→Option (Unit×jpM [.row z e u])):TRaw:={ ps:=ps,ins:=[.row z e u],res:=.sl u,outs:=[.gone],fn:=fun v w=>(fn v w).map fun q=>(q.2.1,()) }
theorem aaJ {F:SFn}{ps u:Ty}{z:Bool}{e:Nat}{fn:ps.V→jpM [.row z e u]→Option (Unit×jpM [.row z e u])} (h:TRawOk F { ps:=ps,ins:=[.row z e u],res:=.own 0,outs:=[.row z e u],fn:=fn }):TRawOk (qg F) (abi ps z e u fn):=by
 refine ⟨fun Φ Γ st pv v bs r w h1 h2 h3 => ?_⟩
 simp only[abi,Option.map_eq_some_iff] at h3
 obtain ⟨q,hq,hq2⟩:=h3
 obtain ⟨a,st1,Γ1,g1,g2,g3,g4⟩:=h.run Φ Γ st pv v bs q.1 q.2 h1 h2 hq
 cases hq2
 simp only[R] at g2
 have hreg:=g3.at 0
 have hm0:getM (aP [] [.row z e u] q.2 0) 0 = .row z e u q.2.1:=rfl
 rw[hm0] at hreg
 obtain ⟨c1,c2,c3,c4,h5⟩:=hreg
 rcases h5 with ⟨hx,b,h5,_⟩ | ⟨r0,zs,h5,h6,h7,_⟩
 · have hk : MemR Φ Γ1 [.gone] st1 := {
     reg:=fun j hj=>by
       have:j=0:=by simpa using hj
       subst this; trivial
     out:=fun j hj=>g3.out j hj
     inj:=g3.inj
     lt:=g3.lt
     old:=g3.old
     dis:=g3.dis }
   rw[h5] at g2
   rcases g2 with g2 | ⟨_,n,g2⟩
   · cases g2
     exact ⟨.nil,st1,Γ1,by simp only[qg,g1,Option.bind_some,tm],.inl ⟨hx,rfl⟩,hk,fun j y hb hy=>by
       rcases hb with hb | hb
       · cases j<;>cases hb
       · cases hb⟩
   · cases g2
     exact ⟨.tree true n [],st1,Γ1,by simp only[qg,g1,Option.bind_some,tm],.inr ⟨true,n,[],rfl,.inl hx,by show All2 _ q.2.1 _; rw[hx]; trivial⟩,hk,fun j y hb hy=>by
       rcases hb with hb | hb
       · cases j<;>cases hb
       · cases hb⟩
 · rw[h5] at g2
   cases g2
   have hal:=aU h7
   have hrow:EM.rowAt st1 r0 u.size q.2.1.length=some zs:=by simp only[EM.rowAt,h6,hal,and_self,if_true]
   have hset:=g3.set (id:=0) (g:=.gone) (ag:=.dead) (by show 0<1; omega) h5 trivial
   refine ⟨.tree false u.size zs, st1.set r0 .dead, Γ1, ?_, .inr ⟨false, u.size, zs, rfl, .inr rfl, h7⟩, hset, fun j y hb hy => by
       rcases hb with hb | hb
       · cases j<;>cases hb
       · cases hb⟩
   simp only[qg,g1,Option.bind_some,tm]
   rw[if_pos (by omega),hrow]
   simp only[Option.map_some,List.drop_zero]
   rw[List.take_of_length_le (by omega)]
end Go.TY
namespace Go.TY
open Go.EM
def aaG {A:Type} (n:Int):Option (List A):=if 0≤n∧n<most then some [] else none
def yg (e:Nat) (u:Ty):TNew:={ ps:=.cons .nilsl (.cons (.int .i64) .unit),e:=e,t:=.sl u,fn:=fun v=>aaG v.2.1,row:=true }
theorem aaH {M e:Nat}{u:Ty} (hu:u.size=M):TNewOk (qe M e) (yg e u):=by
 refine ⟨(fun h=>by cases h),fun _ _ st v r zs Γ hps hr => ?_,(fun _ h=>by cases h),fun _ h=>by cases h⟩
 obtain ⟨⟨⟩,n,⟨⟩⟩:=v
 simp only[R,yg] at hps
 obtain ⟨l1,l2,rfl,rfl,l3,l4,rfl,rfl,rfl⟩:=hps
 simp only[yg,aaG] at hr
 split at hr
 · rename_i h
   cases hr
   have h1:0≤n:=h.1
   have h2:n<most:=h.2
   simp only[yg,yX,List.append_nil,List.cons_append,List.nil_append]
   by_cases h0:n=0
   · subst h0
     exact ⟨st,fun _ _=>rfl,.inl ⟨by trivial,.inl (by simp[qe])⟩⟩
   · refine ⟨st++[.row e u.size []],fun q hq=>List.getElem?_append_left hq,.inr ⟨st.length,[],?_,Nat.le_refl _,by simp,trivial⟩⟩
     simp only[qe]
     rw[if_neg h0,if_pos ⟨Int.lt_iff_le_and_ne.2 ⟨h1,Ne.symm h0⟩,h2⟩,hu]
     rfl
 · cases hr
end Go.TY
namespace Go.TY
open Go.EM
section
variable (P:Program) (E:Env) (h:Hints) (ET:TEnv) (H:TH)
def rO (σ:TS) (m:Mem) (rs:List ResultVar) (e:Nat) (u:Ty):Option (List u.V) :=
 match resT P σ m rs with
 | some [⟨.own i,_⟩]=>match getM m i with
   | .row _ e' u' xs=>cond (Nat.beq i 0&&Nat.beq e' e) (cK (.sl u') xs (.sl u) fun x=>x) none
   | _=>none
 | some [⟨.vw i,v⟩]=>match getM m i with
   | .row _ e' u' xs=>cond (Nat.beq i 0&&Nat.beq e' e) ((cK (.sl u') xs (.sl u) fun x=>x).bind fun xs=>cond xs.isEmpty none (if v.1=0∧v.2≤xs.length then some (xs.take v.2) else none)) none
   | _=>none
 | _=>none
noncomputable def cutY (fn:Func) (ps:Ty) (z:Bool) (e:Nat) (u:Ty) (v:ps.V) (w:List u.V):Option (List u.V) :=
 cond (Nat.beq (rowLen ps) (fn.params.size+fn.nfree)&&rowV ps&&u.closed&&co fn.ntmps (fn.body.getD .skip)&&Nat.ble (fn.params.size+fn.nfree) fn.ntmps)
   (match fn.body with
    | some c=>DT P E h ET H c (List u.V) (gz ps v 0) [.row z e u w] (fun x σ m=>match x with
       | .normal=>rO P σ m fn.results.toList e u
       | .ret=>rO P σ m fn.results.toList e u
       | _=>none)
    | none=>none) none
end
section
variable {P:Program}{E:Env}{ET:TEnv}{h:Hints}{H:TH}
theorem ahs (hE:EnvT E ET) {fn:Func}{ps u:Ty}{z:Bool}{e:Nat}{fnT:ps.V→List u.V→Option (List u.V)} (hrun:cutY P E h ET H fn ps z e u=fnT) :
   TRawOk (cutS (runF P E h fn)) { ps:=ps,ins:=[.row z e u],res:=.own 0,outs:=[.row false e u],fn:=fun v w=>(fnT v w.1).map fun l=>((),(l,())) }:=by
 refine TRawOk.ofBox rfl fun Φ Γ st pv v bs r w hmem hps hr => ?_
 obtain ⟨xs,⟨⟩⟩:=v
 simp only at hr hps hmem
 rw[Option.map_eq_some_iff] at hr
 obtain ⟨out,hr,hr2⟩:=hr
 cases hr2
 rw[← hrun] at hr
 unfold cutY at hr
 cases hc:(Nat.beq (rowLen ps) (fn.params.size+fn.nfree)&&rowV ps&&u.closed&&co fn.ntmps (fn.body.getD .skip)&&Nat.ble (fn.params.size+fn.nfree) fn.ntmps) with
 | false=>rw[hc] at hr; cases hr
 | true =>
   rw[hc,cond_true] at hr
   simp only[Bool.and_eq_true,Nat.beq_eq] at hc
   obtain ⟨⟨⟨⟨c1,c2⟩,c3⟩,c9⟩,c10⟩:=hc
   split at hr
   · rename_i c hb
     have hlen:=(eD (n:=0) (k:=0) c2 hps).1
     have hslot:bV Γ (gz ps pv 0) (dh (List.range (fn.params.size+fn.nfree)) 0 bs):=by
       intro k w hw
       obtain ⟨g1,g2,g3,g4⟩:=(eD (n:=0) (k:=k) c2 hps).2 w hw
       refine ⟨g1,?_⟩
       rw[List.range_eq_range',fH _ _ _ _ (by omega) (by omega)]
       rw[Nat.sub_zero] at g3
       exact g3
     obtain ⟨x,σ1,m1,σA1,st1,Γ1,g1,g2,g3,g4,g5,g6⟩:=kL hE c hslot hmem hr
     have hend:rO P σ1 m1 fn.results.toList e u=some out∧(x = .normal∨x = .ret):=by
       cases x with
       | normal=>exact ⟨g1,.inl rfl⟩
       | ret=>exact ⟨g1,.inr rfl⟩
       | exit i=>cases g1
     obtain ⟨he,hee⟩:=hend
     have hrunF:∀ av,resV P σA1 st1 fn.results.toList=some av→runF P E h fn bs st=some (av,st1):=by
       intro av hv
       unfold runF
       have:Nat.beq bs.length (fn.params.size+fn.nfree)=true:=by rw[Nat.beq_eq]; omega
       rw[hb] at c9
       simp only[Option.getD_some] at c9
       rw[this,hb]
       simp only[cond_true,Option.getD_some,c9,c10,Bool.and_self]
       rw[g6]
       rcases hee with rfl | rfl<;>simp only[hv,Option.map_some]
     -- what lies behind
     have dead:∀ r0 n l j,Γ1 j=some (.inr (r0,n,l))→∀ (g':AReg) r g,Φ r=some g→(st1.set r0 .dead++[g'])[r]? = some g:=fun r0 n l j hj g' r g hg=>by
       have hlt:r<st1.length:=by
         rcases Nat.lt_or_ge r st1.length with h | h
         · exact h
         · have:=g3.old r g hg
           rw[List.getElem?_eq_none h] at this; cases this
       rw[List.getElem?_append_left (by simpa using hlt),List.getElem?_set_ne (fun e'=>by subst e'; exact g3.dis _ _ j _ _ hg hj)]
       exact g3.old r g hg
     have here : ∀ (r0 n l j k : Nat) (zs : List AVal) (out : List u.V), Γ1 j = some (.inr (r0, n, l)) → u.isV = true → u.closed = true → u.okRow = true → u.size ≠ 0 → All2 (fun x a => R Γ1 u x false [a]) out zs → k = out.length →
         MemR Φ (fun j=>if j=0 then some (.inr (st1.length,u.size,k)) else none) (aP [] [.row false e u] (out,()) 0) (st1.set r0 .dead++[.row e u.size zs]):=fun r0 n l j k zs out hj v1 v2 v3 v4 ha hk=>by
       subst hk
       refine ⟨fun id hid => ?_,fun id hid => ?_,fun i j r n l n' l' h1 h2 => ?_,fun i r n l h => ?_,fun r g hg=>dead r0 n l j hj _ r g hg,fun r g i n l hg h => ?_⟩
       · have:id=0:=by simp[aP] at hid; omega
         subst this
         exact ⟨v1,v2,v3,v4,.inr ⟨st1.length,zs,by simp,by simp,aG (p:=fun x a=>R Γ1 u x false [a]) (fun x a hx=>aS v2 hx) ha,fun h=>by cases h⟩⟩
       · have:id≠0:=by simp[aP] at hid; omega
         simp only[if_neg this]
       · split at h1
         · split at h2
           · omega
           · cases h2
         · cases h1
       · split at h
         · cases h; simp
         · cases h
       · split at h
         · cases h
           have:=g3.old _ _ hg
           rw[List.getElem?_eq_none (Nat.le_refl _)] at this; cases this
         · cases h
     have empty:∀ (b:Bool),u.isV=true→u.closed=true→u.okRow=true→u.size≠0→MemR Φ (fun j=>if j=0 then some (.inl b) else none) (aP [] [.row false e u] (([]:List u.V),()) 0) st1:=fun b v1 v2 v3 v4=>by
       refine ⟨fun id hid => ?_,fun id hid => ?_,fun i j r n l n' l' h1 h2 => ?_,fun i r n l h => ?_,g3.old,fun r g i n l hg h => ?_⟩
       · have:id=0:=by simp[aP] at hid; omega
         subst this
         exact ⟨v1,v2,v3,v4,.inl ⟨rfl,b,by simp,fun h=>by cases h⟩⟩
       · have:id≠0:=by simp[aP] at hid; omega
         simp only[if_neg this]
       · split at h1<;>cases h1
       · split at h<;>cases h
       · split at h<;>cases h
     unfold rO at he
     split at he
     · rename_i i _ hl
       obtain ⟨as',q1,q2⟩:=jF (P:=P) g2 g3 hl
       split at he
       · rename_i z' e' u' ys hg
         cases hi0:(Nat.beq i 0&&Nat.beq e' e) with
         | false=>rw[hi0] at he; cases he
         | true =>
           rw[hi0,cond_true] at he
           simp only[Bool.and_eq_true,Nat.beq_eq] at hi0
           obtain ⟨_,rfl⟩:=hi0
           obtain ⟨ee,hxx⟩:=aW he
           cases ee
           subst hxx
           have hreg:=g3.at i
           rw[hg] at hreg
           obtain ⟨v1,v2,v3,v4,h5⟩:=hreg
           match as',q2 with
           | [a],q2 =>
             have q3:=q2.1.2
             simp only[R] at q3
             rcases h5 with ⟨rfl,b,h5,_⟩ | ⟨r0,zs,h5,h6,h7,_⟩
             · simp only[h5] at q3
               refine ⟨a,st1,_,?_,?_,empty b v1 v2 v3 v4,(fun j y hb _=>by cases j<;>cases hb)⟩
               · simp only[cutS,hrunF _ (eB q1),Option.bind_some]
                 rcases q3 with q3 | ⟨_,n,q3⟩<;>cases q3<;>rfl
               · simp only[R,if_true]
                 exact q3
             · simp only[h5] at q3
               cases q3
               have hal:=aU h7
               have hrow:EM.rowAt st1 r0 u.size out.length=some zs:=by simp only[EM.rowAt,h6,hal,and_self,if_true]
               refine ⟨.own st1.length u.size out.length 0 out.length,st1.set r0 .dead++[.row e' u.size (zs.take out.length)],_,?_,?_,here r0 _ _ i out.length (zs.take out.length) out h5 v1 v2 v3 v4 (by rw[List.take_of_length_le (by omega)]; exact h7) rfl,(fun j y hb _=>by cases j<;>cases hb)⟩
               · simp only[cutS,hrunF _ (eB q1),Option.bind_some,cutA]
                 rw[if_pos ⟨trivial,Nat.le_refl _⟩,hrow]
                 simp only[Option.map_some,EM.rowTy,h6]
               · simp only[R,if_true]
       · cases he
     · rename_i i v hl
       obtain ⟨as',q1,q2⟩:=jF (P:=P) g2 g3 hl
       split at he
       · rename_i z' e' u' ys hg
         cases hi0:(Nat.beq i 0&&Nat.beq e' e) with
         | false=>rw[hi0] at he; cases he
         | true =>
           rw[hi0,cond_true,Option.bind_eq_some_iff] at he
           simp only[Bool.and_eq_true,Nat.beq_eq] at hi0
           obtain ⟨_,rfl⟩:=hi0
           obtain ⟨ys',he1,he⟩:=he
           obtain ⟨ee,hxx⟩:=aW he1
           cases ee
           subst hxx
           cases hem:ys'.isEmpty with
           | true=>rw[hem] at he; cases he
           | false =>
           rw[hem,cond_false] at he
           obtain ⟨⟨hv0,hle⟩,rfl⟩:=cG he
           have hreg:=g3.at i
           rw[hg] at hreg
           obtain ⟨v1,v2,v3,v4,h5⟩:=hreg
           match as',q2 with
           | [a],q2 =>
             have q3:=q2.1.2
             simp only[R] at q3
             obtain ⟨r1,n1,l1,q4,q5⟩:=q3
             cases q5
             rcases h5 with ⟨rfl,_⟩ | ⟨r0,zs,h5,h6,h7,_⟩
             · cases hem
             · rw[h5] at q4
               cases q4
               have hal:=aU h7
               have hrow:EM.rowAt st1 r1 u.size ys'.length=some zs:=by simp only[EM.rowAt,h6,hal,and_self,if_true]
               have htl:(ys'.take v.2).length=v.2:=by rw[List.length_take]; omega
               refine ⟨.own st1.length u.size v.2 0 v.2,st1.set r1 .dead++[.row e' u.size (zs.take v.2)],_,?_,?_,here r1 _ _ i v.2 (zs.take v.2) (ys'.take v.2) h5 v1 v2 v3 v4 (fB _ h7) htl.symm,(fun j y hb _=>by cases j<;>cases hb)⟩
               · simp only[cutS,hrunF _ (eB q1),Option.bind_some,cutA]
                 rw[if_pos ⟨hv0,hle⟩,hrow]
                 simp only[Option.map_some,EM.rowTy,h6]
               · simp only[R,if_true]
       · cases he
     · cases he
   · cases hr
end
end Go.TY
