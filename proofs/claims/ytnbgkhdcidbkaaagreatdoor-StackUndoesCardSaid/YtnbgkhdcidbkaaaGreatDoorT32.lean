import Derived.Test.YtnbgkhdcidbkaaaGreatDoorT14
import Derived.Test.YtnbgkhdcidbkaaaGreatDoorE32
set_option linter.unusedVariables false
namespace Go.TY
open Go.EM
end Go.TY
namespace Go.TY
open Go.EM
end Go.TY
namespace Go.TY
open Go.EM
def cmpT (a b:List UInt8):Option Int:=some (Lib.compareBytes a b)
def xV (s:List UInt8):Option (Int×Int×Unit):=some ((Lib.decodeGo ⟨s.toArray⟩).1,(Lib.decodeGo ⟨s.toArray⟩).2,())
def kh:TFn:={ ps:=.cons .str .unit,res:=.tup (.cons (.int .i32) (.cons (.int .i64) .unit)),fn:=fun v=>xV v.1 }
theorem tC:TOk nB kh:=⟨rfl,rfl,rfl,fun v r xs hr hps=>by
 simp only[R,kh] at hps
 obtain ⟨l1,l2,rfl,rfl,rfl⟩:=hps
 cases hr
 exact ⟨_,rfl,_,rfl,_,_,rfl,rfl,_,[],rfl,rfl,rfl⟩⟩
end Go.TY
namespace Go.TY
open Go.EM
def ex {A:Type} (l:List A):Option (List A):=if l.length<most then some l else none
def eP (u:Ty):TFn:={ ps:=.cons (.sl u) .unit,res:=.sl u,fn:=fun v=>ex v.1 }
theorem kl {M:Nat}{u:Ty} (hu:u.size=M) (hv:u.isV=true) (hc:u.closed=true):TOk (iK M) (eP u):=by
 have hk:(Ty.sl u).closed=true:=by simp only[Ty.closed,hv,hc,Bool.and_self]
 refine ⟨by simp only[eP,Ty.closed,hv,hc,Bool.and_self],hk,rfl,fun v r xs hr hps => ?_⟩
 obtain ⟨v,⟨⟩⟩:=v
 simp only[R,eP] at hps
 obtain ⟨l1,l2,rfl,hx,rfl⟩:=hps
 simp only[eP,ex] at hr
 split at hr
 · rename_i hlt
   cases hr
   rcases hx with ⟨rfl,rfl⟩ | ⟨f,n,bs,rfl,hn,ha⟩
   · exact ⟨_,rfl,.inr ⟨false,0,[],rfl,.inl rfl,trivial⟩⟩
   · cases r with
     | nil =>
       match bs,ha with
       | [],_=>exact ⟨.tree false 0 [],rfl,.inr ⟨false,0,[],rfl,.inl rfl,trivial⟩⟩
     | cons x r =>
       match bs,ha with
       | a::bs,ha =>
         have hn:n=M:=by
           rcases hn with h | h
           · cases h
           · rw[h,hu]
         subst hn
         have hlen:=be ha
         have hl2:bs.length+1<most:=by simp only[List.length_cons] at hlen hlt; omega
         exact ⟨.tree false n (a::bs),by simp only[iK,List.singleton_append]; rw[if_pos ⟨trivial,hl2⟩],.inr ⟨false,n,a::bs,rfl,.inr hu.symm,ha⟩⟩
 · cases hr
end Go.TY
namespace Go.TY
open Go.EM
section
variable {A R X S:Type}
def eL (step:Nat→X→S→S⊕R) (fin:S→R):Nat→List X→S→R
 | _,[],s=>fin s
 | i,x::l,s=>match step i x s with
   | .inl s'=>eL step fin (i+1) l s'
   | .inr r=>r
theorem di {f:A→Option (A⊕R)}{l:List X} (enc:Nat→S→A) (step:Nat→X→S→S⊕R) (fin:S→R) (inv:Nat→S→Prop)
   (hturn:∀ (i:Nat) (h:i<l.length) (s:S),inv i s→(∃ s',step i l[i] s = .inl s'∧f (enc i s)=some (.inl (enc (i+1) s'))∧inv (i+1) s')∨(∃ r,step i l[i] s = .inr r∧f (enc i s)=some (.inr r)))
   (hend:∀ s,inv l.length s→f (enc l.length s)=some (.inr (fin s))):∀ s,inv 0 s→aK f (enc 0 s)=some (eL step fin 0 l s):=by
 have key:∀ (k i:Nat) (s:S),l.length-i≤k→i≤l.length→inv i s→aK f (enc i s)=some (eL step fin i (l.drop i) s):=by
   intro k
   induction k with
   | zero =>
     intro i s hk hi hv
     have:i=l.length:=by omega
     subst this
     rw[List.drop_eq_nil_of_le (Nat.le_refl _),aJ (hend s hv)]
     rfl
   | succ k ih =>
     intro i s hk hi hv
     by_cases hlt:i<l.length
     · rw[List.drop_eq_getElem_cons hlt]
       simp only[eL]
       rcases hturn i hlt s hv with ⟨s',h1,h2,h3⟩ | ⟨r,h1,h2⟩
       · rw[aP h2,ih (i+1) s' (by omega) (by omega) h3,h1]
       · rw[aJ h2,h1]
     · have:i=l.length:=by omega
       subst this
       rw[List.drop_eq_nil_of_le (Nat.le_refl _),aJ (hend s hv)]
       rfl
 intro s hv
 have:=key l.length 0 s (by omega) (by omega) hv
 simpa using this
theorem eG {f:A→Option (A⊕R)}{l:List X} (enc:Nat→A) (p:X→Bool) (yes no:R)
   (hturn:∀ (i:Nat) (h:i<l.length),f (enc i)=some (if p l[i] then .inl (enc (i+1)) else .inr no)) (hend:f (enc l.length)=some (.inr yes)):aK f (enc 0)=some (if l.all p then yes else no):=by
 have:=di (S:=Unit) (fun i _=>enc i) (fun _ x _=>if p x then .inl () else .inr no) (fun _=>yes) (fun _ _=>True) (l:=l) (f:=f) (fun i h s _=>by
   by_cases hp:p l[i]=true
   · exact .inl ⟨(),by rw[if_pos hp],by rw[hturn i h,if_pos hp],trivial⟩
   · exact .inr ⟨no,by rw[if_neg hp],by rw[hturn i h,if_neg hp]⟩) (fun s _=>hend) () trivial
 rw[this]
 congr 1
 have gen:∀ (l:List X) (i:Nat),eL (S:=Unit) (fun _ x _=>if p x then .inl () else .inr no) (fun _=>yes) i l ()=if l.all p then yes else no:=by
   intro l
   induction l with
   | nil=>intro i; rfl
   | cons x l ih =>
     intro i
     have h:=ih (i+1)
     by_cases hp:p x=true
     · simp only[eL,hp,if_true]
       rw[h]
       simp[hp]
     · simp[eL,hp]
 exact gen l 0
def all2 {Y:Type} (q:X→Y→Bool):List X→List Y→Bool
 | [],[]=>true
 | x::l,y::m=>q x y&&all2 q l m
 | _,_=>false
open Classical in
theorem jU {f:A→Option (A⊕R)} (n:Nat) (enc:Nat→A) (p:Nat→Bool) (yes no:R)
   (hturn:∀ (i:Nat) (h:i<n),f (enc i)=some (if p i=true then .inl (enc (i+1)) else .inr no)) (hend:f (enc n)=some (.inr yes)):aK f (enc 0)=some (if (∀ i,i<n→p i=true) then yes else no):=by
 have key:∀ (k i:Nat),n-i≤k→i≤n→aK f (enc i)=some (if (∀ j,i≤j→j<n→p j=true) then yes else no):=by
   intro k
   induction k with
   | zero =>
     intro i hk hi
     have e:i=n:=by omega
     subst e
     rw[aJ hend,if_pos (fun j h1 h2=>by omega)]
   | succ k ih =>
     intro i hk hi
     by_cases hlt:i<n
     · have ht:=hturn i hlt
       by_cases hq:p i=true
       · rw[if_pos hq] at ht
         rw[aP ht,ih (i+1) (by omega) (by omega)]
         by_cases ha:∀ j,i+1≤j→j<n→p j=true
         · rw [if_pos ha, if_pos (fun j h1 h2 => by
             rcases Nat.lt_or_eq_of_le h1 with h | h
             · exact ha j h h2
             · rw[← h]; exact hq)]
         · rw[if_neg ha,if_neg (fun hb=>ha (fun j h1 h2=>hb j (by omega) h2))]
       · rw[if_neg hq] at ht
         rw[aJ ht,if_neg (fun hb=>hq (hb i (Nat.le_refl _) hlt))]
     · have e:i=n:=by omega
       subst e
       rw[aJ hend,if_pos (fun j h1 h2=>by omega)]
 have:=key n 0 (by omega) (by omega)
 rw[this]
 congr 1
 by_cases ha:∀ i,i<n→p i=true
 · rw[if_pos ha,if_pos (fun j _ h2=>ha j h2)]
 · rw[if_neg ha,if_neg (fun hb=>ha (fun j h2=>hb j (Nat.zero_le _) h2))]
end
end Go.TY
set_option linter.unusedSectionVars false
namespace Go.TY
structure Cmp {K:Type} (c:K→K→Int):Prop where
 one:∀ a b,-1≤c a b∧c a b≤1
 neg:∀ a b,c b a = - c a b
 zero:∀ a b,c a b=0↔a=b
 trans:∀ a b d,c a b<0→c b d<0→c a d<0
def cmpL {K:Type} (c:K→K→Int):List K→List K→Int
 | [],[]=>0
 | [],_::_ => -1
 | _::_,[]=>1
 | x::a,y::b=>if c x y=0 then cmpL c a b else c x y
section
variable {K:Type}{c:K→K→Int}
theorem Cmp.list (h:Cmp c):Cmp (cmpL c) where
 one:=by
   intro a
   induction a with
   | nil=>intro b; cases b<;>simp[cmpL]
   | cons x a ih =>
     intro b
     cases b with
     | nil=>simp[cmpL]
     | cons y b =>
       simp only[cmpL]
       split
       · exact ih b
       · exact h.one x y
 neg:=by
   intro a
   induction a with
   | nil=>intro b; cases b<;>simp[cmpL]
   | cons x a ih =>
     intro b
     cases b with
     | nil=>simp[cmpL]
     | cons y b =>
       simp only[cmpL]
       have:=h.neg x y
       by_cases h0:c x y=0
       · rw[if_pos h0,if_pos (by omega)]; exact ih b
       · rw[if_neg h0,if_neg (by omega)]; exact this
 zero:=by
   intro a
   induction a with
   | nil=>intro b; cases b<;>simp[cmpL]
   | cons x a ih =>
     intro b
     cases b with
     | nil=>simp[cmpL]
     | cons y b =>
       simp only[cmpL]
       by_cases h0:c x y=0
       · rw[if_pos h0,ih b,(h.zero x y).1 h0]; simp
       · rw[if_neg h0]
         constructor
         · intro k; exact absurd k h0
         · intro k; cases k; exact absurd ((h.zero x x).2 rfl) h0
 trans:=by
   intro a
   induction a with
   | nil =>
     intro b d h1 h2
     cases b with
     | nil=>simp[cmpL] at h1
     | cons y b =>
       cases d with
       | nil=>simp[cmpL] at h2
       | cons z d=>simp[cmpL]
   | cons x a ih =>
     intro b d h1 h2
     cases b with
     | nil=>simp[cmpL] at h1
     | cons y b =>
       cases d with
       | nil=>simp[cmpL] at h2
       | cons z d =>
         simp only[cmpL] at h1 h2 ⊢
         by_cases h0:c x y=0
         · rw[if_pos h0] at h1
           have e:=(h.zero x y).1 h0
           subst e
           by_cases h3:c x z=0
           · rw[if_pos h3] at h2 ⊢; exact ih b d h1 h2
           · rw[if_neg h3] at h2 ⊢; exact h2
         · rw[if_neg h0] at h1
           by_cases h3:c y z=0
           · have e:=(h.zero y z).1 h3
             subst e
             rw[if_neg h0]; exact h1
           · rw[if_neg h3] at h2
             have:=h.trans x y z h1 h2
             rw[if_neg (by omega)]; exact this
def cmpB {L:Type} (c:K→K→Int) (d:L→L→Int) (a b:K×L):Int:=if c a.1 b.1=0 then d a.2 b.2 else c a.1 b.1
theorem Cmp.pair {L:Type}{d:L→L→Int} (h:Cmp c) (k:Cmp d):Cmp (cmpB c d) where
 one a b:=by
   unfold cmpB
   split
   · exact k.one _ _
   · exact h.one _ _
 neg a b:=by
   unfold cmpB
   have:=h.neg a.1 b.1
   by_cases h0:c a.1 b.1=0
   · rw[if_pos h0,if_pos (by omega)]; exact k.neg _ _
   · rw[if_neg h0,if_neg (by omega)]; exact this
 zero a b:=by
   unfold cmpB
   obtain ⟨a1,a2⟩:=a
   obtain ⟨b1,b2⟩:=b
   simp only
   by_cases h0:c a1 b1=0
   · rw[if_pos h0,k.zero,(h.zero _ _).1 h0]; simp
   · rw[if_neg h0]
     constructor
     · intro e; exact absurd e h0
     · intro e; cases e; exact absurd ((h.zero _ _).2 rfl) h0
 trans a b e h1 h2:=by
   unfold cmpB at h1 h2 ⊢
   obtain ⟨a1,a2⟩:=a
   obtain ⟨b1,b2⟩:=b
   obtain ⟨e1,e2⟩:=e
   simp only at h1 h2 ⊢
   by_cases h0:c a1 b1=0
   · rw[if_pos h0] at h1
     have q:=(h.zero _ _).1 h0
     subst q
     by_cases h3:c a1 e1=0
     · rw[if_pos h3] at h2 ⊢; exact k.trans _ _ _ h1 h2
     · rw[if_neg h3] at h2 ⊢; exact h2
   · rw[if_neg h0] at h1
     by_cases h3:c b1 e1=0
     · have q:=(h.zero _ _).1 h3
       subst q
       rw[if_neg h0]; exact h1
     · rw[if_neg h3] at h2
       have:=h.trans _ _ _ h1 h2
       rw[if_neg (by omega)]; exact this
end
theorem rM {A B:Type}{f g:A→List B}:∀ {l:List A},(∀ x∈l,f x=g x)→l.flatMap f=l.flatMap g
 | [],_=>rfl
 | x::l,h=>by rw[List.flatMap_cons,List.flatMap_cons,h x (List.mem_cons_self ..),rM (fun y hy=>h y (List.mem_cons_of_mem _ hy))]
section
variable {X K C:Type} (c:K→K→Int) (key:X→K) (same:X→X→Bool) (G M:X→C) (T:X→X→C) (leaf:C→K)
def ins (v:C):List C→List C
 | []=>[v]
 | e::l=>if c (leaf v) (leaf e)<0 then v::e::l else e::ins v l
def tK (a:List X):Prop:=a.Pairwise fun x y=>c (key x) (key y)<0
variable {c key same G M T leaf}
variable (hc:Cmp c) (hG:∀ x,leaf (G x)=key x) (hM:∀ x,leaf (M x)=key x) (hT:∀ x y,leaf (T x y)=key x)
include hc hG hT
include hM
end
end Go.TY
set_option linter.unusedSimpArgs false
namespace Go.TY
open Go.EM
def mb (e:Nat) (u:Ty):TNew:={ ps:=.cons (.sl u) .unit,e:=e,t:=.sl u,fn:=fun v=>ex v.1,row:=true }
theorem pc {M e:Nat}{u:Ty} (hu:u.size=M) (hv:u.isV=true) (hc:u.closed=true):TNewOk (ko M e) (mb e u):=by
 refine ⟨(fun h=>by cases h),fun _ _ st v r zs Γ hps hr => ?_,(fun _ h=>by cases h),fun _ h=>by cases h⟩
 obtain ⟨v,⟨⟩⟩:=v
 simp only[R,mb] at hps
 obtain ⟨l1,l2,rfl,hx,rfl⟩:=hps
 simp only[mb,ex] at hr
 split at hr
 · rename_i hlt
   cases hr
   simp only[mb,aaU,List.append_nil]
   rcases hx with ⟨rfl,rfl⟩ | ⟨f,n,bs,rfl,hn,ha⟩
   · exact ⟨st,fun _ _=>rfl,.inl ⟨rfl,.inl rfl⟩⟩
   · cases r with
     | nil =>
       match bs,ha with
       | [],_=>exact ⟨st,fun _ _=>rfl,.inl ⟨rfl,.inr ⟨0,rfl⟩⟩⟩
     | cons x r =>
       match bs,ha with
       | a::bs,ha =>
         have hn:n=M:=by
           rcases hn with h | h
           · cases h
           · rw[h,hu]
         subst hn
         have hlen:=be ha
         have hl2:bs.length+1<most:=by simp only[List.length_cons] at hlen hlt; omega
         refine ⟨st++[.row e u.size (a::bs)],fun q hq=>List.getElem?_append_left hq,.inr ⟨st.length,a::bs,?_,Nat.le_refl _,by simp,aG (p:=fun x a=>R Γ u x false [a]) (fun x a hx=>aQ hc hx) ha⟩⟩
         simp only[ko]
         rw[if_pos ⟨trivial,hl2⟩,hu]
         rfl
 · cases hr
theorem row_one {Φ:Frame}{Γ:Ctx}{st:au}{g:Reg} (hm:MemR Φ Γ [g] st):RegR Γ st 0 g:=hm.reg 0 (by simp)
theorem rI {Φ:Frame}{Γ:Ctx}{st st':au}{g g':Reg}{r n l:Nat} (hm:MemR Φ Γ [g] st) (hst:st.length≤st'.length) (hr:r<st'.length) (hg:RegR (grown Γ 0 (r,n,l)) st' 0 g') (hΦ:∀ r' g,Φ r'=some g→st'[r']? = some g) (hd:∀ g,Φ r≠some g):MemR Φ (grown Γ 0 (r,n,l)) [g'] st':=by
 have none:∀ i y,i≠0→Γ i≠some y:=fun i y hi h=>by
   rw[hm.out i (by simp; omega)] at h; cases h
 exact hm.grow (id:=0) (by simp) hst (fun i _ _ _ hi h=>absurd h (none i _ hi)) hr (fun i _ _ _ hi h=>absurd h (none i _ hi)) hg hΦ hd
def insT {A:Type} (l:List A) (i:Int) (ys:List A):Option (List A):=if 0≤i∧i≤l.length∧ys≠[]∧l.length+ys.length<most then some (l.take i.toNat++ys++l.drop i.toNat) else none
def insR (z:Bool) (e:Nat) (t:Ty):TRaw:={ ps:=.cons (.own 0) (.cons (.int .i64) (.cons (.sl t) .unit)),ins:=[.row z e t],res:=.own 0,outs:=[.row z e t],fn:=fun v w=>(insT w.1 v.2.1 v.2.2.1).map fun l=>((),(l,())) }
theorem xy {A:Type}{l ys r:List A}{i:Int} (h:insT l i ys=some r):∃ k:Nat,i=(k:Int)∧k≤l.length∧ys≠[]∧l.length+ys.length<most∧r=l.take k++ys++l.drop k:=by
 unfold insT at h
 split at h
 · rename_i hb
   cases h
   exact ⟨i.toNat,by omega,by omega,hb.2.2.1,hb.2.2.2,rfl⟩
 · cases h
theorem xz {M e:Nat}{z:Bool}{u:Ty} (hu:u.size=M) (hv:u.isV=true) (hc:u.closed=true) (hk:u.okRow=true) (hM:M≠0):TRawOk (dM M e) (insR z e u):=by
 refine TRawOk.ofBox rfl fun Φ Γ st pv v zs r w hm hps hr => ?_
 obtain ⟨⟨⟩,i,ys,⟨⟩⟩:=pv
 obtain ⟨xs,⟨⟩⟩:=v
 simp only[insR,R] at hps
 obtain ⟨l1,l2,rfl,hown,l3,l4,rfl,rfl,l5,l6,rfl,hys,rfl⟩:=hps
 simp only[insR] at hr hm ⊢
 rw[Option.map_eq_some_iff] at hr
 obtain ⟨out,hr,hr2⟩:=hr
 cases hr2
 obtain ⟨i,rfl,hil,hne,hmost,rfl⟩:=xy hr
 · rcases hys with ⟨rfl,_⟩ | ⟨f,n,bs,rfl,hn,hb2⟩
   · exact absurd rfl hne
   · have hbl:=be hb2
     match ys,bs,hb2,hbl,hne with
     | y::ys,b::bs,hb2,hbl,hne =>
     have hn:n=M:=by
       rcases hn with h | h
       · cases h
       · rw[h,hu]
     subst hn
     have hcl:aC (b::bs)=true:=d3 (fun x a hx=>by rw[← aS]; exact bm hc hx) hb2
     have hb3:All2 (fun x a=>R (grown Γ 0 (0,0,0)) u x false [a]) (y::ys) (b::bs):=aG (p:=fun x a=>R Γ u x false [a]) (fun x a hx=>aQ hc hx) hb2
     obtain ⟨k1,k2,k3,k4,k5⟩:=row_one hm
     simp only[aM] at hm ⊢
     dsimp only at k5
     rcases k5 with ⟨rfl,bz,k5,kz⟩ | ⟨r,zs,k5,k6,k7,k8⟩
     · rw[k5] at hown
       have h0:i=0:=Nat.le_zero.1 hil
       subst h0
       have hF:∀ a0,(l1=[a0])→dM n e (l1++([.int .i64 ((0:Nat):Int)]++([.tree f n (b::bs)]++[]))) st=some (bb st e n (b::bs)):=by
         intro a0 ha
         have hlt:(b::bs).length<most:=by rw[hbl]; exact Nat.lt_of_le_of_lt (Nat.le_add_left _ _) hmost
         rcases hown with h | ⟨_,k,h⟩
         · subst h
           simp only[List.singleton_append,List.append_nil,dM]
           rw[if_pos ⟨trivial,rfl,hlt⟩]
         · subst h
           simp only[List.singleton_append,List.append_nil,dM]
           rw[if_pos ⟨trivial,rfl,hlt⟩]
       have hone:∃ a0,l1=[a0]:=by rcases hown with h | ⟨_,k,h⟩<;>exact ⟨_,h⟩
       obtain ⟨a0,ha0⟩:=hone
       refine ⟨_,_,grown Γ 0 (st.length,u.size,(y::ys).length),hF a0 ha0,?_,?_,?_⟩
       · simp only[R,grown,if_true,hbl,hu]
       · rw[show (List.take 0 ([]:List u.V)++(y::ys)++List.drop 0 ([]:List u.V))=y::ys by simp]
         refine rI hm (by simp) (by simp) ⟨hv,hc,hk,k4,.inr ⟨st.length,b::bs,by simp[grown],by simp[hu],aG (p:=fun x a=>R Γ u x false [a]) (fun x a hx=>aQ hc hx) hb2,fun _ h=>by cases h⟩⟩ (fun r' g h=>by rw[List.getElem?_append_left (hm.oldlt h)]; exact hm.old r' g h) (fun g h=>Nat.lt_irrefl _ (hm.oldlt h))
       · intro j y' hj
         match j,hj with
         | 0,hj=>cases hj
         | j+1,hj=>cases hj
     · rw[k5] at hown
       subst hown
       have hal:=be k7
       have hil:i≤xs.length:=hil
       have hrlt:=hm.lt 0 _ _ _ k5
       have hrow:EM.rowAt st r u.size xs.length=some zs:=by simp only[EM.rowAt,k6,hal,and_self,if_true]
       have hF:dM n e ([.own r u.size xs.length 0 xs.length]++([.int .i64 (i:Int)]++([.tree f n (b::bs)]++[]))) st=some (.own r u.size (xs.length+(b::bs).length) 0 (xs.length+(b::bs).length),st.set r (.row e u.size (zs.take i++(b::bs)++zs.drop i))):=by
         simp only[List.singleton_append,List.append_nil,dM]
         rw[if_pos ⟨hu,trivial,trivial,trivial,by simp only[EM.rowTy,k6],Int.natCast_nonneg _,Int.ofNat_le.2 hil,by rw[hbl]; exact hmost,hcl⟩,hrow]
         simp
       have hlen:(xs.take i++(y::ys)++xs.drop i).length=xs.length+(b::bs).length:=by
         rw[List.length_append,List.length_append,List.length_take,List.length_drop,hbl]; omega
       refine ⟨_,_,grown Γ 0 (r,u.size,xs.length+(b::bs).length),hF,?_,?_,?_⟩
       · simp only[R,grown,if_true]
       · refine rI hm (by simp) (by simpa using hrlt) ⟨hv,hc,hk,k4,.inr ⟨r,zs.take i++(b::bs)++zs.drop i,by rw[hlen]; simp[grown],List.getElem?_set_self hrlt,bW (bW (gV i ?_) ?_) (gW i ?_),fun _ h=>by simp at h⟩⟩ (fun r' g h => ?_) (fun g h=>hm.dis r g 0 _ _ h k5)
         · exact aG (p:=fun x a=>R Γ u x false [a]) (fun x a hx=>aQ hc hx) k7
         · exact aG (p:=fun x a=>R Γ u x false [a]) (fun x a hx=>aQ hc hx) hb2
         · exact aG (p:=fun x a=>R Γ u x false [a]) (fun x a hx=>aQ hc hx) k7
         · rw[List.getElem?_set_ne (fun e'=>by subst e'; exact hm.dis _ _ 0 _ _ h k5)]
           exact hm.old r' g h
       · intro j y' hj
         match j,hj with
         | 0,hj=>cases hj
         | j+1,hj=>cases hj
end Go.TY
namespace Go.TY
section
variable {X K:Type} (c:K→K→Int) (key:X→K)
def lo (k:K) (l:List X):List X:=l.takeWhile fun x=>decide (c (key x) k<0)
def hi (k:K) (l:List X):List X:=l.dropWhile fun x=>decide (c (key x) k<0)
variable {c key}
theorem lohi {k:K}{l:List X}:lo c key k l++hi c key k l=l:=List.takeWhile_append_dropWhile
theorem nh {k:K}:∀ {l:List X},∀ x∈lo c key k l,c (key x) k<0
 | [],x,h=>by cases h
 | y::l,x,h=>by
   unfold lo at h
   rw[List.takeWhile_cons] at h
   by_cases hy:c (key y) k<0
   · rw[decide_eq_true hy] at h
     simp only[if_true] at h
     rcases List.mem_cons.1 h with rfl | h
     · exact hy
     · exact nh x h
   · rw[decide_eq_false hy] at h
     cases h
theorem xC {k:K}:∀ {l:List X}{x:X}{q:List X},hi c key k l=x::q→¬ c (key x) k<0
 | [],x,q,h=>by cases h
 | y::l,x,q,h=>by
   unfold hi at h
   rw[List.dropWhile_cons] at h
   by_cases hy:c (key y) k<0
   · rw[decide_eq_true hy] at h
     exact xC (l:=l) h
   · rw[decide_eq_false hy] at h
     cases h
     exact hy
theorem rC (hc:Cmp c) {k:K}{l:List X} (hr:tK c key l) {x:X}{q:List X} (h:hi c key k l=x::q):0≤c (key x) k∧∀ y∈q,0<c (key y) k:=by
 have h1:=xC h
 have e:lo c key k l++x::q=l:=by rw[← h]; exact lohi
 rw[← e] at hr
 have h2:=(List.pairwise_append.1 hr).2.1
 have h3:=(List.pairwise_cons.1 h2).1
 refine ⟨by omega,fun y hy => ?_⟩
 have h4:=h3 y hy
 have n1:=hc.neg (key y) k
 by_cases h5:c (key x) k=0
 · rw[← (hc.zero _ _).1 h5] at n1 ⊢
   have:=hc.neg (key x) (key y)
   omega
 · have n2:=hc.neg (key x) k
   have:=hc.trans k (key x) (key y) (by omega) h4
   omega
theorem apN {k:K}{l:List X}{h:Nat} (hh:h<l.length) (h2:h<(lo c key k l).length):c (key l[h]) k<0:=by
 have e:l[h]=(lo c key k l++hi c key k l)[h]'(by rw[lohi]; exact hh):=by simp only[lohi]
 rw[e,List.getElem_append_left h2]
 exact nh _ (List.getElem_mem _)
theorem apO (hc:Cmp c) {k:K}{l:List X} (hr:tK c key l) {h:Nat} (hh:h<l.length) (h2:(lo c key k l).length≤h):0≤c (key l[h]) k:=by
 have e:l[h]=(lo c key k l++hi c key k l)[h]'(by rw[lohi]; exact hh):=by simp only[lohi]
 rw[e,List.getElem_append_right h2]
 have hm:∀ y∈hi c key k l,0≤c (key y) k:=by
   intro y hy
   cases hq:hi c key k l with
   | nil=>rw[hq] at hy; cases hy
   | cons x q =>
     rw[hq] at hy
     obtain ⟨a1,a2⟩:=rC hc hr hq
     rcases List.mem_cons.1 hy with rfl | hy
     · exact a1
     · have:=a2 y hy; omega
 exact hm _ (List.getElem_mem _)
variable [DecidableEq X] (c key)
variable {c key}
end
end Go.TY
namespace Go.TY
open Go.EM Go.Proofs Go.Sort
end Go.TY
namespace Go.TY
open Go.EM Go.Proofs Go.Sort
section
variable {A K:Type}{c:K→K→Int}{key:A→K}
end
end Go.TY
namespace Go.TY
open Go.EM
section
variable (P:Program) (E:Env) (h:Hints) (ET:TEnv) (H:TH)
end
section
variable {P:Program}{E:Env}{ET:TEnv}{h:Hints}{H:TH}
end
end Go.TY
namespace Go.TY
open Go.EM Go.Proofs Go.Sort
end Go.TY
namespace Go.TY
open Go.EM
section
variable {A:Type} [DecidableEq A]
def sqzS (o:List A) (x:A):List A:=if o.getLast? = some x then o else o++[x]
def sqz (l:List A):List A:=l.foldl sqzS []
variable {K:Type}{c:K→K→Int}{key:A→K}
end
section
variable {A:Type}{c:A→A→Int}
end
section
variable {A B:Type}
end
end Go.TY
namespace Go.TY
open Go.EM
def aaM (ps:Ty) (z:Bool) (e:Nat) (u:Ty) (fn:ps.V→jpM [.row z e u]→Option (Unit×jpM [.row z e u])):TRaw:={ ps:=ps,ins:=[.row z e u],res:=.sl u,outs:=[.gone],fn:=fun v w=>(fn v w).map fun q=>(q.2.1,()) }
theorem z7 {F:SFn}{ps u:Ty}{z:Bool}{e:Nat}{fn:ps.V→jpM [.row z e u]→Option (Unit×jpM [.row z e u])} (h:TRawOk F { ps:=ps,ins:=[.row z e u],res:=.own 0,outs:=[.row z e u],fn:=fn }):TRawOk (pS F) (aaM ps z e u fn):=by
 refine ⟨fun Φ Γ st pv v bs r w h1 h2 h3 => ?_⟩
 simp only[aaM,Option.map_eq_some_iff] at h3
 obtain ⟨q,hq,hq2⟩:=h3
 obtain ⟨a,st1,Γ1,g1,g2,g3,g4⟩:=h.run Φ Γ st pv v bs q.1 q.2 h1 h2 hq
 cases hq2
 simp only[R] at g2
 have hreg:=g3.at 0
 have hm0:getM (aM [] [.row z e u] q.2 0) 0 = .row z e u q.2.1:=rfl
 rw[hm0] at hreg
 obtain ⟨c1,c2,c3,c4,h5⟩:=hreg
 rcases h5 with ⟨hx,b,h5,_⟩ | ⟨r0,zs,h5,h6,h7,_⟩
 · have hk : MemR Φ Γ1 [.gone] st1 := {
     reg:=fun j hj=>by
       have:j=0:=by simpa using hj
       subst this; trivial
     out:=fun j hj=>g3.out j hj
     inj:=g3.inj
     lt:=g3.lt
     old:=g3.old
     dis:=g3.dis }
   rw[h5] at g2
   rcases g2 with g2 | ⟨_,n,g2⟩
   · cases g2
     exact ⟨.nil,st1,Γ1,by simp only[pS,g1,Option.bind_some,tl],.inl ⟨hx,rfl⟩,hk,fun j y hb hy=>by
       rcases hb with hb | hb
       · cases j<;>cases hb
       · cases hb⟩
   · cases g2
     exact ⟨.tree true n [],st1,Γ1,by simp only[pS,g1,Option.bind_some,tl],.inr ⟨true,n,[],rfl,.inl hx,by show All2 _ q.2.1 _; rw[hx]; trivial⟩,hk,fun j y hb hy=>by
       rcases hb with hb | hb
       · cases j<;>cases hb
       · cases hb⟩
 · rw[h5] at g2
   cases g2
   have hal:=be h7
   have hrow:EM.rowAt st1 r0 u.size q.2.1.length=some zs:=by simp only[EM.rowAt,h6,hal,and_self,if_true]
   have hset:=g3.set (id:=0) (g:=.gone) (ag:=.dead) (by show 0<1; omega) h5 trivial
   refine ⟨.tree false u.size zs, st1.set r0 .dead, Γ1, ?_, .inr ⟨false, u.size, zs, rfl, .inr rfl, h7⟩, hset, fun j y hb hy => by
       rcases hb with hb | hb
       · cases j<;>cases hb
       · cases hb⟩
   simp only[pS,g1,Option.bind_some,tl]
   rw[if_pos (by omega),hrow]
   simp only[Option.map_some,List.drop_zero]
   rw[List.take_of_length_le (by omega)]
end Go.TY
