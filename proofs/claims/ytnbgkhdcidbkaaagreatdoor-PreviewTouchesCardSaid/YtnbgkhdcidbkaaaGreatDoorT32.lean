import Derived.Test.YtnbgkhdcidbkaaaGreatDoorT14
import Derived.Test.YtnbgkhdcidbkaaaGreatDoorE32
set_option linter.unusedVariables false
namespace Go.TY
open Go.EM
def itoa (n:Int):Option (List UInt8):=if -9223372036854775808≤n∧n≤9223372036854775807 then some (Lib.itoa n) else none
def xf:TFn:={ ps:=.cons (.int .i64) .unit,res:=.str,fn:=fun v=>itoa v.1 }
theorem am7:TOk afV xf:=⟨rfl,rfl,rfl,fun v r xs hr hps=>by
 simp only[R,xf] at hps
 obtain ⟨l1,l2,rfl,rfl,rfl⟩:=hps
 simp only[xf,itoa] at hr
 split at hr
 · rename_i hn
   cases hr
   exact ⟨.str (Lib.itoa v.1),if_pos hn,rfl⟩
 · cases hr⟩
end Go.TY
namespace Go.TY
open Go.EM
end Go.TY
namespace Go.TY
open Go.EM
def cmpT (a b:List UInt8):Option Int:=some (Lib.compareBytes a b)
def adU:TFn:={ ps:=.cons .str (.cons .str .unit),res:=.int .i64,fn:=fun v=>cmpT v.1 v.2.1 }
theorem anz:TOk cmpF adU:=⟨rfl,rfl,rfl,fun v r xs hr hps=>by
 simp only[R,adU] at hps
 obtain ⟨l1,l2,rfl,rfl,l3,l4,rfl,rfl,rfl⟩:=hps
 cases hr
 exact ⟨_,rfl,rfl⟩⟩
end Go.TY
namespace Go.TY
open Go.EM
def fE {A:Type} (l:List A):Option (List A):=if l.length<most then some l else none
def gV (u:Ty):TFn:={ ps:=.cons (.sl u) .unit,res:=.sl u,fn:=fun v=>fE v.1 }
theorem td {M:Nat}{u:Ty} (hu:u.size=M) (hv:u.isV=true) (hc:u.closed=true):TOk (mS M) (gV u):=by
 have hk:(Ty.sl u).closed=true:=by simp only[Ty.closed,hv,hc,Bool.and_self]
 refine ⟨by simp only[gV,Ty.closed,hv,hc,Bool.and_self],hk,rfl,fun v r xs hr hps => ?_⟩
 obtain ⟨v,⟨⟩⟩:=v
 simp only[R,gV] at hps
 obtain ⟨l1,l2,rfl,hx,rfl⟩:=hps
 simp only[gV,fE] at hr
 split at hr
 · rename_i hlt
   cases hr
   rcases hx with ⟨rfl,rfl⟩ | ⟨f,n,bs,rfl,hn,ha⟩
   · exact ⟨_,rfl,.inr ⟨false,0,[],rfl,.inl rfl,trivial⟩⟩
   · cases r with
     | nil =>
       match bs,ha with
       | [],_=>exact ⟨.tree false 0 [],rfl,.inr ⟨false,0,[],rfl,.inl rfl,trivial⟩⟩
     | cons x r =>
       match bs,ha with
       | a::bs,ha =>
         have hn:n=M:=by
           rcases hn with h | h
           · cases h
           · rw[h,hu]
         subst hn
         have hlen:=aW ha
         have hl2:bs.length+1<most:=by simp only[List.length_cons] at hlen hlt; omega
         exact ⟨.tree false n (a::bs),by simp only[mS,List.singleton_append]; rw[if_pos ⟨trivial,hl2⟩],.inr ⟨false,n,a::bs,rfl,.inr hu.symm,ha⟩⟩
 · cases hr
def afT (l:List (List UInt8)) (sep:List UInt8):Option (List UInt8):=if l.length≤140737488355328∧(Lib.join l sep).length≤140737488355328 then some (Lib.join l sep) else none
def qe:TFn:={ ps:=.cons (.sl .str) (.cons .str .unit),res:=.str,fn:=fun v=>afT v.1 v.2.1 }
theorem agP {Γ:Ctx}:∀ {v:List (List UInt8)}{bs:List AVal},All2 (fun x a=>R Γ .str x false [a]) v bs→uf bs=some v
 | [],[],_=>rfl
 | x::v,a::bs,h=>by
   have h1:=agp h.1
   subst h1
   simp only[uf,agP h.2,Option.map_some]
 | [],_::_,h=>h.elim
 | _::_,[],h=>h.elim
theorem afS:TOk adj qe:=by
 refine ⟨rfl,rfl,rfl,fun v r xs hr hps => ?_⟩
 obtain ⟨v,sep,⟨⟩⟩:=v
 simp only[R,qe] at hps
 obtain ⟨l1,l2,rfl,hx,l3,l4,rfl,rfl,rfl⟩:=hps
 simp only[qe,afT] at hr
 split at hr
 · rename_i hb
   cases hr
   rcases hx with ⟨rfl,rfl⟩ | ⟨f,n,bs,rfl,hn,ha⟩
   · exact ⟨_,rfl,rfl⟩
   · cases v with
     | nil =>
       match bs,ha with
       | [],_=>exact ⟨_,rfl,rfl⟩
     | cons x v =>
       match bs,ha with
       | a::bs,ha =>
         have hn:n=1:=by
           rcases hn with h | h
           · cases h
           · exact h
         have hs:=agP (Γ:=Γ0) ha
         refine ⟨.str (Lib.join (x::v) sep),?_,rfl⟩
         simp only[adj,List.singleton_append]
         rw[if_pos hn,hs,Option.bind_some,if_pos hb]
 · cases hr
end Go.TY
namespace Go.TY
open Go.EM
section
variable {A R X S:Type}
def fB (step:Nat→X→S→S⊕R) (fin:S→R):Nat→List X→S→R
 | _,[],s=>fin s
 | i,x::l,s=>match step i x s with
   | .inl s'=>fB step fin (i+1) l s'
   | .inr r=>r
theorem bE {f:A→Option (A⊕R)}{l:List X} (enc:Nat→S→A) (step:Nat→X→S→S⊕R) (fin:S→R) (inv:Nat→S→Prop)
   (hturn:∀ (i:Nat) (h:i<l.length) (s:S),inv i s→(∃ s',step i l[i] s = .inl s'∧f (enc i s)=some (.inl (enc (i+1) s'))∧inv (i+1) s')∨(∃ r,step i l[i] s = .inr r∧f (enc i s)=some (.inr r)))
   (hend:∀ s,inv l.length s→f (enc l.length s)=some (.inr (fin s))):∀ s,inv 0 s→aI f (enc 0 s)=some (fB step fin 0 l s):=by
 have key:∀ (k i:Nat) (s:S),l.length-i≤k→i≤l.length→inv i s→aI f (enc i s)=some (fB step fin i (l.drop i) s):=by
   intro k
   induction k with
   | zero =>
     intro i s hk hi hv
     have:i=l.length:=by omega
     subst this
     rw[List.drop_eq_nil_of_le (Nat.le_refl _),aD (hend s hv)]
     rfl
   | succ k ih =>
     intro i s hk hi hv
     by_cases hlt:i<l.length
     · rw[List.drop_eq_getElem_cons hlt]
       simp only[fB]
       rcases hturn i hlt s hv with ⟨s',h1,h2,h3⟩ | ⟨r,h1,h2⟩
       · rw[aH h2,ih (i+1) s' (by omega) (by omega) h3,h1]
       · rw[aD h2,h1]
     · have:i=l.length:=by omega
       subst this
       rw[List.drop_eq_nil_of_le (Nat.le_refl _),aD (hend s hv)]
       rfl
 intro s hv
 have:=key l.length 0 s (by omega) (by omega) hv
 simpa using this
theorem jd {f:A→Option (A⊕R)}{l:List X} (enc:Nat→A) (p:X→Bool) (yes no:R)
   (hturn:∀ (i:Nat) (h:i<l.length),f (enc i)=some (if p l[i] then .inl (enc (i+1)) else .inr no)) (hend:f (enc l.length)=some (.inr yes)):aI f (enc 0)=some (if l.all p then yes else no):=by
 have:=bE (S:=Unit) (fun i _=>enc i) (fun _ x _=>if p x then .inl () else .inr no) (fun _=>yes) (fun _ _=>True) (l:=l) (f:=f) (fun i h s _=>by
   by_cases hp:p l[i]=true
   · exact .inl ⟨(),by rw[if_pos hp],by rw[hturn i h,if_pos hp],trivial⟩
   · exact .inr ⟨no,by rw[if_neg hp],by rw[hturn i h,if_neg hp]⟩) (fun s _=>hend) () trivial
 rw[this]
 congr 1
 have gen:∀ (l:List X) (i:Nat),fB (S:=Unit) (fun _ x _=>if p x then .inl () else .inr no) (fun _=>yes) i l ()=if l.all p then yes else no:=by
   intro l
   induction l with
   | nil=>intro i; rfl
   | cons x l ih =>
     intro i
     have h:=ih (i+1)
     by_cases hp:p x=true
     · simp only[fB,hp,if_true]
       rw[h]
       simp[hp]
     · simp[fB,hp]
 exact gen l 0
theorem ed {Y:Type}{f:A→Option (A⊕R)}{l:List X} (enc:Nat→List Y→A) (g:X→List Y) (fin:List Y→R) (m:Nat) (hg:∀ x∈l,(g x).length≤m)
   (hturn:∀ (i:Nat) (h:i<l.length) (o:List Y),o.length≤i*m→f (enc i o)=some (.inl (enc (i+1) (o++g l[i])))) (hend:∀ o,o.length≤l.length*m→f (enc l.length o)=some (.inr (fin o))) :
   aI f (enc 0 [])=some (fin (l.flatMap g)):=by
 have:=bE (S:=List Y) enc (fun _ x o=>.inl (o++g x)) fin (fun i o=>o.length≤i*m) (l:=l) (f:=f) (fun i h o ho=>.inl ⟨_,rfl,hturn i h o ho,by
   have:=hg l[i] (List.getElem_mem h)
   rw[List.length_append,Nat.succ_mul]; omega⟩) hend [] (by simp)
 rw[this]
 congr 1
 have gen:∀ (l:List X) (i:Nat) (o:List Y),fB (S:=List Y) (R:=R) (fun _ x o=>.inl (o++g x)) fin i l o=fin (o++l.flatMap g):=by
   intro l
   induction l with
   | nil=>intro i o; simp[fB]
   | cons x l ih=>intro i o; simp only[fB]; rw[ih]; simp[List.flatMap_cons]
 rw[gen]; rfl
def all2 {Y:Type} (q:X→Y→Bool):List X→List Y→Bool
 | [],[]=>true
 | x::l,y::m=>q x y&&all2 q l m
 | _,_=>false
theorem gv {Y:Type}{f:A→Option (A⊕R)}{l:List X}{m:List Y} (enc:Nat→A) (q:X→Y→Bool) (yes no:R) (hl:l.length=m.length)
   (hturn:∀ (i:Nat) (h:i<l.length) (h':i<m.length),f (enc i)=some (if q l[i] m[i]=true then .inl (enc (i+1)) else .inr no)) (hend:f (enc l.length)=some (.inr yes)):aI f (enc 0)=some (if all2 q l m=true then yes else no):=by
 have key:∀ (k i:Nat),l.length-i≤k→i≤l.length→aI f (enc i)=some (if all2 q (l.drop i) (m.drop i)=true then yes else no):=by
   intro k
   induction k with
   | zero =>
     intro i hk hi
     have e:i=l.length:=by omega
     subst e
     rw[aD hend,List.drop_eq_nil_of_le (Nat.le_refl _),List.drop_eq_nil_of_le (by omega)]
     rfl
   | succ k ih =>
     intro i hk hi
     by_cases hlt:i<l.length
     · have h2:i<m.length:=by omega
       rw[List.drop_eq_getElem_cons hlt,List.drop_eq_getElem_cons h2]
       have ht:=hturn i hlt h2
       by_cases hq:q l[i] m[i]=true
       · rw[if_pos hq] at ht
         rw[aH ht,ih (i+1) (by omega) (by omega)]
         simp only[all2,hq,Bool.true_and]
       · rw[if_neg hq] at ht
         rw[aD ht]
         simp[all2,hq]
     · have e:i=l.length:=by omega
       subst e
       rw[aD hend,List.drop_eq_nil_of_le (Nat.le_refl _),List.drop_eq_nil_of_le (by omega)]
       rfl
 have:=key l.length 0 (by omega) (by omega)
 simpa using this
theorem gY [DecidableEq X]:∀ {l m:List X},all2 (fun x y=>decide (x=y)) l m=decide (l=m)
 | [],[]=>rfl
 | [],_::_=>by simp[all2]
 | _::_,[]=>by simp[all2]
 | x::l,y::m=>by
   simp only[all2,gY (l:=l) (m:=m),List.cons.injEq,Bool.decide_and]
open Classical in
theorem mn {f:A→Option (A⊕R)} (n:Nat) (enc:Nat→A) (p:Nat→Bool) (yes no:R)
   (hturn:∀ (i:Nat) (h:i<n),f (enc i)=some (if p i=true then .inl (enc (i+1)) else .inr no)) (hend:f (enc n)=some (.inr yes)):aI f (enc 0)=some (if (∀ i,i<n→p i=true) then yes else no):=by
 have key:∀ (k i:Nat),n-i≤k→i≤n→aI f (enc i)=some (if (∀ j,i≤j→j<n→p j=true) then yes else no):=by
   intro k
   induction k with
   | zero =>
     intro i hk hi
     have e:i=n:=by omega
     subst e
     rw[aD hend,if_pos (fun j h1 h2=>by omega)]
   | succ k ih =>
     intro i hk hi
     by_cases hlt:i<n
     · have ht:=hturn i hlt
       by_cases hq:p i=true
       · rw[if_pos hq] at ht
         rw[aH ht,ih (i+1) (by omega) (by omega)]
         by_cases ha:∀ j,i+1≤j→j<n→p j=true
         · rw [if_pos ha, if_pos (fun j h1 h2 => by
             rcases Nat.lt_or_eq_of_le h1 with h | h
             · exact ha j h h2
             · rw[← h]; exact hq)]
         · rw[if_neg ha,if_neg (fun hb=>ha (fun j h1 h2=>hb j (by omega) h2))]
       · rw[if_neg hq] at ht
         rw[aD ht,if_neg (fun hb=>hq (hb i (Nat.le_refl _) hlt))]
     · have e:i=n:=by omega
       subst e
       rw[aD hend,if_pos (fun j h1 h2=>by omega)]
 have:=key n 0 (by omega) (by omega)
 rw[this]
 congr 1
 by_cases ha:∀ i,i<n→p i=true
 · rw[if_pos ha,if_pos (fun j _ h2=>ha j h2)]
 · rw[if_neg ha,if_neg (fun hb=>ha (fun j h2=>hb j (Nat.zero_le _) h2))]
end
end Go.TY
set_option linter.unusedSectionVars false
namespace Go.TY
structure Cmp {K:Type} (c:K→K→Int):Prop where
 one:∀ a b,-1≤c a b∧c a b≤1
 neg:∀ a b,c b a = - c a b
 zero:∀ a b,c a b=0↔a=b
 trans:∀ a b d,c a b<0→c b d<0→c a d<0
def cmpL {K:Type} (c:K→K→Int):List K→List K→Int
 | [],[]=>0
 | [],_::_ => -1
 | _::_,[]=>1
 | x::a,y::b=>if c x y=0 then cmpL c a b else c x y
section
variable {K:Type}{c:K→K→Int}
theorem Cmp.list (h:Cmp c):Cmp (cmpL c) where
 one:=by
   intro a
   induction a with
   | nil=>intro b; cases b<;>simp[cmpL]
   | cons x a ih =>
     intro b
     cases b with
     | nil=>simp[cmpL]
     | cons y b =>
       simp only[cmpL]
       split
       · exact ih b
       · exact h.one x y
 neg:=by
   intro a
   induction a with
   | nil=>intro b; cases b<;>simp[cmpL]
   | cons x a ih =>
     intro b
     cases b with
     | nil=>simp[cmpL]
     | cons y b =>
       simp only[cmpL]
       have:=h.neg x y
       by_cases h0:c x y=0
       · rw[if_pos h0,if_pos (by omega)]; exact ih b
       · rw[if_neg h0,if_neg (by omega)]; exact this
 zero:=by
   intro a
   induction a with
   | nil=>intro b; cases b<;>simp[cmpL]
   | cons x a ih =>
     intro b
     cases b with
     | nil=>simp[cmpL]
     | cons y b =>
       simp only[cmpL]
       by_cases h0:c x y=0
       · rw[if_pos h0,ih b,(h.zero x y).1 h0]; simp
       · rw[if_neg h0]
         constructor
         · intro k; exact absurd k h0
         · intro k; cases k; exact absurd ((h.zero x x).2 rfl) h0
 trans:=by
   intro a
   induction a with
   | nil =>
     intro b d h1 h2
     cases b with
     | nil=>simp[cmpL] at h1
     | cons y b =>
       cases d with
       | nil=>simp[cmpL] at h2
       | cons z d=>simp[cmpL]
   | cons x a ih =>
     intro b d h1 h2
     cases b with
     | nil=>simp[cmpL] at h1
     | cons y b =>
       cases d with
       | nil=>simp[cmpL] at h2
       | cons z d =>
         simp only[cmpL] at h1 h2 ⊢
         by_cases h0:c x y=0
         · rw[if_pos h0] at h1
           have e:=(h.zero x y).1 h0
           subst e
           by_cases h3:c x z=0
           · rw[if_pos h3] at h2 ⊢; exact ih b d h1 h2
           · rw[if_neg h3] at h2 ⊢; exact h2
         · rw[if_neg h0] at h1
           by_cases h3:c y z=0
           · have e:=(h.zero y z).1 h3
             subst e
             rw[if_neg h0]; exact h1
           · rw[if_neg h3] at h2
             have:=h.trans x y z h1 h2
             rw[if_neg (by omega)]; exact this
def cmpB {L:Type} (c:K→K→Int) (d:L→L→Int) (a b:K×L):Int:=if c a.1 b.1=0 then d a.2 b.2 else c a.1 b.1
theorem Cmp.pair {L:Type}{d:L→L→Int} (h:Cmp c) (k:Cmp d):Cmp (cmpB c d) where
 one a b:=by
   unfold cmpB
   split
   · exact k.one _ _
   · exact h.one _ _
 neg a b:=by
   unfold cmpB
   have:=h.neg a.1 b.1
   by_cases h0:c a.1 b.1=0
   · rw[if_pos h0,if_pos (by omega)]; exact k.neg _ _
   · rw[if_neg h0,if_neg (by omega)]; exact this
 zero a b:=by
   unfold cmpB
   obtain ⟨a1,a2⟩:=a
   obtain ⟨b1,b2⟩:=b
   simp only
   by_cases h0:c a1 b1=0
   · rw[if_pos h0,k.zero,(h.zero _ _).1 h0]; simp
   · rw[if_neg h0]
     constructor
     · intro e; exact absurd e h0
     · intro e; cases e; exact absurd ((h.zero _ _).2 rfl) h0
 trans a b e h1 h2:=by
   unfold cmpB at h1 h2 ⊢
   obtain ⟨a1,a2⟩:=a
   obtain ⟨b1,b2⟩:=b
   obtain ⟨e1,e2⟩:=e
   simp only at h1 h2 ⊢
   by_cases h0:c a1 b1=0
   · rw[if_pos h0] at h1
     have q:=(h.zero _ _).1 h0
     subst q
     by_cases h3:c a1 e1=0
     · rw[if_pos h3] at h2 ⊢; exact k.trans _ _ _ h1 h2
     · rw[if_neg h3] at h2 ⊢; exact h2
   · rw[if_neg h0] at h1
     by_cases h3:c b1 e1=0
     · have q:=(h.zero _ _).1 h3
       subst q
       rw[if_neg h0]; exact h1
     · rw[if_neg h3] at h2
       have:=h.trans _ _ _ h1 h2
       rw[if_neg (by omega)]; exact this
theorem Cmp.irr (h:Cmp c) (a:K):¬ c a a<0:=by have:=(h.zero a a).2 rfl; omega
end
section
variable {X K C:Type} (c:K→K→Int) (key:X→K) (same:X→X→Bool) (G M:X→C) (T:X→X→C) (leaf:C→K)
def gh:List X→List X→List C
 | [],b=>b.map M
 | x::a,[]=>(x::a).map G
 | x::a,y::b=>if c (key x) (key y)<0 then G x::gh a (y::b) else if c (key x) (key y)>0 then M y::gh (x::a) b else (if same x y then [] else [T x y])++gh a b
termination_by a b=>a.length+b.length
def ins (v:C):List C→List C
 | []=>[v]
 | e::l=>if c (leaf v) (leaf e)<0 then v::e::l else e::ins v l
def iJ (a:List X):Prop:=a.Pairwise fun x y=>c (key x) (key y)<0
variable {c key same G M T leaf}
variable (hc:Cmp c) (hG:∀ x,leaf (G x)=key x) (hM:∀ x,leaf (M x)=key x) (hT:∀ x y,leaf (T x y)=key x)
include hc hG hT
include hM
end
end Go.TY
set_option linter.unusedSimpArgs false
namespace Go.TY
open Go.EM
def oY (e:Nat) (u:Ty):TNew:={ ps:=.cons (.sl u) .unit,e:=e,t:=.sl u,fn:=fun v=>fE v.1,row:=true }
theorem th {M e:Nat}{u:Ty} (hu:u.size=M) (hv:u.isV=true) (hc:u.closed=true):TNewOk (mR M e) (oY e u):=by
 refine ⟨(fun h=>by cases h),fun _ _ st v r zs Γ hps hr => ?_,(fun _ h=>by cases h),fun _ h=>by cases h⟩
 obtain ⟨v,⟨⟩⟩:=v
 simp only[R,oY] at hps
 obtain ⟨l1,l2,rfl,hx,rfl⟩:=hps
 simp only[oY,fE] at hr
 split at hr
 · rename_i hlt
   cases hr
   simp only[oY,aej,List.append_nil]
   rcases hx with ⟨rfl,rfl⟩ | ⟨f,n,bs,rfl,hn,ha⟩
   · exact ⟨st,fun _ _=>rfl,.inl ⟨rfl,.inl rfl⟩⟩
   · cases r with
     | nil =>
       match bs,ha with
       | [],_=>exact ⟨st,fun _ _=>rfl,.inl ⟨rfl,.inr ⟨0,rfl⟩⟩⟩
     | cons x r =>
       match bs,ha with
       | a::bs,ha =>
         have hn:n=M:=by
           rcases hn with h | h
           · cases h
           · rw[h,hu]
         subst hn
         have hlen:=aW ha
         have hl2:bs.length+1<most:=by simp only[List.length_cons] at hlen hlt; omega
         refine ⟨st++[.row e u.size (a::bs)],fun q hq=>List.getElem?_append_left hq,.inr ⟨st.length,a::bs,?_,Nat.le_refl _,by simp,aJ (p:=fun x a=>R Γ u x false [a]) (fun x a hx=>aS hc hx) ha⟩⟩
         simp only[mR]
         rw[if_pos ⟨trivial,hl2⟩,hu]
         rfl
 · cases hr
theorem row_one {Φ:Frame}{Γ:Ctx}{st:az}{g:Reg} (hm:MemR Φ Γ [g] st):RegR Γ st 0 g:=hm.reg 0 (by simp)
theorem xp {Φ:Frame}{Γ:Ctx}{st st':az}{g g':Reg}{r n l:Nat} (hm:MemR Φ Γ [g] st) (hst:st.length≤st'.length) (hr:r<st'.length) (hg:RegR (grown Γ 0 (r,n,l)) st' 0 g') (hΦ:∀ r' g,Φ r'=some g→st'[r']? = some g) (hd:∀ g,Φ r≠some g):MemR Φ (grown Γ 0 (r,n,l)) [g'] st':=by
 have none:∀ i y,i≠0→Γ i≠some y:=fun i y hi h=>by
   rw[hm.out i (by simp; omega)] at h; cases h
 exact hm.grow (id:=0) (by simp) hst (fun i _ _ _ hi h=>absurd h (none i _ hi)) hr (fun i _ _ _ hi h=>absurd h (none i _ hi)) hg hΦ hd
def insT {A:Type} (l:List A) (i:Int) (ys:List A):Option (List A):=if 0≤i∧i≤l.length∧ys≠[]∧l.length+ys.length<most then some (l.take i.toNat++ys++l.drop i.toNat) else none
def insR (z:Bool) (e:Nat) (t:Ty):TRaw:={ ps:=.cons (.own 0) (.cons (.int .i64) (.cons (.sl t) .unit)),ins:=[.row z e t],res:=.own 0,outs:=[.row z e t],fn:=fun v w=>(insT w.1 v.2.1 v.2.2.1).map fun l=>((),(l,())) }
theorem ado {A:Type}{l ys r:List A}{i:Int} (h:insT l i ys=some r):∃ k:Nat,i=(k:Int)∧k≤l.length∧ys≠[]∧l.length+ys.length<most∧r=l.take k++ys++l.drop k:=by
 unfold insT at h
 split at h
 · rename_i hb
   cases h
   exact ⟨i.toNat,by omega,by omega,hb.2.2.1,hb.2.2.2,rfl⟩
 · cases h
theorem uR {M e:Nat}{z:Bool}{u:Ty} (hu:u.size=M) (hv:u.isV=true) (hc:u.closed=true) (hk:u.okRow=true) (hM:M≠0):TRawOk (dZ M e) (insR z e u):=by
 refine TRawOk.ofBox rfl fun Φ Γ st pv v zs r w hm hps hr => ?_
 obtain ⟨⟨⟩,i,ys,⟨⟩⟩:=pv
 obtain ⟨xs,⟨⟩⟩:=v
 simp only[insR,R] at hps
 obtain ⟨l1,l2,rfl,hown,l3,l4,rfl,rfl,l5,l6,rfl,hys,rfl⟩:=hps
 simp only[insR] at hr hm ⊢
 rw[Option.map_eq_some_iff] at hr
 obtain ⟨out,hr,hr2⟩:=hr
 cases hr2
 obtain ⟨i,rfl,hil,hne,hmost,rfl⟩:=ado hr
 · rcases hys with ⟨rfl,_⟩ | ⟨f,n,bs,rfl,hn,hb2⟩
   · exact absurd rfl hne
   · have hbl:=aW hb2
     match ys,bs,hb2,hbl,hne with
     | y::ys,b::bs,hb2,hbl,hne =>
     have hn:n=M:=by
       rcases hn with h | h
       · cases h
       · rw[h,hu]
     subst hn
     have hcl:aF (b::bs)=true:=dU (fun x a hx=>by rw[← aV]; exact bC hc hx) hb2
     have hb3:All2 (fun x a=>R (grown Γ 0 (0,0,0)) u x false [a]) (y::ys) (b::bs):=aJ (p:=fun x a=>R Γ u x false [a]) (fun x a hx=>aS hc hx) hb2
     obtain ⟨k1,k2,k3,k4,k5⟩:=row_one hm
     simp only[aP] at hm ⊢
     dsimp only at k5
     rcases k5 with ⟨rfl,bz,k5,kz⟩ | ⟨r,zs,k5,k6,k7,k8⟩
     · rw[k5] at hown
       have h0:i=0:=Nat.le_zero.1 hil
       subst h0
       have hF:∀ a0,(l1=[a0])→dZ n e (l1++([.int .i64 ((0:Nat):Int)]++([.tree f n (b::bs)]++[]))) st=some (bo st e n (b::bs)):=by
         intro a0 ha
         have hlt:(b::bs).length<most:=by rw[hbl]; exact Nat.lt_of_le_of_lt (Nat.le_add_left _ _) hmost
         rcases hown with h | ⟨_,k,h⟩
         · subst h
           simp only[List.singleton_append,List.append_nil,dZ]
           rw[if_pos ⟨trivial,rfl,hlt⟩]
         · subst h
           simp only[List.singleton_append,List.append_nil,dZ]
           rw[if_pos ⟨trivial,rfl,hlt⟩]
       have hone:∃ a0,l1=[a0]:=by rcases hown with h | ⟨_,k,h⟩<;>exact ⟨_,h⟩
       obtain ⟨a0,ha0⟩:=hone
       refine ⟨_,_,grown Γ 0 (st.length,u.size,(y::ys).length),hF a0 ha0,?_,?_,?_⟩
       · simp only[R,grown,if_true,hbl,hu]
       · rw[show (List.take 0 ([]:List u.V)++(y::ys)++List.drop 0 ([]:List u.V))=y::ys by simp]
         refine xp hm (by simp) (by simp) ⟨hv,hc,hk,k4,.inr ⟨st.length,b::bs,by simp[grown],by simp[hu],aJ (p:=fun x a=>R Γ u x false [a]) (fun x a hx=>aS hc hx) hb2,fun _ h=>by cases h⟩⟩ (fun r' g h=>by rw[List.getElem?_append_left (hm.oldlt h)]; exact hm.old r' g h) (fun g h=>Nat.lt_irrefl _ (hm.oldlt h))
       · intro j y' hj
         match j,hj with
         | 0,hj=>cases hj
         | j+1,hj=>cases hj
     · rw[k5] at hown
       subst hown
       have hal:=aW k7
       have hil:i≤xs.length:=hil
       have hrlt:=hm.lt 0 _ _ _ k5
       have hrow:EM.rowAt st r u.size xs.length=some zs:=by simp only[EM.rowAt,k6,hal,and_self,if_true]
       have hF:dZ n e ([.own r u.size xs.length 0 xs.length]++([.int .i64 (i:Int)]++([.tree f n (b::bs)]++[]))) st=some (.own r u.size (xs.length+(b::bs).length) 0 (xs.length+(b::bs).length),st.set r (.row e u.size (zs.take i++(b::bs)++zs.drop i))):=by
         simp only[List.singleton_append,List.append_nil,dZ]
         rw[if_pos ⟨hu,trivial,trivial,trivial,by simp only[EM.rowTy,k6],Int.natCast_nonneg _,Int.ofNat_le.2 hil,by rw[hbl]; exact hmost,hcl⟩,hrow]
         simp
       have hlen:(xs.take i++(y::ys)++xs.drop i).length=xs.length+(b::bs).length:=by
         rw[List.length_append,List.length_append,List.length_take,List.length_drop,hbl]; omega
       refine ⟨_,_,grown Γ 0 (r,u.size,xs.length+(b::bs).length),hF,?_,?_,?_⟩
       · simp only[R,grown,if_true]
       · refine xp hm (by simp) (by simpa using hrlt) ⟨hv,hc,hk,k4,.inr ⟨r,zs.take i++(b::bs)++zs.drop i,by rw[hlen]; simp[grown],List.getElem?_set_self hrlt,cA (cA (gH i ?_) ?_) (gI i ?_),fun _ h=>by simp at h⟩⟩ (fun r' g h => ?_) (fun g h=>hm.dis r g 0 _ _ h k5)
         · exact aJ (p:=fun x a=>R Γ u x false [a]) (fun x a hx=>aS hc hx) k7
         · exact aJ (p:=fun x a=>R Γ u x false [a]) (fun x a hx=>aS hc hx) hb2
         · exact aJ (p:=fun x a=>R Γ u x false [a]) (fun x a hx=>aS hc hx) k7
         · rw[List.getElem?_set_ne (fun e'=>by subst e'; exact hm.dis _ _ 0 _ _ h k5)]
           exact hm.old r' g h
       · intro j y' hj
         match j,hj with
         | 0,hj=>cases hj
         | j+1,hj=>cases hj
end Go.TY
namespace Go.TY
section
variable {X K:Type} (c:K→K→Int) (key:X→K)
def lo (k:K) (l:List X):List X:=l.takeWhile fun x=>decide (c (key x) k<0)
def hi (k:K) (l:List X):List X:=l.dropWhile fun x=>decide (c (key x) k<0)
variable {c key}
theorem lohi {k:K}{l:List X}:lo c key k l++hi c key k l=l:=List.takeWhile_append_dropWhile
theorem je {k:K}:∀ {l:List X},∀ x∈lo c key k l,c (key x) k<0
 | [],x,h=>by cases h
 | y::l,x,h=>by
   unfold lo at h
   rw[List.takeWhile_cons] at h
   by_cases hy:c (key y) k<0
   · rw[decide_eq_true hy] at h
     simp only[if_true] at h
     rcases List.mem_cons.1 h with rfl | h
     · exact hy
     · exact je x h
   · rw[decide_eq_false hy] at h
     cases h
theorem adr {k:K}:∀ {l:List X}{x:X}{q:List X},hi c key k l=x::q→¬ c (key x) k<0
 | [],x,q,h=>by cases h
 | y::l,x,q,h=>by
   unfold hi at h
   rw[List.dropWhile_cons] at h
   by_cases hy:c (key y) k<0
   · rw[decide_eq_true hy] at h
     exact adr (l:=l) h
   · rw[decide_eq_false hy] at h
     cases h
     exact hy
theorem kZ (hc:Cmp c) {k:K}{l:List X} (hr:iJ c key l) {x:X}{q:List X} (h:hi c key k l=x::q):0≤c (key x) k∧∀ y∈q,0<c (key y) k:=by
 have h1:=adr h
 have e:lo c key k l++x::q=l:=by rw[← h]; exact lohi
 rw[← e] at hr
 have h2:=(List.pairwise_append.1 hr).2.1
 have h3:=(List.pairwise_cons.1 h2).1
 refine ⟨by omega,fun y hy => ?_⟩
 have h4:=h3 y hy
 have n1:=hc.neg (key y) k
 by_cases h5:c (key x) k=0
 · rw[← (hc.zero _ _).1 h5] at n1 ⊢
   have:=hc.neg (key x) (key y)
   omega
 · have n2:=hc.neg (key x) k
   have:=hc.trans k (key x) (key y) (by omega) h4
   omega
theorem anI {k:K}{l:List X}{h:Nat} (hh:h<l.length) (h2:h<(lo c key k l).length):c (key l[h]) k<0:=by
 have e:l[h]=(lo c key k l++hi c key k l)[h]'(by rw[lohi]; exact hh):=by simp only[lohi]
 rw[e,List.getElem_append_left h2]
 exact je _ (List.getElem_mem _)
theorem anJ (hc:Cmp c) {k:K}{l:List X} (hr:iJ c key l) {h:Nat} (hh:h<l.length) (h2:(lo c key k l).length≤h):0≤c (key l[h]) k:=by
 have e:l[h]=(lo c key k l++hi c key k l)[h]'(by rw[lohi]; exact hh):=by simp only[lohi]
 rw[e,List.getElem_append_right h2]
 have hm:∀ y∈hi c key k l,0≤c (key y) k:=by
   intro y hy
   cases hq:hi c key k l with
   | nil=>rw[hq] at hy; cases hy
   | cons x q =>
     rw[hq] at hy
     obtain ⟨a1,a2⟩:=kZ hc hr hq
     rcases List.mem_cons.1 hy with rfl | hy
     · exact a1
     · have:=a2 y hy; omega
 exact hm _ (List.getElem_mem _)
variable [DecidableEq X] (c key)
variable {c key}
end
end Go.TY
namespace Go.TY
open Go.EM Go.Proofs Go.Sort
def kd {A:Type} (c:A→A→Option Int) (xs:List A) (i j:Nat):Int :=
 match xs[clIx xs.length i]?,xs[clIx xs.length j]? with
 | some x,some y=>(c x y).getD 0
 | _,_=>0
def eq {A:Type} (c:A→A→Option Int) (xs:List A):List Nat:=(pdq (ltOf (kd c xs)) (Array.range xs.length) 0 xs.length (Lib.bitLen xs.length) true true).toList
open Classical in
noncomputable def nk {A:Type} (c:A→A→Option Int) (xs:List A):Option (List A) :=
 if xs=[] then some [] else if (∀ x∈xs,∀ y∈xs,∃ n,c x y=some n)∧SWO (ltOf (kd c xs))∧xs.length<4611686018427387904 then some ((eq c xs).filterMap fun i=>xs[i]?) else none
noncomputable def aca (z:Bool) (g e:Nat) (t:Ty) (c:t.V→t.V→Option Int):TRaw:={ ps:=.cons (.own 0) (.cons (.fn g) .unit),ins:=[.row z e t],res:=.tup .unit,outs:=[.row z e t],fn:=(fun _ w=>(nk c w.1).map fun l=>((),(l,()))),stay:=true }
theorem qm:∀ {bs:List AVal}{i:Nat}{a:AVal},bs[i]? = some a→getL bs i=a
 | x::bs,0,a,h=>by simpa [getL] using h
 | x::bs,i+1,a,h=>qm (bs:=bs) (by simpa using h)
theorem od {c:Nat→Nat→Int} (hO:SWO (ltOf c)) {n:Nat}:∀ i∈(pdq (ltOf c) (Array.range n) 0 n (Lib.bitLen n) true true).toList,i<n:=by
 intro i hi
 have perm:=(pdq_sorts (ltOf c) hO (Array.range n) 0 (Array.range n).size (Lib.bitLen (Array.range n).size) true true (Nat.zero_le _) (Nat.le_refl _) (Or.inl rfl)).1
 rw[Array.size_range] at perm
 generalize pdq (ltOf c) (Array.range n) 0 n (Lib.bitLen n) true true=d' at *
 obtain ⟨p1,_,p3⟩:=perm
 rw[Array.size_range] at p1
 have e1:(d'.extract 0 n).toList=d'.toList:=by rw[← p1]; simp
 have e2:((Array.range n).extract 0 n).toList=(Array.range n).toList:=by
   have:(Array.range n).extract 0 n=Array.range n:=by
     conv=>lhs; arg 3; rw[← Array.size_range (n:=n)]
     simp
   rw[this]
 rw[e1,e2] at p3
 simpa using p3.mem_iff.1 hi
theorem afh {Γ:Ctx}{t:Ty}{F:PFn}{c:t.V→t.V→Option Int} (hF:TOk F { ps:=.cons t (.cons t .unit),res:=.int .i64,fn:=fun v=>c v.1 v.2.1 }) {xs:List t.V}{bs:List AVal} (ha:All2 (fun x a=>R Γ t x false [a]) xs bs)
   (hc:t.closed=true) (hall:∀ x∈xs,∀ y∈xs,∃ n,c x y=some n):(∀ i j,i<bs.length→j<bs.length→∃ n,F [getL bs i,getL bs j]=some (.int .i64 n))∧(xs≠[]→mQ F bs=kd c xs):=by
 have hlen:=aW ha
 have at_:∀ i j,i<xs.length→j<xs.length→∃ x y n,xs[i]? = some x∧xs[j]? = some y∧c x y=some n∧F [getL bs i,getL bs j]=some (.int .i64 n):=by
   intro i j hi hj
   obtain ⟨a,a1,a2⟩:=f7 ha (List.getElem?_eq_getElem hi)
   obtain ⟨b,b1,b2⟩:=f7 ha (List.getElem?_eq_getElem hj)
   obtain ⟨n,hn⟩:=hall _ (List.getElem_mem hi) _ (List.getElem_mem hj)
   obtain ⟨r,r1,r2⟩:=hF.run (xs[i],xs[j],()) n [a,b] hn ⟨[a],[b],rfl,aS hc a2,[b],[],rfl,aS hc b2,rfl⟩
   simp only[R] at r2
   cases r2
   exact ⟨_,_,n,List.getElem?_eq_getElem hi,List.getElem?_eq_getElem hj,hn,by rw[qm a1,qm b1]; exact r1⟩
 refine ⟨fun i j hi hj => ?_,fun hne => ?_⟩
 · obtain ⟨x,y,n,_,_,_,h⟩:=at_ i j (by omega) (by omega)
   exact ⟨n,h⟩
 · have h0:0<xs.length:=List.length_pos_iff.2 hne
   funext i j
   obtain ⟨x,y,n,h1,h2,h3,h4⟩:=at_ _ _ (eJ (i:=i) h0) (eJ (i:=j) h0)
   unfold mQ kd
   rw[hlen,h1,h2,h4]
   simp only[h3,Option.getD_some]
theorem rV {A:Type}{p:A→AVal→Prop}{xs:List A}{bs:List AVal} (ha:All2 p xs bs):∀ {l:List Nat},(∀ i∈l,i<xs.length)→All2 p (l.filterMap fun i=>xs[i]?) (l.map (getL bs))
 | [],_=>trivial
 | i::l,h=>by
   have hi:=h i (List.mem_cons_self ..)
   obtain ⟨a,a1,a2⟩:=f7 ha (List.getElem?_eq_getElem hi)
   rw[List.filterMap_cons,List.getElem?_eq_getElem hi,List.map_cons,qm a1]
   exact ⟨a2,rV ha (fun j hj=>h j (List.mem_cons_of_mem _ hj))⟩
theorem wO {M e g:Nat}{z:Bool}{u:Ty}{F:PFn}{c:u.V→u.V→Option Int} (hu:u.size=M) (hv:u.isV=true) (hc:u.closed=true) (hk:u.okRow=true) (hF:TOk F { ps:=.cons u (.cons u .unit),res:=.int .i64,fn:=fun v=>c v.1 v.2.1 }):TRawOk (pG F g M e) (aca z g e u c):=by
 refine ⟨fun Φ Γ st pv v zs r w hm hps hr => ?_⟩
 obtain ⟨⟨⟩,⟨⟩,⟨⟩⟩:=pv
 obtain ⟨xs,⟨⟩⟩:=v
 simp only[aca,R] at hps
 obtain ⟨l1,l2,rfl,hown,l3,l4,rfl,rfl,rfl⟩:=hps
 simp only[aca] at hr hm ⊢
 rw[Option.map_eq_some_iff] at hr
 obtain ⟨out,hr,hr2⟩:=hr
 cases hr2
 obtain ⟨k1,k2,k3,k4,k5⟩:=row_one hm
 simp only[aP] at hm ⊢
 dsimp only at k5
 have hR:R Γ (.tup .unit) () false [.tup []]:=⟨[],rfl,rfl⟩
 rcases k5 with ⟨rfl,bz,k5,kz⟩ | ⟨r,zs,k5,k6,k7,k8⟩
 · rw[k5] at hown
   have:out=[]:=by
     unfold nk at hr
     rw[if_pos rfl] at hr
     cases hr; rfl
   subst this
   rcases hown with rfl | ⟨_,k,rfl⟩
   · exact ⟨_,st,Γ,by simp only[List.singleton_append,List.append_nil,pG],hR,hm,fun _ _ _ h=>h⟩
   · exact ⟨_,st,Γ,by simp only[List.singleton_append,List.append_nil,pG],hR,hm,fun _ _ _ h=>h⟩
 · rw[k5] at hown
   subst hown
   have hal:=aW k7
   have hrlt:=hm.lt 0 _ _ _ k5
   have hrow:EM.rowAt st r u.size xs.length=some zs:=by simp only[EM.rowAt,k6,hal,and_self,if_true]
   by_cases hx:xs=[]
   · subst hx
     have:out=[]:=by
       unfold nk at hr
       rw[if_pos rfl] at hr
       cases hr; rfl
     subst this
     refine ⟨_,st,Γ,?_,hR,hm,fun _ _ _ h=>h⟩
     simp only[List.singleton_append,List.append_nil,pG]
     rw[if_pos ⟨hu,trivial,trivial,by simp only[EM.rowTy,k6],trivial⟩,hrow]
     simp
   · have h0:0<xs.length:=List.length_pos_iff.2 hx
     unfold nk at hr
     rw[if_neg hx] at hr
     split at hr
     · rename_i hs
       obtain ⟨hall,hO,hbig⟩:=hs
       cases hr
       obtain ⟨htab,hcmp⟩:=afh hF k7 hc hall
       have hcmp:=hcmp hx
       have hcl:aF zs=true:=dU (fun x a hx=>by rw[← aV]; exact bC hc hx) k7
       have hix:rE F zs=eq c xs:=by unfold rE eq; rw[hcmp,hal]
       have hmem:∀ i∈eq c xs,i<xs.length:=od hO
       have hp:=rV k7 hmem
       have hlen:=aW hp
       have hll:((eq c xs).map (getL zs)).length=xs.length:=by
         rw[List.length_map]
         have perm:=(pdq_sorts (ltOf (kd c xs)) hO (Array.range xs.length) 0 (Array.range xs.length).size (Lib.bitLen (Array.range xs.length).size) true true (Nat.zero_le _) (Nat.le_refl _) (Or.inl rfl)).1.1
         rw[Array.size_range] at perm
         simpa [eq] using perm
       refine ⟨_,st.set r (.row e u.size ((rE F zs).map (getL zs))),Γ,?_,hR,?_,fun _ _ _ h=>h⟩
       · simp only[List.singleton_append,List.append_nil,pG]
         rw[if_pos ⟨hu,trivial,trivial,by simp only[EM.rowTy,k6],trivial⟩,hrow]
         simp only[Option.bind_some]
         rw[if_neg (by omega),if_pos ⟨⟨hcl,htab,by rw[hcmp]; exact hO⟩,hbig⟩]
       · rw[hix]
         have:=hm.set (id:=0) (g:=.row z e u ((eq c xs).filterMap fun i=>xs[i]?)) (ag:=.row e u.size ((eq c xs).map (getL zs))) (by simp) k5 ⟨hv,hc,hk,k4,.inr ⟨r,_,by rw[k5,← hlen,hll],List.getElem?_set_self hrlt,hp,fun hz e'=>hx (by
           rw[e'] at hlen
           rw[hlen] at hll
           exact List.length_eq_zero_iff.1 hll.symm)⟩⟩
         exact this
     · cases hr
end Go.TY
namespace Go.TY
open Go.EM Go.Proofs Go.Sort
section
variable {A K:Type}{c:K→K→Int}{key:A→K}
theorem dP (hc:Cmp c):∀ {l m:List A},iJ c key l→iJ c key m→(∀ x,x∈l↔x∈m)→l=m
 | [],[],_,_,_=>rfl
 | [],y::m,_,_,h=>by have:=(h y).2 (List.mem_cons_self ..); cases this
 | x::l,[],_,_,h=>by have:=(h x).1 (List.mem_cons_self ..); cases this
 | x::l,y::m,hl,hm,h=>by
   have hl':=List.pairwise_cons.1 hl
   have hm':=List.pairwise_cons.1 hm
   have e:x=y:=by
     rcases List.mem_cons.1 ((h x).1 (List.mem_cons_self ..)) with e | h1
     · exact e
     · rcases List.mem_cons.1 ((h y).2 (List.mem_cons_self ..)) with e | h2
       · exact e.symm
       · have a:=hm'.1 x h1
         have b:=hl'.1 y h2
         have:=hc.neg (key x) (key y)
         omega
   subst e
   congr 1
   refine dP hc hl'.2 hm'.2 fun z => ?_
   have hz:=h z
   constructor
   · intro hzl
     rcases List.mem_cons.1 (hz.1 (List.mem_cons_of_mem _ hzl)) with e | h1
     · subst e; exact absurd (hl'.1 z hzl) (hc.irr _)
     · exact h1
   · intro hzm
     rcases List.mem_cons.1 (hz.2 (List.mem_cons_of_mem _ hzm)) with e | h1
     · subst e; exact absurd (hm'.1 z hzm) (hc.irr _)
     · exact h1
theorem avU (hc:Cmp c) {cf:Nat→Nat→Int}{k:Nat→K} (h:∀ i j,cf i j=c (k i) (k j)):SWO (ltOf cf) where
 irrefl x:=by
   unfold ltOf
   rw[h]
   exact decide_eq_false (hc.irr _)
 trans x y z h1 h2:=by
   unfold ltOf at *
   simp only[h,decide_eq_true_eq] at *
   exact hc.trans _ _ _ h1 h2
 ntrans x y z h1 h2:=by
   unfold ltOf at *
   simp only[h,decide_eq_false_iff_not] at *
   intro h3
   have n1:=hc.neg (k x) (k y)
   by_cases h0:c (k y) (k x)=0
   · have e:=(hc.zero _ _).1 h0
     rw[e] at h2
     exact h2 h3
   · have:=hc.trans (k y) (k x) (k z) (by omega) h3
     exact h2 this
theorem yJ (xs:List A):(List.range xs.length).filterMap (fun i=>xs[i]?)=xs:=by
 have key:∀ (l pre:List A),(List.range' pre.length l.length).filterMap (fun i=>(pre++l)[i]?)=l:=by
   intro l
   induction l with
   | nil=>intro pre; rfl
   | cons x l ih =>
     intro pre
     rw[List.length_cons,List.range'_succ,List.filterMap_cons]
     have e:(pre++x::l)[pre.length]? = some x:=by simp
     rw[e]
     have:=ih (pre++[x])
     simp only[List.length_append,List.length_cons,List.length_nil,Nat.zero_add,List.append_assoc,List.singleton_append] at this
     rw[this]
 have:=key xs []
 rw[List.range_eq_range']
 simpa using this
theorem rD (hc:Cmp c) {cmp:A→A→Option Int}{xs:List A} (hcmp:∀ x∈xs,∀ y∈xs,cmp x y=some (c (key x) (key y))) (hb:xs.length<4611686018427387904):∃ l,nk cmp xs=some l∧l.Perm xs∧l.Pairwise fun x y=>c (key x) (key y)≤0:=by
 by_cases h0:xs=[]
 · subst h0
   exact ⟨[],by unfold nk; rw[if_pos rfl],List.Perm.refl _,List.Pairwise.nil⟩
 · have hn:0<xs.length:=List.length_pos_iff.2 h0
   have hix:∀ i j,kd cmp xs i j=c (key (xs[clIx xs.length i]'(eJ hn))) (key (xs[clIx xs.length j]'(eJ hn))):=by
     intro i j
     unfold kd
     rw[List.getElem?_eq_getElem (eJ hn),List.getElem?_eq_getElem (eJ hn)]
     simp only[hcmp _ (List.getElem_mem _) _ (List.getElem_mem _),Option.getD_some]
   have hO:SWO (ltOf (kd cmp xs)):=avU hc (k:=fun i=>key (xs[clIx xs.length i]'(eJ hn))) hix
   have hs:nk cmp xs=some ((eq cmp xs).filterMap fun i=>xs[i]?):=by
     unfold nk
     rw[if_neg h0,if_pos ⟨fun x hx y hy=>⟨_,hcmp x hx y hy⟩,hO,hb⟩]
   refine ⟨_,hs,?_,?_⟩
   · have perm:=(pdq_sorts (ltOf (kd cmp xs)) hO (Array.range xs.length) 0 (Array.range xs.length).size (Lib.bitLen (Array.range xs.length).size) true true (Nat.zero_le _) (Nat.le_refl _) (Or.inl rfl)).1
     rw[Array.size_range] at perm
     unfold eq
     generalize pdq (ltOf (kd cmp xs)) (Array.range xs.length) 0 xs.length (Lib.bitLen xs.length) true true=d' at *
     obtain ⟨p1,_,p3⟩:=perm
     rw[Array.size_range] at p1
     have e1:(d'.extract 0 xs.length).toList=d'.toList:=by rw[← p1]; simp
     have e2:((Array.range xs.length).extract 0 xs.length).toList=List.range xs.length:=by
       have:(Array.range xs.length).extract 0 xs.length=Array.range xs.length:=by
         conv=>lhs; arg 3; rw[← Array.size_range (n:=xs.length)]
         simp
       rw[this]
       simp
     rw[e1,e2] at p3
     refine (p3.filterMap _).trans ?_
     have:(List.range xs.length).filterMap (fun i=>xs[i]?)=xs:=yJ xs
     rw[this]
   · rw[List.pairwise_filterMap]
     have sorted:=(pdq_sorts (ltOf (kd cmp xs)) hO (Array.range xs.length) 0 (Array.range xs.length).size (Lib.bitLen (Array.range xs.length).size) true true (Nat.zero_le _) (Nat.le_refl _) (Or.inl rfl)).2
     have hmem:=od hO (n:=xs.length)
     have hsz:=(pdq_sorts (ltOf (kd cmp xs)) hO (Array.range xs.length) 0 (Array.range xs.length).size (Lib.bitLen (Array.range xs.length).size) true true (Nat.zero_le _) (Nat.le_refl _) (Or.inl rfl)).1.1
     rw[Array.size_range] at sorted hsz
     unfold eq
     generalize pdq (ltOf (kd cmp xs)) (Array.range xs.length) 0 xs.length (Lib.bitLen xs.length) true true=d' at *
     rw[List.pairwise_iff_getElem]
     intro i j hi hj hij a ha b hb'
     have hi':i<d'.size:=by simpa using hi
     have hj':j<d'.size:=by simpa using hj
     have hsn:=sorted i j (Nat.zero_le _) hij (by omega)
     rw[getElem!_pos d' j hj',getElem!_pos d' i hi'] at hsn
     unfold ltOf at hsn
     rw[hix] at hsn
     have q1:=hmem _ (List.getElem_mem hi)
     have q2:=hmem _ (List.getElem_mem hj)
     simp only[Array.getElem_toList] at ha hb' q1 q2
     rw[List.getElem?_eq_getElem q1] at ha
     rw[List.getElem?_eq_getElem q2] at hb'
     cases ha; cases hb'
     have c1:clIx xs.length d'[i]=d'[i]:=if_pos q1
     have c2:clIx xs.length d'[j]=d'[j]:=if_pos q2
     simp only[c1,c2,decide_eq_false_iff_not] at hsn
     have:=hc.neg (key xs[d'[j]]) (key xs[d'[i]])
     omega
end
end Go.TY
namespace Go.TY
open Go.EM
section
variable (P:Program) (E:Env) (h:Hints) (ET:TEnv) (H:TH)
def qr (σ:TS) (m:Mem) (rs:List ResultVar) (u:Ty):Option (List u.V) :=
 match resT P σ m rs with
 | some [⟨.own i,_⟩]=>match getM m i with
   | .row _ _ u' xs=>cond (Nat.beq i 0) (dl (.sl u') xs (.sl u) fun x=>x) none
   | _=>none
 | some [⟨.vw i,v⟩]=>match getM m i with
   | .row _ _ u' xs=>cond (Nat.beq i 0) ((dl (.sl u') xs (.sl u) fun x=>x).bind fun xs=>cond xs.isEmpty none (if v.1+v.2≤xs.length then some ((xs.drop v.1).take v.2) else none)) none
   | _=>none
 | _=>none
noncomputable def af2 (fn:Func) (ps:Ty) (z:Bool) (e:Nat) (u:Ty) (v:ps.V) (w:List u.V):Option (List u.V) :=
 cond (Nat.beq (rowLen ps) (fn.params.size+fn.nfree)&&rowV ps&&u.closed&&cD fn.ntmps (fn.body.getD .skip)&&Nat.ble (fn.params.size+fn.nfree) fn.ntmps)
   (match fn.body with
    | some c=>DT P E h ET H c (List u.V) (eU ps v 0) [.row z e u w] (fun x σ m=>match x with
       | .normal=>qr P σ m fn.results.toList u
       | .ret=>qr P σ m fn.results.toList u
       | _=>none)
    | none=>none) none
end
section
variable {P:Program}{E:Env}{ET:TEnv}{h:Hints}{H:TH}
theorem xr (hE:EnvT E ET) {fn:Func}{ps u:Ty}{z:Bool}{e:Nat}{fnT:ps.V→List u.V→Option (List u.V)} (hrun:af2 P E h ET H fn ps z e u=fnT) :
   TRawOk (jj (runF P E h fn)) { ps:=ps,ins:=[.row z e u],res:=.sl u,outs:=[.gone],fn:=fun v w=>(fnT v w.1).map fun l=>(l,()) }:=by
 refine TRawOk.ofBox rfl fun Φ Γ st pv v bs r w hmem hps hr => ?_
 obtain ⟨xs,⟨⟩⟩:=v
 simp only at hr hps hmem
 rw[Option.map_eq_some_iff] at hr
 obtain ⟨out,hr,hr2⟩:=hr
 obtain ⟨e1,e2⟩:=Prod.mk.inj hr2
 subst e1
 clear hr2 e2
 rw[← hrun] at hr
 unfold af2 at hr
 cases hc:(Nat.beq (rowLen ps) (fn.params.size+fn.nfree)&&rowV ps&&u.closed&&cD fn.ntmps (fn.body.getD .skip)&&Nat.ble (fn.params.size+fn.nfree) fn.ntmps) with
 | false=>rw[hc] at hr; cases hr
 | true =>
   rw[hc,cond_true] at hr
   simp only[Bool.and_eq_true,Nat.beq_eq] at hc
   obtain ⟨⟨⟨⟨c1,c2⟩,c3⟩,c9⟩,c10⟩:=hc
   split at hr
   · rename_i c hb
     have hlen:=(d9 (n:=0) (k:=0) c2 hps).1
     have hslot:ct Γ (eU ps pv 0) (dC (List.range (fn.params.size+fn.nfree)) 0 bs):=by
       intro k w hw
       obtain ⟨g1,g2,g3,g4⟩:=(d9 (n:=0) (k:=k) c2 hps).2 w hw
       refine ⟨g1,?_⟩
       rw[List.range_eq_range',fu _ _ _ _ (by omega) (by omega)]
       rw[Nat.sub_zero] at g3
       exact g3
     obtain ⟨x,σ1,m1,σA1,st1,Γ1,g1,g2,g3,g4,g5,g6⟩:=kT hE c hslot hmem hr
     have hend:qr P σ1 m1 fn.results.toList u=some out∧(x = .normal∨x = .ret):=by
       cases x with
       | normal=>exact ⟨g1,.inl rfl⟩
       | ret=>exact ⟨g1,.inr rfl⟩
       | exit i=>cases g1
     obtain ⟨he,hee⟩:=hend
     have hrunF:∀ av,resV P σA1 st1 fn.results.toList=some av→runF P E h fn bs st=some (av,st1):=by
       intro av hv
       unfold runF
       have:Nat.beq bs.length (fn.params.size+fn.nfree)=true:=by rw[Nat.beq_eq]; omega
       rw[hb] at c9
       simp only[Option.getD_some] at c9
       rw[this,hb]
       simp only[cond_true,Option.getD_some,c9,c10,Bool.and_self]
       rw[g6]
       rcases hee with rfl | rfl<;>simp only[hv,Option.map_some]
     -- what lies behind
     have gone:∀ (st':az),(∀ r g,Φ r=some g→st'[r]? = some g)→MemR Φ (fun _=>none) (aP [] [.gone] () 0) st':=fun st' hold =>
       ⟨(fun id hid=>by
         have:id=0:=by simp[aP] at hid; omega
         subst this; trivial),(fun _ _=>rfl),(fun i j r n l n' l' h=>by cases h),(fun i r n l h=>by cases h),hold,(fun r g i n l _ h=>by cases h)⟩
     have dead:∀ r0 n l j,Γ1 j=some (.inr (r0,n,l))→∀ r g,Φ r=some g→(st1.set r0 .dead)[r]? = some g:=fun r0 n l j hj r g hg=>by
       rw[List.getElem?_set_ne (fun e'=>by subst e'; exact g3.dis _ _ j _ _ hg hj)]
       exact g3.old r g hg
     unfold qr at he
     split at he
     · rename_i i _ hl
       obtain ⟨as',q1,q2⟩:=lW (P:=P) g2 g3 hl
       split at he
       · rename_i z' e' u' ys hg
         cases hi0:Nat.beq i 0 with
         | false=>rw[hi0] at he; cases he
         | true =>
           rw[hi0,cond_true] at he
           obtain ⟨ee,hxx⟩:=bd he
           cases ee
           subst hxx
           have hreg:=g3.at i
           rw[hg] at hreg
           obtain ⟨_,_,_,_,h5⟩:=hreg
           match as',q2 with
           | [a],q2 =>
             have q3:=q2.1.2
             simp only[R] at q3
             rcases h5 with ⟨rfl,b,h5,_⟩ | ⟨r0,zs,h5,h6,h7,_⟩
             · simp only[h5] at q3
               rcases q3 with q3 | ⟨_,n,q3⟩
               · cases q3
                 exact ⟨.nil,st1,fun _=>none,by simp only[jj,hrunF _ (iT q1),Option.bind_some,nB],.inl ⟨rfl,rfl⟩,gone st1 g3.old,(fun j y hb _=>by cases j<;>cases hb)⟩
               · cases q3
                 exact ⟨.tree true n [],st1,fun _=>none,by simp only[jj,hrunF _ (iT q1),Option.bind_some,nB],.inr ⟨true,n,[],rfl,.inl rfl,trivial⟩,gone st1 g3.old,(fun j y hb _=>by cases j<;>cases hb)⟩
             · simp only[h5] at q3
               cases q3
               have hal:=aW h7
               have hrow:EM.rowAt st1 r0 u.size out.length=some zs:=by simp only[EM.rowAt,h6,hal,and_self,if_true]
               refine ⟨.tree false u.size zs,st1.set r0 .dead,fun _=>none,?_,.inr ⟨false,u.size,zs,rfl,.inr rfl,aJ (p:=fun x a=>R Γ1 u x false [a]) (fun x a hx=>aS c3 hx) h7⟩,gone _ (dead r0 _ _ i h5),(fun j y hb _=>by cases j<;>cases hb)⟩
               simp only[jj,hrunF _ (iT q1),Option.bind_some,nB]
               rw[if_pos (by omega),hrow]
               simp only[Option.map_some,List.drop_zero]
               rw[List.take_of_length_le (by omega)]
       · cases he
     · rename_i i v hl
       obtain ⟨as',q1,q2⟩:=lW (P:=P) g2 g3 hl
       split at he
       · rename_i z' e' u' ys hg
         cases hi0:Nat.beq i 0 with
         | false=>rw[hi0] at he; cases he
         | true =>
           rw[hi0,cond_true,Option.bind_eq_some_iff] at he
           obtain ⟨ys',he1,he⟩:=he
           obtain ⟨ee,hxx⟩:=bd he1
           cases ee
           subst hxx
           cases hem:ys'.isEmpty with
           | true=>rw[hem] at he; cases he
           | false =>
           rw[hem,cond_false] at he
           obtain ⟨hle,rfl⟩:=df he
           have hreg:=g3.at i
           rw[hg] at hreg
           obtain ⟨_,_,_,_,h5⟩:=hreg
           match as',q2 with
           | [a],q2 =>
             have q3:=q2.1.2
             simp only[R] at q3
             obtain ⟨r1,n1,l1,q4,q5⟩:=q3
             cases q5
             rcases h5 with ⟨rfl,_⟩ | ⟨r0,zs,h5,h6,h7,_⟩
             · cases hem
             · rw[h5] at q4
               cases q4
               have hal:=aW h7
               have hrow:EM.rowAt st1 r1 u.size ys'.length=some zs:=by simp only[EM.rowAt,h6,hal,and_self,if_true]
               refine ⟨.tree false u.size ((zs.drop v.1).take v.2),st1.set r1 .dead,fun _=>none,?_,.inr ⟨false,u.size,_,rfl,.inr rfl,aJ (p:=fun x a=>R Γ1 u x false [a]) (fun x a hx=>aS c3 hx) (gH _ (gI _ h7))⟩,gone _ (dead r1 _ _ i h5),(fun j y hb _=>by cases j<;>cases hb)⟩
               simp only[jj,hrunF _ (iT q1),Option.bind_some,nB]
               rw[if_pos hle,hrow]
               rfl
       · cases he
     · cases he
   · cases hr
end
end Go.TY
namespace Go.TY
open Go.EM Go.Proofs Go.Sort
end Go.TY
namespace Go.TY
open Go.EM
section
variable {A:Type} [DecidableEq A]
def sqzS (o:List A) (x:A):List A:=if o.getLast? = some x then o else o++[x]
def sqz (l:List A):List A:=l.foldl sqzS []
theorem pF {l:List A}{x:A}:sqz (l++[x])=sqzS (sqz l) x:=by unfold sqz; rw[List.foldl_append]; rfl
theorem afg:∀ {l:List A},(sqz l).getLast? = l.getLast? := by
 intro l
 rcases List.eq_nil_or_concat l with rfl | ⟨l,x,rfl⟩
 · rfl
 · rw[List.concat_eq_append,pF]
   unfold sqzS
   by_cases h:(sqz l).getLast? = some x
   · rw[if_pos h,h]; simp
   · rw[if_neg h]; simp
theorem pE {x:A}:∀ (n:Nat) (l:List A),l.length=n→(x∈sqz l↔x∈l):=by
 intro n
 induction n with
 | zero=>intro l h; rw[List.length_eq_zero_iff.1 h]; exact Iff.rfl
 | succ n ih =>
   intro l h
   rcases List.eq_nil_or_concat l with rfl | ⟨l,y,rfl⟩
   · cases h
   · rw[List.concat_eq_append] at h ⊢
     rw[List.length_append] at h
     have:=ih l (by simpa using h)
     rw[pF]
     unfold sqzS
     split
     · rename_i hl
       rw[this,List.mem_append,List.mem_singleton]
       constructor
       · exact .inl
       · rintro (h1 | h1)
         · exact h1
         · subst h1; rw[← this]; exact List.mem_of_getLast? hl
     · rw[List.mem_append,List.mem_append,this]
variable {K:Type}{c:K→K→Int}{key:A→K}
theorem rB (hc:Cmp c) (hk:∀ a b,c (key a) (key b)=0→a=b):∀ (n:Nat) (l:List A),l.length=n→(l.Pairwise fun x y=>c (key x) (key y)≤0)→iJ c key (sqz l):=by
 intro n
 induction n with
 | zero=>intro l h _; rw[List.length_eq_zero_iff.1 h]; exact List.Pairwise.nil
 | succ n ih =>
   intro l h hp
   rcases List.eq_nil_or_concat l with rfl | ⟨l,y,rfl⟩
   · cases h
   · rw[List.concat_eq_append] at h hp ⊢
     rw[List.length_append] at h
     have hp':=List.pairwise_append.1 hp
     have hr:=ih l (by simpa using h) hp'.1
     rw[pF]
     unfold sqzS
     split
     · exact hr
     · rename_i hl
       refine List.pairwise_append.2 ⟨hr,List.pairwise_singleton ..,fun a ha b hb => ?_⟩
       rw[List.mem_singleton] at hb
       subst hb
       have ha':=(pE _ l rfl).1 ha
       have hab:=hp'.2.2 a ha' b (List.mem_singleton.2 rfl)
       rcases Int.lt_or_eq_of_le hab with h1 | h1
       · exact h1
       · have e:=hk _ _ h1
         subst e
         rcases List.eq_nil_or_concat (sqz l) with e0 | ⟨q,z,e0⟩
         · rw[e0] at ha; cases ha
         · rw[List.concat_eq_append] at e0
           rw[e0] at hl ha hr
           have hz:z∈l:=by rw[← pE _ l rfl,e0]; simp
           have hza:=hp'.2.2 z hz a (List.mem_singleton.2 rfl)
           rw[List.getLast?_append] at hl
           simp only[List.getLast?_singleton,Option.some_or,Option.some.injEq] at hl
           rcases List.mem_append.1 ha with hq | hq
           · have:=(List.pairwise_append.1 hr).2.2 a hq z (List.mem_singleton.2 rfl)
             have hn:=hc.neg (key a) (key z)
             omega
           · exact absurd (List.mem_singleton.1 hq).symm hl
end
section
variable {A:Type}{c:A→A→Int}
abbrev ff (c:A→A→Int) (o:List A):Prop:=iJ c (fun v=>v) o
def insU (c:A→A→Int) (o:List A) (v:A):List A:=match o with
 | []=>[v]
 | x::l=>if c v x=0 then x::l else if c v x<0 then v::x::l else x::insU c l v
theorem qh (hc:Cmp c) {v x:A}:∀ {o:List A},x∈insU c o v↔x=v∨x∈o
 | []=>by simp[insU]
 | y::l=>by
   unfold insU
   split
   · rename_i h
     have e:=(hc.zero _ _).1 h
     subst e
     simp
   · split
     · simp
     · rw[List.mem_cons,qh hc,List.mem_cons]
       constructor
       · rintro (h | h | h)
         · exact .inr (.inl h)
         · exact .inl h
         · exact .inr (.inr h)
       · rintro (h | h | h)
         · exact .inr (.inl h)
         · exact .inl h
         · exact .inr (.inr h)
theorem oO (hc:Cmp c) {v:A}:∀ {o:List A},ff c o→ff c (insU c o v)
 | [],_=>List.pairwise_singleton ..
 | y::l,h=>by
   have h':=List.pairwise_cons.1 h
   unfold insU
   split
   · exact h
   · rename_i h0
     split
     · rename_i h1
       refine List.pairwise_cons.2 ⟨fun z hz => ?_,h⟩
       rcases List.mem_cons.1 hz with e | hz
       · subst e; exact h1
       · exact hc.trans _ _ _ h1 (h'.1 z hz)
     · rename_i h1
       refine List.pairwise_cons.2 ⟨fun z hz => ?_,oO hc h'.2⟩
       rcases (qh hc).1 hz with e | hz
       · subst e
         have h2:=hc.neg z y
         show c y z<0
         omega
       · exact h'.1 z hz
def uniq (c:A→A→Int) (l:List A):List A:=l.foldl (insU c) []
theorem qo {f:List A→A→List A} (hm:∀ o v x,ff c o→(x∈f o v↔x=v∨x∈o)) (hr:∀ o v,ff c o→ff c (f o v)):∀ (l o:List A),ff c o→ff c (l.foldl f o)∧∀ x,x∈l.foldl f o↔x∈o∨x∈l
 | [],o,h=>⟨h,fun x=>by simp⟩
 | v::l,o,h=>by
   obtain ⟨h1,h2⟩:=qo hm hr l (f o v) (hr o v h)
   refine ⟨h1,fun x => ?_⟩
   rw[List.foldl_cons,h2,hm o v x h,List.mem_cons]
   constructor
   · rintro ((h | h) | h)
     · exact .inr (.inl h)
     · exact .inl h
     · exact .inr (.inr h)
   · rintro (h | h | h)
     · exact .inl (.inr h)
     · exact .inl (.inl h)
     · exact .inr h
theorem wJ (hc:Cmp c) (l:List A):ff c (uniq c l)∧∀ x,x∈uniq c l↔x∈l:=by
 obtain ⟨h1,h2⟩:=qo (f:=insU c) (fun o v x (_:ff c o)=>qh hc) (fun o v h=>oO hc h) l [] List.Pairwise.nil
 exact ⟨h1,fun x=>by have:=h2 x; simpa [uniq] using this⟩
theorem gJ (hc:Cmp c) (l:List A):ff c (uniq c l):=(wJ hc l).1
theorem kV (hc:Cmp c) (l:List A) (x:A):x∈uniq c l↔x∈l:=(wJ hc l).2 x
theorem adA (hc:Cmp c) {f:List A→A→List A} (hm:∀ o v x,ff c o→(x∈f o v↔x=v∨x∈o)) (hr:∀ o v,ff c o→ff c (f o v)) (l:List A):l.foldl f []=uniq c l:=by
 obtain ⟨h1,h2⟩:=qo hm hr l [] List.Pairwise.nil
 refine dP hc (key:=fun v=>v) h1 (gJ hc l) fun x => ?_
 rw[h2,kV hc]; simp
theorem xi {v:A}:∀ {o:List A},(insU c o v).length≤o.length+1
 | []=>Nat.le_refl _
 | y::l=>by
   unfold insU
   split
   · omega
   · split
     · simp
     · have:=xi (v:=v) (o:=l)
       simp only[List.length_cons]; omega
theorem xx:∀ (l o:List A),(l.foldl (insU c) o).length≤o.length+l.length
 | [],o=>Nat.le_refl _
 | v::l,o=>by
   have:=xx l (insU c o v)
   have := @xi A c v o
   rw[List.foldl_cons,List.length_cons]; omega
theorem wI (l:List A):(uniq c l).length≤l.length:=by
 have:=xx (c:=c) l []
 simpa [uniq] using this
abbrev loA (c:A→A→Int) (v:A) (o:List A):List A:=lo c (fun x=>x) v o
abbrev hiA (c:A→A→Int) (v:A) (o:List A):List A:=hi c (fun x=>x) v o
theorem ac5 {v:A}{o:List A}:loA c v o++hiA c v o=o:=lohi
theorem yE {p q:List A}{y:A}:ff c (p++y::q)↔ff c (p++q)∧(∀ x∈p,c x y<0)∧∀ x∈q,c y x<0:=by
 unfold ff iJ
 rw[List.pairwise_append,List.pairwise_append,List.pairwise_cons]
 constructor
 · rintro ⟨h1,⟨h2,h3⟩,h4⟩
   exact ⟨⟨h1,h3,fun a ha b hb=>h4 a ha b (List.mem_cons_of_mem _ hb)⟩,fun x hx=>h4 x hx y (List.mem_cons_self ..),h2⟩
 · rintro ⟨⟨h1,h3,h4⟩,h5,h2⟩
   refine ⟨h1,⟨h2,h3⟩,fun a ha b hb => ?_⟩
   rcases List.mem_cons.1 hb with rfl | hb
   · exact h5 a ha
   · exact h4 a ha b hb
def putU (c:A→A→Int) (o:List A) (v:A):List A:=match hiA c v o with
 | []=>loA c v o++[v]
 | y::q=>if c y v=0 then o else loA c v o++v::y::q
theorem afy (hc:Cmp c) {o:List A}{v x:A}:x∈putU c o v↔x=v∨x∈o:=by
 have e:loA c v o++hiA c v o=o:=ac5
 unfold putU
 split
 · rename_i h
   rw[h,List.append_nil] at e
   rw[e,List.mem_append,List.mem_singleton,or_comm]
 · rename_i y q h
   rw[h] at e
   split
   · rename_i h0
     have e2:=(hc.zero _ _).1 h0
     subst e2
     constructor
     · exact .inr
     · rintro (h1 | h1)
       · rw[h1,← e]; simp
       · exact h1
   · conv=>rhs; rw[← e]
     simp only[List.mem_append,List.mem_cons]
     constructor
     · rintro (h | h | h | h)
       · exact .inr (.inl h)
       · exact .inl h
       · exact .inr (.inr (.inl h))
       · exact .inr (.inr (.inr h))
     · rintro (h | h | h | h)
       · exact .inr (.inl h)
       · exact .inl h
       · exact .inr (.inr (.inl h))
       · exact .inr (.inr (.inr h))
theorem sd {v:A}{o:List A}:∀ x∈loA c v o,c x v<0:=je (c:=c) (key:=fun x=>x)
theorem ou (hc:Cmp c) {o:List A}{v:A} (hr:ff c o):ff c (putU c o v):=by
 have e:loA c v o++hiA c v o=o:=ac5
 unfold putU
 split
 · rename_i h
   rw[h,List.append_nil] at e
   refine List.pairwise_append.2 ⟨by rw[e]; exact hr,List.pairwise_singleton ..,fun a ha b hb => ?_⟩
   rw[List.mem_singleton] at hb
   subst hb
   exact sd a ha
 · rename_i y q h
   split
   · exact hr
   · rename_i h0
     have ha:=kZ hc (key:=fun x=>x) hr h
     rw[h] at e
     refine yE.2 ⟨by rw[e]; exact hr,fun x hx=>sd x hx,fun x hx => ?_⟩
     have hn:=hc.neg x v
     show c v x<0
     rcases List.mem_cons.1 hx with e' | hx
     · subst e'; have:=ha.1; omega
     · have:=ha.2 x hx; omega
theorem afz {o:List A}{v:A}:(putU c o v).length≤o.length+1:=by
 have e:loA c v o++hiA c v o=o:=ac5
 have el:(loA c v o).length+(hiA c v o).length=o.length:=by rw[← List.length_append,e]
 unfold putU
 split
 · rename_i h; rw[h] at el; simp only[List.length_append,List.length_singleton,List.length_nil] at *; omega
 · rename_i y q h
   split
   · omega
   · rw[h] at el; simp only[List.length_append,List.length_cons] at *; omega
theorem afu (hc:Cmp c) (l:List A):l.foldl (putU c) []=uniq c l:=adA hc (fun o v x _=>afy hc) (fun o v h=>ou hc h) l
end
section
variable {A B:Type}
end
end Go.TY
namespace Go.TY
open Go.EM
def agX (ps:Ty) (z:Bool) (e:Nat) (u:Ty) (fn:ps.V→jpM [.row z e u]→Option (Unit×jpM [.row z e u])):TRaw:={ ps:=ps,ins:=[.row z e u],res:=.sl u,outs:=[.gone],fn:=fun v w=>(fn v w).map fun q=>(q.2.1,()) }
theorem af1 {F:SFn}{ps u:Ty}{z:Bool}{e:Nat}{fn:ps.V→jpM [.row z e u]→Option (Unit×jpM [.row z e u])} (h:TRawOk F { ps:=ps,ins:=[.row z e u],res:=.own 0,outs:=[.row z e u],fn:=fn }):TRawOk (jj F) (agX ps z e u fn):=by
 refine ⟨fun Φ Γ st pv v bs r w h1 h2 h3 => ?_⟩
 simp only[agX,Option.map_eq_some_iff] at h3
 obtain ⟨q,hq,hq2⟩:=h3
 obtain ⟨a,st1,Γ1,g1,g2,g3,g4⟩:=h.run Φ Γ st pv v bs q.1 q.2 h1 h2 hq
 cases hq2
 simp only[R] at g2
 have hreg:=g3.at 0
 have hm0:getM (aP [] [.row z e u] q.2 0) 0 = .row z e u q.2.1:=rfl
 rw[hm0] at hreg
 obtain ⟨c1,c2,c3,c4,h5⟩:=hreg
 rcases h5 with ⟨hx,b,h5,_⟩ | ⟨r0,zs,h5,h6,h7,_⟩
 · have hk : MemR Φ Γ1 [.gone] st1 := {
     reg:=fun j hj=>by
       have:j=0:=by simpa using hj
       subst this; trivial
     out:=fun j hj=>g3.out j hj
     inj:=g3.inj
     lt:=g3.lt
     old:=g3.old
     dis:=g3.dis }
   rw[h5] at g2
   rcases g2 with g2 | ⟨_,n,g2⟩
   · cases g2
     exact ⟨.nil,st1,Γ1,by simp only[jj,g1,Option.bind_some,nB],.inl ⟨hx,rfl⟩,hk,fun j y hb hy=>by
       rcases hb with hb | hb
       · cases j<;>cases hb
       · cases hb⟩
   · cases g2
     exact ⟨.tree true n [],st1,Γ1,by simp only[jj,g1,Option.bind_some,nB],.inr ⟨true,n,[],rfl,.inl hx,by show All2 _ q.2.1 _; rw[hx]; trivial⟩,hk,fun j y hb hy=>by
       rcases hb with hb | hb
       · cases j<;>cases hb
       · cases hb⟩
 · rw[h5] at g2
   cases g2
   have hal:=aW h7
   have hrow:EM.rowAt st1 r0 u.size q.2.1.length=some zs:=by simp only[EM.rowAt,h6,hal,and_self,if_true]
   have hset:=g3.set (id:=0) (g:=.gone) (ag:=.dead) (by show 0<1; omega) h5 trivial
   refine ⟨.tree false u.size zs, st1.set r0 .dead, Γ1, ?_, .inr ⟨false, u.size, zs, rfl, .inr rfl, h7⟩, hset, fun j y hb hy => by
       rcases hb with hb | hb
       · cases j<;>cases hb
       · cases hb⟩
   simp only[jj,g1,Option.bind_some,nB]
   rw[if_pos (by omega),hrow]
   simp only[Option.map_some,List.drop_zero]
   rw[List.take_of_length_le (by omega)]
end Go.TY
namespace Go.TY
open Go.EM
def afZ {A:Type} (n:Int):Option (List A):=if 0≤n∧n<most then some [] else none
def adu (e:Nat) (u:Ty):TNew:={ ps:=.cons .nilsl (.cons (.int .i64) .unit),e:=e,t:=.sl u,fn:=fun v=>afZ v.2.1,row:=true }
theorem af0 {M e:Nat}{u:Ty} (hu:u.size=M):TNewOk (uV M e) (adu e u):=by
 refine ⟨(fun h=>by cases h),fun _ _ st v r zs Γ hps hr => ?_,(fun _ h=>by cases h),fun _ h=>by cases h⟩
 obtain ⟨⟨⟩,n,⟨⟩⟩:=v
 simp only[R,adu] at hps
 obtain ⟨l1,l2,rfl,rfl,l3,l4,rfl,rfl,rfl⟩:=hps
 simp only[adu,afZ] at hr
 split at hr
 · rename_i h
   cases hr
   have h1:0≤n:=h.1
   have h2:n<most:=h.2
   simp only[adu,aej,List.append_nil,List.cons_append,List.nil_append]
   by_cases h0:n=0
   · subst h0
     exact ⟨st,fun _ _=>rfl,.inl ⟨by trivial,.inl (by simp[uV])⟩⟩
   · refine ⟨st++[.row e u.size []],fun q hq=>List.getElem?_append_left hq,.inr ⟨st.length,[],?_,Nat.le_refl _,by simp,trivial⟩⟩
     simp only[uV]
     rw[if_neg h0,if_pos ⟨Int.lt_iff_le_and_ne.2 ⟨h1,Ne.symm h0⟩,h2⟩,hu]
     rfl
 · cases hr
end Go.TY
