import Derived.Test.YtnbgkhdcidbkaaaGreatDoorT14
import Derived.Test.YtnbgkhdcidbkaaaGreatDoorE32
set_option linter.unusedVariables false
namespace Go.TY
open Go.EM
def itoa (n:Int):Option (List UInt8):=if -9223372036854775808≤n∧n≤9223372036854775807 then some (Lib.itoa n) else none
def xa:TFn:={ ps:=.cons (.int .i64) .unit,res:=.str,fn:=fun v=>itoa v.1 }
theorem apF:TOk agL xa:=⟨rfl,rfl,rfl,fun v r xs hr hps=>by
 simp only[R,xa] at hps;obtain ⟨l1,l2,rfl,rfl,rfl⟩:=hps;simp only[xa,itoa] at hr
 split at hr
 · rename_i hn;cases hr;exact ⟨.str (Lib.itoa v.1),if_pos hn,rfl⟩
 · cases hr⟩
end Go.TY
namespace Go.TY
open Go.EM
end Go.TY
namespace Go.TY
open Go.EM
def cmpT (a b:List UInt8):Option Int:=some (Lib.compareBytes a b)
def aey:TFn:={ ps:=.cons .str (.cons .str .unit),res:=.int .i64,fn:=fun v=>cmpT v.1 v.2.1 }
theorem ap5:TOk cmpF aey:=⟨rfl,rfl,rfl,fun v r xs hr hps=>by
 simp only[R,aey] at hps;obtain ⟨l1,l2,rfl,rfl,l3,l4,rfl,rfl,rfl⟩:=hps;cases hr;exact ⟨_,rfl,rfl⟩⟩
def aer (s:List UInt8):Option (Int×Int×Unit):=some ((Lib.decodeGo ⟨s.toArray⟩).1,(Lib.decodeGo ⟨s.toArray⟩).2,())
def mF:TFn:={ ps:=.cons .str .unit,res:=.tup (.cons (.int .i32) (.cons (.int .i64) .unit)),fn:=fun v=>aer v.1 }
theorem zG:TOk qy mF:=⟨rfl,rfl,rfl,fun v r xs hr hps=>by
 simp only[R,mF] at hps;obtain ⟨l1,l2,rfl,rfl,rfl⟩:=hps;cases hr;exact ⟨_,rfl,_,rfl,_,_,rfl,rfl,_,[],rfl,rfl,rfl⟩⟩
end Go.TY
namespace Go.TY
open Go.EM
def dv {A:Type} (l:List A):Option (List A):=if l.length<most then some l else none
def d9 (u:Ty):TFn:={ ps:=.cons (.sl u) .unit,res:=.sl u,fn:=fun v=>dv v.1 }
theorem gn {M:Nat}{u:Ty} (hu:u.size=M) (hv:u.isV=true) (hc:u.closed=true):TOk (hP M) (d9 u):=by
 have hk:(Ty.sl u).closed=true:=by simp only[Ty.closed,hv,hc,qCC]
 refine ⟨by simp only[d9,Ty.closed,hv,hc,qCC],hk,rfl,fun v r xs hr hps => ?_⟩;obtain ⟨v,⟨⟩⟩:=v;simp only[R,d9] at hps;obtain ⟨l1,l2,rfl,hx,rfl⟩:=hps;simp only[d9,dv] at hr
 split at hr
 · rename_i hlt;cases hr;rcases hx with ⟨rfl,rfl⟩ | ⟨f,n,bs,rfl,hn,ha⟩
   · exact ⟨_,rfl,.inr ⟨false,0,[],rfl,.inl rfl,trivial⟩⟩
   · cases r with
     | nil =>
       match bs,ha with
       | [],_=>exact ⟨.tree false 0 [],rfl,.inr ⟨false,0,[],rfl,.inl rfl,trivial⟩⟩
     | cons x r =>
       match bs,ha with
       | a::bs,ha =>
         have hn:n=M:=by
           rcases hn with h | h
           · cases h
           · rw[h,hu]
         subst hn;have hlen:=aV ha;have hl2:bs.length+1<most:=by simp only[qAI] at hlen hlt; omega
         exact ⟨.tree false n (a::bs),by simp only[hP,qBX]; rw[if_pos ⟨trivial,hl2⟩],.inr ⟨false,n,a::bs,rfl,.inr hu.symm,ha⟩⟩
 · cases hr
def agJ (l:List (List UInt8)) (sep:List UInt8):Option (List UInt8):=if l.length≤140737488355328∧(Lib.join l sep).length≤140737488355328 then some (Lib.join l sep) else none
def qg:TFn:={ ps:=.cons (.sl .str) (.cons .str .unit),res:=.str,fn:=fun v=>agJ v.1 v.2.1 }
theorem ahL {Γ:Ctx}:∀ {v:List (List UInt8)}{bs:List AVal},All2 (fun x a=>R Γ .str x false [a]) v bs→uu bs=some v
 | [],[],_=>rfl
 | x::v,a::bs,h=>by
   have h1:=ahf h.1;subst h1;simp only[uu,ahL h.2,qAE]
 | [],_::_,h=>h.elim
 | _::_,[],h=>h.elim
theorem agI:TOk adV qg:=by
 refine ⟨rfl,rfl,rfl,fun v r xs hr hps => ?_⟩;obtain ⟨v,sep,⟨⟩⟩:=v;simp only[R,qg] at hps;obtain ⟨l1,l2,rfl,hx,l3,l4,rfl,rfl,rfl⟩:=hps;simp only[qg,agJ] at hr
 split at hr
 · rename_i hb;cases hr;rcases hx with ⟨rfl,rfl⟩ | ⟨f,n,bs,rfl,hn,ha⟩
   · exact ⟨_,rfl,rfl⟩
   · cases v with
     | nil =>
       match bs,ha with
       | [],_=>exact ⟨_,rfl,rfl⟩
     | cons x v =>
       match bs,ha with
       | a::bs,ha =>
         have hn:n=1:=by
           rcases hn with h | h
           · cases h
           · exact h
         have hs:=ahL (Γ:=Γ0) ha;refine ⟨.str (Lib.join (x::v) sep),?_,rfl⟩;simp only[adV,qBX];rw[if_pos hn,hs,qAJ,if_pos hb]
 · cases hr
end Go.TY
namespace Go.TY
open Go.EM
section
variable {A R X S:Type}
def eL (step:Nat→X→S→S⊕R) (fin:S→R):Nat→List X→S→R
 | _,[],s=>fin s
 | i,x::l,s=>match step i x s with
   | .inl s'=>eL step fin (i+1) l s'
   | .inr r=>r
theorem bA {f:A→Option (A⊕R)}{l:List X} (enc:Nat→S→A) (step:Nat→X→S→S⊕R) (fin:S→R) (inv:Nat→S→Prop)
   (hturn:∀ (i:Nat) (h:i<l.length) (s:S),inv i s→(∃ s',step i l[i] s = .inl s'∧f (enc i s)=some (.inl (enc (i+1) s'))∧inv (i+1) s')∨(∃ r,step i l[i] s = .inr r∧f (enc i s)=some (.inr r)))
   (hend:∀ s,inv l.length s→f (enc l.length s)=some (.inr (fin s))):∀ s,inv 0 s→aK f (enc 0 s)=some (eL step fin 0 l s):=by
 have key:∀ (k i:Nat) (s:S),l.length-i≤k→i≤l.length→inv i s→aK f (enc i s)=some (eL step fin i (l.drop i) s):=by
   intro k
   induction k with
   | zero =>
     intro i s hk hi hv;have:i=l.length:=(by omega);subst this;rw[qA0 (qAD _),aF (hend s hv)];rfl
   | succ k ih =>
     intro i s hk hi hv;by_cases hlt:i<l.length
     · rw[qBZ hlt];simp only[eL];rcases hturn i hlt s hv with ⟨s',h1,h2,h3⟩ | ⟨r,h1,h2⟩
       · rw[aH h2,ih (i+1) s' (by omega) (by omega) h3,h1]
       · rw[aF h2,h1]
     · have:i=l.length:=(by omega);subst this;rw[qA0 (qAD _),aF (hend s hv)];rfl
 intro s hv;have:=key l.length 0 s (by omega) (by omega) hv;simpa using this
theorem kF {f:A→Option (A⊕R)}{l:List X} (enc:Nat→A) (p:X→Bool) (yes no:R)
   (hturn:∀ (i:Nat) (h:i<l.length),f (enc i)=some (if p l[i] then .inl (enc (i+1)) else .inr no)) (hend:f (enc l.length)=some (.inr yes)):aK f (enc 0)=some (if l.all p then yes else no):=by
 have:=bA (S:=Unit) (fun i _=>enc i) (fun _ x _=>if p x then .inl () else .inr no) (fun _=>yes) (fun _ _=>True) (l:=l) (f:=f) (fun i h s _=>by
   by_cases hp:p l[i]=true
   · exact .inl ⟨(),by rw[if_pos hp],by rw[hturn i h,if_pos hp],trivial⟩
   · exact .inr ⟨no,by rw[if_neg hp],by rw[hturn i h,if_neg hp]⟩) (fun s _=>hend) () trivial
 rw[this];congr 1;have gen:∀ (l:List X) (i:Nat),eL (S:=Unit) (fun _ x _=>if p x then .inl () else .inr no) (fun _=>yes) i l ()=if l.all p then yes else no:=by
   intro l
   induction l with
   | nil=>intro i; rfl
   | cons x l ih =>
     intro i;have h:=ih (i+1);by_cases hp:p x=true
     · simp only[eL,hp,if_true];rw[h];simp[hp]
     · simp[eL,hp]
 exact gen l 0
theorem fE {Y:Type}{f:A→Option (A⊕R)}{l:List X} (enc:Nat→List Y→A) (g:X→List Y) (fin:List Y→R) (m:Nat) (hg:∀ x∈l,(g x).length≤m)
   (hturn:∀ (i:Nat) (h:i<l.length) (o:List Y),o.length≤i*m→f (enc i o)=some (.inl (enc (i+1) (o++g l[i])))) (hend:∀ o,o.length≤l.length*m→f (enc l.length o)=some (.inr (fin o))) :
   aK f (enc 0 [])=some (fin (l.flatMap g)):=by
 have:=bA (S:=List Y) enc (fun _ x o=>.inl (o++g x)) fin (fun i o=>o.length≤i*m) (l:=l) (f:=f) (fun i h o ho=>.inl ⟨_,rfl,hturn i h o ho,by
   have:=hg l[i] (qCK h);rw[qAA,qB6]; omega⟩) hend [] (by simp)
 rw[this];congr 1;have gen:∀ (l:List X) (i:Nat) (o:List Y),eL (S:=List Y) (R:=R) (fun _ x o=>.inl (o++g x)) fin i l o=fin (o++l.flatMap g):=by
   intro l
   induction l with
   | nil=>intro i o; simp[eL]
   | cons x l ih=>intro i o; simp only[eL]; rw[ih]; simp[qBG]
 rw[gen]; rfl
def all2 {Y:Type} (q:X→Y→Bool):List X→List Y→Bool
 | [],[]=>true
 | x::l,y::m=>q x y&&all2 q l m
 | _,_=>false
theorem iQ {Y:Type}{f:A→Option (A⊕R)}{l:List X}{m:List Y} (enc:Nat→A) (q:X→Y→Bool) (yes no:R) (hl:l.length=m.length)
   (hturn:∀ (i:Nat) (h:i<l.length) (h':i<m.length),f (enc i)=some (if q l[i] m[i]=true then .inl (enc (i+1)) else .inr no)) (hend:f (enc l.length)=some (.inr yes)):aK f (enc 0)=some (if all2 q l m=true then yes else no):=by
 have key:∀ (k i:Nat),l.length-i≤k→i≤l.length→aK f (enc i)=some (if all2 q (l.drop i) (m.drop i)=true then yes else no):=by
   intro k
   induction k with
   | zero =>
     intro i hk hi;have e:i=l.length:=(by omega);subst e;rw[aF hend,qA0 (qAD _),qA0 (by omega)];rfl
   | succ k ih =>
     intro i hk hi;by_cases hlt:i<l.length
     · have h2:i<m.length:=(by omega);rw[qBZ hlt,qBZ h2];have ht:=hturn i hlt h2;by_cases hq:q l[i] m[i]=true
       · rw[if_pos hq] at ht;rw[aH ht,ih (i+1) (by omega) (by omega)];simp only[all2,hq,qBO]
       · rw[if_neg hq] at ht;rw[aF ht];simp[all2,hq]
     · have e:i=l.length:=(by omega);subst e;rw[aF hend,qA0 (qAD _),qA0 (by omega)];rfl
 have:=key l.length 0 (by omega) (by omega);simpa using this
theorem jm [DecidableEq X]:∀ {l m:List X},all2 (fun x y=>decide (x=y)) l m=decide (l=m)
 | [],[]=>rfl
 | [],_::_=>by simp[all2]
 | _::_,[]=>by simp[all2]
 | x::l,y::m=>by
   simp only[all2,jm (l:=l) (m:=m),List.cons.injEq,Bool.decide_and]
open Classical in
theorem lX {f:A→Option (A⊕R)} (n:Nat) (enc:Nat→A) (p:Nat→Bool) (yes no:R)
   (hturn:∀ (i:Nat) (h:i<n),f (enc i)=some (if p i=true then .inl (enc (i+1)) else .inr no)) (hend:f (enc n)=some (.inr yes)):aK f (enc 0)=some (if (∀ i,i<n→p i=true) then yes else no):=by
 have key:∀ (k i:Nat),n-i≤k→i≤n→aK f (enc i)=some (if (∀ j,i≤j→j<n→p j=true) then yes else no):=by
   intro k
   induction k with
   | zero =>
     intro i hk hi;have e:i=n:=(by omega);subst e;rw[aF hend,if_pos (fun j h1 h2=>by omega)]
   | succ k ih =>
     intro i hk hi;by_cases hlt:i<n
     · have ht:=hturn i hlt;by_cases hq:p i=true
       · rw[if_pos hq] at ht;rw[aH ht,ih (i+1) (by omega) (by omega)];by_cases ha:∀ j,i+1≤j→j<n→p j=true
         · rw [if_pos ha, if_pos (fun j h1 h2 => by
             rcases Nat.lt_or_eq_of_le h1 with h | h
             · exact ha j h h2
             · rw[← h]; exact hq)]
         · rw[if_neg ha,if_neg (fun hb=>ha (fun j h1 h2=>hb j (by omega) h2))]
       · rw[if_neg hq] at ht;rw[aF ht,if_neg (fun hb=>hq (hb i (qAD _) hlt))]
     · have e:i=n:=(by omega);subst e;rw[aF hend,if_pos (fun j h1 h2=>by omega)]
 have:=key n 0 (by omega) (by omega);rw[this];congr 1;by_cases ha:∀ i,i<n→p i=true
 · rw[if_pos ha,if_pos (fun j _ h2=>ha j h2)]
 · rw[if_neg ha,if_neg (fun hb=>ha (fun j h2=>hb j (qB3 _) h2))]
end
end Go.TY
set_option linter.unusedSectionVars false
namespace Go.TY
structure Cmp {K:Type} (c:K→K→Int):Prop where
 one:∀ a b,-1≤c a b∧c a b≤1
 neg:∀ a b,c b a = - c a b
 zero:∀ a b,c a b=0↔a=b
 trans:∀ a b d,c a b<0→c b d<0→c a d<0
def cmpL {K:Type} (c:K→K→Int):List K→List K→Int
 | [],[]=>0
 | [],_::_ => -1
 | _::_,[]=>1
 | x::a,y::b=>if c x y=0 then cmpL c a b else c x y
section
variable {K:Type}{c:K→K→Int}
theorem Cmp.list (h:Cmp c):Cmp (cmpL c) where
 one:=by
   intro a
   induction a with
   | nil=>intro b; cases b<;>simp[cmpL]
   | cons x a ih =>
     intro b;cases b with
     | nil=>simp[cmpL]
     | cons y b =>
       simp only[cmpL]
       split
       · exact ih b
       · exact h.one x y
 neg:=by
   intro a
   induction a with
   | nil=>intro b; cases b<;>simp[cmpL]
   | cons x a ih =>
     intro b;cases b with
     | nil=>simp[cmpL]
     | cons y b =>
       simp only[cmpL];have:=h.neg x y;by_cases h0:c x y=0
       · rw[if_pos h0,if_pos (by omega)]; exact ih b
       · rw[if_neg h0,if_neg (by omega)]; exact this
 zero:=by
   intro a
   induction a with
   | nil=>intro b; cases b<;>simp[cmpL]
   | cons x a ih =>
     intro b;cases b with
     | nil=>simp[cmpL]
     | cons y b =>
       simp only[cmpL];by_cases h0:c x y=0
       · rw[if_pos h0,ih b,(h.zero x y).1 h0]; simp
       · rw[if_neg h0];constructor
         · intro k; exact absurd k h0
         · intro k; cases k; exact absurd ((h.zero x x).2 rfl) h0
 trans:=by
   intro a
   induction a with
   | nil =>
     intro b d h1 h2;cases b with
     | nil=>simp[cmpL] at h1
     | cons y b =>
       cases d with
       | nil=>simp[cmpL] at h2
       | cons z d=>simp[cmpL]
   | cons x a ih =>
     intro b d h1 h2;cases b with
     | nil=>simp[cmpL] at h1
     | cons y b =>
       cases d with
       | nil=>simp[cmpL] at h2
       | cons z d =>
         simp only[cmpL] at h1 h2 ⊢;by_cases h0:c x y=0
         · rw[if_pos h0] at h1;have e:=(h.zero x y).1 h0;subst e;by_cases h3:c x z=0
           · rw[if_pos h3] at h2 ⊢; exact ih b d h1 h2
           · rw[if_neg h3] at h2 ⊢; exact h2
         · rw[if_neg h0] at h1;by_cases h3:c y z=0
           · have e:=(h.zero y z).1 h3;subst e;rw[if_neg h0]; exact h1
           · rw[if_neg h3] at h2;have:=h.trans x y z h1 h2;rw[if_neg (by omega)]; exact this
def cmpB {L:Type} (c:K→K→Int) (d:L→L→Int) (a b:K×L):Int:=if c a.1 b.1=0 then d a.2 b.2 else c a.1 b.1
theorem Cmp.pair {L:Type}{d:L→L→Int} (h:Cmp c) (k:Cmp d):Cmp (cmpB c d) where
 one a b:=by
   unfold cmpB
   split
   · exact k.one _ _
   · exact h.one _ _
 neg a b:=by
   unfold cmpB;have:=h.neg a.1 b.1;by_cases h0:c a.1 b.1=0
   · rw[if_pos h0,if_pos (by omega)]; exact k.neg _ _
   · rw[if_neg h0,if_neg (by omega)]; exact this
 zero a b:=by
   unfold cmpB;obtain ⟨a1,a2⟩:=a;obtain ⟨b1,b2⟩:=b;simp only;by_cases h0:c a1 b1=0
   · rw[if_pos h0,k.zero,(h.zero _ _).1 h0]; simp
   · rw[if_neg h0];constructor
     · intro e; exact absurd e h0
     · intro e; cases e; exact absurd ((h.zero _ _).2 rfl) h0
 trans a b e h1 h2:=by
   unfold cmpB at h1 h2 ⊢;obtain ⟨a1,a2⟩:=a;obtain ⟨b1,b2⟩:=b;obtain ⟨e1,e2⟩:=e;simp only at h1 h2 ⊢;by_cases h0:c a1 b1=0
   · rw[if_pos h0] at h1;have q:=(h.zero _ _).1 h0;subst q;by_cases h3:c a1 e1=0
     · rw[if_pos h3] at h2 ⊢; exact k.trans _ _ _ h1 h2
     · rw[if_neg h3] at h2 ⊢; exact h2
   · rw[if_neg h0] at h1;by_cases h3:c b1 e1=0
     · have q:=(h.zero _ _).1 h3;subst q;rw[if_neg h0]; exact h1
     · rw[if_neg h3] at h2;have:=h.trans _ _ _ h1 h2;rw[if_neg (by omega)]; exact this
theorem Cmp.irr (h:Cmp c) (a:K):¬ c a a<0:=by have:=(h.zero a a).2 rfl; omega
end
theorem xp {A B:Type}{f g:A→List B}:∀ {l:List A},(∀ x∈l,f x=g x)→l.flatMap f=l.flatMap g
 | [],_=>rfl
 | x::l,h=>by rw[qBG,qBG,h x (qAL ..),xp (fun y hy=>h y (qAM _ hy))]
section
variable {X K C:Type} (c:K→K→Int) (key:X→K) (same:X→X→Bool) (G M:X→C) (T:X→X→C) (leaf:C→K)
def cC:List X→List X→List C
 | [],b=>b.map M
 | x::a,[]=>(x::a).map G
 | x::a,y::b=>if c (key x) (key y)<0 then G x::cC a (y::b) else if c (key x) (key y)>0 then M y::cC (x::a) b else (if same x y then [] else [T x y])++cC a b
termination_by a b=>a.length+b.length
def ins (v:C):List C→List C
 | []=>[v]
 | e::l=>if c (leaf v) (leaf e)<0 then v::e::l else e::ins v l
def dX (a:List X):Prop:=a.Pairwise fun x y=>c (key x) (key y)<0
variable {c key same G M T leaf}
variable (hc:Cmp c) (hG:∀ x,leaf (G x)=key x) (hM:∀ x,leaf (M x)=key x) (hT:∀ x y,leaf (T x y)=key x)
include hc hG hT
include hM
end
end Go.TY
set_option linter.unusedSimpArgs false
namespace Go.TY
open Go.EM
def mM (e:Nat) (u:Ty):TNew:={ ps:=.cons (.sl u) .unit,e:=e,t:=.sl u,fn:=fun v=>dv v.1,row:=true }
theorem mL {M e:Nat}{u:Ty} (hu:u.size=M) (hv:u.isV=true) (hc:u.closed=true):TNewOk (j8 M e) (mM e u):=by
 refine ⟨(fun h=>by cases h),fun _ _ st v r zs Γ hps hr => ?_,(fun _ h=>by cases h),fun _ h=>by cases h⟩;obtain ⟨v,⟨⟩⟩:=v;simp only[R,mM] at hps;obtain ⟨l1,l2,rfl,hx,rfl⟩:=hps;simp only[mM,dv] at hr
 split at hr
 · rename_i hlt;cases hr;simp only[mM,ah6,qAT];rcases hx with ⟨rfl,rfl⟩ | ⟨f,n,bs,rfl,hn,ha⟩
   · exact ⟨st,fun _ _=>rfl,.inl ⟨rfl,.inl rfl⟩⟩
   · cases r with
     | nil =>
       match bs,ha with
       | [],_=>exact ⟨st,fun _ _=>rfl,.inl ⟨rfl,.inr ⟨0,rfl⟩⟩⟩
     | cons x r =>
       match bs,ha with
       | a::bs,ha =>
         have hn:n=M:=by
           rcases hn with h | h
           · cases h
           · rw[h,hu]
         subst hn;have hlen:=aV ha;have hl2:bs.length+1<most:=by simp only[qAI] at hlen hlt; omega
         refine ⟨st++[.row e u.size (a::bs)],fun q hq=>qAK hq,.inr ⟨st.length,a::bs,?_,qAD _,by simp,aJ (p:=fun x a=>R Γ u x false [a]) (fun x a hx=>aS hc hx) ha⟩⟩
         simp only[j8];rw[if_pos ⟨trivial,hl2⟩,hu];rfl
 · cases hr
theorem row_one {Φ:Frame}{Γ:Ctx}{st:aA}{g:Reg} (hm:MemR Φ Γ [g] st):RegR Γ st 0 g:=hm.reg 0 (by simp)
theorem qo {Φ:Frame}{Γ:Ctx}{st st':aA}{g g':Reg}{r n l:Nat} (hm:MemR Φ Γ [g] st) (hst:st.length≤st'.length) (hr:r<st'.length) (hg:RegR (grown Γ 0 (r,n,l)) st' 0 g') (hΦ:∀ r' g,Φ r'=some g→st'[r']? = some g) (hd:∀ g,Φ r≠some g):MemR Φ (grown Γ 0 (r,n,l)) [g'] st':=by
 have none:∀ i y,i≠0→Γ i≠some y:=fun i y hi h=>by
   rw[hm.out i (by simp; omega)] at h; cases h
 exact hm.grow (id:=0) (by simp) hst (fun i _ _ _ hi h=>absurd h (none i _ hi)) hr (fun i _ _ _ hi h=>absurd h (none i _ hi)) hg hΦ hd
def insT {A:Type} (l:List A) (i:Int) (ys:List A):Option (List A):=if 0≤i∧i≤l.length∧ys≠[]∧l.length+ys.length<most then some (l.take i.toNat++ys++l.drop i.toNat) else none
def insR (z:Bool) (e:Nat) (t:Ty):TRaw:={ ps:=.cons (.own 0) (.cons (.int .i64) (.cons (.sl t) .unit)),ins:=[.row z e t],res:=.own 0,outs:=[.row z e t],fn:=fun v w=>(insT w.1 v.2.1 v.2.2.1).map fun l=>((),(l,())) }
theorem adZ {A:Type}{l ys r:List A}{i:Int} (h:insT l i ys=some r):∃ k:Nat,i=(k:Int)∧k≤l.length∧ys≠[]∧l.length+ys.length<most∧r=l.take k++ys++l.drop k:=by
 unfold insT at h
 split at h
 · rename_i hb;cases h;exact ⟨i.toNat,by omega,by omega,hb.2.2.1,hb.2.2.2,rfl⟩
 · cases h
theorem qk {M e:Nat}{z:Bool}{u:Ty} (hu:u.size=M) (hv:u.isV=true) (hc:u.closed=true) (hk:u.okRow=true) (hM:M≠0):TRawOk (dE M e) (insR z e u):=by
 refine TRawOk.ofBox rfl fun Φ Γ st pv v zs r w hm hps hr => ?_;obtain ⟨⟨⟩,i,ys,⟨⟩⟩:=pv;obtain ⟨xs,⟨⟩⟩:=v;simp only[insR,R] at hps;obtain ⟨l1,l2,rfl,hown,l3,l4,rfl,rfl,l5,l6,rfl,hys,rfl⟩:=hps
 simp only[insR] at hr hm ⊢;rw[x0] at hr;obtain ⟨out,hr,hr2⟩:=hr;cases hr2;obtain ⟨i,rfl,hil,hne,hmost,rfl⟩:=adZ hr
 · rcases hys with ⟨rfl,_⟩ | ⟨f,n,bs,rfl,hn,hb2⟩
   · exact absurd rfl hne
   · have hbl:=aV hb2
     match ys,bs,hb2,hbl,hne with
     | y::ys,b::bs,hb2,hbl,hne =>
     have hn:n=M:=by
       rcases hn with h | h
       · cases h
       · rw[h,hu]
     subst hn;have hcl:aG (b::bs)=true:=dU (fun x a hx=>by rw[← aW]; exact bv hc hx) hb2
     have hb3:All2 (fun x a=>R (grown Γ 0 (0,0,0)) u x false [a]) (y::ys) (b::bs):=aJ (p:=fun x a=>R Γ u x false [a]) (fun x a hx=>aS hc hx) hb2;obtain ⟨k1,k2,k3,k4,k5⟩:=row_one hm
     simp only[aP] at hm ⊢;dsimp only at k5;rcases k5 with ⟨rfl,bz,k5,kz⟩ | ⟨r,zs,k5,k6,k7,k8⟩
     · rw[k5] at hown;have h0:i=0:=Nat.le_zero.1 hil;subst h0;have hF:∀ a0,(l1=[a0])→dE n e (l1++([.int .i64 ((0:Nat):Int)]++([.tree f n (b::bs)]++[]))) st=some (bj st e n (b::bs)):=by
         intro a0 ha;have hlt:(b::bs).length<most:=(by rw[hbl]; exact Nat.lt_of_le_of_lt (Nat.le_add_left _ _) hmost);rcases hown with h | ⟨_,k,h⟩
         · subst h;simp only[qBX,qAT,dE];rw[if_pos ⟨trivial,rfl,hlt⟩]
         · subst h;simp only[qBX,qAT,dE];rw[if_pos ⟨trivial,rfl,hlt⟩]
       have hone:∃ a0,l1=[a0]:=by rcases hown with h | ⟨_,k,h⟩<;>exact ⟨_,h⟩
       obtain ⟨a0,ha0⟩:=hone;refine ⟨_,_,grown Γ 0 (st.length,u.size,(y::ys).length),hF a0 ha0,?_,?_,?_⟩
       · simp only[R,grown,if_true,hbl,hu]
       · rw[show (List.take 0 ([]:List u.V)++(y::ys)++List.drop 0 ([]:List u.V))=y::ys by simp]
         refine qo hm (by simp) (by simp) ⟨hv,hc,hk,k4,.inr ⟨st.length,b::bs,by simp[grown],by simp[hu],aJ (p:=fun x a=>R Γ u x false [a]) (fun x a hx=>aS hc hx) hb2,fun _ h=>by cases h⟩⟩ (fun r' g h=>by rw[qAK (hm.oldlt h)]; exact hm.old r' g h) (fun g h=>Nat.lt_irrefl _ (hm.oldlt h))
       · intro j y' hj
         match j,hj with
         | 0,hj=>cases hj
         | j+1,hj=>cases hj
     · rw[k5] at hown;subst hown;have hal:=aV k7;have hil:i≤xs.length:=hil;have hrlt:=hm.lt 0 _ _ _ k5;have hrow:EM.rowAt st r u.size xs.length=some zs:=by simp only[EM.rowAt,k6,hal,and_self,if_true]
       have hF:dE n e ([.own r u.size xs.length 0 xs.length]++([.int .i64 (i:Int)]++([.tree f n (b::bs)]++[]))) st=some (.own r u.size (xs.length+(b::bs).length) 0 (xs.length+(b::bs).length),st.set r (.row e u.size (zs.take i++(b::bs)++zs.drop i))):=by
         simp only[qBX,qAT,dE];rw[if_pos ⟨hu,trivial,trivial,trivial,by simp only[EM.rowTy,k6],Int.natCast_nonneg _,Int.ofNat_le.2 hil,by rw[hbl]; exact hmost,hcl⟩,hrow]
         simp
       have hlen:(xs.take i++(y::ys)++xs.drop i).length=xs.length+(b::bs).length:=by
         rw[qAA,qAA,qAQ,qAW,hbl]; omega
       refine ⟨_,_,grown Γ 0 (r,u.size,xs.length+(b::bs).length),hF,?_,?_,?_⟩
       · simp only[R,grown,if_true]
       · refine qo hm (by simp) (by simpa using hrlt) ⟨hv,hc,hk,k4,.inr ⟨r,zs.take i++(b::bs)++zs.drop i,by rw[hlen]; simp[grown],qAX hrlt,ci (ci (fu i ?_) ?_) (fv i ?_),fun _ h=>by simp at h⟩⟩ (fun r' g h => ?_) (fun g h=>hm.dis r g 0 _ _ h k5)
         · exact aJ (p:=fun x a=>R Γ u x false [a]) (fun x a hx=>aS hc hx) k7
         · exact aJ (p:=fun x a=>R Γ u x false [a]) (fun x a hx=>aS hc hx) hb2
         · exact aJ (p:=fun x a=>R Γ u x false [a]) (fun x a hx=>aS hc hx) k7
         · rw[qBB (fun e'=>by subst e'; exact hm.dis _ _ 0 _ _ h k5)];exact hm.old r' g h
       · intro j y' hj
         match j,hj with
         | 0,hj=>cases hj
         | j+1,hj=>cases hj
def delT {A:Type} (l:List A) (i j:Int):Option (List A):=if 0≤i∧i<j∧j≤l.length then some (l.take i.toNat++l.drop j.toNat) else none
def delR (e:Nat) (t:Ty):TRaw:={ ps:=.cons (.own 0) (.cons (.int .i64) (.cons (.int .i64) .unit)),ins:=[.row false e t],res:=.own 0,outs:=[.row false e t],fn:=fun v w=>(delT w.1 v.2.1 v.2.2.1).map fun l=>((),(l,())) }
theorem aep {A:Type}{l r:List A}{i j:Int} (h:delT l i j=some r):∃ a b:Nat,i=(a:Int)∧j=(b:Int)∧a<b∧b≤l.length∧r=l.take a++l.drop b:=by
 unfold delT at h
 split at h
 · rename_i hb;cases h;exact ⟨i.toNat,j.toNat,by omega,by omega,by omega,by omega,rfl⟩
 · cases h
theorem apZ {M e:Nat}{u:Ty} (hu:u.size=M) (hv:u.isV=true) (hc:u.closed=true) (hk:u.okRow=true) (hM:M≠0):TRawOk (ix M e) (delR e u):=by
 refine TRawOk.ofBox rfl fun Φ Γ st pv v zs r w hm hps hr => ?_;obtain ⟨⟨⟩,i,j,⟨⟩⟩:=pv;obtain ⟨xs,⟨⟩⟩:=v;simp only[delR,R] at hps;obtain ⟨l1,l2,rfl,hown,l3,l4,rfl,rfl,l5,l6,rfl,rfl,rfl⟩:=hps
 simp only[delR] at hr hm ⊢;rw[x0] at hr;obtain ⟨out,hr,hr2⟩:=hr;cases hr2;obtain ⟨i,j,rfl,rfl,hij,hjl,rfl⟩:=aep hr
 · obtain ⟨k1,k2,k3,k4,k5⟩:=row_one hm;simp only[aP] at hm ⊢;dsimp only at k5;rcases k5 with ⟨rfl,bz,k5,kz⟩ | ⟨r,zs,k5,k6,k7,k8⟩
   · have:j≤0:=hjl;omega
   · rw[k5] at hown;subst hown;have hal:=aV k7;have hjl:j≤xs.length:=hjl;have hrlt:=hm.lt 0 _ _ _ k5;have hrow:EM.rowAt st r u.size xs.length=some zs:=by simp only[EM.rowAt,k6,hal,and_self,if_true]
     have hF:ix M e ([.own r u.size xs.length 0 xs.length]++([.int .i64 (i:Int)]++([.int .i64 (j:Int)]++[]))) st=some (.own st.length u.size (xs.length-(j-i)) 0 (xs.length-(j-i)),st.set r .dead++[.row e u.size (zs.take i++zs.drop j)]):=by
       simp only[qBX,qAT,ix];rw[if_pos ⟨hu,trivial,trivial,by simp only[EM.rowTy,k6],Int.natCast_nonneg _,Int.ofNat_lt.2 hij,Int.ofNat_le.2 hjl⟩,hrow];simp
     have hlen:(xs.take i++xs.drop j).length=xs.length-(j-i):=by
       rw[qAA,qAQ,qAW]; omega
     refine ⟨_,_,grown Γ 0 (st.length,u.size,xs.length-(j-i)),hF,?_,?_,?_⟩
     · simp only[R,grown,if_true]
     · refine qo hm (by simp) (by simp) ⟨hv,hc,hk,k4,.inr ⟨st.length,zs.take i++zs.drop j,by rw[hlen]; simp[grown],by simp,ci (fu i ?_) (fv j ?_),fun h=>by cases h⟩⟩ (fun r' g h => ?_) (fun g h=>Nat.lt_irrefl _ (hm.oldlt h))
       · exact aJ (p:=fun x a=>R Γ u x false [a]) (fun x a hx=>aS hc hx) k7
       · exact aJ (p:=fun x a=>R Γ u x false [a]) (fun x a hx=>aS hc hx) k7
       · rw[qAK (by simpa using hm.oldlt h),qBB (fun e'=>by subst e'; exact hm.dis _ _ 0 _ _ h k5)];exact hm.old r' g h
     · intro j y' hj
       match j,hj with
       | 0,hj=>cases hj
       | j+1,hj=>cases hj
end Go.TY
namespace Go.TY
section
variable {X K:Type} (c:K→K→Int) (key:X→K)
def lo (k:K) (l:List X):List X:=l.takeWhile fun x=>decide (c (key x) k<0)
def hi (k:K) (l:List X):List X:=l.dropWhile fun x=>decide (c (key x) k<0)
variable {c key}
theorem lohi {k:K}{l:List X}:lo c key k l++hi c key k l=l:=List.takeWhile_append_dropWhile
theorem qa {k:K}:∀ {p q:List X},(∀ x∈p,c (key x) k<0)→(∀ x∈q,¬ c (key x) k<0)→lo c key k (p++q)=p∧hi c key k (p++q)=q
 | [],[],_,_=>⟨rfl,rfl⟩
 | [],y::q,_,h=>by
   have h1:=h y (qAL ..);unfold lo hi;rw[qBC,List.takeWhile_cons,List.dropWhile_cons,decide_eq_false h1];exact ⟨rfl,rfl⟩
 | x::p,q,g,h=>by
   have h1:=g x (qAL ..);have ih:=qa (p:=p) (q:=q) (fun y hy=>g y (qAM _ hy)) h;unfold lo hi at ih ⊢
   rw[qBR,List.takeWhile_cons,List.dropWhile_cons,decide_eq_true h1];simp only[if_true];rw[ih.1,ih.2];exact ⟨rfl,rfl⟩
theorem gM {k:K}:∀ {l:List X},∀ x∈lo c key k l,c (key x) k<0
 | [],x,h=>by cases h
 | y::l,x,h=>by
   unfold lo at h;rw[List.takeWhile_cons] at h;by_cases hy:c (key y) k<0
   · rw[decide_eq_true hy] at h;simp only[if_true] at h;rcases qAO.1 h with rfl | h
     · exact hy
     · exact gM x h
   · rw[decide_eq_false hy] at h;cases h
theorem ad2 {k:K}:∀ {l:List X}{x:X}{q:List X},hi c key k l=x::q→¬ c (key x) k<0
 | [],x,q,h=>by cases h
 | y::l,x,q,h=>by
   unfold hi at h;rw[List.dropWhile_cons] at h;by_cases hy:c (key y) k<0
   · rw[decide_eq_true hy] at h;exact ad2 (l:=l) h
   · rw[decide_eq_false hy] at h;cases h;exact hy
theorem iV (hc:Cmp c) {k:K}{l:List X} (hr:dX c key l) {x:X}{q:List X} (h:hi c key k l=x::q):0≤c (key x) k∧∀ y∈q,0<c (key y) k:=by
 have h1:=ad2 h;have e:lo c key k l++x::q=l:=by rw[← h]; exact lohi
 rw[← e] at hr;have h2:=(qCD.1 hr).2.1;have h3:=(qBF.1 h2).1;refine ⟨by omega,fun y hy => ?_⟩;have h4:=h3 y hy;have n1:=hc.neg (key y) k;by_cases h5:c (key x) k=0
 · rw[← (hc.zero _ _).1 h5] at n1 ⊢;have:=hc.neg (key x) (key y);omega
 · have n2:=hc.neg (key x) k;have:=hc.trans k (key x) (key y) (by omega) h4;omega
theorem ag9 {k:K}{l:List X}{h:Nat} (hh:h<l.length) (h2:h<(lo c key k l).length):c (key l[h]) k<0:=by
 have e:l[h]=(lo c key k l++hi c key k l)[h]'(by rw[lohi]; exact hh):=by simp only[lohi]
 rw[e,List.getElem_append_left h2];exact gM _ (qCK _)
theorem aha (hc:Cmp c) {k:K}{l:List X} (hr:dX c key l) {h:Nat} (hh:h<l.length) (h2:(lo c key k l).length≤h):0≤c (key l[h]) k:=by
 have e:l[h]=(lo c key k l++hi c key k l)[h]'(by rw[lohi]; exact hh):=by simp only[lohi]
 rw[e,List.getElem_append_right h2];have hm:∀ y∈hi c key k l,0≤c (key y) k:=by
   intro y hy;cases hq:hi c key k l with
   | nil=>rw[hq] at hy; cases hy
   | cons x q =>
     rw[hq] at hy;obtain ⟨a1,a2⟩:=iV hc hr hq;rcases qAO.1 hy with rfl | hy
     · exact a1
     · have:=a2 y hy; omega
 exact hm _ (qCK _)
variable [DecidableEq X] (c key)
def fF (d:Int×X×X×Unit):X:=if d.1=1 then d.2.2.1 else d.2.1
def lQ (l:List X) (d:Int×X×X×Unit) (a b:List X):List X⊕Int :=
 if d.1<1∨d.1>3 then .inr 18
 else if d.1=1 then match b with
   | x::q=>if c (key x) (key d.2.2.1)=0 then .inr 12 else .inl (a++d.2.2.1::x::q)
   | []=>.inl (a++[d.2.2.1])
 else match b with
   | x::q=>if x=d.2.1 then (if d.1=3 then (if c (key d.2.1) (key d.2.2.1)=0 then .inl (a++d.2.2.1::q) else .inr 2) else .inl (a++q)) else .inr 12
   | []=>.inr 12
def kl (l:List X) (d:Int×X×X×Unit):List X⊕Int:=lQ c key l d (lo c key (key (fF d)) l) (hi c key (key (fF d)) l)
def gt:List X→List (Int×X×X×Unit)→List X×Int×Unit
 | l,[]=>(l,0,())
 | l,d::ds=>match kl c key l d with
   | .inl l'=>gt l' ds
   | .inr e=>([],e,())
variable {c key}
theorem qL (hc:Cmp c) {x y:K} (h:c x y<0):¬ c y x<0:=by have:=hc.neg x y; omega
theorem rH (hc:Cmp c) {p q:List X}{z y:X} (hp:∀ x∈p,c (key x) (key y)<0) (hq:∀ x∈q,c (key y) (key x)<0):kl c key (p++q) (1,z,y,()) = .inl (p++y::q):=by
 unfold kl;have e:fF ((1,z,y,()):Int×X×X×Unit)=y:=if_pos rfl;have:=qa hp (fun x hx=>qL hc (hq x hx));rw[e,this.1,this.2];unfold lQ;rw[if_neg (by simp),if_pos rfl];cases q with
 | nil=>rfl
 | cons x q =>
   have h1:=hq x (qAL ..);have h2:=hc.neg (key y) (key x);simp only;rw[if_neg (by omega)]
theorem rI (hc:Cmp c) {p q:List X}{z y:X} (hp:∀ x∈p,c (key x) (key y)<0) (hq:∀ x∈q,c (key y) (key x)<0):kl c key (p++y::q) (2,y,z,()) = .inl (p++q):=by
 unfold kl;have e:fF ((2,y,z,()):Int×X×X×Unit)=y:=if_neg (by simp);have:=qa (q:=y::q) hp (fun x hx=>by
   rcases qAO.1 hx with rfl | hx
   · exact hc.irr _
   · exact qL hc (hq x hx))
 rw[e,this.1,this.2];unfold lQ;rw[if_neg (by simp),if_neg (by simp)];simp only;rw[if_pos trivial,if_neg (by decide)]
theorem acI (hc:Cmp c) {p q:List X}{x y:X} (hxy:c (key x) (key y)=0) (hp:∀ x'∈p,c (key x') (key x)<0) (hq:∀ x'∈q,c (key x) (key x')<0):kl c key (p++x::q) (3,x,y,()) = .inl (p++y::q):=by
 unfold kl;have e:fF ((3,x,y,()):Int×X×X×Unit)=x:=if_neg (by simp);have:=qa (q:=x::q) hp (fun x' hx=>by
   rcases qAO.1 hx with rfl | hx
   · exact hc.irr _
   · exact qL hc (hq x' hx))
 rw[e,this.1,this.2];unfold lQ;rw[if_neg (by simp),if_neg (by simp)];simp only;rw[if_pos trivial,if_pos trivial,if_pos hxy]
theorem cL {p q:List X}{y:X}:dX c key (p++y::q)↔dX c key (p++q)∧(∀ x∈p,c (key x) (key y)<0)∧∀ x∈q,c (key y) (key x)<0:=by
 unfold dX;rw[qCD,qCD,qBF];constructor
 · rintro ⟨h1,⟨h2,h3⟩,h4⟩
   exact ⟨⟨h1,h3,fun a ha b hb=>h4 a ha b (qAM _ hb)⟩,fun x hx=>h4 x hx y (qAL ..),h2⟩
 · rintro ⟨⟨h1,h3,h4⟩,h5,h2⟩
   refine ⟨h1,⟨h2,h3⟩,fun a ha b hb => ?_⟩;rcases qAO.1 hb with rfl | hb
   · exact h5 a ha
   · exact h4 a ha b hb
theorem oq {p q:List X}{x y:X} (hc:Cmp c) (hxy:c (key x) (key y)=0) (h:dX c key (p++x::q)):dX c key (p++y::q):=by
 have e:=(hc.zero _ _).1 hxy;rw[cL] at h ⊢;rw[← e];exact h
theorem eH {p q:List X}{y:X}:p++y::q=(p++[y])++q:=by simp
theorem zO (hc:Cmp c) {z:X}:∀ (n:Nat) (p a b:List X),a.length+b.length≤n→dX c key (p++a)→dX c key (p++b) →
   gt c key (p++a) (cC c key (fun x y=>decide (x=y)) (fun x=>((2:Int),x,z,())) (fun y=>((1:Int),z,y,())) (fun x y=>((3:Int),x,y,())) a b)=(p++b,0,()):=by
 intro n;have noA:∀ (b p:List X),dX c key (p++b)→gt c key p (b.map fun y=>((1:Int),z,y,()))=(p++b,0,()):=by
   intro b
   induction b with
   | nil=>intro p _; simp[gt]
   | cons y b ih =>
     intro p h;have:=(cL.1 h).2;have s:=rH (z:=z) (q:=[]) hc this.1 (fun x hx=>by cases hx);rw[qAT] at s;rw[qA5,gt,s];simp only;rw[eH] at h;rw[ih _ h];simp
 induction n with
 | zero =>
   intro p a b hn;have e1:a=[]:=qAV (by omega);have e2:b=[]:=qAV (by omega);subst e1; subst e2;intro _ _;rw[cC.eq_def]; rfl
 | succ n ih =>
   intro p a b hn ra rb
   match a,b,hn with
   | [],b,hn =>
     rw[cC.eq_def,qAT];exact noA b p rb
   | x::a,[],hn =>
     have e:cC c key (fun x y=>decide (x=y)) (fun x=>((2:Int),x,z,())) (fun y=>((1:Int),z,y,())) (fun x y=>((3:Int),x,y,())) a ([]:List X)=a.map fun x=>((2:Int),x,z,()):=by
       cases a with
       | nil=>rw[cC.eq_def]; rfl
       | cons=>rw[cC.eq_def]
     have:=(cL.1 ra).2;have s:=rI (z:=z) hc this.1 this.2;rw[cC.eq_def];simp only[qA5];rw[gt,s,← e]
     exact ih p a [] (by simp only[qAI,qAP] at hn ⊢; omega) (cL.1 ra).1 rb
   | x::a,y::b,hn =>
     simp only[qAI] at hn;have ma:=cL.1 ra;have mb:=cL.1 rb;rw[cC.eq_def];simp only
     split
     · have s:=rI (z:=z) hc ma.2.1 ma.2.2;rw[gt,s];exact ih p a (y::b) (by simp only[qAI]; omega) ma.1 rb
     · split
       · rename_i h1 h2;have hyx:c (key y) (key x)<0:=(by have:=hc.neg (key x) (key y); omega);have s:=rH (z:=z) (q:=x::a) hc mb.2.1 (fun w hw=>by
           rcases qAO.1 hw with rfl | hw
           · exact hyx
           · exact hc.trans _ _ _ hyx (ma.2.2 w hw))
         rw[gt,s];have hr:dX c key ((p++[y])++x::a):=by
           rw[← eH];exact cL.2 ⟨ra,mb.2.1,fun w hw=>by
             rcases qAO.1 hw with rfl | hw
             · exact hyx
             · exact hc.trans _ _ _ hyx (ma.2.2 w hw)⟩
         rw[eH (p:=p) (y:=y) (q:=x::a),eH (p:=p) (y:=y) (q:=b)];exact ih (p++[y]) (x::a) b (by simp only[qAI]; omega) hr (by rw[← eH]; exact rb)
       · rename_i h1 h2;have h0:c (key x) (key y)=0:=(by omega);have ra2:=oq hc h0 ra;have i:=ih (p++[y]) a b (by omega) (by rw[← eH]; exact ra2) (by rw[← eH]; exact rb);by_cases hxy:x=y
         · rw[decide_eq_true hxy];simp only[if_true,qBC];rw[hxy,eH,eH (q:=b)];exact i
         · rw[decide_eq_false hxy];have s:=acI hc h0 ma.2.1 ma.2.2;simp only[if_false,qA7,qBR,qBC];rw[gt,s];simp only;rw[eH,eH (q:=b)];exact i
def nG (d:Int×X×X×Unit):Int×X×X×Unit:=(if d.1=1 then 2 else if d.1=2 then 1 else d.1,d.2.2.1,d.2.1,())
theorem aeN (hc:Cmp c) {z:X}:∀ (n:Nat) (a b:List X),a.length+b.length≤n →
   (cC c key (fun x y=>decide (x=y)) (fun x=>((2:Int),x,z,())) (fun y=>((1:Int),z,y,())) (fun x y=>((3:Int),x,y,())) a b).map nG=cC c key (fun x y=>decide (x=y)) (fun x=>((2:Int),x,z,())) (fun y=>((1:Int),z,y,())) (fun x y=>((3:Int),x,y,())) b a:=by
 intro n;have b1:∀ y:X,nG ((1:Int),z,y,())=(2,y,z,()):=fun y=>rfl;have b2:∀ x:X,nG ((2:Int),x,z,())=(1,z,x,()):=fun x=>rfl;have b3:∀ x y:X,nG ((3:Int),x,y,())=(3,y,x,()):=fun x y=>rfl
 have nA:∀ b:List X,cC c key (fun x y=>decide (x=y)) (fun x=>((2:Int),x,z,())) (fun y=>((1:Int),z,y,())) (fun x y=>((3:Int),x,y,())) b []=b.map fun x=>((2:Int),x,z,()):=by
   intro b;cases b with
   | nil=>rw[cC.eq_def]; rfl
   | cons=>rw[cC.eq_def]
 have nB:∀ b:List X,cC c key (fun x y=>decide (x=y)) (fun x=>((2:Int),x,z,())) (fun y=>((1:Int),z,y,())) (fun x y=>((3:Int),x,y,())) [] b=b.map fun y=>((1:Int),z,y,()):=by
   intro b;rw[cC.eq_def]
 induction n with
 | zero =>
   intro a b hn;have e1:a=[]:=qAV (by omega);have e2:b=[]:=qAV (by omega);subst e1; subst e2;rw[nA]; rfl
 | succ n ih =>
   intro a b hn
   match a,b,hn with
   | [],b,hn=>rw[nB,nA,List.map_map]; exact List.map_congr_left fun y _=>b1 y
   | x::a,[],hn=>rw[nA,nB,List.map_map]; exact List.map_congr_left fun y _=>b2 y
   | x::a,y::b,hn =>
     simp only[qAI] at hn;have hneg:=hc.neg (key x) (key y);rw[cC.eq_def,cC.eq_def c key _ _ _ _ (y::b) (x::a)];simp only;by_cases h1:c (key x) (key y)<0
     · rw[if_pos h1,if_neg (show ¬ c (key y) (key x)<0 by omega),if_pos (show c (key y) (key x)>0 by omega),qA5,b2,ih a (y::b) (by simp only[qAI]; omega)]
     · rw[if_neg h1];by_cases h2:c (key x) (key y)>0
       · rw[if_pos h2,if_pos (show c (key y) (key x)<0 by omega),qA5,b1,ih (x::a) b (by simp only[qAI]; omega)]
       · rw[if_neg h2,if_neg (show ¬ c (key y) (key x)<0 by omega),if_neg (show ¬ c (key y) (key x)>0 by omega),List.map_append,ih a b (by omega)];by_cases hxy:x=y
         · rw[decide_eq_true hxy,decide_eq_true hxy.symm]; rfl
         · rw[decide_eq_false hxy,decide_eq_false (fun e=>hxy e.symm)]; rfl
theorem yu (hc:Cmp c) {l l':List X}{d:Int×X×X×Unit} (hr:dX c key l) (h:kl c key l d = .inl l'):dX c key l'∧l'.length≤l.length+1∧∀ x∈l',x∈l∨x=d.2.2.1:=by
 obtain ⟨k,x,y,⟨⟩⟩:=d;have e:lo c key (key (fF ((k,x,y,()):Int×X×X×Unit))) l++hi c key (key (fF ((k,x,y,()):Int×X×X×Unit))) l=l:=lohi
 have hb:=gM (c:=c) (key:=key) (k:=key (fF ((k,x,y,()):Int×X×X×Unit))) (l:=l);have ha:=fun (w:X) (q:List X)=>iV hc (k:=key (fF ((k,x,y,()):Int×X×X×Unit))) hr (x:=w) (q:=q);unfold kl at h
 generalize lo c key (key (fF ((k,x,y,()):Int×X×X×Unit))) l=p at *;generalize hi c key (key (fF ((k,x,y,()):Int×X×X×Unit))) l=q at *;unfold lQ at h
 split at h
 · cases h
 · split at h
   · rename_i h1 h2;simp only at h2;rw[show fF ((k,x,y,()):Int×X×X×Unit)=y from if_pos h2] at hb ha;subst e
     split at h
     · rename_i w q'
       split at h
       · cases h
       · rename_i h3;simp only at h3;cases h;obtain ⟨a1,a2⟩:=ha w q' rfl;refine ⟨cL.2 ⟨hr,hb,fun v hv => ?_⟩,by simp only[qAA,qAI]; omega,fun v hv => ?_⟩
         · show c (key y) (key v)<0;have n1:=hc.neg (key v) (key y);rcases qAO.1 hv with rfl | hv
           · omega
           · have:=a2 v hv; omega
         · simp only[qA9,qAO] at hv ⊢;rcases hv with hv | hv | hv | hv
           · exact .inl (.inl hv)
           · exact .inr hv
           · exact .inl (.inr (.inl hv))
           · exact .inl (.inr (.inr hv))
     · cases h;refine ⟨cL.2 ⟨hr,hb,fun v hv=>by cases hv⟩,by simp only[qAA,qAI]; omega,fun v hv => ?_⟩;simp only[qA9,qAO] at hv ⊢
       rcases hv with hv | hv | hv
       · exact .inl (.inl hv)
       · exact .inr hv
       · cases hv
   · rename_i h1 h2;simp only at h2;subst e
     split at h
     · rename_i w q'
       split at h
       · rename_i hw;simp only at hw;subst hw
         split at h
         · split at h
           · rename_i h4;cases h;refine ⟨oq hc h4 hr,by simp only[qAA,qAI]; omega,fun v hv => ?_⟩;simp only[qA9,qAO] at hv ⊢
             rcases hv with hv | hv | hv
             · exact .inl (.inl hv)
             · exact .inr hv
             · exact .inl (.inr (.inr hv))
           · cases h
         · cases h;refine ⟨(cL.1 hr).1,by simp only[qAA,qAI]; omega,fun v hv => ?_⟩;simp only[qA9,qAO] at hv ⊢;rcases hv with hv | hv
           · exact .inl (.inl hv)
           · exact .inl (.inr (.inr hv))
       · cases h
     · cases h
end
end Go.TY
namespace Go.TY
open Go.EM Go.Proofs Go.Sort
def jS {A:Type} (c:A→A→Option Int) (xs:List A) (i j:Nat):Int :=
 match xs[clIx xs.length i]?,xs[clIx xs.length j]? with
 | some x,some y=>(c x y).getD 0
 | _,_=>0
def ep {A:Type} (c:A→A→Option Int) (xs:List A):List Nat:=(pdq (ltOf (jS c xs)) (Array.range xs.length) 0 xs.length (Lib.bitLen xs.length) true true).toList
open Classical in
noncomputable def ni {A:Type} (c:A→A→Option Int) (xs:List A):Option (List A) :=
 if xs=[] then some [] else if (∀ x∈xs,∀ y∈xs,∃ n,c x y=some n)∧SWO (ltOf (jS c xs))∧xs.length<4611686018427387904 then some ((ep c xs).filterMap fun i=>xs[i]?) else none
noncomputable def acL (z:Bool) (g e:Nat) (t:Ty) (c:t.V→t.V→Option Int):TRaw:={ ps:=.cons (.own 0) (.cons (.fn g) .unit),ins:=[.row z e t],res:=.tup .unit,outs:=[.row z e t],fn:=(fun _ w=>(ni c w.1).map fun l=>((),(l,()))),stay:=true }
theorem qq:∀ {bs:List AVal}{i:Nat}{a:AVal},bs[i]? = some a→getL bs i=a
 | x::bs,0,a,h=>by simpa [getL] using h
 | x::bs,i+1,a,h=>qq (bs:=bs) (by simpa using h)
theorem oe {c:Nat→Nat→Int} (hO:SWO (ltOf c)) {n:Nat}:∀ i∈(pdq (ltOf c) (Array.range n) 0 n (Lib.bitLen n) true true).toList,i<n:=by
 intro i hi;have perm:=(pdq_sorts (ltOf c) hO (Array.range n) 0 (Array.range n).size (Lib.bitLen (Array.range n).size) true true (qB3 _) (qAD _) (Or.inl rfl)).1
 rw[qCE] at perm;generalize pdq (ltOf c) (Array.range n) 0 n (Lib.bitLen n) true true=d' at *;obtain ⟨p1,_,p3⟩:=perm;rw[qCE] at p1
 have e1:(d'.extract 0 n).toList=d'.toList:=by rw[← p1]; simp
 have e2:((Array.range n).extract 0 n).toList=(Array.range n).toList:=by
   have:(Array.range n).extract 0 n=Array.range n:=by
     conv=>lhs; arg 3; rw[← qCE (n:=n)]
     simp
   rw[this]
 rw[e1,e2] at p3;simpa using p3.mem_iff.1 hi
theorem af6 {Γ:Ctx}{t:Ty}{F:PFn}{c:t.V→t.V→Option Int} (hF:TOk F { ps:=.cons t (.cons t .unit),res:=.int .i64,fn:=fun v=>c v.1 v.2.1 }) {xs:List t.V}{bs:List AVal} (ha:All2 (fun x a=>R Γ t x false [a]) xs bs)
   (hc:t.closed=true) (hall:∀ x∈xs,∀ y∈xs,∃ n,c x y=some n):(∀ i j,i<bs.length→j<bs.length→∃ n,F [getL bs i,getL bs j]=some (.int .i64 n))∧(xs≠[]→mJ F bs=jS c xs):=by
 have hlen:=aV ha;have at_:∀ i j,i<xs.length→j<xs.length→∃ x y n,xs[i]? = some x∧xs[j]? = some y∧c x y=some n∧F [getL bs i,getL bs j]=some (.int .i64 n):=by
   intro i j hi hj;obtain ⟨a,a1,a2⟩:=fR ha (qAF hi);obtain ⟨b,b1,b2⟩:=fR ha (qAF hj);obtain ⟨n,hn⟩:=hall _ (qCK hi) _ (qCK hj)
   obtain ⟨r,r1,r2⟩:=hF.run (xs[i],xs[j],()) n [a,b] hn ⟨[a],[b],rfl,aS hc a2,[b],[],rfl,aS hc b2,rfl⟩;simp only[R] at r2;cases r2
   exact ⟨_,_,n,qAF hi,qAF hj,hn,by rw[qq a1,qq b1]; exact r1⟩
 refine ⟨fun i j hi hj => ?_,fun hne => ?_⟩
 · obtain ⟨x,y,n,_,_,_,h⟩:=at_ i j (by omega) (by omega);exact ⟨n,h⟩
 · have h0:0<xs.length:=List.length_pos_iff.2 hne;funext i j;obtain ⟨x,y,n,h1,h2,h3,h4⟩:=at_ _ _ (eE (i:=i) h0) (eE (i:=j) h0);unfold mJ jS;rw[hlen,h1,h2,h4];simp only[h3,qBA]
theorem si {A:Type}{p:A→AVal→Prop}{xs:List A}{bs:List AVal} (ha:All2 p xs bs):∀ {l:List Nat},(∀ i∈l,i<xs.length)→All2 p (l.filterMap fun i=>xs[i]?) (l.map (getL bs))
 | [],_=>trivial
 | i::l,h=>by
   have hi:=h i (qAL ..);obtain ⟨a,a1,a2⟩:=fR ha (qAF hi);rw[List.filterMap_cons,qAF hi,qA5,qq a1]
   exact ⟨a2,si ha (fun j hj=>h j (qAM _ hj))⟩
theorem wK {M e g:Nat}{z:Bool}{u:Ty}{F:PFn}{c:u.V→u.V→Option Int} (hu:u.size=M) (hv:u.isV=true) (hc:u.closed=true) (hk:u.okRow=true) (hF:TOk F { ps:=.cons u (.cons u .unit),res:=.int .i64,fn:=fun v=>c v.1 v.2.1 }):TRawOk (pJ F g M e) (acL z g e u c):=by
 refine ⟨fun Φ Γ st pv v zs r w hm hps hr => ?_⟩;obtain ⟨⟨⟩,⟨⟩,⟨⟩⟩:=pv;obtain ⟨xs,⟨⟩⟩:=v;simp only[acL,R] at hps;obtain ⟨l1,l2,rfl,hown,l3,l4,rfl,rfl,rfl⟩:=hps;simp only[acL] at hr hm ⊢
 rw[x0] at hr;obtain ⟨out,hr,hr2⟩:=hr;cases hr2;obtain ⟨k1,k2,k3,k4,k5⟩:=row_one hm;simp only[aP] at hm ⊢;dsimp only at k5;have hR:R Γ (.tup .unit) () false [.tup []]:=⟨[],rfl,rfl⟩
 rcases k5 with ⟨rfl,bz,k5,kz⟩ | ⟨r,zs,k5,k6,k7,k8⟩
 · rw[k5] at hown;have:out=[]:=by
     unfold ni at hr;rw[if_pos rfl] at hr;cases hr; rfl
   subst this;rcases hown with rfl | ⟨_,k,rfl⟩
   · exact ⟨_,st,Γ,by simp only[qBX,qAT,pJ],hR,hm,fun _ _ _ h=>h⟩
   · exact ⟨_,st,Γ,by simp only[qBX,qAT,pJ],hR,hm,fun _ _ _ h=>h⟩
 · rw[k5] at hown;subst hown;have hal:=aV k7;have hrlt:=hm.lt 0 _ _ _ k5;have hrow:EM.rowAt st r u.size xs.length=some zs:=by simp only[EM.rowAt,k6,hal,and_self,if_true]
   by_cases hx:xs=[]
   · subst hx;have:out=[]:=by
       unfold ni at hr;rw[if_pos rfl] at hr;cases hr; rfl
     subst this;refine ⟨_,st,Γ,?_,hR,hm,fun _ _ _ h=>h⟩;simp only[qBX,qAT,pJ];rw[if_pos ⟨hu,trivial,trivial,by simp only[EM.rowTy,k6],trivial⟩,hrow];simp
   · have h0:0<xs.length:=List.length_pos_iff.2 hx;unfold ni at hr;rw[if_neg hx] at hr
     split at hr
     · rename_i hs;obtain ⟨hall,hO,hbig⟩:=hs;cases hr;obtain ⟨htab,hcmp⟩:=af6 hF k7 hc hall;have hcmp:=hcmp hx;have hcl:aG zs=true:=dU (fun x a hx=>by rw[← aW]; exact bv hc hx) k7
       have hix:rN F zs=ep c xs:=(by unfold rN ep; rw[hcmp,hal]);have hmem:∀ i∈ep c xs,i<xs.length:=oe hO;have hp:=si k7 hmem;have hlen:=aV hp;have hll:((ep c xs).map (getL zs)).length=xs.length:=by
         rw[qBT]
         have perm:=(pdq_sorts (ltOf (jS c xs)) hO (Array.range xs.length) 0 (Array.range xs.length).size (Lib.bitLen (Array.range xs.length).size) true true (qB3 _) (qAD _) (Or.inl rfl)).1.1
         rw[qCE] at perm;simpa [ep] using perm
       refine ⟨_,st.set r (.row e u.size ((rN F zs).map (getL zs))),Γ,?_,hR,?_,fun _ _ _ h=>h⟩
       · simp only[qBX,qAT,pJ];rw[if_pos ⟨hu,trivial,trivial,by simp only[EM.rowTy,k6],trivial⟩,hrow];simp only[qAJ]
         rw[if_neg (by omega),if_pos ⟨⟨hcl,htab,by rw[hcmp]; exact hO⟩,hbig⟩]
       · rw[hix]
         have:=hm.set (id:=0) (g:=.row z e u ((ep c xs).filterMap fun i=>xs[i]?)) (ag:=.row e u.size ((ep c xs).map (getL zs))) (by simp) k5 ⟨hv,hc,hk,k4,.inr ⟨r,_,by rw[k5,← hlen,hll],qAX hrlt,hp,fun hz e'=>hx (by
           rw[e'] at hlen;rw[hlen] at hll;exact qCA.1 hll.symm)⟩⟩
         exact this
     · cases hr
end Go.TY
namespace Go.TY
open Go.EM Go.Proofs Go.Sort
section
variable {A K:Type}{c:K→K→Int}{key:A→K}
theorem dP (hc:Cmp c):∀ {l m:List A},dX c key l→dX c key m→(∀ x,x∈l↔x∈m)→l=m
 | [],[],_,_,_=>rfl
 | [],y::m,_,_,h=>by have:=(h y).2 (qAL ..); cases this
 | x::l,[],_,_,h=>by have:=(h x).1 (qAL ..); cases this
 | x::l,y::m,hl,hm,h=>by
   have hl':=qBF.1 hl;have hm':=qBF.1 hm;have e:x=y:=by
     rcases qAO.1 ((h x).1 (qAL ..)) with e | h1
     · exact e
     · rcases qAO.1 ((h y).2 (qAL ..)) with e | h2
       · exact e.symm
       · have a:=hm'.1 x h1;have b:=hl'.1 y h2;have:=hc.neg (key x) (key y);omega
   subst e;congr 1;refine dP hc hl'.2 hm'.2 fun z => ?_;have hz:=h z;constructor
   · intro hzl;rcases qAO.1 (hz.1 (qAM _ hzl)) with e | h1
     · subst e; exact absurd (hl'.1 z hzl) (hc.irr _)
     · exact h1
   · intro hzm;rcases qAO.1 (hz.2 (qAM _ hzm)) with e | h1
     · subst e; exact absurd (hm'.1 z hzm) (hc.irr _)
     · exact h1
theorem aAr (hc:Cmp c) {cf:Nat→Nat→Int}{k:Nat→K} (h:∀ i j,cf i j=c (k i) (k j)):SWO (ltOf cf) where
 irrefl x:=by
   unfold ltOf;rw[h];exact decide_eq_false (hc.irr _)
 trans x y z h1 h2:=by
   unfold ltOf at *;simp only[h,decide_eq_true_eq] at *;exact hc.trans _ _ _ h1 h2
 ntrans x y z h1 h2:=by
   unfold ltOf at *;simp only[h,decide_eq_false_iff_not] at *;intro h3;have n1:=hc.neg (k x) (k y);by_cases h0:c (k y) (k x)=0
   · have e:=(hc.zero _ _).1 h0;rw[e] at h2;exact h2 h3
   · have:=hc.trans (k y) (k x) (k z) (by omega) h3;exact h2 this
theorem yL (xs:List A):(List.range xs.length).filterMap (fun i=>xs[i]?)=xs:=by
 have key:∀ (l pre:List A),(List.range' pre.length l.length).filterMap (fun i=>(pre++l)[i]?)=l:=by
   intro l
   induction l with
   | nil=>intro pre; rfl
   | cons x l ih =>
     intro pre;rw[qAI,qC3,List.filterMap_cons];have e:(pre++x::l)[pre.length]? = some x:=(by simp);rw[e];have:=ih (pre++[x])
     simp only[qAA,qAI,qAP,qAN,qAR,qBX] at this;rw[this]
 have:=key xs [];rw[qB7];simpa using this
theorem rM (hc:Cmp c) {cmp:A→A→Option Int}{xs:List A} (hcmp:∀ x∈xs,∀ y∈xs,cmp x y=some (c (key x) (key y))) (hb:xs.length<4611686018427387904):∃ l,ni cmp xs=some l∧l.Perm xs∧l.Pairwise fun x y=>c (key x) (key y)≤0:=by
 by_cases h0:xs=[]
 · subst h0;exact ⟨[],by unfold ni; rw[if_pos rfl],List.Perm.refl _,List.Pairwise.nil⟩
 · have hn:0<xs.length:=List.length_pos_iff.2 h0;have hix:∀ i j,jS cmp xs i j=c (key (xs[clIx xs.length i]'(eE hn))) (key (xs[clIx xs.length j]'(eE hn))):=by
     intro i j;unfold jS;rw[qAF (eE hn),qAF (eE hn)];simp only[hcmp _ (qCK _) _ (qCK _),qBA]
   have hO:SWO (ltOf (jS cmp xs)):=aAr hc (k:=fun i=>key (xs[clIx xs.length i]'(eE hn))) hix;have hs:ni cmp xs=some ((ep cmp xs).filterMap fun i=>xs[i]?):=by
     unfold ni;rw[if_neg h0,if_pos ⟨fun x hx y hy=>⟨_,hcmp x hx y hy⟩,hO,hb⟩]
   refine ⟨_,hs,?_,?_⟩
   · have perm:=(pdq_sorts (ltOf (jS cmp xs)) hO (Array.range xs.length) 0 (Array.range xs.length).size (Lib.bitLen (Array.range xs.length).size) true true (qB3 _) (qAD _) (Or.inl rfl)).1
     rw[qCE] at perm;unfold ep;generalize pdq (ltOf (jS cmp xs)) (Array.range xs.length) 0 xs.length (Lib.bitLen xs.length) true true=d' at *;obtain ⟨p1,_,p3⟩:=perm
     rw[qCE] at p1;have e1:(d'.extract 0 xs.length).toList=d'.toList:=(by rw[← p1]; simp);have e2:((Array.range xs.length).extract 0 xs.length).toList=List.range xs.length:=by
       have:(Array.range xs.length).extract 0 xs.length=Array.range xs.length:=by
         conv=>lhs; arg 3; rw[← qCE (n:=xs.length)]
         simp
       rw[this];simp
     rw[e1,e2] at p3;refine (p3.filterMap _).trans ?_;have:(List.range xs.length).filterMap (fun i=>xs[i]?)=xs:=yL xs;rw[this]
   · rw[List.pairwise_filterMap]
     have sorted:=(pdq_sorts (ltOf (jS cmp xs)) hO (Array.range xs.length) 0 (Array.range xs.length).size (Lib.bitLen (Array.range xs.length).size) true true (qB3 _) (qAD _) (Or.inl rfl)).2
     have hmem:=oe hO (n:=xs.length)
     have hsz:=(pdq_sorts (ltOf (jS cmp xs)) hO (Array.range xs.length) 0 (Array.range xs.length).size (Lib.bitLen (Array.range xs.length).size) true true (qB3 _) (qAD _) (Or.inl rfl)).1.1
     rw[qCE] at sorted hsz;unfold ep;generalize pdq (ltOf (jS cmp xs)) (Array.range xs.length) 0 xs.length (Lib.bitLen xs.length) true true=d' at *;rw[List.pairwise_iff_getElem]
     intro i j hi hj hij a ha b hb';have hi':i<d'.size:=(by simpa using hi);have hj':j<d'.size:=(by simpa using hj);have hsn:=sorted i j (qB3 _) hij (by omega)
     rw[getElem!_pos d' j hj',getElem!_pos d' i hi'] at hsn;unfold ltOf at hsn;rw[hix] at hsn;have q1:=hmem _ (qCK hi);have q2:=hmem _ (qCK hj)
     simp only[Array.getElem_toList] at ha hb' q1 q2;rw[qAF q1] at ha;rw[qAF q2] at hb';cases ha; cases hb';have c1:clIx xs.length d'[i]=d'[i]:=if_pos q1
     have c2:clIx xs.length d'[j]=d'[j]:=if_pos q2;simp only[c1,c2,decide_eq_false_iff_not] at hsn;have:=hc.neg (key xs[d'[j]]) (key xs[d'[i]]);omega
end
end Go.TY
namespace Go.TY
open Go.EM
section
variable (P:Program) (E:Env) (h:Hints) (ET:TEnv) (H:TH)
def qw (σ:TS) (m:Mem) (rs:List ResultVar) (u:Ty):Option (List u.V) :=
 match resT P σ m rs with
 | some [⟨.own i,_⟩]=>match getM m i with
   | .row _ _ u' xs=>cond (Nat.beq i 0) (di (.sl u') xs (.sl u) fun x=>x) none
   | _=>none
 | some [⟨.vw i,v⟩]=>match getM m i with
   | .row _ _ u' xs=>cond (Nat.beq i 0) ((di (.sl u') xs (.sl u) fun x=>x).bind fun xs=>cond xs.isEmpty none (if v.1+v.2≤xs.length then some ((xs.drop v.1).take v.2) else none)) none
   | _=>none
 | _=>none
noncomputable def agR (fn:Func) (ps:Ty) (z:Bool) (e:Nat) (u:Ty) (v:ps.V) (w:List u.V):Option (List u.V) :=
 cond (Nat.beq (rowLen ps) (fn.params.size+fn.nfree)&&rowV ps&&u.closed&&cB fn.ntmps (fn.body.getD .skip)&&Nat.ble (fn.params.size+fn.nfree) fn.ntmps)
   (match fn.body with
    | some c=>DT P E h ET H c (List u.V) (eN ps v 0) [.row z e u w] (fun x σ m=>match x with
       | .normal=>qw P σ m fn.results.toList u
       | .ret=>qw P σ m fn.results.toList u
       | _=>none)
    | none=>none) none
end
section
variable {P:Program}{E:Env}{ET:TEnv}{h:Hints}{H:TH}
theorem xj (hE:EnvT E ET) {fn:Func}{ps u:Ty}{z:Bool}{e:Nat}{fnT:ps.V→List u.V→Option (List u.V)} (hrun:agR P E h ET H fn ps z e u=fnT) :
   TRawOk (iW (runF P E h fn)) { ps:=ps,ins:=[.row z e u],res:=.sl u,outs:=[.gone],fn:=fun v w=>(fnT v w.1).map fun l=>(l,()) }:=by
 refine TRawOk.ofBox rfl fun Φ Γ st pv v bs r w hmem hps hr => ?_;obtain ⟨xs,⟨⟩⟩:=v;simp only at hr hps hmem;rw[x0] at hr;obtain ⟨out,hr,hr2⟩:=hr;obtain ⟨e1,e2⟩:=Prod.mk.inj hr2
 subst e1;clear hr2 e2;rw[← hrun] at hr;unfold agR at hr
 cases hc:(Nat.beq (rowLen ps) (fn.params.size+fn.nfree)&&rowV ps&&u.closed&&cB fn.ntmps (fn.body.getD .skip)&&Nat.ble (fn.params.size+fn.nfree) fn.ntmps) with
 | false=>rw[hc] at hr; cases hr
 | true =>
   rw[hc,cond_true] at hr;simp only[k9,qAH] at hc;obtain ⟨⟨⟨⟨c1,c2⟩,c3⟩,c9⟩,c10⟩:=hc
   split at hr
   · rename_i c hb;have hlen:=(d7 (n:=0) (k:=0) c2 hps).1;have hslot:cq Γ (eN ps pv 0) (dB (List.range (fn.params.size+fn.nfree)) 0 bs):=by
       intro k w hw;obtain ⟨g1,g2,g3,g4⟩:=(d7 (n:=0) (k:=k) c2 hps).2 w hw;refine ⟨g1,?_⟩;rw[qB7,fa _ _ _ _ (by omega) (by omega)];rw[qCM] at g3;exact g3
     obtain ⟨x,σ1,m1,σA1,st1,Γ1,g1,g2,g3,g4,g5,g6⟩:=kw hE c hslot hmem hr;have hend:qw P σ1 m1 fn.results.toList u=some out∧(x = .normal∨x = .ret):=by
       cases x with
       | normal=>exact ⟨g1,.inl rfl⟩
       | ret=>exact ⟨g1,.inr rfl⟩
       | exit i=>cases g1
     obtain ⟨he,hee⟩:=hend;have hrunF:∀ av,resV P σA1 st1 fn.results.toList=some av→runF P E h fn bs st=some (av,st1):=by
       intro av hv;unfold runF;have:Nat.beq bs.length (fn.params.size+fn.nfree)=true:=(by rw[qAH]; omega);rw[hb] at c9;simp only[qBA] at c9;rw[this,hb]
       simp only[cond_true,qBA,c9,c10,qCC];rw[g6];rcases hee with rfl | rfl<;>simp only[hv,qAE]
     -- what lies behind
     have gone:∀ (st':aA),(∀ r g,Φ r=some g→st'[r]? = some g)→MemR Φ (fun _=>none) (aP [] [.gone] () 0) st':=fun st' hold =>
       ⟨(fun id hid=>by
         have:id=0:=(by simp[aP] at hid; omega);subst this; trivial),(fun _ _=>rfl),(fun i j r n l n' l' h=>by cases h),(fun i r n l h=>by cases h),hold,(fun r g i n l _ h=>by cases h)⟩
     have dead:∀ r0 n l j,Γ1 j=some (.inr (r0,n,l))→∀ r g,Φ r=some g→(st1.set r0 .dead)[r]? = some g:=fun r0 n l j hj r g hg=>by
       rw[qBB (fun e'=>by subst e'; exact g3.dis _ _ j _ _ hg hj)];exact g3.old r g hg
     unfold qw at he
     split at he
     · rename_i i _ hl;obtain ⟨as',q1,q2⟩:=lJ (P:=P) g2 g3 hl
       split at he
       · rename_i z' e' u' ys hg;cases hi0:Nat.beq i 0 with
         | false=>rw[hi0] at he; cases he
         | true =>
           rw[hi0,cond_true] at he;obtain ⟨ee,hxx⟩:=bb he;cases ee;subst hxx;have hreg:=g3.at i;rw[hg] at hreg;obtain ⟨_,_,_,_,h5⟩:=hreg
           match as',q2 with
           | [a],q2 =>
             have q3:=q2.1.2;simp only[R] at q3;rcases h5 with ⟨rfl,b,h5,_⟩ | ⟨r0,zs,h5,h6,h7,_⟩
             · simp only[h5] at q3;rcases q3 with q3 | ⟨_,n,q3⟩
               · cases q3;exact ⟨.nil,st1,fun _=>none,by simp only[iW,hrunF _ (iJ q1),qAJ,nv],.inl ⟨rfl,rfl⟩,gone st1 g3.old,(fun j y hb _=>by cases j<;>cases hb)⟩
               · cases q3
                 exact ⟨.tree true n [],st1,fun _=>none,by simp only[iW,hrunF _ (iJ q1),qAJ,nv],.inr ⟨true,n,[],rfl,.inl rfl,trivial⟩,gone st1 g3.old,(fun j y hb _=>by cases j<;>cases hb)⟩
             · simp only[h5] at q3;cases q3;have hal:=aV h7;have hrow:EM.rowAt st1 r0 u.size out.length=some zs:=by simp only[EM.rowAt,h6,hal,and_self,if_true]
               refine ⟨.tree false u.size zs,st1.set r0 .dead,fun _=>none,?_,.inr ⟨false,u.size,zs,rfl,.inr rfl,aJ (p:=fun x a=>R Γ1 u x false [a]) (fun x a hx=>aS c3 hx) h7⟩,gone _ (dead r0 _ _ i h5),(fun j y hb _=>by cases j<;>cases hb)⟩
               simp only[iW,hrunF _ (iJ q1),qAJ,nv];rw[if_pos (by omega),hrow];simp only[qAE,qB8];rw[qBI (by omega)]
       · cases he
     · rename_i i v hl;obtain ⟨as',q1,q2⟩:=lJ (P:=P) g2 g3 hl
       split at he
       · rename_i z' e' u' ys hg;cases hi0:Nat.beq i 0 with
         | false=>rw[hi0] at he; cases he
         | true =>
           rw[hi0,cond_true,qAB] at he;obtain ⟨ys',he1,he⟩:=he;obtain ⟨ee,hxx⟩:=bb he1;cases ee;subst hxx;cases hem:ys'.isEmpty with
           | true=>rw[hem] at he; cases he
           | false =>
           rw[hem,cond_false] at he;obtain ⟨hle,rfl⟩:=de he;have hreg:=g3.at i;rw[hg] at hreg;obtain ⟨_,_,_,_,h5⟩:=hreg
           match as',q2 with
           | [a],q2 =>
             have q3:=q2.1.2;simp only[R] at q3;obtain ⟨r1,n1,l1,q4,q5⟩:=q3;cases q5;rcases h5 with ⟨rfl,_⟩ | ⟨r0,zs,h5,h6,h7,_⟩
             · cases hem
             · rw[h5] at q4;cases q4;have hal:=aV h7;have hrow:EM.rowAt st1 r1 u.size ys'.length=some zs:=by simp only[EM.rowAt,h6,hal,and_self,if_true]
               refine ⟨.tree false u.size ((zs.drop v.1).take v.2),st1.set r1 .dead,fun _=>none,?_,.inr ⟨false,u.size,_,rfl,.inr rfl,aJ (p:=fun x a=>R Γ1 u x false [a]) (fun x a hx=>aS c3 hx) (fu _ (fv _ h7))⟩,gone _ (dead r1 _ _ i h5),(fun j y hb _=>by cases j<;>cases hb)⟩
               simp only[iW,hrunF _ (iJ q1),qAJ,nv];rw[if_pos hle,hrow];rfl
       · cases he
     · cases he
   · cases hr
end
end Go.TY
namespace Go.TY
open Go.EM Go.Proofs Go.Sort
end Go.TY
namespace Go.TY
open Go.EM
section
variable {A:Type} [DecidableEq A]
def sqzS (o:List A) (x:A):List A:=if o.getLast? = some x then o else o++[x]
def sqz (l:List A):List A:=l.foldl sqzS []
theorem pI {l:List A}{x:A}:sqz (l++[x])=sqzS (sqz l) x:=by unfold sqz; rw[List.foldl_append]; rfl
theorem af5:∀ {l:List A},(sqz l).getLast? = l.getLast? := by
 intro l;rcases List.eq_nil_or_concat l with rfl | ⟨l,x,rfl⟩
 · rfl
 · rw[List.concat_eq_append,pI];unfold sqzS;by_cases h:(sqz l).getLast? = some x
   · rw[if_pos h,h]; simp
   · rw[if_neg h]; simp
theorem pH {x:A}:∀ (n:Nat) (l:List A),l.length=n→(x∈sqz l↔x∈l):=by
 intro n
 induction n with
 | zero=>intro l h; rw[qCA.1 h]; exact Iff.rfl
 | succ n ih =>
   intro l h;rcases List.eq_nil_or_concat l with rfl | ⟨l,y,rfl⟩
   · cases h
   · rw[List.concat_eq_append] at h ⊢;rw[qAA] at h;have:=ih l (by simpa using h);rw[pI];unfold sqzS
     split
     · rename_i hl;rw[this,qA9,qA2];constructor
       · exact .inl
       · rintro (h1 | h1)
         · exact h1
         · subst h1; rw[← this]; exact List.mem_of_getLast? hl
     · rw[qA9,qA9,this]
variable {K:Type}{c:K→K→Int}{key:A→K}
theorem rK (hc:Cmp c) (hk:∀ a b,c (key a) (key b)=0→a=b):∀ (n:Nat) (l:List A),l.length=n→(l.Pairwise fun x y=>c (key x) (key y)≤0)→dX c key (sqz l):=by
 intro n
 induction n with
 | zero=>intro l h _; rw[qCA.1 h]; exact List.Pairwise.nil
 | succ n ih =>
   intro l h hp;rcases List.eq_nil_or_concat l with rfl | ⟨l,y,rfl⟩
   · cases h
   · rw[List.concat_eq_append] at h hp ⊢;rw[qAA] at h;have hp':=qCD.1 hp;have hr:=ih l (by simpa using h) hp'.1;rw[pI];unfold sqzS
     split
     · exact hr
     · rename_i hl;refine qCD.2 ⟨hr,qCB ..,fun a ha b hb => ?_⟩;rw[qA2] at hb;subst hb;have ha':=(pH _ l rfl).1 ha
       have hab:=hp'.2.2 a ha' b (qA2.2 rfl);rcases Int.lt_or_eq_of_le hab with h1 | h1
       · exact h1
       · have e:=hk _ _ h1;subst e;rcases List.eq_nil_or_concat (sqz l) with e0 | ⟨q,z,e0⟩
         · rw[e0] at ha; cases ha
         · rw[List.concat_eq_append] at e0;rw[e0] at hl ha hr;have hz:z∈l:=(by rw[← pH _ l rfl,e0]; simp);have hza:=hp'.2.2 z hz a (qA2.2 rfl);rw[List.getLast?_append] at hl
           simp only[List.getLast?_singleton,Option.some_or,qAC] at hl;rcases qA9.1 ha with hq | hq
           · have:=(qCD.1 hr).2.2 a hq z (qA2.2 rfl);have hn:=hc.neg (key a) (key z);omega
           · exact absurd (qA2.1 hq).symm hl
end
section
variable {A:Type}{c:A→A→Int}
abbrev eU (c:A→A→Int) (o:List A):Prop:=dX c (fun v=>v) o
def insU (c:A→A→Int) (o:List A) (v:A):List A:=match o with
 | []=>[v]
 | x::l=>if c v x=0 then x::l else if c v x<0 then v::x::l else x::insU c l v
theorem qj (hc:Cmp c) {v x:A}:∀ {o:List A},x∈insU c o v↔x=v∨x∈o
 | []=>by simp[insU]
 | y::l=>by
   unfold insU
   split
   · rename_i h;have e:=(hc.zero _ _).1 h;subst e;simp
   · split
     · simp
     · rw[qAO,qj hc,qAO];constructor
       · rintro (h | h | h)
         · exact .inr (.inl h)
         · exact .inl h
         · exact .inr (.inr h)
       · rintro (h | h | h)
         · exact .inr (.inl h)
         · exact .inl h
         · exact .inr (.inr h)
theorem oN (hc:Cmp c) {v:A}:∀ {o:List A},eU c o→eU c (insU c o v)
 | [],_=>qCB ..
 | y::l,h=>by
   have h':=qBF.1 h;unfold insU
   split
   · exact h
   · rename_i h0
     split
     · rename_i h1;refine qBF.2 ⟨fun z hz => ?_,h⟩;rcases qAO.1 hz with e | hz
       · subst e; exact h1
       · exact hc.trans _ _ _ h1 (h'.1 z hz)
     · rename_i h1;refine qBF.2 ⟨fun z hz => ?_,oN hc h'.2⟩;rcases (qj hc).1 hz with e | hz
       · subst e;have h2:=hc.neg z y;show c y z<0;omega
       · exact h'.1 z hz
def uniq (c:A→A→Int) (l:List A):List A:=l.foldl (insU c) []
theorem qs {f:List A→A→List A} (hm:∀ o v x,eU c o→(x∈f o v↔x=v∨x∈o)) (hr:∀ o v,eU c o→eU c (f o v)):∀ (l o:List A),eU c o→eU c (l.foldl f o)∧∀ x,x∈l.foldl f o↔x∈o∨x∈l
 | [],o,h=>⟨h,fun x=>by simp⟩
 | v::l,o,h=>by
   obtain ⟨h1,h2⟩:=qs hm hr l (f o v) (hr o v h);refine ⟨h1,fun x => ?_⟩;rw[qBS,h2,hm o v x h,qAO];constructor
   · rintro ((h | h) | h)
     · exact .inr (.inl h)
     · exact .inl h
     · exact .inr (.inr h)
   · rintro (h | h | h)
     · exact .inl (.inr h)
     · exact .inl (.inl h)
     · exact .inr h
theorem wG (hc:Cmp c) (l:List A):eU c (uniq c l)∧∀ x,x∈uniq c l↔x∈l:=by
 obtain ⟨h1,h2⟩:=qs (f:=insU c) (fun o v x (_:eU c o)=>qj hc) (fun o v h=>oN hc h) l [] List.Pairwise.nil;exact ⟨h1,fun x=>by have:=h2 x; simpa [uniq] using this⟩
theorem gB (hc:Cmp c) (l:List A):eU c (uniq c l):=(wG hc l).1
theorem kC (hc:Cmp c) (l:List A) (x:A):x∈uniq c l↔x∈l:=(wG hc l).2 x
theorem aea (hc:Cmp c) {f:List A→A→List A} (hm:∀ o v x,eU c o→(x∈f o v↔x=v∨x∈o)) (hr:∀ o v,eU c o→eU c (f o v)) (l:List A):l.foldl f []=uniq c l:=by
 obtain ⟨h1,h2⟩:=qs hm hr l [] List.Pairwise.nil;refine dP hc (key:=fun v=>v) h1 (gB hc l) fun x => ?_;rw[h2,kC hc]; simp
theorem xd {v:A}:∀ {o:List A},(insU c o v).length≤o.length+1
 | []=>qAD _
 | y::l=>by
   unfold insU
   split
   · omega
   · split
     · simp
     · have:=xd (v:=v) (o:=l);simp only[qAI]; omega
theorem xn:∀ (l o:List A),(l.foldl (insU c) o).length≤o.length+l.length
 | [],o=>qAD _
 | v::l,o=>by
   have:=xn l (insU c o v);have := @xd A c v o;rw[qBS,qAI]; omega
theorem afZ (l:List A):(uniq c l).length≤l.length:=by
 have:=xn (c:=c) l [];simpa [uniq] using this
abbrev loA (c:A→A→Int) (v:A) (o:List A):List A:=lo c (fun x=>x) v o
abbrev hiA (c:A→A→Int) (v:A) (o:List A):List A:=hi c (fun x=>x) v o
theorem adH {v:A}{o:List A}:loA c v o++hiA c v o=o:=lohi
theorem yH {p q:List A}{y:A}:eU c (p++y::q)↔eU c (p++q)∧(∀ x∈p,c x y<0)∧∀ x∈q,c y x<0:=by
 unfold eU dX;rw[qCD,qCD,qBF];constructor
 · rintro ⟨h1,⟨h2,h3⟩,h4⟩
   exact ⟨⟨h1,h3,fun a ha b hb=>h4 a ha b (qAM _ hb)⟩,fun x hx=>h4 x hx y (qAL ..),h2⟩
 · rintro ⟨⟨h1,h3,h4⟩,h5,h2⟩
   refine ⟨h1,⟨h2,h3⟩,fun a ha b hb => ?_⟩;rcases qAO.1 hb with rfl | hb
   · exact h5 a ha
   · exact h4 a ha b hb
def putU (c:A→A→Int) (o:List A) (v:A):List A:=match hiA c v o with
 | []=>loA c v o++[v]
 | y::q=>if c y v=0 then o else loA c v o++v::y::q
theorem ago (hc:Cmp c) {o:List A}{v x:A}:x∈putU c o v↔x=v∨x∈o:=by
 have e:loA c v o++hiA c v o=o:=adH;unfold putU
 split
 · rename_i h;rw[h,qAT] at e;rw[e,qA9,qA2,or_comm]
 · rename_i y q h;rw[h] at e
   split
   · rename_i h0;have e2:=(hc.zero _ _).1 h0;subst e2;constructor
     · exact .inr
     · rintro (h1 | h1)
       · rw[h1,← e]; simp
       · exact h1
   · conv=>rhs; rw[← e]
     simp only[qA9,qAO];constructor
     · rintro (h | h | h | h)
       · exact .inr (.inl h)
       · exact .inl h
       · exact .inr (.inr (.inl h))
       · exact .inr (.inr (.inr h))
     · rintro (h | h | h | h)
       · exact .inr (.inl h)
       · exact .inl h
       · exact .inr (.inr (.inl h))
       · exact .inr (.inr (.inr h))
theorem sr {v:A}{o:List A}:∀ x∈loA c v o,c x v<0:=gM (c:=c) (key:=fun x=>x)
theorem ov (hc:Cmp c) {o:List A}{v:A} (hr:eU c o):eU c (putU c o v):=by
 have e:loA c v o++hiA c v o=o:=adH;unfold putU
 split
 · rename_i h;rw[h,qAT] at e;refine qCD.2 ⟨by rw[e]; exact hr,qCB ..,fun a ha b hb => ?_⟩;rw[qA2] at hb;subst hb;exact sr a ha
 · rename_i y q h
   split
   · exact hr
   · rename_i h0;have ha:=iV hc (key:=fun x=>x) hr h;rw[h] at e;refine yH.2 ⟨by rw[e]; exact hr,fun x hx=>sr x hx,fun x hx => ?_⟩;have hn:=hc.neg x v;show c v x<0
     rcases qAO.1 hx with e' | hx
     · subst e'; have:=ha.1; omega
     · have:=ha.2 x hx; omega
theorem agp {o:List A}{v:A}:(putU c o v).length≤o.length+1:=by
 have e:loA c v o++hiA c v o=o:=adH;have el:(loA c v o).length+(hiA c v o).length=o.length:=by rw[← qAA,e]
 unfold putU
 split
 · rename_i h; rw[h] at el; simp only[qAA,qCO,qAP] at *; omega
 · rename_i y q h
   split
   · omega
   · rw[h] at el; simp only[qAA,qAI] at *; omega
theorem agk (hc:Cmp c) (l:List A):l.foldl (putU c) []=uniq c l:=aea hc (fun o v x _=>ago hc) (fun o v h=>ov hc h) l
end
section
variable {A B:Type}
end
end Go.TY
namespace Go.TY
open Go.EM
def ahU (ps:Ty) (z:Bool) (e:Nat) (u:Ty) (fn:ps.V→jpM [.row z e u]→Option (Unit×jpM [.row z e u])):TRaw:={ ps:=ps,ins:=[.row z e u],res:=.sl u,outs:=[.gone],fn:=fun v w=>(fn v w).map fun q=>(q.2.1,()) }
theorem agQ {F:SFn}{ps u:Ty}{z:Bool}{e:Nat}{fn:ps.V→jpM [.row z e u]→Option (Unit×jpM [.row z e u])} (h:TRawOk F { ps:=ps,ins:=[.row z e u],res:=.own 0,outs:=[.row z e u],fn:=fn }):TRawOk (iW F) (ahU ps z e u fn):=by
 refine ⟨fun Φ Γ st pv v bs r w h1 h2 h3 => ?_⟩;simp only[ahU,x0] at h3;obtain ⟨q,hq,hq2⟩:=h3;obtain ⟨a,st1,Γ1,g1,g2,g3,g4⟩:=h.run Φ Γ st pv v bs q.1 q.2 h1 h2 hq;cases hq2
 simp only[R] at g2;have hreg:=g3.at 0;have hm0:getM (aP [] [.row z e u] q.2 0) 0 = .row z e u q.2.1:=rfl;rw[hm0] at hreg;obtain ⟨c1,c2,c3,c4,h5⟩:=hreg;rcases h5 with ⟨hx,b,h5,_⟩ | ⟨r0,zs,h5,h6,h7,_⟩
 · have hk : MemR Φ Γ1 [.gone] st1 := {
     reg:=fun j hj=>by
       have:j=0:=(by simpa using hj);subst this; trivial
     out:=fun j hj=>g3.out j hj
     inj:=g3.inj
     lt:=g3.lt
     old:=g3.old
     dis:=g3.dis }
   rw[h5] at g2;rcases g2 with g2 | ⟨_,n,g2⟩
   · cases g2;exact ⟨.nil,st1,Γ1,by simp only[iW,g1,qAJ,nv],.inl ⟨hx,rfl⟩,hk,fun j y hb hy=>by
       rcases hb with hb | hb
       · cases j<;>cases hb
       · cases hb⟩
   · cases g2;exact ⟨.tree true n [],st1,Γ1,by simp only[iW,g1,qAJ,nv],.inr ⟨true,n,[],rfl,.inl hx,by show All2 _ q.2.1 _; rw[hx]; trivial⟩,hk,fun j y hb hy=>by
       rcases hb with hb | hb
       · cases j<;>cases hb
       · cases hb⟩
 · rw[h5] at g2;cases g2;have hal:=aV h7;have hrow:EM.rowAt st1 r0 u.size q.2.1.length=some zs:=by simp only[EM.rowAt,h6,hal,and_self,if_true]
   have hset:=g3.set (id:=0) (g:=.gone) (ag:=.dead) (by show 0<1; omega) h5 trivial
   refine ⟨.tree false u.size zs, st1.set r0 .dead, Γ1, ?_, .inr ⟨false, u.size, zs, rfl, .inr rfl, h7⟩, hset, fun j y hb hy => by
       rcases hb with hb | hb
       · cases j<;>cases hb
       · cases hb⟩
   simp only[iW,g1,qAJ,nv];rw[if_pos (by omega),hrow];simp only[qAE,qB8];rw[qBI (by omega)]
end Go.TY
namespace Go.TY
open Go.EM
end Go.TY
