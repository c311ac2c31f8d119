import Derived.Test.YtnbgkhdcidbkaaaGreatDoorT14
import Derived.Test.YtnbgkhdcidbkaaaGreatDoorE32
set_option linter.unusedVariables false
namespace Go.TY
open Go.EM
def itoa (n:Int):Option (List UInt8):=if -9223372036854775808≤n∧n≤9223372036854775807 then some (Lib.itoa n) else none
def yN:TFn:={ ps:=.cons (.int .i64) .unit,res:=.str,fn:=fun v=>itoa v.1 }
theorem arJ:TOk aiy yN:=⟨rfl,rfl,rfl,fun v r xs hr hps=>by
 simp only[R,yN] at hps;obtain ⟨l1,l2,rfl,rfl,rfl⟩:=hps;simp only[yN,itoa] at hr
 split at hr
 · rename_i hn;cases hr;exact ⟨.str (Lib.itoa v.1),if_pos hn,rfl⟩
 · cases hr⟩
end Go.TY
namespace Go.TY
open Go.EM
end Go.TY
namespace Go.TY
open Go.EM
def cmpT (a b:List UInt8):Option Int:=some (Lib.compareBytes a b)
def agj:TFn:={ ps:=.cons .str (.cons .str .unit),res:=.int .i64,fn:=fun v=>cmpT v.1 v.2.1 }
theorem asa:TOk cmpF agj:=⟨rfl,rfl,rfl,fun v r xs hr hps=>by
 simp only[R,agj] at hps;obtain ⟨l1,l2,rfl,rfl,l3,l4,rfl,rfl,rfl⟩:=hps;cases hr;exact ⟨_,rfl,rfl⟩⟩
end Go.TY
namespace Go.TY
open Go.EM
def fE {A:Type} (l:List A):Option (List A):=if l.length<most then some l else none
def hI (u:Ty):TFn:={ ps:=.cons (.sl u) .unit,res:=.sl u,fn:=fun v=>fE v.1 }
theorem uh {M:Nat}{u:Ty} (hu:u.size=M) (hv:u.isV=true) (hc:u.closed=true):TOk (nu M) (hI u):=by
 have hk:(Ty.sl u).closed=true:=by simp only[Ty.closed,hv,hc,qCD]
 refine ⟨by simp only[hI,Ty.closed,hv,hc,qCD],hk,rfl,fun v r xs hr hps => ?_⟩;obtain ⟨v,⟨⟩⟩:=v;simp only[R,hI] at hps;obtain ⟨l1,l2,rfl,hx,rfl⟩:=hps;simp only[hI,fE] at hr
 split at hr
 · rename_i hlt;cases hr;rcases hx with ⟨rfl,rfl⟩ | ⟨f,n,bs,rfl,hn,ha⟩
   · exact ⟨_,rfl,.inr ⟨false,0,[],rfl,.inl rfl,trivial⟩⟩
   · cases r with
     | nil =>
       match bs,ha with
       | [],_=>exact ⟨.tree false 0 [],rfl,.inr ⟨false,0,[],rfl,.inl rfl,trivial⟩⟩
     | cons x r =>
       match bs,ha with
       | a::bs,ha =>
         have hn:n=M:=by
           rcases hn with h | h
           · cases h
           · rw[h,hu]
         subst hn;have hlen:=bc ha;have hl2:bs.length+1<most:=by simp only[qAM] at hlen hlt; omega
         exact ⟨.tree false n (a::bs),by simp only[nu,qB5]; rw[if_pos ⟨trivial,hl2⟩],.inr ⟨false,n,a::bs,rfl,.inr hu.symm,ha⟩⟩
 · cases hr
def aiw (l:List (List UInt8)) (sep:List UInt8):Option (List UInt8):=if l.length≤140737488355328∧(Lib.join l sep).length≤140737488355328 then some (Lib.join l sep) else none
def qA:TFn:={ ps:=.cons (.sl .str) (.cons .str .unit),res:=.str,fn:=fun v=>aiw v.1 v.2.1 }
theorem ajP {Γ:Ctx}:∀ {v:List (List UInt8)}{bs:List AVal},All2 (fun x a=>R Γ .str x false [a]) v bs→vl bs=some v
 | [],[],_=>rfl
 | x::v,a::bs,h=>by
   have h1:=ai9 h.1;subst h1;simp only[vl,ajP h.2,qAF]
 | [],_::_,h=>h.elim
 | _::_,[],h=>h.elim
theorem aiv:TOk afG qA:=by
 refine ⟨rfl,rfl,rfl,fun v r xs hr hps => ?_⟩;obtain ⟨v,sep,⟨⟩⟩:=v;simp only[R,qA] at hps;obtain ⟨l1,l2,rfl,hx,l3,l4,rfl,rfl,rfl⟩:=hps;simp only[qA,aiw] at hr
 split at hr
 · rename_i hb;cases hr;rcases hx with ⟨rfl,rfl⟩ | ⟨f,n,bs,rfl,hn,ha⟩
   · exact ⟨_,rfl,rfl⟩
   · cases v with
     | nil =>
       match bs,ha with
       | [],_=>exact ⟨_,rfl,rfl⟩
     | cons x v =>
       match bs,ha with
       | a::bs,ha =>
         have hn:n=1:=by
           rcases hn with h | h
           · cases h
           · exact h
         have hs:=ajP (Γ:=Γ0) ha;refine ⟨.str (Lib.join (x::v) sep),?_,rfl⟩;simp only[afG,qB5];rw[if_pos hn,hs,qAJ,if_pos hb]
 · cases hr
end Go.TY
namespace Go.TY
open Go.EM
section
variable {A R X S:Type}
def cO (step:Nat→X→S→S⊕R) (fin:S→R):Nat→List X→S→R
 | _,[],s=>fin s
 | i,x::l,s=>match step i x s with
   | .inl s'=>cO step fin (i+1) l s'
   | .inr r=>r
theorem aS {f:A→Option (A⊕R)}{l:List X} (enc:Nat→S→A) (step:Nat→X→S→S⊕R) (fin:S→R) (inv:Nat→S→Prop)
   (hturn:∀ (i:Nat) (h:i<l.length) (s:S),inv i s→(∃ s',step i l[i] s = .inl s'∧f (enc i s)=some (.inl (enc (i+1) s'))∧inv (i+1) s')∨(∃ r,step i l[i] s = .inr r∧f (enc i s)=some (.inr r)))
   (hend:∀ s,inv l.length s→f (enc l.length s)=some (.inr (fin s))):∀ s,inv 0 s→aH f (enc 0 s)=some (cO step fin 0 l s):=by
 have key:∀ (k i:Nat) (s:S),l.length-i≤k→i≤l.length→inv i s→aH f (enc i s)=some (cO step fin i (l.drop i) s):=by
   intro k
   induction k with
   | zero =>
     intro i s hk hi hv;have:i=l.length:=(by omega);subst this;rw[qAU (qAD _),aD (hend s hv)];rfl
   | succ k ih =>
     intro i s hk hi hv;by_cases hlt:i<l.length
     · rw[qBC hlt];simp only[cO];rcases hturn i hlt s hv with ⟨s',h1,h2,h3⟩ | ⟨r,h1,h2⟩
       · rw[aG h2,ih (i+1) s' (by omega) (by omega) h3,h1]
       · rw[aD h2,h1]
     · have:i=l.length:=(by omega);subst this;rw[qAU (qAD _),aD (hend s hv)];rfl
 intro s hv;have:=key l.length 0 s (by omega) (by omega) hv;simpa using this
theorem eW {f:A→Option (A⊕R)}{l:List X} (enc:Nat→A) (p:X→Bool) (yes no:R)
   (hturn:∀ (i:Nat) (h:i<l.length),f (enc i)=some (if p l[i] then .inl (enc (i+1)) else .inr no)) (hend:f (enc l.length)=some (.inr yes)):aH f (enc 0)=some (if l.all p then yes else no):=by
 have:=aS (S:=Unit) (fun i _=>enc i) (fun _ x _=>if p x then .inl () else .inr no) (fun _=>yes) (fun _ _=>True) (l:=l) (f:=f) (fun i h s _=>by
   by_cases hp:p l[i]=true
   · exact .inl ⟨(),by rw[if_pos hp],by rw[hturn i h,if_pos hp],trivial⟩
   · exact .inr ⟨no,by rw[if_neg hp],by rw[hturn i h,if_neg hp]⟩) (fun s _=>hend) () trivial
 rw[this];congr 1;have gen:∀ (l:List X) (i:Nat),cO (S:=Unit) (fun _ x _=>if p x then .inl () else .inr no) (fun _=>yes) i l ()=if l.all p then yes else no:=by
   intro l
   induction l with
   | nil=>intro i; rfl
   | cons x l ih =>
     intro i;have h:=ih (i+1);by_cases hp:p x=true
     · simp only[cO,hp,if_true];rw[h];simp[hp]
     · simp[cO,hp]
 exact gen l 0
theorem cM {Y:Type}{f:A→Option (A⊕R)}{l:List X} (enc:Nat→List Y→A) (g:X→List Y) (fin:List Y→R) (m:Nat) (hg:∀ x∈l,(g x).length≤m)
   (hturn:∀ (i:Nat) (h:i<l.length) (o:List Y),o.length≤i*m→f (enc i o)=some (.inl (enc (i+1) (o++g l[i])))) (hend:∀ o,o.length≤l.length*m→f (enc l.length o)=some (.inr (fin o))) :
   aH f (enc 0 [])=some (fin (l.flatMap g)):=by
 have:=aS (S:=List Y) enc (fun _ x o=>.inl (o++g x)) fin (fun i o=>o.length≤i*m) (l:=l) (f:=f) (fun i h o ho=>.inl ⟨_,rfl,hturn i h o ho,by
   have:=hg l[i] (qCL h);rw[qAA,qB4]; omega⟩) hend [] (by simp)
 rw[this];congr 1;have gen:∀ (l:List X) (i:Nat) (o:List Y),cO (S:=List Y) (R:=R) (fun _ x o=>.inl (o++g x)) fin i l o=fin (o++l.flatMap g):=by
   intro l
   induction l with
   | nil=>intro i o; simp[cO]
   | cons x l ih=>intro i o; simp only[cO]; rw[ih]; simp[qA5]
 rw[gen]; rfl
def all2 {Y:Type} (q:X→Y→Bool):List X→List Y→Bool
 | [],[]=>true
 | x::l,y::m=>q x y&&all2 q l m
 | _,_=>false
theorem fy {Y:Type}{f:A→Option (A⊕R)}{l:List X}{m:List Y} (enc:Nat→A) (q:X→Y→Bool) (yes no:R) (hl:l.length=m.length)
   (hturn:∀ (i:Nat) (h:i<l.length) (h':i<m.length),f (enc i)=some (if q l[i] m[i]=true then .inl (enc (i+1)) else .inr no)) (hend:f (enc l.length)=some (.inr yes)):aH f (enc 0)=some (if all2 q l m=true then yes else no):=by
 have key:∀ (k i:Nat),l.length-i≤k→i≤l.length→aH f (enc i)=some (if all2 q (l.drop i) (m.drop i)=true then yes else no):=by
   intro k
   induction k with
   | zero =>
     intro i hk hi;have e:i=l.length:=(by omega);subst e;rw[aD hend,qAU (qAD _),qAU (by omega)];rfl
   | succ k ih =>
     intro i hk hi;by_cases hlt:i<l.length
     · have h2:i<m.length:=(by omega);rw[qBC hlt,qBC h2];have ht:=hturn i hlt h2;by_cases hq:q l[i] m[i]=true
       · rw[if_pos hq] at ht;rw[aG ht,ih (i+1) (by omega) (by omega)];simp only[all2,hq,qBK]
       · rw[if_neg hq] at ht;rw[aD ht];simp[all2,hq]
     · have e:i=l.length:=(by omega);subst e;rw[aD hend,qAU (qAD _),qAU (by omega)];rfl
 have:=key l.length 0 (by omega) (by omega);simpa using this
theorem fZ [DecidableEq X]:∀ {l m:List X},all2 (fun x y=>decide (x=y)) l m=decide (l=m)
 | [],[]=>rfl
 | [],_::_=>by simp[all2]
 | _::_,[]=>by simp[all2]
 | x::l,y::m=>by
   simp only[all2,fZ (l:=l) (m:=m),List.cons.injEq,Bool.decide_and]
open Classical in
theorem mU {f:A→Option (A⊕R)} (n:Nat) (enc:Nat→A) (p:Nat→Bool) (yes no:R)
   (hturn:∀ (i:Nat) (h:i<n),f (enc i)=some (if p i=true then .inl (enc (i+1)) else .inr no)) (hend:f (enc n)=some (.inr yes)):aH f (enc 0)=some (if (∀ i,i<n→p i=true) then yes else no):=by
 have key:∀ (k i:Nat),n-i≤k→i≤n→aH f (enc i)=some (if (∀ j,i≤j→j<n→p j=true) then yes else no):=by
   intro k
   induction k with
   | zero =>
     intro i hk hi;have e:i=n:=(by omega);subst e;rw[aD hend,if_pos (fun j h1 h2=>by omega)]
   | succ k ih =>
     intro i hk hi;by_cases hlt:i<n
     · have ht:=hturn i hlt;by_cases hq:p i=true
       · rw[if_pos hq] at ht;rw[aG ht,ih (i+1) (by omega) (by omega)];by_cases ha:∀ j,i+1≤j→j<n→p j=true
         · rw [if_pos ha, if_pos (fun j h1 h2 => by
             rcases Nat.lt_or_eq_of_le h1 with h | h
             · exact ha j h h2
             · rw[← h]; exact hq)]
         · rw[if_neg ha,if_neg (fun hb=>ha (fun j h1 h2=>hb j (by omega) h2))]
       · rw[if_neg hq] at ht;rw[aD ht,if_neg (fun hb=>hq (hb i (qAD _) hlt))]
     · have e:i=n:=(by omega);subst e;rw[aD hend,if_pos (fun j h1 h2=>by omega)]
 have:=key n 0 (by omega) (by omega);rw[this];congr 1;by_cases ha:∀ i,i<n→p i=true
 · rw[if_pos ha,if_pos (fun j _ h2=>ha j h2)]
 · rw[if_neg ha,if_neg (fun hb=>ha (fun j h2=>hb j (qBW _) h2))]
end
end Go.TY
set_option linter.unusedSectionVars false
namespace Go.TY
structure Cmp {K:Type} (c:K→K→Int):Prop where
 one:∀ a b,-1≤c a b∧c a b≤1
 neg:∀ a b,c b a = - c a b
 zero:∀ a b,c a b=0↔a=b
 trans:∀ a b d,c a b<0→c b d<0→c a d<0
def cmpL {K:Type} (c:K→K→Int):List K→List K→Int
 | [],[]=>0
 | [],_::_ => -1
 | _::_,[]=>1
 | x::a,y::b=>if c x y=0 then cmpL c a b else c x y
section
variable {K:Type}{c:K→K→Int}
theorem Cmp.list (h:Cmp c):Cmp (cmpL c) where
 one:=by
   intro a
   induction a with
   | nil=>intro b; cases b<;>simp[cmpL]
   | cons x a ih =>
     intro b;cases b with
     | nil=>simp[cmpL]
     | cons y b =>
       simp only[cmpL]
       split
       · exact ih b
       · exact h.one x y
 neg:=by
   intro a
   induction a with
   | nil=>intro b; cases b<;>simp[cmpL]
   | cons x a ih =>
     intro b;cases b with
     | nil=>simp[cmpL]
     | cons y b =>
       simp only[cmpL];have:=h.neg x y;by_cases h0:c x y=0
       · rw[if_pos h0,if_pos (by omega)]; exact ih b
       · rw[if_neg h0,if_neg (by omega)]; exact this
 zero:=by
   intro a
   induction a with
   | nil=>intro b; cases b<;>simp[cmpL]
   | cons x a ih =>
     intro b;cases b with
     | nil=>simp[cmpL]
     | cons y b =>
       simp only[cmpL];by_cases h0:c x y=0
       · rw[if_pos h0,ih b,(h.zero x y).1 h0]; simp
       · rw[if_neg h0];constructor
         · intro k; exact absurd k h0
         · intro k; cases k; exact absurd ((h.zero x x).2 rfl) h0
 trans:=by
   intro a
   induction a with
   | nil =>
     intro b d h1 h2;cases b with
     | nil=>simp[cmpL] at h1
     | cons y b =>
       cases d with
       | nil=>simp[cmpL] at h2
       | cons z d=>simp[cmpL]
   | cons x a ih =>
     intro b d h1 h2;cases b with
     | nil=>simp[cmpL] at h1
     | cons y b =>
       cases d with
       | nil=>simp[cmpL] at h2
       | cons z d =>
         simp only[cmpL] at h1 h2 ⊢;by_cases h0:c x y=0
         · rw[if_pos h0] at h1;have e:=(h.zero x y).1 h0;subst e;by_cases h3:c x z=0
           · rw[if_pos h3] at h2 ⊢; exact ih b d h1 h2
           · rw[if_neg h3] at h2 ⊢; exact h2
         · rw[if_neg h0] at h1;by_cases h3:c y z=0
           · have e:=(h.zero y z).1 h3;subst e;rw[if_neg h0]; exact h1
           · rw[if_neg h3] at h2;have:=h.trans x y z h1 h2;rw[if_neg (by omega)]; exact this
def cmpB {L:Type} (c:K→K→Int) (d:L→L→Int) (a b:K×L):Int:=if c a.1 b.1=0 then d a.2 b.2 else c a.1 b.1
theorem Cmp.pair {L:Type}{d:L→L→Int} (h:Cmp c) (k:Cmp d):Cmp (cmpB c d) where
 one a b:=by
   unfold cmpB
   split
   · exact k.one _ _
   · exact h.one _ _
 neg a b:=by
   unfold cmpB;have:=h.neg a.1 b.1;by_cases h0:c a.1 b.1=0
   · rw[if_pos h0,if_pos (by omega)]; exact k.neg _ _
   · rw[if_neg h0,if_neg (by omega)]; exact this
 zero a b:=by
   unfold cmpB;obtain ⟨a1,a2⟩:=a;obtain ⟨b1,b2⟩:=b;simp only;by_cases h0:c a1 b1=0
   · rw[if_pos h0,k.zero,(h.zero _ _).1 h0]; simp
   · rw[if_neg h0];constructor
     · intro e; exact absurd e h0
     · intro e; cases e; exact absurd ((h.zero _ _).2 rfl) h0
 trans a b e h1 h2:=by
   unfold cmpB at h1 h2 ⊢;obtain ⟨a1,a2⟩:=a;obtain ⟨b1,b2⟩:=b;obtain ⟨e1,e2⟩:=e;simp only at h1 h2 ⊢;by_cases h0:c a1 b1=0
   · rw[if_pos h0] at h1;have q:=(h.zero _ _).1 h0;subst q;by_cases h3:c a1 e1=0
     · rw[if_pos h3] at h2 ⊢; exact k.trans _ _ _ h1 h2
     · rw[if_neg h3] at h2 ⊢; exact h2
   · rw[if_neg h0] at h1;by_cases h3:c b1 e1=0
     · have q:=(h.zero _ _).1 h3;subst q;rw[if_neg h0]; exact h1
     · rw[if_neg h3] at h2;have:=h.trans _ _ _ h1 h2;rw[if_neg (by omega)]; exact this
theorem Cmp.irr (h:Cmp c) (a:K):¬ c a a<0:=by have:=(h.zero a a).2 rfl; omega
end
theorem ze {A B:Type}{f g:A→List B}:∀ {l:List A},(∀ x∈l,f x=g x)→l.flatMap f=l.flatMap g
 | [],_=>rfl
 | x::l,h=>by rw[qA5,qA5,h x (qAL ..),ze (fun y hy=>h y (qAK _ hy))]
section
variable {X K C:Type} (c:K→K→Int) (key:X→K) (same:X→X→Bool) (G M:X→C) (T:X→X→C) (leaf:C→K)
def dJ:List X→List X→List C
 | [],b=>b.map M
 | x::a,[]=>(x::a).map G
 | x::a,y::b=>if c (key x) (key y)<0 then G x::dJ a (y::b) else if c (key x) (key y)>0 then M y::dJ (x::a) b else (if same x y then [] else [T x y])++dJ a b
termination_by a b=>a.length+b.length
def ins (v:C):List C→List C
 | []=>[v]
 | e::l=>if c (leaf v) (leaf e)<0 then v::e::l else e::ins v l
def oneA (b:List X) (x:X):List C :=
 match b.find? (fun y=>decide (c (key y) (key x)=0)) with
 | none=>[G x]
 | some y=>if same x y then [] else [T x y]
def dK (a b:List X):List C:=a.flatMap (oneA c key same G T b)
def insB (a:List X) (o:List C) (y:X):List C:=if (a.find? (fun x=>decide (c (key x) (key y)=0))).isNone then ins c leaf (M y) o else o
def insA (b:List X) (o:List C) (x:X):List C:=(oneA c key same G T b x).foldl (fun o v=>ins c leaf v o) o
def aDj (a b:List X):List C:=b.foldl (insB c key M leaf a) (a.foldl (insA c key same G T leaf b) [])
def ep (a:List X):Prop:=a.Pairwise fun x y=>c (key x) (key y)<0
variable {c key same G M T leaf}
theorem qD (hc:Cmp c) {v:C}:∀ {l:List C},(∀ e∈l,c (leaf e) (leaf v)<0)→ins c leaf v l=l++[v]
 | [],_=>rfl
 | e::l,h=>by
   have h1:=h e (qAL ..);have h2:=hc.neg (leaf e) (leaf v);simp only[ins];rw[if_neg (by omega),qD hc (fun x hx=>h x (qAK _ hx))]; rfl
variable (hc:Cmp c) (hG:∀ x,leaf (G x)=key x) (hM:∀ x,leaf (M x)=key x) (hT:∀ x y,leaf (T x y)=key x)
include hc hG hT
theorem mS {b:List X}{x:X}:∀ e∈oneA c key same G T b x,leaf e=key x:=by
 intro e he;unfold oneA at he
 split at he
 · simp at he; subst he; exact hG x
 · split at he
   · cases he
   · simp at he; subst he; exact hT _ _
theorem aiA {b:List X}{x:X}{o:List C} (h:∀ e∈o,c (leaf e) (key x)<0):insA c key same G T leaf b o x=o++oneA c key same G T b x:=by
 unfold insA;have hl:=mS (same:=same) hc hG hT (b:=b) (x:=x);unfold oneA at hl ⊢
 split
 · rename_i hf;simp only[hf] at hl;simp only[qAX,qDP];exact qD hc (fun e he=>by rw[hG]; exact h e he)
 · rename_i y hf;simp only[hf] at hl
   split
   · simp
   · rename_i hs;simp only[qAX,qDP];exact qD hc (fun e he=>by rw[hT]; exact h e he)
theorem aDg {b:List X}:∀ {a:List X}{o:List C},ep c key a→(∀ e∈o,∀ x∈a,c (leaf e) (key x)<0)→a.foldl (insA c key same G T leaf b) o=o++dK c key same G T a b
 | [],o,_,_=>by simp[dK]
 | x::a,o,hr,ho=>by
   have hr':=qA9.1 hr;rw[qAX,aiA hc hG hT (fun e he=>ho e he x (qAL ..)),aDg hr'.2 ?_]
   · simp[dK,qA5]
   · intro e he y hy;rcases qBF.1 he with he | he
     · exact ho e he y (qAK _ hy)
     · rw[mS hc hG hT e he]; exact hr'.1 y hy
omit hG hT in
theorem tI {b:List X}{k:K} (h:∀ y∈b,c (key y) k≠0):b.find? (fun y=>decide (c (key y) k=0))=none:=by
 rw[List.find?_eq_none];intro y hy;simpa using h y hy
include hM
theorem ar2:∀ (n:Nat) (a b:List X),a.length+b.length≤n→ep c key a→ep c key b→b.foldl (insB c key M leaf a) (dK c key same G T a b)=dJ c key same G M T a b:=by
 have pass:∀ (h:C) (a:List X) (b:List X) (o:List C),(∀ y∈b,c (leaf h) (key y)<0)→b.foldl (insB c key M leaf a) (h::o)=h::b.foldl (insB c key M leaf a) o:=by
   intro h a b
   induction b with
   | nil=>intro o _; rfl
   | cons y b ih =>
     intro o hb;have h1:=hb y (qAL ..);have h2:=hc.neg (leaf h) (key y);have e:insB c key M leaf a (h::o) y=h::insB c key M leaf a o y:=by
       unfold insB
       split
       · simp only[ins];rw[hM,if_neg (by omega)]
       · rfl
     rw[qAX,qAX,e];exact ih _ (fun z hz=>hb z (qAK _ hz))
 have mono:∀ (x:X) (a b:List X) (o:List C),(∀ y∈b,c (key x) (key y)≠0)→b.foldl (insB c key M leaf (x::a)) o=b.foldl (insB c key M leaf a) o:=by
   intro x a b
   induction b with
   | nil=>intro o _; rfl
   | cons y b ih =>
     intro o hb;have h1:=hb y (qAL ..);have e:insB c key M leaf (x::a) o y=insB c key M leaf a o y:=by
       unfold insB;rw[List.find?_cons];have:decide (c (key x) (key y)=0)=false:=(by simpa using h1);rw[this]
     rw[qAX,qAX,e];exact ih _ (fun z hz=>hb z (qAK _ hz))
 have monoA:∀ (y:X) (a b:List X),(∀ x∈a,c (key y) (key x)≠0)→dK c key same G T a (y::b)=dK c key same G T a b:=by
   intro y a b h;unfold dK;refine ze fun x hx => ?_;unfold oneA;rw[List.find?_cons];have:decide (c (key y) (key x)=0)=false:=by simpa using h x hx
   rw[this]
 intro n
 induction n with
 | zero =>
   intro a b hn ha hb;have:a=[]:=qA1 (by omega);subst this;have:b=[]:=qA1 (by simpa using hn);subst this;simp[dK,dJ]
 | succ n ih =>
   intro a b hn ha hb
   match a,b,hn,ha,hb with
   | [],b,hn,ha,hb =>
     have gen:∀ (b:List X) (o:List C),ep c key b→(∀ e∈o,∀ y∈b,c (leaf e) (key y)<0)→b.foldl (insB c key M leaf []) o=o++b.map M:=by
       intro b
       induction b with
       | nil=>intro o _ _; simp
       | cons y b ihb =>
         intro o hr ho;have hr':=qA9.1 hr;have e:insB c key M leaf [] o y=o++[M y]:=by
           unfold insB;simp only[List.find?_nil,qDI,if_true];exact qD hc (fun e he=>by rw[hM]; exact ho e he y (qAL ..))
         rw[qAX,e,ihb _ hr'.2 ?_]
         · simp
         · intro e he z hz;rcases qBF.1 he with he | he
           · exact ho e he z (qAK _ hz)
           · simp at he; subst he; rw[hM]; exact hr'.1 z hz
     have:=gen b [] hb (fun e he=>by cases he);simpa [dK,dJ] using this
   | x::a,[],hn,ha,hb =>
     have:∀ a:List X,dK c key same G T a []=a.map G:=by
       intro a;unfold dK
       induction a with
       | nil=>rfl
       | cons x a iha=>rw[qA5,iha]; rfl
     rw[this]; simp[dJ]
   | x::a,y::b,hn,ha,hb =>
     have ha':=qA9.1 ha;have hb':=qA9.1 hb;simp only[qAM] at hn;have hneg:=hc.neg (key x) (key y);by_cases h1:c (key x) (key y)<0
     · have far : ∀ z ∈ y :: b, c (key x) (key z) < 0 := by
         intro z hz;rcases qAS.1 hz with rfl | hz
         · exact h1
         · exact hc.trans _ _ _ h1 (hb'.1 z hz)
       have e:dK c key same G T (x::a) (y::b)=G x::dK c key same G T a (y::b):=by
         unfold dK;rw[qA5];have:oneA c key same G T (y::b) x=[G x]:=by
           unfold oneA;rw[tI hc (fun z hz=>by have:=far z hz; have:=hc.neg (key x) (key z); omega)]
         rw[this]; rfl
       rw[e,pass _ _ _ _ (fun z hz=>by rw[hG]; exact far z hz),mono _ _ _ _ (fun z hz=>by have:=far z hz; omega),ih a (y::b) (by simp only[qAM]; omega) ha'.2 hb]
       rw[dJ.eq_def c key same G M T (x::a) (y::b)];simp only;rw[if_pos h1]
     · by_cases h2:c (key x) (key y)>0
       · have near : ∀ z ∈ x :: a, c (key y) (key z) < 0 := by
           intro z hz;rcases qAS.1 hz with rfl | hz
           · omega
           · exact hc.trans _ _ _ (by omega) (ha'.1 z hz)
         have e0:dK c key same G T (x::a) (y::b)=dK c key same G T (x::a) b:=monoA y (x::a) b (fun z hz=>by have:=near z hz; omega)
         have e1:insB c key M leaf (x::a) (dK c key same G T (x::a) b) y=M y::dK c key same G T (x::a) b:=by
           unfold insB;rw[tI hc (fun z hz=>by have:=near z hz; have:=hc.neg (key y) (key z); omega)];simp only[qDI,if_true];cases hd:dK c key same G T (x::a) b with
           | nil=>rfl
           | cons e l =>
             have he:e∈dK c key same G T (x::a) b:=(by rw[hd]; exact qAL ..);unfold dK at he;rw[List.mem_flatMap] at he;obtain ⟨z,hz,he⟩:=he;have:=mS hc hG hT e he;simp only[ins]
             rw[hM,this,if_pos (near z hz)]
         rw[qAX,e0,e1,pass _ _ _ _ (fun z hz=>by rw[hM]; exact hb'.1 z hz),ih (x::a) b (by simp only[qAM]; omega) ha hb'.2];rw[dJ.eq_def c key same G M T (x::a) (y::b)]
         simp only;rw[if_neg h1,if_pos h2]
       · have h0:c (key x) (key y)=0:=(by omega);have hk:key x=key y:=(hc.zero _ _).1 h0;have farb:∀ z∈b,c (key x) (key z)<0:=fun z hz=>by rw[hk]; exact hb'.1 z hz
         have fara:∀ z∈a,c (key y) (key z)<0:=fun z hz=>(by rw[← hk]; exact ha'.1 z hz);have e0:dK c key same G T (x::a) (y::b)=(if same x y then [] else [T x y])++dK c key same G T a b:=by
           have:dK c key same G T (x::a) (y::b)=oneA c key same G T (y::b) x++dK c key same G T a (y::b):=(by unfold dK; rw[qA5]);rw[this,monoA y a b (fun z hz=>by have:=fara z hz; omega)]
           congr 1;unfold oneA;rw[List.find?_cons];have:decide (c (key y) (key x)=0)=true:=(by simp; omega);rw[this]
         have e1:∀ o,insB c key M leaf (x::a) o y=o:=by
           intro o;unfold insB;rw[List.find?_cons];have:decide (c (key x) (key y)=0)=true:=(by simpa using h0);rw[this];simp
         rw[qAX,e1,e0];have fin:b.foldl (insB c key M leaf (x::a)) (dK c key same G T a b)=dJ c key same G M T a b:=by
           rw[mono _ _ _ _ (fun z hz=>by have:=farb z hz; omega)];exact ih a b (by omega) ha'.2 hb'.2
         rw[dJ.eq_def c key same G M T (x::a) (y::b)];simp only;rw[if_neg h1,if_neg h2];cases same x y with
         | true=>simpa using fin
         | false =>
           simp only[qA0,if_false,qBV,qBB];rw[pass _ _ _ _ (fun z hz=>by rw[hT]; exact farb z hz),fin]
theorem aiT {a b:List X} (ha:ep c key a) (hb:ep c key b):aDj c key same G M T leaf a b=dJ c key same G M T a b:=by
 unfold aDj;rw[aDg hc hG hT ha (fun e he=>by cases he),qBB];exact ar2 hc hG hM hT _ a b (qAD _) ha hb
end
end Go.TY
set_option linter.unusedSimpArgs false
namespace Go.TY
open Go.EM
def pp (e:Nat) (u:Ty):TNew:={ ps:=.cons (.sl u) .unit,e:=e,t:=.sl u,fn:=fun v=>fE v.1,row:=true }
theorem uj {M e:Nat}{u:Ty} (hu:u.size=M) (hv:u.isV=true) (hc:u.closed=true):TNewOk (nt M e) (pp e u):=by
 refine ⟨(fun h=>by cases h),fun _ _ st v r zs Γ hps hr => ?_,(fun _ h=>by cases h),fun _ h=>by cases h⟩;obtain ⟨v,⟨⟩⟩:=v;simp only[R,pp] at hps;obtain ⟨l1,l2,rfl,hx,rfl⟩:=hps;simp only[pp,fE] at hr
 split at hr
 · rename_i hlt;cases hr;simp only[pp,agE,qAR];rcases hx with ⟨rfl,rfl⟩ | ⟨f,n,bs,rfl,hn,ha⟩
   · exact ⟨st,fun _ _=>rfl,.inl ⟨rfl,.inl rfl⟩⟩
   · cases r with
     | nil =>
       match bs,ha with
       | [],_=>exact ⟨st,fun _ _=>rfl,.inl ⟨rfl,.inr ⟨0,rfl⟩⟩⟩
     | cons x r =>
       match bs,ha with
       | a::bs,ha =>
         have hn:n=M:=by
           rcases hn with h | h
           · cases h
           · rw[h,hu]
         subst hn;have hlen:=bc ha;have hl2:bs.length+1<most:=by simp only[qAM] at hlen hlt; omega
         refine ⟨st++[.row e u.size (a::bs)],fun q hq=>qAI hq,.inr ⟨st.length,a::bs,?_,qAD _,by simp,aM (p:=fun x a=>R Γ u x false [a]) (fun x a hx=>aX hc hx) ha⟩⟩
         simp only[nt];rw[if_pos ⟨trivial,hl2⟩,hu];rfl
 · cases hr
theorem row_one {Φ:Frame}{Γ:Ctx}{st:aC}{g:Reg} (hm:MemR Φ Γ [g] st):RegR Γ st 0 g:=hm.reg 0 (by simp)
theorem yW {Φ:Frame}{Γ:Ctx}{st st':aC}{g g':Reg}{r n l:Nat} (hm:MemR Φ Γ [g] st) (hst:st.length≤st'.length) (hr:r<st'.length) (hg:RegR (grown Γ 0 (r,n,l)) st' 0 g') (hΦ:∀ r' g,Φ r'=some g→st'[r']? = some g) (hd:∀ g,Φ r≠some g):MemR Φ (grown Γ 0 (r,n,l)) [g'] st':=by
 have none:∀ i y,i≠0→Γ i≠some y:=fun i y hi h=>by
   rw[hm.out i (by simp; omega)] at h; cases h
 exact hm.grow (id:=0) (by simp) hst (fun i _ _ _ hi h=>absurd h (none i _ hi)) hr (fun i _ _ _ hi h=>absurd h (none i _ hi)) hg hΦ hd
def insT {A:Type} (l:List A) (i:Int) (ys:List A):Option (List A):=if 0≤i∧i≤l.length∧ys≠[]∧l.length+ys.length<most then some (l.take i.toNat++ys++l.drop i.toNat) else none
def insR (z:Bool) (e:Nat) (t:Ty):TRaw:={ ps:=.cons (.own 0) (.cons (.int .i64) (.cons (.sl t) .unit)),ins:=[.row z e t],res:=.own 0,outs:=[.row z e t],fn:=fun v w=>(insT w.1 v.2.1 v.2.2.1).map fun l=>((),(l,())) }
theorem afK {A:Type}{l ys r:List A}{i:Int} (h:insT l i ys=some r):∃ k:Nat,i=(k:Int)∧k≤l.length∧ys≠[]∧l.length+ys.length<most∧r=l.take k++ys++l.drop k:=by
 unfold insT at h
 split at h
 · rename_i hb;cases h;exact ⟨i.toNat,by omega,by omega,hb.2.2.1,hb.2.2.2,rfl⟩
 · cases h
theorem wd {M e:Nat}{z:Bool}{u:Ty} (hu:u.size=M) (hv:u.isV=true) (hc:u.closed=true) (hk:u.okRow=true) (hM:M≠0):TRawOk (d9 M e) (insR z e u):=by
 refine TRawOk.ofBox rfl fun Φ Γ st pv v zs r w hm hps hr => ?_;obtain ⟨⟨⟩,i,ys,⟨⟩⟩:=pv;obtain ⟨xs,⟨⟩⟩:=v;simp only[insR,R] at hps;obtain ⟨l1,l2,rfl,hown,l3,l4,rfl,rfl,l5,l6,rfl,hys,rfl⟩:=hps
 simp only[insR] at hr hm ⊢;rw[x0] at hr;obtain ⟨out,hr,hr2⟩:=hr;cases hr2;obtain ⟨i,rfl,hil,hne,hmost,rfl⟩:=afK hr
 · rcases hys with ⟨rfl,_⟩ | ⟨f,n,bs,rfl,hn,hb2⟩
   · exact absurd rfl hne
   · have hbl:=bc hb2
     match ys,bs,hb2,hbl,hne with
     | y::ys,b::bs,hb2,hbl,hne =>
     have hn:n=M:=by
       rcases hn with h | h
       · cases h
       · rw[h,hu]
     subst hn;have hcl:aJ (b::bs)=true:=d5 (fun x a hx=>by rw[← aZ]; exact bF hc hx) hb2
     have hb3:All2 (fun x a=>R (grown Γ 0 (0,0,0)) u x false [a]) (y::ys) (b::bs):=aM (p:=fun x a=>R Γ u x false [a]) (fun x a hx=>aX hc hx) hb2;obtain ⟨k1,k2,k3,k4,k5⟩:=row_one hm
     simp only[aR] at hm ⊢;dsimp only at k5;rcases k5 with ⟨rfl,bz,k5,kz⟩ | ⟨r,zs,k5,k6,k7,k8⟩
     · rw[k5] at hown;have h0:i=0:=Nat.le_zero.1 hil;subst h0;have hF:∀ a0,(l1=[a0])→d9 n e (l1++([.int .i64 ((0:Nat):Int)]++([.tree f n (b::bs)]++[]))) st=some (bt st e n (b::bs)):=by
         intro a0 ha;have hlt:(b::bs).length<most:=(by rw[hbl]; exact Nat.lt_of_le_of_lt (Nat.le_add_left _ _) hmost);rcases hown with h | ⟨_,k,h⟩
         · subst h;simp only[qB5,qAR,d9];rw[if_pos ⟨trivial,rfl,hlt⟩]
         · subst h;simp only[qB5,qAR,d9];rw[if_pos ⟨trivial,rfl,hlt⟩]
       have hone:∃ a0,l1=[a0]:=by rcases hown with h | ⟨_,k,h⟩<;>exact ⟨_,h⟩
       obtain ⟨a0,ha0⟩:=hone;refine ⟨_,_,grown Γ 0 (st.length,u.size,(y::ys).length),hF a0 ha0,?_,?_,?_⟩
       · simp only[R,grown,if_true,hbl,hu]
       · rw[show (List.take 0 ([]:List u.V)++(y::ys)++List.drop 0 ([]:List u.V))=y::ys by simp]
         refine yW hm (by simp) (by simp) ⟨hv,hc,hk,k4,.inr ⟨st.length,b::bs,by simp[grown],by simp[hu],aM (p:=fun x a=>R Γ u x false [a]) (fun x a hx=>aX hc hx) hb2,fun _ h=>by cases h⟩⟩ (fun r' g h=>by rw[qAI (hm.oldlt h)]; exact hm.old r' g h) (fun g h=>Nat.lt_irrefl _ (hm.oldlt h))
       · intro j y' hj
         match j,hj with
         | 0,hj=>cases hj
         | j+1,hj=>cases hj
     · rw[k5] at hown;subst hown;have hal:=bc k7;have hil:i≤xs.length:=hil;have hrlt:=hm.lt 0 _ _ _ k5;have hrow:EM.rowAt st r u.size xs.length=some zs:=by simp only[EM.rowAt,k6,hal,and_self,if_true]
       have hF:d9 n e ([.own r u.size xs.length 0 xs.length]++([.int .i64 (i:Int)]++([.tree f n (b::bs)]++[]))) st=some (.own r u.size (xs.length+(b::bs).length) 0 (xs.length+(b::bs).length),st.set r (.row e u.size (zs.take i++(b::bs)++zs.drop i))):=by
         simp only[qB5,qAR,d9];rw[if_pos ⟨hu,trivial,trivial,trivial,by simp only[EM.rowTy,k6],Int.natCast_nonneg _,Int.ofNat_le.2 hil,by rw[hbl]; exact hmost,hcl⟩,hrow]
         simp
       have hlen:(xs.take i++(y::ys)++xs.drop i).length=xs.length+(b::bs).length:=by
         rw[qAA,qAA,qAP,qA2,hbl]; omega
       refine ⟨_,_,grown Γ 0 (r,u.size,xs.length+(b::bs).length),hF,?_,?_,?_⟩
       · simp only[R,grown,if_true]
       · refine yW hm (by simp) (by simpa using hrlt) ⟨hv,hc,hk,k4,.inr ⟨r,zs.take i++(b::bs)++zs.drop i,by rw[hlen]; simp[grown],qAY hrlt,cD (cD (gM i ?_) ?_) (gN i ?_),fun _ h=>by simp at h⟩⟩ (fun r' g h => ?_) (fun g h=>hm.dis r g 0 _ _ h k5)
         · exact aM (p:=fun x a=>R Γ u x false [a]) (fun x a hx=>aX hc hx) k7
         · exact aM (p:=fun x a=>R Γ u x false [a]) (fun x a hx=>aX hc hx) hb2
         · exact aM (p:=fun x a=>R Γ u x false [a]) (fun x a hx=>aX hc hx) k7
         · rw[qBH (fun e'=>by subst e'; exact hm.dis _ _ 0 _ _ h k5)];exact hm.old r' g h
       · intro j y' hj
         match j,hj with
         | 0,hj=>cases hj
         | j+1,hj=>cases hj
end Go.TY
namespace Go.TY
section
variable {X K:Type} (c:K→K→Int) (key:X→K)
def lo (k:K) (l:List X):List X:=l.takeWhile fun x=>decide (c (key x) k<0)
def hi (k:K) (l:List X):List X:=l.dropWhile fun x=>decide (c (key x) k<0)
variable {c key}
theorem lohi {k:K}{l:List X}:lo c key k l++hi c key k l=l:=List.takeWhile_append_dropWhile
theorem gX {k:K}:∀ {l:List X},∀ x∈lo c key k l,c (key x) k<0
 | [],x,h=>by cases h
 | y::l,x,h=>by
   unfold lo at h;rw[List.takeWhile_cons] at h;by_cases hy:c (key y) k<0
   · rw[decide_eq_true hy] at h;simp only[if_true] at h;rcases qAS.1 h with rfl | h
     · exact hy
     · exact gX x h
   · rw[decide_eq_false hy] at h;cases h
theorem afN {k:K}:∀ {l:List X}{x:X}{q:List X},hi c key k l=x::q→¬ c (key x) k<0
 | [],x,q,h=>by cases h
 | y::l,x,q,h=>by
   unfold hi at h;rw[List.dropWhile_cons] at h;by_cases hy:c (key y) k<0
   · rw[decide_eq_true hy] at h;exact afN (l:=l) h
   · rw[decide_eq_false hy] at h;cases h;exact hy
theorem jk (hc:Cmp c) {k:K}{l:List X} (hr:ep c key l) {x:X}{q:List X} (h:hi c key k l=x::q):0≤c (key x) k∧∀ y∈q,0<c (key y) k:=by
 have h1:=afN h;have e:lo c key k l++x::q=l:=by rw[← h]; exact lohi
 rw[← e] at hr;have h2:=(qCT.1 hr).2.1;have h3:=(qA9.1 h2).1;refine ⟨by omega,fun y hy => ?_⟩;have h4:=h3 y hy;have n1:=hc.neg (key y) k;by_cases h5:c (key x) k=0
 · rw[← (hc.zero _ _).1 h5] at n1 ⊢;have:=hc.neg (key x) (key y);omega
 · have n2:=hc.neg (key x) k;have:=hc.trans k (key x) (key y) (by omega) h4;omega
theorem ai3 {k:K}{l:List X}{h:Nat} (hh:h<l.length) (h2:h<(lo c key k l).length):c (key l[h]) k<0:=by
 have e:l[h]=(lo c key k l++hi c key k l)[h]'(by rw[lohi]; exact hh):=by simp only[lohi]
 rw[e,List.getElem_append_left h2];exact gX _ (qCL _)
theorem ai4 (hc:Cmp c) {k:K}{l:List X} (hr:ep c key l) {h:Nat} (hh:h<l.length) (h2:(lo c key k l).length≤h):0≤c (key l[h]) k:=by
 have e:l[h]=(lo c key k l++hi c key k l)[h]'(by rw[lohi]; exact hh):=by simp only[lohi]
 rw[e,List.getElem_append_right h2];have hm:∀ y∈hi c key k l,0≤c (key y) k:=by
   intro y hy;cases hq:hi c key k l with
   | nil=>rw[hq] at hy; cases hy
   | cons x q =>
     rw[hq] at hy;obtain ⟨a1,a2⟩:=jk hc hr hq;rcases qAS.1 hy with rfl | hy
     · exact a1
     · have:=a2 y hy; omega
 exact hm _ (qCL _)
variable [DecidableEq X] (c key)
variable {c key}
end
end Go.TY
namespace Go.TY
open Go.EM Go.Proofs Go.Sort
def kq {A:Type} (c:A→A→Option Int) (xs:List A) (i j:Nat):Int :=
 match xs[clIx xs.length i]?,xs[clIx xs.length j]? with
 | some x,some y=>(c x y).getD 0
 | _,_=>0
def ew {A:Type} (c:A→A→Option Int) (xs:List A):List Nat:=(pdq (ltOf (kq c xs)) (Array.range xs.length) 0 xs.length (Lib.bitLen xs.length) true true).toList
open Classical in
noncomputable def nS {A:Type} (c:A→A→Option Int) (xs:List A):Option (List A) :=
 if xs=[] then some [] else if (∀ x∈xs,∀ y∈xs,∃ n,c x y=some n)∧SWO (ltOf (kq c xs))∧xs.length<4611686018427387904 then some ((ew c xs).filterMap fun i=>xs[i]?) else none
noncomputable def aew (z:Bool) (g e:Nat) (t:Ty) (c:t.V→t.V→Option Int):TRaw:={ ps:=.cons (.own 0) (.cons (.fn g) .unit),ins:=[.row z e t],res:=.tup .unit,outs:=[.row z e t],fn:=(fun _ w=>(nS c w.1).map fun l=>((),(l,()))),stay:=true }
theorem qK:∀ {bs:List AVal}{i:Nat}{a:AVal},bs[i]? = some a→getL bs i=a
 | x::bs,0,a,h=>by simpa [getL] using h
 | x::bs,i+1,a,h=>qK (bs:=bs) (by simpa using h)
theorem oL {c:Nat→Nat→Int} (hO:SWO (ltOf c)) {n:Nat}:∀ i∈(pdq (ltOf c) (Array.range n) 0 n (Lib.bitLen n) true true).toList,i<n:=by
 intro i hi;have perm:=(pdq_sorts (ltOf c) hO (Array.range n) 0 (Array.range n).size (Lib.bitLen (Array.range n).size) true true (qBW _) (qAD _) (Or.inl rfl)).1
 rw[qCE] at perm;generalize pdq (ltOf c) (Array.range n) 0 n (Lib.bitLen n) true true=d' at *;obtain ⟨p1,_,p3⟩:=perm;rw[qCE] at p1
 have e1:(d'.extract 0 n).toList=d'.toList:=by rw[← p1]; simp
 have e2:((Array.range n).extract 0 n).toList=(Array.range n).toList:=by
   have:(Array.range n).extract 0 n=Array.range n:=by
     conv=>lhs; arg 3; rw[← qCE (n:=n)]
     simp
   rw[this]
 rw[e1,e2] at p3;simpa using p3.mem_iff.1 hi
theorem ahU {Γ:Ctx}{t:Ty}{F:PFn}{c:t.V→t.V→Option Int} (hF:TOk F { ps:=.cons t (.cons t .unit),res:=.int .i64,fn:=fun v=>c v.1 v.2.1 }) {xs:List t.V}{bs:List AVal} (ha:All2 (fun x a=>R Γ t x false [a]) xs bs)
   (hc:t.closed=true) (hall:∀ x∈xs,∀ y∈xs,∃ n,c x y=some n):(∀ i j,i<bs.length→j<bs.length→∃ n,F [getL bs i,getL bs j]=some (.int .i64 n))∧(xs≠[]→nr F bs=kq c xs):=by
 have hlen:=bc ha;have at_:∀ i j,i<xs.length→j<xs.length→∃ x y n,xs[i]? = some x∧xs[j]? = some y∧c x y=some n∧F [getL bs i,getL bs j]=some (.int .i64 n):=by
   intro i j hi hj;obtain ⟨a,a1,a2⟩:=f8 ha (qAE hi);obtain ⟨b,b1,b2⟩:=f8 ha (qAE hj);obtain ⟨n,hn⟩:=hall _ (qCL hi) _ (qCL hj)
   obtain ⟨r,r1,r2⟩:=hF.run (xs[i],xs[j],()) n [a,b] hn ⟨[a],[b],rfl,aX hc a2,[b],[],rfl,aX hc b2,rfl⟩;simp only[R] at r2;cases r2
   exact ⟨_,_,n,qAE hi,qAE hj,hn,by rw[qK a1,qK b1]; exact r1⟩
 refine ⟨fun i j hi hj => ?_,fun hne => ?_⟩
 · obtain ⟨x,y,n,_,_,_,h⟩:=at_ i j (by omega) (by omega);exact ⟨n,h⟩
 · have h0:0<xs.length:=List.length_pos_iff.2 hne;funext i j;obtain ⟨x,y,n,h1,h2,h3,h4⟩:=at_ _ _ (eM (i:=i) h0) (eM (i:=j) h0);unfold nr kq;rw[hlen,h1,h2,h4];simp only[h3,qBG]
theorem sJ {A:Type}{p:A→AVal→Prop}{xs:List A}{bs:List AVal} (ha:All2 p xs bs):∀ {l:List Nat},(∀ i∈l,i<xs.length)→All2 p (l.filterMap fun i=>xs[i]?) (l.map (getL bs))
 | [],_=>trivial
 | i::l,h=>by
   have hi:=h i (qAL ..);obtain ⟨a,a1,a2⟩:=f8 ha (qAE hi);rw[List.filterMap_cons,qAE hi,qBE,qK a1]
   exact ⟨a2,sJ ha (fun j hj=>h j (qAK _ hj))⟩
theorem yi {M e g:Nat}{z:Bool}{u:Ty}{F:PFn}{c:u.V→u.V→Option Int} (hu:u.size=M) (hv:u.isV=true) (hc:u.closed=true) (hk:u.okRow=true) (hF:TOk F { ps:=.cons u (.cons u .unit),res:=.int .i64,fn:=fun v=>c v.1 v.2.1 }):TRawOk (p7 F g M e) (aew z g e u c):=by
 refine ⟨fun Φ Γ st pv v zs r w hm hps hr => ?_⟩;obtain ⟨⟨⟩,⟨⟩,⟨⟩⟩:=pv;obtain ⟨xs,⟨⟩⟩:=v;simp only[aew,R] at hps;obtain ⟨l1,l2,rfl,hown,l3,l4,rfl,rfl,rfl⟩:=hps;simp only[aew] at hr hm ⊢
 rw[x0] at hr;obtain ⟨out,hr,hr2⟩:=hr;cases hr2;obtain ⟨k1,k2,k3,k4,k5⟩:=row_one hm;simp only[aR] at hm ⊢;dsimp only at k5;have hR:R Γ (.tup .unit) () false [.tup []]:=⟨[],rfl,rfl⟩
 rcases k5 with ⟨rfl,bz,k5,kz⟩ | ⟨r,zs,k5,k6,k7,k8⟩
 · rw[k5] at hown;have:out=[]:=by
     unfold nS at hr;rw[if_pos rfl] at hr;cases hr; rfl
   subst this;rcases hown with rfl | ⟨_,k,rfl⟩
   · exact ⟨_,st,Γ,by simp only[qB5,qAR,p7],hR,hm,fun _ _ _ h=>h⟩
   · exact ⟨_,st,Γ,by simp only[qB5,qAR,p7],hR,hm,fun _ _ _ h=>h⟩
 · rw[k5] at hown;subst hown;have hal:=bc k7;have hrlt:=hm.lt 0 _ _ _ k5;have hrow:EM.rowAt st r u.size xs.length=some zs:=by simp only[EM.rowAt,k6,hal,and_self,if_true]
   by_cases hx:xs=[]
   · subst hx;have:out=[]:=by
       unfold nS at hr;rw[if_pos rfl] at hr;cases hr; rfl
     subst this;refine ⟨_,st,Γ,?_,hR,hm,fun _ _ _ h=>h⟩;simp only[qB5,qAR,p7];rw[if_pos ⟨hu,trivial,trivial,by simp only[EM.rowTy,k6],trivial⟩,hrow];simp
   · have h0:0<xs.length:=List.length_pos_iff.2 hx;unfold nS at hr;rw[if_neg hx] at hr
     split at hr
     · rename_i hs;obtain ⟨hall,hO,hbig⟩:=hs;cases hr;obtain ⟨htab,hcmp⟩:=ahU hF k7 hc hall;have hcmp:=hcmp hx;have hcl:aJ zs=true:=d5 (fun x a hx=>by rw[← aZ]; exact bF hc hx) k7
       have hix:sg F zs=ew c xs:=(by unfold sg ew; rw[hcmp,hal]);have hmem:∀ i∈ew c xs,i<xs.length:=oL hO;have hp:=sJ k7 hmem;have hlen:=bc hp;have hll:((ew c xs).map (getL zs)).length=xs.length:=by
         rw[qBU]
         have perm:=(pdq_sorts (ltOf (kq c xs)) hO (Array.range xs.length) 0 (Array.range xs.length).size (Lib.bitLen (Array.range xs.length).size) true true (qBW _) (qAD _) (Or.inl rfl)).1.1
         rw[qCE] at perm;simpa [ew] using perm
       refine ⟨_,st.set r (.row e u.size ((sg F zs).map (getL zs))),Γ,?_,hR,?_,fun _ _ _ h=>h⟩
       · simp only[qB5,qAR,p7];rw[if_pos ⟨hu,trivial,trivial,by simp only[EM.rowTy,k6],trivial⟩,hrow];simp only[qAJ]
         rw[if_neg (by omega),if_pos ⟨⟨hcl,htab,by rw[hcmp]; exact hO⟩,hbig⟩]
       · rw[hix]
         have:=hm.set (id:=0) (g:=.row z e u ((ew c xs).filterMap fun i=>xs[i]?)) (ag:=.row e u.size ((ew c xs).map (getL zs))) (by simp) k5 ⟨hv,hc,hk,k4,.inr ⟨r,_,by rw[k5,← hlen,hll],qAY hrlt,hp,fun hz e'=>hx (by
           rw[e'] at hlen;rw[hlen] at hll;exact qCK.1 hll.symm)⟩⟩
         exact this
     · cases hr
end Go.TY
namespace Go.TY
open Go.EM Go.Proofs Go.Sort
section
variable {A K:Type}{c:K→K→Int}{key:A→K}
theorem dX (hc:Cmp c):∀ {l m:List A},ep c key l→ep c key m→(∀ x,x∈l↔x∈m)→l=m
 | [],[],_,_,_=>rfl
 | [],y::m,_,_,h=>by have:=(h y).2 (qAL ..); cases this
 | x::l,[],_,_,h=>by have:=(h x).1 (qAL ..); cases this
 | x::l,y::m,hl,hm,h=>by
   have hl':=qA9.1 hl;have hm':=qA9.1 hm;have e:x=y:=by
     rcases qAS.1 ((h x).1 (qAL ..)) with e | h1
     · exact e
     · rcases qAS.1 ((h y).2 (qAL ..)) with e | h2
       · exact e.symm
       · have a:=hm'.1 x h1;have b:=hl'.1 y h2;have:=hc.neg (key x) (key y);omega
   subst e;congr 1;refine dX hc hl'.2 hm'.2 fun z => ?_;have hz:=h z;constructor
   · intro hzl;rcases qAS.1 (hz.1 (qAK _ hzl)) with e | h1
     · subst e; exact absurd (hl'.1 z hzl) (hc.irr _)
     · exact h1
   · intro hzm;rcases qAS.1 (hz.2 (qAK _ hzm)) with e | h1
     · subst e; exact absurd (hm'.1 z hzm) (hc.irr _)
     · exact h1
theorem aCS (hc:Cmp c) {cf:Nat→Nat→Int}{k:Nat→K} (h:∀ i j,cf i j=c (k i) (k j)):SWO (ltOf cf) where
 irrefl x:=by
   unfold ltOf;rw[h];exact decide_eq_false (hc.irr _)
 trans x y z h1 h2:=by
   unfold ltOf at *;simp only[h,decide_eq_true_eq] at *;exact hc.trans _ _ _ h1 h2
 ntrans x y z h1 h2:=by
   unfold ltOf at *;simp only[h,decide_eq_false_iff_not] at *;intro h3;have n1:=hc.neg (k x) (k y);by_cases h0:c (k y) (k x)=0
   · have e:=(hc.zero _ _).1 h0;rw[e] at h2;exact h2 h3
   · have:=hc.trans (k y) (k x) (k z) (by omega) h3;exact h2 this
theorem aaN (xs:List A):(List.range xs.length).filterMap (fun i=>xs[i]?)=xs:=by
 have key:∀ (l pre:List A),(List.range' pre.length l.length).filterMap (fun i=>(pre++l)[i]?)=l:=by
   intro l
   induction l with
   | nil=>intro pre; rfl
   | cons x l ih =>
     intro pre;rw[qAM,qC4,List.filterMap_cons];have e:(pre++x::l)[pre.length]? = some x:=(by simp);rw[e];have:=ih (pre++[x])
     simp only[qAA,qAM,qAQ,qAO,qAT,qB5] at this;rw[this]
 have:=key xs [];rw[qB8];simpa using this
theorem sf (hc:Cmp c) {cmp:A→A→Option Int}{xs:List A} (hcmp:∀ x∈xs,∀ y∈xs,cmp x y=some (c (key x) (key y))) (hb:xs.length<4611686018427387904):∃ l,nS cmp xs=some l∧l.Perm xs∧l.Pairwise fun x y=>c (key x) (key y)≤0:=by
 by_cases h0:xs=[]
 · subst h0;exact ⟨[],by unfold nS; rw[if_pos rfl],List.Perm.refl _,List.Pairwise.nil⟩
 · have hn:0<xs.length:=List.length_pos_iff.2 h0;have hix:∀ i j,kq cmp xs i j=c (key (xs[clIx xs.length i]'(eM hn))) (key (xs[clIx xs.length j]'(eM hn))):=by
     intro i j;unfold kq;rw[qAE (eM hn),qAE (eM hn)];simp only[hcmp _ (qCL _) _ (qCL _),qBG]
   have hO:SWO (ltOf (kq cmp xs)):=aCS hc (k:=fun i=>key (xs[clIx xs.length i]'(eM hn))) hix;have hs:nS cmp xs=some ((ew cmp xs).filterMap fun i=>xs[i]?):=by
     unfold nS;rw[if_neg h0,if_pos ⟨fun x hx y hy=>⟨_,hcmp x hx y hy⟩,hO,hb⟩]
   refine ⟨_,hs,?_,?_⟩
   · have perm:=(pdq_sorts (ltOf (kq cmp xs)) hO (Array.range xs.length) 0 (Array.range xs.length).size (Lib.bitLen (Array.range xs.length).size) true true (qBW _) (qAD _) (Or.inl rfl)).1
     rw[qCE] at perm;unfold ew;generalize pdq (ltOf (kq cmp xs)) (Array.range xs.length) 0 xs.length (Lib.bitLen xs.length) true true=d' at *;obtain ⟨p1,_,p3⟩:=perm
     rw[qCE] at p1;have e1:(d'.extract 0 xs.length).toList=d'.toList:=(by rw[← p1]; simp);have e2:((Array.range xs.length).extract 0 xs.length).toList=List.range xs.length:=by
       have:(Array.range xs.length).extract 0 xs.length=Array.range xs.length:=by
         conv=>lhs; arg 3; rw[← qCE (n:=xs.length)]
         simp
       rw[this];simp
     rw[e1,e2] at p3;refine (p3.filterMap _).trans ?_;have:(List.range xs.length).filterMap (fun i=>xs[i]?)=xs:=aaN xs;rw[this]
   · rw[List.pairwise_filterMap]
     have sorted:=(pdq_sorts (ltOf (kq cmp xs)) hO (Array.range xs.length) 0 (Array.range xs.length).size (Lib.bitLen (Array.range xs.length).size) true true (qBW _) (qAD _) (Or.inl rfl)).2
     have hmem:=oL hO (n:=xs.length)
     have hsz:=(pdq_sorts (ltOf (kq cmp xs)) hO (Array.range xs.length) 0 (Array.range xs.length).size (Lib.bitLen (Array.range xs.length).size) true true (qBW _) (qAD _) (Or.inl rfl)).1.1
     rw[qCE] at sorted hsz;unfold ew;generalize pdq (ltOf (kq cmp xs)) (Array.range xs.length) 0 xs.length (Lib.bitLen xs.length) true true=d' at *;rw[List.pairwise_iff_getElem]
     intro i j hi hj hij a ha b hb';have hi':i<d'.size:=(by simpa using hi);have hj':j<d'.size:=(by simpa using hj);have hsn:=sorted i j (qBW _) hij (by omega)
     rw[getElem!_pos d' j hj',getElem!_pos d' i hi'] at hsn;unfold ltOf at hsn;rw[hix] at hsn;have q1:=hmem _ (qCL hi);have q2:=hmem _ (qCL hj)
     simp only[Array.getElem_toList] at ha hb' q1 q2;rw[qAE q1] at ha;rw[qAE q2] at hb';cases ha; cases hb';have c1:clIx xs.length d'[i]=d'[i]:=if_pos q1
     have c2:clIx xs.length d'[j]=d'[j]:=if_pos q2;simp only[c1,c2,decide_eq_false_iff_not] at hsn;have:=hc.neg (key xs[d'[j]]) (key xs[d'[i]]);omega
end
end Go.TY
namespace Go.TY
open Go.EM
section
variable (P:Program) (E:Env) (h:Hints) (ET:TEnv) (H:TH)
def qP (σ:TS) (m:Mem) (rs:List ResultVar) (u:Ty):Option (List u.V) :=
 match resT P σ m rs with
 | some [⟨.own i,_⟩]=>match getM m i with
   | .row _ _ u' xs=>cond (Nat.beq i 0) (dp (.sl u') xs (.sl u) fun x=>x) none
   | _=>none
 | some [⟨.vw i,v⟩]=>match getM m i with
   | .row _ _ u' xs=>cond (Nat.beq i 0) ((dp (.sl u') xs (.sl u) fun x=>x).bind fun xs=>cond xs.isEmpty none (if v.1+v.2≤xs.length then some ((xs.drop v.1).take v.2) else none)) none
   | _=>none
 | _=>none
noncomputable def aiI (fn:Func) (ps:Ty) (z:Bool) (e:Nat) (u:Ty) (v:ps.V) (w:List u.V):Option (List u.V) :=
 cond (Nat.beq (rowLen ps) (fn.params.size+fn.nfree)&&rowV ps&&u.closed&&cH fn.ntmps (fn.body.getD .skip)&&Nat.ble (fn.params.size+fn.nfree) fn.ntmps)
   (match fn.body with
    | some c=>DT P E h ET H c (List u.V) (eV ps v 0) [.row z e u w] (fun x σ m=>match x with
       | .normal=>qP P σ m fn.results.toList u
       | .ret=>qP P σ m fn.results.toList u
       | _=>none)
    | none=>none) none
end
section
variable {P:Program}{E:Env}{ET:TEnv}{h:Hints}{H:TH}
theorem yX (hE:EnvT E ET) {fn:Func}{ps u:Ty}{z:Bool}{e:Nat}{fnT:ps.V→List u.V→Option (List u.V)} (hrun:aiI P E h ET H fn ps z e u=fnT) :
   TRawOk (jl (runF P E h fn)) { ps:=ps,ins:=[.row z e u],res:=.sl u,outs:=[.gone],fn:=fun v w=>(fnT v w.1).map fun l=>(l,()) }:=by
 refine TRawOk.ofBox rfl fun Φ Γ st pv v bs r w hmem hps hr => ?_;obtain ⟨xs,⟨⟩⟩:=v;simp only at hr hps hmem;rw[x0] at hr;obtain ⟨out,hr,hr2⟩:=hr;obtain ⟨e1,e2⟩:=Prod.mk.inj hr2
 subst e1;clear hr2 e2;rw[← hrun] at hr;unfold aiI at hr
 cases hc:(Nat.beq (rowLen ps) (fn.params.size+fn.nfree)&&rowV ps&&u.closed&&cH fn.ntmps (fn.body.getD .skip)&&Nat.ble (fn.params.size+fn.nfree) fn.ntmps) with
 | false=>rw[hc] at hr; cases hr
 | true =>
   rw[hc,cond_true] at hr;simp only[k9,qAG] at hc;obtain ⟨⟨⟨⟨c1,c2⟩,c3⟩,c9⟩,c10⟩:=hc
   split at hr
   · rename_i c hb;have hlen:=(ek (n:=0) (k:=0) c2 hps).1;have hslot:cz Γ (eV ps pv 0) (dF (List.range (fn.params.size+fn.nfree)) 0 bs):=by
       intro k w hw;obtain ⟨g1,g2,g3,g4⟩:=(ek (n:=0) (k:=k) c2 hps).2 w hw;refine ⟨g1,?_⟩;rw[qB8,fu _ _ _ _ (by omega) (by omega)];rw[qCO] at g3;exact g3
     obtain ⟨x,σ1,m1,σA1,st1,Γ1,g1,g2,g3,g4,g5,g6⟩:=lq hE c hslot hmem hr;have hend:qP P σ1 m1 fn.results.toList u=some out∧(x = .normal∨x = .ret):=by
       cases x with
       | normal=>exact ⟨g1,.inl rfl⟩
       | ret=>exact ⟨g1,.inr rfl⟩
       | exit i=>cases g1
     obtain ⟨he,hee⟩:=hend;have hrunF:∀ av,resV P σA1 st1 fn.results.toList=some av→runF P E h fn bs st=some (av,st1):=by
       intro av hv;unfold runF;have:Nat.beq bs.length (fn.params.size+fn.nfree)=true:=(by rw[qAG]; omega);rw[hb] at c9;simp only[qBG] at c9;rw[this,hb]
       simp only[cond_true,qBG,c9,c10,qCD];rw[g6];rcases hee with rfl | rfl<;>simp only[hv,qAF]
     -- what lies behind
     have gone:∀ (st':aC),(∀ r g,Φ r=some g→st'[r]? = some g)→MemR Φ (fun _=>none) (aR [] [.gone] () 0) st':=fun st' hold =>
       ⟨(fun id hid=>by
         have:id=0:=(by simp[aR] at hid; omega);subst this; trivial),(fun _ _=>rfl),(fun i j r n l n' l' h=>by cases h),(fun i r n l h=>by cases h),hold,(fun r g i n l _ h=>by cases h)⟩
     have dead:∀ r0 n l j,Γ1 j=some (.inr (r0,n,l))→∀ r g,Φ r=some g→(st1.set r0 .dead)[r]? = some g:=fun r0 n l j hj r g hg=>by
       rw[qBH (fun e'=>by subst e'; exact g3.dis _ _ j _ _ hg hj)];exact g3.old r g hg
     unfold qP at he
     split at he
     · rename_i i _ hl;obtain ⟨as',q1,q2⟩:=mA (P:=P) g2 g3 hl
       split at he
       · rename_i z' e' u' ys hg;cases hi0:Nat.beq i 0 with
         | false=>rw[hi0] at he; cases he
         | true =>
           rw[hi0,cond_true] at he;obtain ⟨ee,hxx⟩:=bg he;cases ee;subst hxx;have hreg:=g3.at i;rw[hg] at hreg;obtain ⟨_,_,_,_,h5⟩:=hreg
           match as',q2 with
           | [a],q2 =>
             have q3:=q2.1.2;simp only[R] at q3;rcases h5 with ⟨rfl,b,h5,_⟩ | ⟨r0,zs,h5,h6,h7,_⟩
             · simp only[h5] at q3;rcases q3 with q3 | ⟨_,n,q3⟩
               · cases q3;exact ⟨.nil,st1,fun _=>none,by simp only[jl,hrunF _ (iV q1),qAJ,oc],.inl ⟨rfl,rfl⟩,gone st1 g3.old,(fun j y hb _=>by cases j<;>cases hb)⟩
               · cases q3
                 exact ⟨.tree true n [],st1,fun _=>none,by simp only[jl,hrunF _ (iV q1),qAJ,oc],.inr ⟨true,n,[],rfl,.inl rfl,trivial⟩,gone st1 g3.old,(fun j y hb _=>by cases j<;>cases hb)⟩
             · simp only[h5] at q3;cases q3;have hal:=bc h7;have hrow:EM.rowAt st1 r0 u.size out.length=some zs:=by simp only[EM.rowAt,h6,hal,and_self,if_true]
               refine ⟨.tree false u.size zs,st1.set r0 .dead,fun _=>none,?_,.inr ⟨false,u.size,zs,rfl,.inr rfl,aM (p:=fun x a=>R Γ1 u x false [a]) (fun x a hx=>aX c3 hx) h7⟩,gone _ (dead r0 _ _ i h5),(fun j y hb _=>by cases j<;>cases hb)⟩
               simp only[jl,hrunF _ (iV q1),qAJ,oc];rw[if_pos (by omega),hrow];simp only[qAF,qB3];rw[qBI (by omega)]
       · cases he
     · rename_i i v hl;obtain ⟨as',q1,q2⟩:=mA (P:=P) g2 g3 hl
       split at he
       · rename_i z' e' u' ys hg;cases hi0:Nat.beq i 0 with
         | false=>rw[hi0] at he; cases he
         | true =>
           rw[hi0,cond_true,qAB] at he;obtain ⟨ys',he1,he⟩:=he;obtain ⟨ee,hxx⟩:=bg he1;cases ee;subst hxx;cases hem:ys'.isEmpty with
           | true=>rw[hem] at he; cases he
           | false =>
           rw[hem,cond_false] at he;obtain ⟨hle,rfl⟩:=dj he;have hreg:=g3.at i;rw[hg] at hreg;obtain ⟨_,_,_,_,h5⟩:=hreg
           match as',q2 with
           | [a],q2 =>
             have q3:=q2.1.2;simp only[R] at q3;obtain ⟨r1,n1,l1,q4,q5⟩:=q3;cases q5;rcases h5 with ⟨rfl,_⟩ | ⟨r0,zs,h5,h6,h7,_⟩
             · cases hem
             · rw[h5] at q4;cases q4;have hal:=bc h7;have hrow:EM.rowAt st1 r1 u.size ys'.length=some zs:=by simp only[EM.rowAt,h6,hal,and_self,if_true]
               refine ⟨.tree false u.size ((zs.drop v.1).take v.2),st1.set r1 .dead,fun _=>none,?_,.inr ⟨false,u.size,_,rfl,.inr rfl,aM (p:=fun x a=>R Γ1 u x false [a]) (fun x a hx=>aX c3 hx) (gM _ (gN _ h7))⟩,gone _ (dead r1 _ _ i h5),(fun j y hb _=>by cases j<;>cases hb)⟩
               simp only[jl,hrunF _ (iV q1),qAJ,oc];rw[if_pos hle,hrow];rfl
       · cases he
     · cases he
   · cases hr
end
end Go.TY
namespace Go.TY
open Go.EM Go.Proofs Go.Sort
end Go.TY
namespace Go.TY
open Go.EM
section
variable {A:Type} [DecidableEq A]
def sqzS (o:List A) (x:A):List A:=if o.getLast? = some x then o else o++[x]
def sqz (l:List A):List A:=l.foldl sqzS []
theorem pZ {l:List A}{x:A}:sqz (l++[x])=sqzS (sqz l) x:=by unfold sqz; rw[List.foldl_append]; rfl
theorem ahT:∀ {l:List A},(sqz l).getLast? = l.getLast? := by
 intro l;rcases List.eq_nil_or_concat l with rfl | ⟨l,x,rfl⟩
 · rfl
 · rw[List.concat_eq_append,pZ];unfold sqzS;by_cases h:(sqz l).getLast? = some x
   · rw[if_pos h,h]; simp
   · rw[if_neg h]; simp
theorem pY {x:A}:∀ (n:Nat) (l:List A),l.length=n→(x∈sqz l↔x∈l):=by
 intro n
 induction n with
 | zero=>intro l h; rw[qCK.1 h]; exact Iff.rfl
 | succ n ih =>
   intro l h;rcases List.eq_nil_or_concat l with rfl | ⟨l,y,rfl⟩
   · cases h
   · rw[List.concat_eq_append] at h ⊢;rw[qAA] at h;have:=ih l (by simpa using h);rw[pZ];unfold sqzS
     split
     · rename_i hl;rw[this,qBF,qA3];constructor
       · exact .inl
       · rintro (h1 | h1)
         · exact h1
         · subst h1; rw[← this]; exact List.mem_of_getLast? hl
     · rw[qBF,qBF,this]
variable {K:Type}{c:K→K→Int}{key:A→K}
theorem sd (hc:Cmp c) (hk:∀ a b,c (key a) (key b)=0→a=b):∀ (n:Nat) (l:List A),l.length=n→(l.Pairwise fun x y=>c (key x) (key y)≤0)→ep c key (sqz l):=by
 intro n
 induction n with
 | zero=>intro l h _; rw[qCK.1 h]; exact List.Pairwise.nil
 | succ n ih =>
   intro l h hp;rcases List.eq_nil_or_concat l with rfl | ⟨l,y,rfl⟩
   · cases h
   · rw[List.concat_eq_append] at h hp ⊢;rw[qAA] at h;have hp':=qCT.1 hp;have hr:=ih l (by simpa using h) hp'.1;rw[pZ];unfold sqzS
     split
     · exact hr
     · rename_i hl;refine qCT.2 ⟨hr,qCC ..,fun a ha b hb => ?_⟩;rw[qA3] at hb;subst hb;have ha':=(pY _ l rfl).1 ha
       have hab:=hp'.2.2 a ha' b (qA3.2 rfl);rcases Int.lt_or_eq_of_le hab with h1 | h1
       · exact h1
       · have e:=hk _ _ h1;subst e;rcases List.eq_nil_or_concat (sqz l) with e0 | ⟨q,z,e0⟩
         · rw[e0] at ha; cases ha
         · rw[List.concat_eq_append] at e0;rw[e0] at hl ha hr;have hz:z∈l:=(by rw[← pY _ l rfl,e0]; simp);have hza:=hp'.2.2 z hz a (qA3.2 rfl);rw[List.getLast?_append] at hl
           simp only[List.getLast?_singleton,Option.some_or,qAC] at hl;rcases qBF.1 ha with hq | hq
           · have:=(qCT.1 hr).2.2 a hq z (qA3.2 rfl);have hn:=hc.neg (key a) (key z);omega
           · exact absurd (qA3.1 hq).symm hl
end
section
variable {A:Type}{c:A→A→Int}
abbrev eg (c:A→A→Int) (o:List A):Prop:=ep c (fun v=>v) o
def insU (c:A→A→Int) (o:List A) (v:A):List A:=match o with
 | []=>[v]
 | x::l=>if c v x=0 then x::l else if c v x<0 then v::x::l else x::insU c l v
theorem qF (hc:Cmp c) {v x:A}:∀ {o:List A},x∈insU c o v↔x=v∨x∈o
 | []=>by simp[insU]
 | y::l=>by
   unfold insU
   split
   · rename_i h;have e:=(hc.zero _ _).1 h;subst e;simp
   · split
     · simp
     · rw[qAS,qF hc,qAS];constructor
       · rintro (h | h | h)
         · exact .inr (.inl h)
         · exact .inl h
         · exact .inr (.inr h)
       · rintro (h | h | h)
         · exact .inr (.inl h)
         · exact .inl h
         · exact .inr (.inr h)
theorem pd (hc:Cmp c) {v:A}:∀ {o:List A},eg c o→eg c (insU c o v)
 | [],_=>qCC ..
 | y::l,h=>by
   have h':=qA9.1 h;unfold insU
   split
   · exact h
   · rename_i h0
     split
     · rename_i h1;refine qA9.2 ⟨fun z hz => ?_,h⟩;rcases qAS.1 hz with e | hz
       · subst e; exact h1
       · exact hc.trans _ _ _ h1 (h'.1 z hz)
     · rename_i h1;refine qA9.2 ⟨fun z hz => ?_,pd hc h'.2⟩;rcases (qF hc).1 hz with e | hz
       · subst e;have h2:=hc.neg z y;show c y z<0;omega
       · exact h'.1 z hz
def uniq (c:A→A→Int) (l:List A):List A:=l.foldl (insU c) []
theorem qM {f:List A→A→List A} (hm:∀ o v x,eg c o→(x∈f o v↔x=v∨x∈o)) (hr:∀ o v,eg c o→eg c (f o v)):∀ (l o:List A),eg c o→eg c (l.foldl f o)∧∀ x,x∈l.foldl f o↔x∈o∨x∈l
 | [],o,h=>⟨h,fun x=>by simp⟩
 | v::l,o,h=>by
   obtain ⟨h1,h2⟩:=qM hm hr l (f o v) (hr o v h);refine ⟨h1,fun x => ?_⟩;rw[qAX,h2,hm o v x h,qAS];constructor
   · rintro ((h | h) | h)
     · exact .inr (.inl h)
     · exact .inl h
     · exact .inr (.inr h)
   · rintro (h | h | h)
     · exact .inl (.inr h)
     · exact .inl (.inl h)
     · exact .inr h
theorem ye (hc:Cmp c) (l:List A):eg c (uniq c l)∧∀ x,x∈uniq c l↔x∈l:=by
 obtain ⟨h1,h2⟩:=qM (f:=insU c) (fun o v x (_:eg c o)=>qF hc) (fun o v h=>pd hc h) l [] List.Pairwise.nil;exact ⟨h1,fun x=>by have:=h2 x; simpa [uniq] using this⟩
theorem gO (hc:Cmp c) (l:List A):eg c (uniq c l):=(ye hc l).1
theorem lu (hc:Cmp c) (l:List A) (x:A):x∈uniq c l↔x∈l:=(ye hc l).2 x
theorem afW (hc:Cmp c) {f:List A→A→List A} (hm:∀ o v x,eg c o→(x∈f o v↔x=v∨x∈o)) (hr:∀ o v,eg c o→eg c (f o v)) (l:List A):l.foldl f []=uniq c l:=by
 obtain ⟨h1,h2⟩:=qM hm hr l [] List.Pairwise.nil;refine dX hc (key:=fun v=>v) h1 (gO hc l) fun x => ?_;rw[h2,lu hc]; simp
theorem yP {v:A}:∀ {o:List A},(insU c o v).length≤o.length+1
 | []=>qAD _
 | y::l=>by
   unfold insU
   split
   · omega
   · split
     · simp
     · have:=yP (v:=v) (o:=l);simp only[qAM]; omega
theorem zd:∀ (l o:List A),(l.foldl (insU c) o).length≤o.length+l.length
 | [],o=>qAD _
 | v::l,o=>by
   have:=zd l (insU c o v);have := @yP A c v o;rw[qAX,qAM]; omega
theorem yd (l:List A):(uniq c l).length≤l.length:=by
 have:=zd (c:=c) l [];simpa [uniq] using this
abbrev loA (c:A→A→Int) (v:A) (o:List A):List A:=lo c (fun x=>x) v o
abbrev hiA (c:A→A→Int) (v:A) (o:List A):List A:=hi c (fun x=>x) v o
theorem sQ {v:A}{o:List A}:loA c v o++hiA c v o=o:=lohi
theorem aaH {p q:List A}{y:A}:eg c (p++y::q)↔eg c (p++q)∧(∀ x∈p,c x y<0)∧∀ x∈q,c y x<0:=by
 unfold eg ep;rw[qCT,qCT,qA9];constructor
 · rintro ⟨h1,⟨h2,h3⟩,h4⟩
   exact ⟨⟨h1,h3,fun a ha b hb=>h4 a ha b (qAK _ hb)⟩,fun x hx=>h4 x hx y (qAL ..),h2⟩
 · rintro ⟨⟨h1,h3,h4⟩,h5,h2⟩
   refine ⟨h1,⟨h2,h3⟩,fun a ha b hb => ?_⟩;rcases qAS.1 hb with rfl | hb
   · exact h5 a ha
   · exact h4 a ha b hb
def putU (c:A→A→Int) (o:List A) (v:A):List A:=match hiA c v o with
 | []=>loA c v o++[v]
 | y::q=>if c y v=0 then o else loA c v o++v::y::q
theorem yu (hc:Cmp c) {o:List A}{v x:A}:x∈putU c o v↔x=v∨x∈o:=by
 have e:loA c v o++hiA c v o=o:=sQ;unfold putU
 split
 · rename_i h;rw[h,qAR] at e;rw[e,qBF,qA3,or_comm]
 · rename_i y q h;rw[h] at e
   split
   · rename_i h0;have e2:=(hc.zero _ _).1 h0;subst e2;constructor
     · exact .inr
     · rintro (h1 | h1)
       · rw[h1,← e]; simp
       · exact h1
   · conv=>rhs; rw[← e]
     simp only[qBF,qAS];constructor
     · rintro (h | h | h | h)
       · exact .inr (.inl h)
       · exact .inl h
       · exact .inr (.inr (.inl h))
       · exact .inr (.inr (.inr h))
     · rintro (h | h | h | h)
       · exact .inr (.inl h)
       · exact .inl h
       · exact .inr (.inr (.inl h))
       · exact .inr (.inr (.inr h))
theorem sR {v:A}{o:List A}:∀ x∈loA c v o,c x v<0:=gX (c:=c) (key:=fun x=>x)
theorem jW (hc:Cmp c) {o:List A}{v:A} (hr:eg c o):eg c (putU c o v):=by
 have e:loA c v o++hiA c v o=o:=sQ;unfold putU
 split
 · rename_i h;rw[h,qAR] at e;refine qCT.2 ⟨by rw[e]; exact hr,qCC ..,fun a ha b hb => ?_⟩;rw[qA3] at hb;subst hb;exact sR a ha
 · rename_i y q h
   split
   · exact hr
   · rename_i h0;have ha:=jk hc (key:=fun x=>x) hr h;rw[h] at e;refine aaH.2 ⟨by rw[e]; exact hr,fun x hx=>sR x hx,fun x hx => ?_⟩;have hn:=hc.neg x v;show c v x<0
     rcases qAS.1 hx with e' | hx
     · subst e'; have:=ha.1; omega
     · have:=ha.2 x hx; omega
theorem yw {o:List A}{v:A}:(putU c o v).length≤o.length+1:=by
 have e:loA c v o++hiA c v o=o:=sQ;have el:(loA c v o).length+(hiA c v o).length=o.length:=by rw[← qAA,e]
 unfold putU
 split
 · rename_i h; rw[h] at el; simp only[qAA,qBA,qAQ] at *; omega
 · rename_i y q h
   split
   · omega
   · rw[h] at el; simp only[qAA,qAM] at *; omega
theorem yr (hc:Cmp c) (l:List A):l.foldl (putU c) []=uniq c l:=afW hc (fun o v x _=>yu hc) (fun o v h=>jW hc h) l
def cE (o:List A) (x:A) (k:Nat):List A:=(o++[x]).take (k+1)++o.drop k
theorem vo {o:List A}{x:A}:cE o x o.length=o++[x]:=by
 unfold cE;rw[qBI (by simp),List.drop_of_length_le (qAD _),qAR]
theorem mj {o:List A}{x:A}{k:Nat} (hk:k≤o.length):(cE o x k).length=o.length+1:=by
 unfold cE;rw[qAA,qAP,qAA,qA2,qBA]; omega
theorem ahX {o:List A}{x:A}{k:Nat} (hk:k<o.length):(cE o x (k+1))[k]? = some o[k]:=by
 unfold cE
 rw[qAI (by rw[qAP,qAA,qBA]; omega),qBP (by omega),qAI hk,qAE hk]
theorem aay {o:List A}{x:A}{k:Nat} (hk:k<o.length):(cE o x (k+1)).set (k+1) o[k]=cE o x k:=by
 apply qC0;intro i;have hl:(cE o x (k+1)).length=o.length+1:=mj (by omega);rw[List.getElem?_set];by_cases hi:k+1=i
 · subst hi;rw[if_pos rfl,if_pos (by omega)];unfold cE
   rw[qAW (by rw[qAP,qAA,qBA]; omega),qAP,qAA,qBA,qBY,show k+(k+1-min (k+1) (o.length+1))=k by omega,qAE hk]
 · rw[if_neg hi];unfold cE;by_cases h2:i≤k
   · rw[qAI (by rw[qAP,qAA,qBA]; omega),qAI (by rw[qAP,qAA,qBA]; omega),qBP (by omega),qBP (by omega)]
   · rw[qAW (by rw[qAP,qAA,qBA]; omega),qAW (by rw[qAP,qAA,qBA]; omega)]
     rw[qAP,qAP,qAA,qBA,qBY,qBY];congr 1; omega
theorem aeD {o:List A}{x:A}{k:Nat} (hk:k≤o.length):(cE o x k).set k x=o.take k++x::o.drop k:=by
 unfold cE;rw[qC1,List.set_append_left _ _ (by
   rw[qAA,qAP,qAA,qBA];have:((o++[x])[k]?).toList.length=1:=by rw[qAE (by simp; omega)]; rfl
   omega)]
 rw[qAE (show k<(o++[x]).length by simp; omega),Option.toList_some,List.set_append_right _ _ (by rw[qAP,qAA,qBA]; omega)]
 rw[show k-(List.take k (o++[x])).length=0 by rw[qAP,qAA,qBA]; omega];rw[qB7 hk];simp
theorem aCY {o:List A}{v:A} (h:∀ y q,hiA c v o=y::q→c y v≠0):o.take (loA c v o).length++v::o.drop (loA c v o).length=putU c o v:=by
 have e:loA c v o++hiA c v o=o:=sQ;have e1:o.take (loA c v o).length=loA c v o:=by
   have:(loA c v o++hiA c v o).take (loA c v o).length=loA c v o:=by simp
   rwa [e] at this
 have e2:o.drop (loA c v o).length=hiA c v o:=by
   have:(loA c v o++hiA c v o).drop (loA c v o).length=hiA c v o:=by simp
   rwa [e] at this
 rw[e1,e2];unfold putU;cases hq:hiA c v o with
 | nil=>rfl
 | cons y q=>simp only; rw[if_neg (h y q hq)]
end
section
variable {A B:Type}
theorem foldl_flat {f:B→A→B}{X:Type}{g:X→List A}:∀ (l:List X) (o:B),(l.flatMap g).foldl f o=l.foldl (fun o x=>(g x).foldl f o) o
 | [],o=>rfl
 | x::l,o=>by rw[qA5,List.foldl_append,qAX,foldl_flat l]
end
end Go.TY
namespace Go.TY
open Go.EM
def ajY (ps:Ty) (z:Bool) (e:Nat) (u:Ty) (fn:ps.V→jpM [.row z e u]→Option (Unit×jpM [.row z e u])):TRaw:={ ps:=ps,ins:=[.row z e u],res:=.sl u,outs:=[.gone],fn:=fun v w=>(fn v w).map fun q=>(q.2.1,()) }
theorem aiH {F:SFn}{ps u:Ty}{z:Bool}{e:Nat}{fn:ps.V→jpM [.row z e u]→Option (Unit×jpM [.row z e u])} (h:TRawOk F { ps:=ps,ins:=[.row z e u],res:=.own 0,outs:=[.row z e u],fn:=fn }):TRawOk (jl F) (ajY ps z e u fn):=by
 refine ⟨fun Φ Γ st pv v bs r w h1 h2 h3 => ?_⟩;simp only[ajY,x0] at h3;obtain ⟨q,hq,hq2⟩:=h3;obtain ⟨a,st1,Γ1,g1,g2,g3,g4⟩:=h.run Φ Γ st pv v bs q.1 q.2 h1 h2 hq;cases hq2
 simp only[R] at g2;have hreg:=g3.at 0;have hm0:getM (aR [] [.row z e u] q.2 0) 0 = .row z e u q.2.1:=rfl;rw[hm0] at hreg;obtain ⟨c1,c2,c3,c4,h5⟩:=hreg;rcases h5 with ⟨hx,b,h5,_⟩ | ⟨r0,zs,h5,h6,h7,_⟩
 · have hk : MemR Φ Γ1 [.gone] st1 := {
     reg:=fun j hj=>by
       have:j=0:=(by simpa using hj);subst this; trivial
     out:=fun j hj=>g3.out j hj
     inj:=g3.inj
     lt:=g3.lt
     old:=g3.old
     dis:=g3.dis }
   rw[h5] at g2;rcases g2 with g2 | ⟨_,n,g2⟩
   · cases g2;exact ⟨.nil,st1,Γ1,by simp only[jl,g1,qAJ,oc],.inl ⟨hx,rfl⟩,hk,fun j y hb hy=>by
       rcases hb with hb | hb
       · cases j<;>cases hb
       · cases hb⟩
   · cases g2;exact ⟨.tree true n [],st1,Γ1,by simp only[jl,g1,qAJ,oc],.inr ⟨true,n,[],rfl,.inl hx,by show All2 _ q.2.1 _; rw[hx]; trivial⟩,hk,fun j y hb hy=>by
       rcases hb with hb | hb
       · cases j<;>cases hb
       · cases hb⟩
 · rw[h5] at g2;cases g2;have hal:=bc h7;have hrow:EM.rowAt st1 r0 u.size q.2.1.length=some zs:=by simp only[EM.rowAt,h6,hal,and_self,if_true]
   have hset:=g3.set (id:=0) (g:=.gone) (ag:=.dead) (by show 0<1; omega) h5 trivial
   refine ⟨.tree false u.size zs, st1.set r0 .dead, Γ1, ?_, .inr ⟨false, u.size, zs, rfl, .inr rfl, h7⟩, hset, fun j y hb hy => by
       rcases hb with hb | hb
       · cases j<;>cases hb
       · cases hb⟩
   simp only[jl,g1,qAJ,oc];rw[if_pos (by omega),hrow];simp only[qAF,qB3];rw[qBI (by omega)]
end Go.TY
namespace Go.TY
open Go.EM
def aiE {A:Type} (n:Int):Option (List A):=if 0≤n∧n<most then some [] else none
def afQ (e:Nat) (u:Ty):TNew:={ ps:=.cons .nilsl (.cons (.int .i64) .unit),e:=e,t:=.sl u,fn:=fun v=>aiE v.2.1,row:=true }
theorem aiF {M e:Nat}{u:Ty} (hu:u.size=M):TNewOk (wi M e) (afQ e u):=by
 refine ⟨(fun h=>by cases h),fun _ _ st v r zs Γ hps hr => ?_,(fun _ h=>by cases h),fun _ h=>by cases h⟩;obtain ⟨⟨⟩,n,⟨⟩⟩:=v;simp only[R,afQ] at hps;obtain ⟨l1,l2,rfl,rfl,l3,l4,rfl,rfl,rfl⟩:=hps
 simp only[afQ,aiE] at hr
 split at hr
 · rename_i h;cases hr;have h1:0≤n:=h.1;have h2:n<most:=h.2;simp only[afQ,agE,qAR,qBV,qBB];by_cases h0:n=0
   · subst h0;exact ⟨st,fun _ _=>rfl,.inl ⟨by trivial,.inl (by simp[wi])⟩⟩
   · refine ⟨st++[.row e u.size []],fun q hq=>qAI hq,.inr ⟨st.length,[],?_,qAD _,by simp,trivial⟩⟩;simp only[wi]
     rw[if_neg h0,if_pos ⟨Int.lt_iff_le_and_ne.2 ⟨h1,Ne.symm h0⟩,h2⟩,hu];rfl
 · cases hr
end Go.TY
