import Derived.Test.YtmklghkhfimfgaaGreatDoorT14
import Derived.Test.YtmklghkhfimfgaaGreatDoorE32
set_option linter.unusedVariables false
namespace Go.TY
open Go.EM
def itoa (n:Int):Option (List UInt8):=if -9223372036854775808≤n∧n≤9223372036854775807 then some (Lib.itoa n) else none
def ud:TFn:={ ps:=.cons (.int .i64) .unit,res:=.str,fn:=fun v=>itoa v.1 }
theorem aij:TOk acK ud:=⟨rfl,rfl,rfl,fun v r xs hr hps=>by
 simp only[R,ud] at hps
 obtain ⟨l1,l2,rfl,rfl,rfl⟩:=hps
 simp only[ud,itoa] at hr
 split at hr
 · rename_i hn
   cases hr
   exact ⟨.str (Lib.itoa v.1),if_pos hn,rfl⟩
 · cases hr⟩
end Go.TY
namespace Go.TY
open Go.EM
def atoi (s:List UInt8):Option (Int×Bool×Unit):=if s.length≤281474976710656 then some (match Lib.atoiAll s with
 | .ok v=>(v,false,())
 | Lib.NumEnd.syntax=>(0,true,())
 | .range=>(Lib.atoiSat s,true,())) else none
def uK:TFn:={ ps:=.cons .str .unit,res:=.tup (.cons (.int .i64) (.cons .err .unit)),fn:=fun v=>atoi v.1 }
theorem aiG {te:Nat}:TOk (sQ te) uK:=⟨rfl,rfl,rfl,fun v r xs hr hps=>by
 simp only[R,uK] at hps
 obtain ⟨l1,l2,rfl,rfl,rfl⟩:=hps
 simp only[uK,atoi] at hr
 split at hr
 · rename_i hn
   cases ha:Lib.atoiAll v.1 with
   | ok n =>
     rw[ha] at hr; cases hr
     exact ⟨.tup [.int .i64 n,.niliface],by simp[sQ,if_pos hn,ha],_,rfl,_,_,rfl,rfl,[.niliface],[],rfl,⟨_,rfl,.inl ⟨rfl,rfl⟩⟩,rfl⟩
   | range =>
     rw[ha] at hr; cases hr
     exact ⟨.tup [.int .i64 (Lib.atoiSat v.1),.iface te (.rptr [])],by simp[sQ,if_pos hn,ha],_,rfl,_,_,rfl,rfl,[.iface te (.rptr [])],[],rfl,⟨_,rfl,.inr ⟨rfl,te,rfl⟩⟩,rfl⟩
   | _ =>
     rw[ha] at hr; cases hr
     exact ⟨.tup [.int .i64 0,.iface te (.rptr [])],by simp[sQ,if_pos hn,ha],_,rfl,_,_,rfl,rfl,[.iface te (.rptr [])],[],rfl,⟨_,rfl,.inr ⟨rfl,te,rfl⟩⟩,rfl⟩
 · cases hr⟩
end Go.TY
namespace Go.TY
open Go.EM
def cmpT (a b:List UInt8):Option Int:=some (Lib.compareBytes a b)
def sD (s:List UInt8):Option (Int×Int×Unit):=some ((Lib.decodeGo ⟨s.toArray⟩).1,(Lib.decodeGo ⟨s.toArray⟩).2,())
def lP:TFn:={ ps:=.cons .str .unit,res:=.tup (.cons (.int .i32) (.cons (.int .i64) .unit)),fn:=fun v=>sD v.1 }
theorem wI:TOk pg lP:=⟨rfl,rfl,rfl,fun v r xs hr hps=>by
 simp only[R,lP] at hps
 obtain ⟨l1,l2,rfl,rfl,rfl⟩:=hps
 cases hr
 exact ⟨_,rfl,_,rfl,_,_,rfl,rfl,_,[],rfl,rfl,rfl⟩⟩
end Go.TY
namespace Go.TY
open Go.EM
def acJ (l:List (List UInt8)) (sep:List UInt8):Option (List UInt8):=if l.length≤140737488355328∧(Lib.join l sep).length≤140737488355328 then some (Lib.join l sep) else none
def oZ:TFn:={ ps:=.cons (.sl .str) (.cons .str .unit),res:=.str,fn:=fun v=>acJ v.1 v.2.1 }
theorem adB {Γ:Ctx}:∀ {v:List (List UInt8)}{bs:List AVal},All2 (fun x a=>R Γ .str x false [a]) v bs→rS bs=some v
 | [],[],_=>rfl
 | x::v,a::bs,h=>by
   have h1:=ac6 h.1
   subst h1
   simp only[rS,adB h.2,Option.map_some]
 | [],_::_,h=>h.elim
 | _::_,[],h=>h.elim
theorem acI:TOk aay oZ:=by
 refine ⟨rfl,rfl,rfl,fun v r xs hr hps => ?_⟩
 obtain ⟨v,sep,⟨⟩⟩:=v
 simp only[R,oZ] at hps
 obtain ⟨l1,l2,rfl,hx,l3,l4,rfl,rfl,rfl⟩:=hps
 simp only[oZ,acJ] at hr
 split at hr
 · rename_i hb
   cases hr
   rcases hx with ⟨rfl,rfl⟩ | ⟨f,n,bs,rfl,hn,ha⟩
   · exact ⟨_,rfl,rfl⟩
   · cases v with
     | nil =>
       match bs,ha with
       | [],_=>exact ⟨_,rfl,rfl⟩
     | cons x v =>
       match bs,ha with
       | a::bs,ha =>
         have hn:n=1:=by
           rcases hn with h | h
           · cases h
           · exact h
         have hs:=adB (Γ:=Γ0) ha
         refine ⟨.str (Lib.join (x::v) sep),?_,rfl⟩
         simp only[aay,List.singleton_append]
         rw[if_pos hn,hs,Option.bind_some,if_pos hb]
 · cases hr
end Go.TY
namespace Go.TY
open Go.EM
section
variable {A R X S:Type}
def fQ (step:Nat→X→S→S⊕R) (fin:S→R):Nat→List X→S→R
 | _,[],s=>fin s
 | i,x::l,s=>match step i x s with
   | .inl s'=>fQ step fin (i+1) l s'
   | .inr r=>r
theorem gb {f:A→Option (A⊕R)}{l:List X} (enc:Nat→S→A) (step:Nat→X→S→S⊕R) (fin:S→R) (inv:Nat→S→Prop)
   (hturn:∀ (i:Nat) (h:i<l.length) (s:S),inv i s→(∃ s',step i l[i] s = .inl s'∧f (enc i s)=some (.inl (enc (i+1) s'))∧inv (i+1) s')∨(∃ r,step i l[i] s = .inr r∧f (enc i s)=some (.inr r)))
   (hend:∀ s,inv l.length s→f (enc l.length s)=some (.inr (fin s))):∀ s,inv 0 s→aJ f (enc 0 s)=some (fQ step fin 0 l s):=by
 have key:∀ (k i:Nat) (s:S),l.length-i≤k→i≤l.length→inv i s→aJ f (enc i s)=some (fQ step fin i (l.drop i) s):=by
   intro k
   induction k with
   | zero =>
     intro i s hk hi hv
     have:i=l.length:=by omega
     subst this
     rw[List.drop_eq_nil_of_le (Nat.le_refl _),aq (hend s hv)]
     rfl
   | succ k ih =>
     intro i s hk hi hv
     by_cases hlt:i<l.length
     · rw[List.drop_eq_getElem_cons hlt]
       simp only[fQ]
       rcases hturn i hlt s hv with ⟨s',h1,h2,h3⟩ | ⟨r,h1,h2⟩
       · rw[ay h2,ih (i+1) s' (by omega) (by omega) h3,h1]
       · rw[aq h2,h1]
     · have:i=l.length:=by omega
       subst this
       rw[List.drop_eq_nil_of_le (Nat.le_refl _),aq (hend s hv)]
       rfl
 intro s hv
 have:=key l.length 0 s (by omega) (by omega) hv
 simpa using this
theorem iM {f:A→Option (A⊕R)}{l:List X} (enc:Nat→A) (p:X→Bool) (yes no:R)
   (hturn:∀ (i:Nat) (h:i<l.length),f (enc i)=some (if p l[i] then .inl (enc (i+1)) else .inr no)) (hend:f (enc l.length)=some (.inr yes)):aJ f (enc 0)=some (if l.all p then yes else no):=by
 have:=gb (S:=Unit) (fun i _=>enc i) (fun _ x _=>if p x then .inl () else .inr no) (fun _=>yes) (fun _ _=>True) (l:=l) (f:=f) (fun i h s _=>by
   by_cases hp:p l[i]=true
   · exact .inl ⟨(),by rw[if_pos hp],by rw[hturn i h,if_pos hp],trivial⟩
   · exact .inr ⟨no,by rw[if_neg hp],by rw[hturn i h,if_neg hp]⟩) (fun s _=>hend) () trivial
 rw[this]
 congr 1
 have gen:∀ (l:List X) (i:Nat),fQ (S:=Unit) (fun _ x _=>if p x then .inl () else .inr no) (fun _=>yes) i l ()=if l.all p then yes else no:=by
   intro l
   induction l with
   | nil=>intro i; rfl
   | cons x l ih =>
     intro i
     have h:=ih (i+1)
     by_cases hp:p x=true
     · simp only[fQ,hp,if_true]
       rw[h]
       simp[hp]
     · simp[fQ,hp]
 exact gen l 0
theorem acw {Y:Type}{f:A→Option (A⊕R)}{l:List X} (enc:Nat→List Y→A) (g:X→List Y) (fin:List Y→R) (m:Nat) (hg:∀ x∈l,(g x).length≤m)
   (hturn:∀ (i:Nat) (h:i<l.length) (o:List Y),o.length≤i*m→f (enc i o)=some (.inl (enc (i+1) (o++g l[i])))) (hend:∀ o,o.length≤l.length*m→f (enc l.length o)=some (.inr (fin o))) :
   aJ f (enc 0 [])=some (fin (l.flatMap g)):=by
 have:=gb (S:=List Y) enc (fun _ x o=>.inl (o++g x)) fin (fun i o=>o.length≤i*m) (l:=l) (f:=f) (fun i h o ho=>.inl ⟨_,rfl,hturn i h o ho,by
   have:=hg l[i] (List.getElem_mem h)
   rw[List.length_append,Nat.succ_mul]; omega⟩) hend [] (by simp)
 rw[this]
 congr 1
 have gen:∀ (l:List X) (i:Nat) (o:List Y),fQ (S:=List Y) (R:=R) (fun _ x o=>.inl (o++g x)) fin i l o=fin (o++l.flatMap g):=by
   intro l
   induction l with
   | nil=>intro i o; simp[fQ]
   | cons x l ih=>intro i o; simp only[fQ]; rw[ih]; simp[List.flatMap_cons]
 rw[gen]; rfl
def all2 {Y:Type} (q:X→Y→Bool):List X→List Y→Bool
 | [],[]=>true
 | x::l,y::m=>q x y&&all2 q l m
 | _,_=>false
theorem aap {Y:Type}{f:A→Option (A⊕R)}{l:List X}{m:List Y} (enc:Nat→A) (q:X→Y→Bool) (yes no:R) (hl:l.length=m.length)
   (hturn:∀ (i:Nat) (h:i<l.length) (h':i<m.length),f (enc i)=some (if q l[i] m[i]=true then .inl (enc (i+1)) else .inr no)) (hend:f (enc l.length)=some (.inr yes)):aJ f (enc 0)=some (if all2 q l m=true then yes else no):=by
 have key:∀ (k i:Nat),l.length-i≤k→i≤l.length→aJ f (enc i)=some (if all2 q (l.drop i) (m.drop i)=true then yes else no):=by
   intro k
   induction k with
   | zero =>
     intro i hk hi
     have e:i=l.length:=by omega
     subst e
     rw[aq hend,List.drop_eq_nil_of_le (Nat.le_refl _),List.drop_eq_nil_of_le (by omega)]
     rfl
   | succ k ih =>
     intro i hk hi
     by_cases hlt:i<l.length
     · have h2:i<m.length:=by omega
       rw[List.drop_eq_getElem_cons hlt,List.drop_eq_getElem_cons h2]
       have ht:=hturn i hlt h2
       by_cases hq:q l[i] m[i]=true
       · rw[if_pos hq] at ht
         rw[ay ht,ih (i+1) (by omega) (by omega)]
         simp only[all2,hq,Bool.true_and]
       · rw[if_neg hq] at ht
         rw[aq ht]
         simp[all2,hq]
     · have e:i=l.length:=by omega
       subst e
       rw[aq hend,List.drop_eq_nil_of_le (Nat.le_refl _),List.drop_eq_nil_of_le (by omega)]
       rfl
 have:=key l.length 0 (by omega) (by omega)
 simpa using this
theorem uP [DecidableEq X]:∀ {l m:List X},all2 (fun x y=>decide (x=y)) l m=decide (l=m)
 | [],[]=>rfl
 | [],_::_=>by simp[all2]
 | _::_,[]=>by simp[all2]
 | x::l,y::m=>by
   simp only[all2,uP (l:=l) (m:=m),List.cons.injEq,Bool.decide_and]
open Classical in
theorem aao {f:A→Option (A⊕R)} (n:Nat) (enc:Nat→A) (p:Nat→Bool) (yes no:R)
   (hturn:∀ (i:Nat) (h:i<n),f (enc i)=some (if p i=true then .inl (enc (i+1)) else .inr no)) (hend:f (enc n)=some (.inr yes)):aJ f (enc 0)=some (if (∀ i,i<n→p i=true) then yes else no):=by
 have key:∀ (k i:Nat),n-i≤k→i≤n→aJ f (enc i)=some (if (∀ j,i≤j→j<n→p j=true) then yes else no):=by
   intro k
   induction k with
   | zero =>
     intro i hk hi
     have e:i=n:=by omega
     subst e
     rw[aq hend,if_pos (fun j h1 h2=>by omega)]
   | succ k ih =>
     intro i hk hi
     by_cases hlt:i<n
     · have ht:=hturn i hlt
       by_cases hq:p i=true
       · rw[if_pos hq] at ht
         rw[ay ht,ih (i+1) (by omega) (by omega)]
         by_cases ha:∀ j,i+1≤j→j<n→p j=true
         · rw [if_pos ha, if_pos (fun j h1 h2 => by
             rcases Nat.lt_or_eq_of_le h1 with h | h
             · exact ha j h h2
             · rw[← h]; exact hq)]
         · rw[if_neg ha,if_neg (fun hb=>ha (fun j h1 h2=>hb j (by omega) h2))]
       · rw[if_neg hq] at ht
         rw[aq ht,if_neg (fun hb=>hq (hb i (Nat.le_refl _) hlt))]
     · have e:i=n:=by omega
       subst e
       rw[aq hend,if_pos (fun j h1 h2=>by omega)]
 have:=key n 0 (by omega) (by omega)
 rw[this]
 congr 1
 by_cases ha:∀ i,i<n→p i=true
 · rw[if_pos ha,if_pos (fun j _ h2=>ha j h2)]
 · rw[if_neg ha,if_neg (fun hb=>ha (fun j h2=>hb j (Nat.zero_le _) h2))]
end
end Go.TY
set_option linter.unusedSectionVars false
namespace Go.TY
structure Cmp {K:Type} (c:K→K→Int):Prop where
 one:∀ a b,-1≤c a b∧c a b≤1
 neg:∀ a b,c b a = - c a b
 zero:∀ a b,c a b=0↔a=b
 trans:∀ a b d,c a b<0→c b d<0→c a d<0
def cmpL {K:Type} (c:K→K→Int):List K→List K→Int
 | [],[]=>0
 | [],_::_ => -1
 | _::_,[]=>1
 | x::a,y::b=>if c x y=0 then cmpL c a b else c x y
section
variable {K:Type}{c:K→K→Int}
theorem Cmp.list (h:Cmp c):Cmp (cmpL c) where
 one:=by
   intro a
   induction a with
   | nil=>intro b; cases b<;>simp[cmpL]
   | cons x a ih =>
     intro b
     cases b with
     | nil=>simp[cmpL]
     | cons y b =>
       simp only[cmpL]
       split
       · exact ih b
       · exact h.one x y
 neg:=by
   intro a
   induction a with
   | nil=>intro b; cases b<;>simp[cmpL]
   | cons x a ih =>
     intro b
     cases b with
     | nil=>simp[cmpL]
     | cons y b =>
       simp only[cmpL]
       have:=h.neg x y
       by_cases h0:c x y=0
       · rw[if_pos h0,if_pos (by omega)]; exact ih b
       · rw[if_neg h0,if_neg (by omega)]; exact this
 zero:=by
   intro a
   induction a with
   | nil=>intro b; cases b<;>simp[cmpL]
   | cons x a ih =>
     intro b
     cases b with
     | nil=>simp[cmpL]
     | cons y b =>
       simp only[cmpL]
       by_cases h0:c x y=0
       · rw[if_pos h0,ih b,(h.zero x y).1 h0]; simp
       · rw[if_neg h0]
         constructor
         · intro k; exact absurd k h0
         · intro k; cases k; exact absurd ((h.zero x x).2 rfl) h0
 trans:=by
   intro a
   induction a with
   | nil =>
     intro b d h1 h2
     cases b with
     | nil=>simp[cmpL] at h1
     | cons y b =>
       cases d with
       | nil=>simp[cmpL] at h2
       | cons z d=>simp[cmpL]
   | cons x a ih =>
     intro b d h1 h2
     cases b with
     | nil=>simp[cmpL] at h1
     | cons y b =>
       cases d with
       | nil=>simp[cmpL] at h2
       | cons z d =>
         simp only[cmpL] at h1 h2 ⊢
         by_cases h0:c x y=0
         · rw[if_pos h0] at h1
           have e:=(h.zero x y).1 h0
           subst e
           by_cases h3:c x z=0
           · rw[if_pos h3] at h2 ⊢; exact ih b d h1 h2
           · rw[if_neg h3] at h2 ⊢; exact h2
         · rw[if_neg h0] at h1
           by_cases h3:c y z=0
           · have e:=(h.zero y z).1 h3
             subst e
             rw[if_neg h0]; exact h1
           · rw[if_neg h3] at h2
             have:=h.trans x y z h1 h2
             rw[if_neg (by omega)]; exact this
def cmpB {L:Type} (c:K→K→Int) (d:L→L→Int) (a b:K×L):Int:=if c a.1 b.1=0 then d a.2 b.2 else c a.1 b.1
theorem Cmp.pair {L:Type}{d:L→L→Int} (h:Cmp c) (k:Cmp d):Cmp (cmpB c d) where
 one a b:=by
   unfold cmpB
   split
   · exact k.one _ _
   · exact h.one _ _
 neg a b:=by
   unfold cmpB
   have:=h.neg a.1 b.1
   by_cases h0:c a.1 b.1=0
   · rw[if_pos h0,if_pos (by omega)]; exact k.neg _ _
   · rw[if_neg h0,if_neg (by omega)]; exact this
 zero a b:=by
   unfold cmpB
   obtain ⟨a1,a2⟩:=a
   obtain ⟨b1,b2⟩:=b
   simp only
   by_cases h0:c a1 b1=0
   · rw[if_pos h0,k.zero,(h.zero _ _).1 h0]; simp
   · rw[if_neg h0]
     constructor
     · intro e; exact absurd e h0
     · intro e; cases e; exact absurd ((h.zero _ _).2 rfl) h0
 trans a b e h1 h2:=by
   unfold cmpB at h1 h2 ⊢
   obtain ⟨a1,a2⟩:=a
   obtain ⟨b1,b2⟩:=b
   obtain ⟨e1,e2⟩:=e
   simp only at h1 h2 ⊢
   by_cases h0:c a1 b1=0
   · rw[if_pos h0] at h1
     have q:=(h.zero _ _).1 h0
     subst q
     by_cases h3:c a1 e1=0
     · rw[if_pos h3] at h2 ⊢; exact k.trans _ _ _ h1 h2
     · rw[if_neg h3] at h2 ⊢; exact h2
   · rw[if_neg h0] at h1
     by_cases h3:c b1 e1=0
     · have q:=(h.zero _ _).1 h3
       subst q
       rw[if_neg h0]; exact h1
     · rw[if_neg h3] at h2
       have:=h.trans _ _ _ h1 h2
       rw[if_neg (by omega)]; exact this
end
section
variable {X K C:Type} (c:K→K→Int) (key:X→K) (same:X→X→Bool) (G M:X→C) (T:X→X→C) (leaf:C→K)
def ins (v:C):List C→List C
 | []=>[v]
 | e::l=>if c (leaf v) (leaf e)<0 then v::e::l else e::ins v l
def aiJ (a:List X):Prop:=a.Pairwise fun x y=>c (key x) (key y)<0
variable {c key same G M T leaf}
variable (hc:Cmp c) (hG:∀ x,leaf (G x)=key x) (hM:∀ x,leaf (M x)=key x) (hT:∀ x y,leaf (T x y)=key x)
include hc hG hT
include hM
end
end Go.TY
set_option linter.unusedSimpArgs false
namespace Go.TY
open Go.EM
end Go.TY
namespace Go.TY
section
variable {X K:Type} (c:K→K→Int) (key:X→K)
def lo (k:K) (l:List X):List X:=l.takeWhile fun x=>decide (c (key x) k<0)
def hi (k:K) (l:List X):List X:=l.dropWhile fun x=>decide (c (key x) k<0)
variable {c key}
variable [DecidableEq X] (c key)
variable {c key}
end
end Go.TY
namespace Go.TY
open Go.EM Go.Proofs Go.Sort
end Go.TY
namespace Go.TY
open Go.EM Go.Proofs Go.Sort
section
variable {A K:Type}{c:K→K→Int}{key:A→K}
end
end Go.TY
namespace Go.TY
open Go.EM
section
variable (P:Program) (E:Env) (h:Hints) (ET:TEnv) (H:TH)
end
section
variable {P:Program}{E:Env}{ET:TEnv}{h:Hints}{H:TH}
end
end Go.TY
namespace Go.TY
open Go.EM Go.Proofs Go.Sort
end Go.TY
namespace Go.TY
open Go.EM
section
variable {A:Type} [DecidableEq A]
def sqzS (o:List A) (x:A):List A:=if o.getLast? = some x then o else o++[x]
def sqz (l:List A):List A:=l.foldl sqzS []
variable {K:Type}{c:K→K→Int}{key:A→K}
end
section
variable {A:Type}{c:A→A→Int}
end
section
variable {A B:Type}
end
end Go.TY
namespace Go.TY
open Go.EM
end Go.TY
namespace Go.TY
open Go.EM
end Go.TY
namespace Go.TY
open Go.EM
section
variable (P:Program) (E:Env) (h:Hints) (ET:TEnv) (H:TH)
end
section
variable {P:Program}{E:Env}{ET:TEnv}{h:Hints}{H:TH}
end
end Go.TY
