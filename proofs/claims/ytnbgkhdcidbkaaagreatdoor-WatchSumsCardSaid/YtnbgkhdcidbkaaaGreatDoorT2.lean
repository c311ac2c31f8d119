import Derived.Test.YtnbgkhdcidbkaaaGreatDoorE19
set_option linter.unusedVariables false
set_option linter.unusedSimpArgs false
namespace Go.TY
open Go.EM
inductive Ty where
 | int (k:IntKind)
 | bool
 | str
 | sl (t:Ty)
 | agg (t:Ty)
 | arr (n:Nat) (t:Ty)
 | tup (t:Ty)
 | unit
 | cons (t ts:Ty)
 | nilsl
 | nilp
 | err
 | fn (f:Nat)
 | undef
 | any
 | own (id:Nat)
 | it (id:Nat)
 | mp (id:Nat)
 | bx (id off:Nat)
 | op (id:Nat)
 | ptr (id off:Nat)
 | vw (id:Nat)
 | rp (t:Ty) (off:Nat)
 | orp (t:Ty) (off:Nat)
 | ba (id off n len:Nat)
 | cl (f:Nat) (t:Ty)
@[reducible] def Ty.V:Ty→Type
 | .int _=>Int
 | .bool=>Bool
 | .str=>List UInt8
 | .sl t=>List t.V
 | .agg t=>t.V
 | .arr _ t=>List t.V
 | .tup t=>t.V
 | .unit=>Unit
 | .cons t ts=>t.V×ts.V
 | .nilsl=>Unit
 | .nilp=>Unit
 | .fn _=>Unit
 | .err=>Bool
 | .undef=>Unit
 | .any=>Unit
 | .own _=>Unit
 | .it _=>Unit
 | .mp _=>Unit
 | .bx _ _=>Unit
 | .op _=>Bool
 | .ptr _ _=>Nat
 | .ba _ _ _ _=>Nat
 | .vw _=>Nat×Nat
 | .rp t _=>t.V
 | .orp t _=>Option t.V
 | .cl _ t=>t.V
def Ty.size:Ty→Nat
 | .cons t ts=>t.size+ts.size
 | .unit=>0
 | .agg t=>t.size
 | .arr n t=>n*t.size
 | _=>1
def Ty.isAgg:Ty→Bool
 | .agg _=>true
 | .arr _ _=>true
 | _=>false
def Ty.isV:Ty→Bool
 | .cons _ _=>false
 | .unit=>false
 | _=>true
def Ty.isCell:Ty→Bool
 | .agg _=>false
 | .arr _ _=>false
 | .tup _=>false
 | .unit=>false
 | .cons _ _=>false
 | .undef=>false
 | _=>true
def Ty.okRow:Ty→Bool
 | .cons t ts=>t.isV&&t.okRow&&ts.okRow
 | .unit=>true
 | .agg t => !t.isV&&t.okRow
 | .arr _ t=>t.isV&&t.okRow
 | .tup _=>false
 | .undef=>false
 | _=>true
def Ty.closed:Ty→Bool
 | .sl t=>t.isV&&t.closed
 | .agg t=>t.closed
 | .arr _ t=>t.isV&&t.closed
 | .tup t=>t.closed
 | .cons t ts=>t.closed&&ts.closed
 | .nilsl=>false
 | .any=>false
 | .own _=>false
 | .it _=>false
 | .mp _=>false
 | .bx _ _=>false
 | .op _=>false
 | .ptr _ _=>false
 | .ba _ _ _ _=>false
 | .vw _=>false
 | .rp t _=>t.closed
 | .orp t _=>t.closed
 | .cl _ t=>t.closed
 | _=>true
def Ty.still:Ty→Bool
 | .sl t=>t.still
 | .agg t=>t.still
 | .arr _ t=>t.still
 | .tup t=>t.still
 | .cons t ts=>t.still&&ts.still
 | .any=>false
 | .own _=>false
 | .it _=>false
 | .mp _=>false
 | .bx _ _=>false
 | .op _=>false
 | .ptr _ _=>false
 | .ba _ _ _ _=>false
 | .vw _=>false
 | .rp t _=>t.still
 | .orp t _=>t.still
 | .cl _ t=>t.still
 | _=>true
theorem bA:∀ {t:Ty},t.closed=true→t.still=true
 | .sl t,h=>by simp only[Ty.closed,Bool.and_eq_true] at h; exact bA (t:=t) h.2
 | .agg t,h=>bA (t:=t) h
 | .arr _ t,h=>by simp only[Ty.closed,Bool.and_eq_true] at h; exact bA (t:=t) h.2
 | .tup t,h=>bA (t:=t) h
 | .cons t ts,h=>by
   simp only[Ty.closed,Bool.and_eq_true] at h
   simp only[Ty.still,bA h.1,bA h.2,Bool.and_self]
 | .int _,_=>rfl
 | .bool,_=>rfl
 | .str,_=>rfl
 | .unit,_=>rfl
 | .nilsl,_=>rfl
 | .nilp,_=>rfl
 | .fn _,_=>rfl
 | .err,_=>rfl
 | .undef,_=>rfl
 | .any,h=>by cases h
 | .own _,h=>by cases h
 | .it _,h=>by cases h
 | .mp _,h=>by cases h
 | .bx _ _,h=>by cases h
 | .op _,h=>by cases h
 | .ptr _ _,h=>by cases h
 | .ba _ _ _ _,h=>by cases h
 | .vw _,h=>by cases h
 | .rp t _,h=>bA (t:=t) h
 | .orp t _,h=>bA (t:=t) h
 | .cl _ t,h=>bA (t:=t) h
def kbeq:IntKind→IntKind→Bool
 | .i8,.i8=>true | .i16,.i16=>true | .i32,.i32=>true | .i64,.i64=>true
 | .u8,.u8=>true | .u16,.u16=>true | .u32,.u32=>true | .u64,.u64=>true
 | _,_=>false
theorem pz {a b:IntKind} (h:kbeq a b=true):a=b:=by cases a<;>cases b<;>first | rfl | cases h
def Ty.beq:Ty→Ty→Bool
 | .int a,.int b=>kbeq a b
 | .bool,.bool=>true
 | .str,.str=>true
 | .sl a,.sl b=>a.beq b
 | .agg a,.agg b=>a.beq b
 | .arr n a,.arr k b=>Nat.beq n k&&a.beq b
 | .tup a,.tup b=>a.beq b
 | .unit,.unit=>true
 | .cons a b,.cons c d=>a.beq c&&b.beq d
 | .nilsl,.nilsl=>true
 | .nilp,.nilp=>true
 | .fn a,.fn c=>Nat.beq a c
 | .err,.err=>true
 | .undef,.undef=>true
 | .any,.any=>true
 | .own a,.own b=>Nat.beq a b
 | .it a,.it b=>Nat.beq a b
 | .mp a,.mp b=>Nat.beq a b
 | .bx a b,.bx c d=>Nat.beq a c&&Nat.beq b d
 | .op a,.op c=>Nat.beq a c
 | .ptr a b,.ptr c d=>Nat.beq a c&&Nat.beq b d
 | .ba a b p q,.ba c d r s=>Nat.beq a c&&Nat.beq b d&&Nat.beq p r&&Nat.beq q s
 | .vw a,.vw c=>Nat.beq a c
 | .rp a b,.rp c d=>a.beq c&&Nat.beq b d
 | .orp a b,.orp c d=>a.beq c&&Nat.beq b d
 | .cl b a,.cl d c=>a.beq c&&Nat.beq b d
 | _,_=>false
theorem Ty.beq_eq:∀ {a b:Ty},a.beq b=true→a=b
 | .int a,b,h=>by cases b<;>simp[Ty.beq] at h; rw[pz h]
 | .bool,b,h=>by cases b<;>simp[Ty.beq] at h; rfl
 | .str,b,h=>by cases b<;>simp[Ty.beq] at h; rfl
 | .sl a,b,h=>by cases b<;>simp[Ty.beq] at h; rw[Ty.beq_eq h]
 | .agg a,b,h=>by cases b<;>simp[Ty.beq] at h; rw[Ty.beq_eq h]
 | .arr n a,b,h=>by cases b<;>simp[Ty.beq] at h; rw[h.1,Ty.beq_eq h.2]
 | .tup a,b,h=>by cases b<;>simp[Ty.beq] at h; rw[Ty.beq_eq h]
 | .unit,b,h=>by cases b<;>simp[Ty.beq] at h; rfl
 | .cons a c,b,h=>by cases b<;>simp[Ty.beq] at h; rw[Ty.beq_eq h.1,Ty.beq_eq h.2]
 | .nilsl,b,h=>by cases b<;>simp[Ty.beq] at h; rfl
 | .nilp,b,h=>by cases b<;>simp[Ty.beq] at h; rfl
 | .fn a,b,h=>by cases b<;>simp[Ty.beq] at h; rw[h]
 | .err,b,h=>by cases b<;>simp[Ty.beq] at h; rfl
 | .undef,b,h=>by cases b<;>simp[Ty.beq] at h; rfl
 | .any,b,h=>by cases b<;>simp[Ty.beq] at h; rfl
 | .own a,b,h=>by cases b<;>simp[Ty.beq] at h; rw[h]
 | .it a,b,h=>by cases b<;>simp[Ty.beq] at h; rw[h]
 | .mp a,b,h=>by cases b<;>simp[Ty.beq] at h; rw[h]
 | .bx a c,b,h=>by cases b<;>simp[Ty.beq] at h; rw[h.1,h.2]
 | .op a,b,h=>by cases b<;>simp[Ty.beq] at h; rw[h]
 | .ptr a c,b,h=>by cases b<;>simp[Ty.beq] at h; rw[h.1,h.2]
 | .ba a c p q,b,h=>by cases b<;>simp[Ty.beq] at h; rw[h.1.1.1,h.1.1.2,h.1.2,h.2]
 | .vw a,b,h=>by cases b<;>simp[Ty.beq] at h; rw[h]
 | .rp a c,b,h=>by cases b<;>simp[Ty.beq] at h; rw[Ty.beq_eq h.1,h.2]
 | .orp a c,b,h=>by cases b<;>simp[Ty.beq] at h; rw[Ty.beq_eq h.1,h.2]
 | .cl c a,b,h=>by cases b<;>simp[Ty.beq] at h; rw[Ty.beq_eq h.1,h.2]
structure TV where
 t:Ty
 v:t.V
def dq {A:Type} (t:Ty) (v:t.V) (u:Ty) (k:u.V→A):Option A :=
 if h:t.beq u=true then some (k (Ty.beq_eq h ▸ v)) else none
theorem aV {A:Type}{t u:Ty}{v:t.V}{k:u.V→A}{x:A} (h:dq t v u k=some x):∃ e:t=u,x=k (e ▸ v):=by
 unfold dq at h
 split at h
 · rename_i hb; cases h; exact ⟨Ty.beq_eq hb,rfl⟩
 · cases h
abbrev Ctx:=Nat→Option (Bool⊕(Nat×Nat×Nat))
def All2 {A B:Type} (p:A→B→Prop):List A→List B→Prop
 | [],[]=>True
 | x::l,a::as=>p x a∧All2 p l as
 | _,_=>False
theorem aU {A B:Type}{p:A→B→Prop}:∀ {l:List A}{as:List B},All2 p l as→as.length=l.length
 | [],[],_=>rfl
 | x::l,a::as,h=>by simp only[List.length_cons,aU h.2]
theorem fR {A B:Type}{p:A→B→Prop}:∀ {l:List A}{as:List B}{i:Nat}{x:A},All2 p l as→l[i]? = some x→∃ a,as[i]? = some a∧p x a
 | y::l,a::as,0,x,h,hx=>by simp at hx; subst hx; exact ⟨a,rfl,h.1⟩
 | y::l,a::as,i+1,x,h,hx=>by
   simp only[List.getElem?_cons_succ] at hx ⊢
   exact fR h.2 hx
theorem ch {A B:Type}{p:A→B→Prop}:∀ {l m:List A}{as bs:List B},All2 p l as→All2 p m bs→All2 p (l++m) (as++bs)
 | [],m,[],bs,_,h=>h
 | x::l,m,a::as,bs,h,k=>⟨h.1,ch h.2 k⟩
theorem fv {A B:Type}{p:A→B→Prop}:∀ {l:List A}{as:List B} (n:Nat),All2 p l as→All2 p (l.take n) (as.take n)
 | l,as,0,_=>by simp[All2]
 | [],[],n+1,_=>by simp[All2]
 | x::l,a::as,n+1,h=>⟨h.1,fv n h.2⟩
theorem fw {A B:Type}{p:A→B→Prop}:∀ {l:List A}{as:List B} (n:Nat),All2 p l as→All2 p (l.drop n) (as.drop n)
 | l,as,0,h=>by simpa using h
 | [],[],n+1,_=>by simp[All2]
 | x::l,a::as,n+1,h=>by simpa using fw n h.2
theorem qg {A B:Type}{p:A→B→Prop}:∀ {l:List A}{as:List B}{i:Nat}{x:A}{a:B},All2 p l as→p x a→All2 p (l.set i x) (as.set i a)
 | [],[],i,x,a,_,_=>by simp[All2]
 | y::l,b::as,0,x,a,h,k=>⟨k,h.2⟩
 | y::l,b::as,i+1,x,a,h,k=>⟨h.1,qg h.2 k⟩
theorem qh {A B:Type}{p:A→B→Prop}{x:A}{a:B} (h:p x a):∀ n,All2 p (List.replicate n x) (List.replicate n a)
 | 0=>by simp[All2]
 | n+1=>⟨h,qh h n⟩
def R (Γ:Ctx):(t:Ty)→t.V→Bool→List AVal→Prop
 | .int k,v,_,l=>l=[.int k v]
 | .bool,v,_,l=>l=[.bool v]
 | .str,v,_,l=>l=[.str v]
 | .sl t,v,_,l=>(v=[]∧l=[.nil])∨∃ f n as,l=[.tree f n as]∧(v=[]∨n=t.size)∧All2 (fun x a=>R Γ t x false [a]) v as
 | .agg t,v,cl,l=>match cl with
   | true=>R Γ t v true l
   | false=>∃ cs,l=[.agg cs]∧R Γ t v true cs
 | .arr n t,v,cl,l=>match cl with
   | true=>v.length=n∧∃ ls:List (List AVal),l=ls.flatten∧All2 (fun x c=>R Γ t x true c) v ls
   | false=>∃ cs,l=[.agg cs]∧v.length=n∧∃ ls:List (List AVal),cs=ls.flatten∧All2 (fun x c=>R Γ t x true c) v ls
 | .tup t,v,_,l=>∃ as,l=[.tup as]∧R Γ t v false as
 | .unit,_,_,l=>l=[]
 | .cons t ts,v,cl,l=>∃ l1 l2,l=l1++l2∧R Γ t v.1 cl l1∧R Γ ts v.2 cl l2
 | .nilsl,_,_,l=>l=[.nil]
 | .nilp,_,_,l=>l=[.nilptr]
 | .fn f,_,_,l=>l=[.func (.func f) [] []]
 | .err,v,_,l=>∃ a,l=[a]∧((v=false∧a = .niliface)∨(v=true∧∃ t,a = .iface t (.rptr [])))
 | .undef,_,_,l=>l=[.tup []]
 | .any,_,_,l=>∃ a,l=[a]∧a.isCell=true
 | .own id,_,_,l=>match Γ id with
   | some (.inr (r,n,len))=>l=[.own r n len 0 len]
   | some (.inl b)=>l=[.nil]∨(b=true∧∃ n,l=[.tree true n []])
   | none=>False
 | .it id,_,_,l=>∃ r,Γ id=some (.inr (r,0,0))∧l=[.ptr r 0 0 0]
 | .mp id,_,_,l=>∃ r,Γ id=some (.inr (r,0,0))∧l=[.map r]
 | .bx id off,_,_,l=>∃ r n,Γ id=some (.inr (r,n,1))∧l=[.ptr r 1 0 off]
 | .op id,v,_,l=>∃ a,l=[a]∧((v=false∧a = .nilptr)∨(v=true∧∃ r n,Γ id=some (.inr (r,n,1))∧a = .ptr r 1 0 0))
 | .ptr id off,i,_,l=>∃ r n len,Γ id=some (.inr (r,n,len))∧l=[.ptr r len i off]
 | .ba id off en _,i,_,l=>∃ r n len,Γ id=some (.inr (r,n,len))∧l=[.ptr r len 0 (off+i*en)]
 | .vw id,i,_,l=>∃ r n len,Γ id=some (.inr (r,n,len))∧l=[.own r n len i.1 i.2]
 | .rp t off,v,_,l=>∃ a rest,R Γ t v false [a]∧(t.closed=true→aA rest=true)∧l=[.rptr ((a.cells++rest).drop off)]
 | .orp t off,v,_,l=>(v=none∧l=[.nilptr])∨∃ x a rest,v=some x∧R Γ t x false [a]∧(t.closed=true→aA rest=true)∧l=[.rptr ((a.cells++rest).drop off)]
 | .cl f t,v,_,l=>∃ as,l=[.func (.func f) [] as]∧R Γ t v false as
section
variable {Γ:Ctx}
theorem dI:∀ {t:Ty}{v:t.V}{l:List AVal},R Γ t v true l→l.length=t.size
 | .int k,v,l,h=>by simp only[R] at h; subst h; rfl
 | .bool,v,l,h=>by simp only[R] at h; subst h; rfl
 | .str,v,l,h=>by simp only[R] at h; subst h; rfl
 | .sl t,v,l,h=>by
   simp only[R] at h
   rcases h with ⟨_,rfl⟩ | ⟨_,_,_,rfl,_⟩<;>rfl
 | .agg t,v,l,h=>by simp only[R] at h; exact dI (t:=t) h
 | .arr n t,v,l,h=>by
   simp only[R] at h
   obtain ⟨hn,ls,rfl,h⟩:=h
   simp only[Ty.size]
   rw[← hn]
   have:∀ (v:List t.V) (ls:List (List AVal)),All2 (fun x c=>R Γ t x true c) v ls→ls.flatten.length=v.length*t.size:=by
     intro v
     induction v with
     | nil=>intro ls h; cases ls with | nil=>simp | cons _ _=>exact h.elim
     | cons x v ih =>
       intro ls h
       cases ls with
       | nil=>exact h.elim
       | cons c ls =>
         rw[List.flatten_cons,List.length_append,dI h.1,ih ls h.2,List.length_cons,Nat.succ_mul,Nat.add_comm]
   exact this v ls h
 | .tup t,v,l,h=>by simp only[R] at h; obtain ⟨as,rfl,_⟩:=h; rfl
 | .unit,v,l,h=>by simp only[R] at h; subst h; rfl
 | .cons t ts,v,l,h=>by
   simp only[R] at h
   obtain ⟨l1,l2,rfl,h1,h2⟩:=h
   rw[List.length_append,dI h1,dI h2]; rfl
 | .nilsl,v,l,h=>by simp only[R] at h; subst h; rfl
 | .nilp,v,l,h=>by simp only[R] at h; subst h; rfl
 | .fn f,v,l,h=>by simp only[R] at h; subst h; rfl
 | .err,v,l,h=>by simp only[R] at h; obtain ⟨_,rfl,_⟩:=h; rfl
 | .undef,v,l,h=>by simp only[R] at h; subst h; rfl
 | .any,v,l,h=>by simp only[R] at h; obtain ⟨a,rfl,_⟩:=h; rfl
 | .own id,v,l,h=>by
   simp only[R] at h
   split at h
   · subst h; rfl
   · rcases h with rfl | ⟨_,_,rfl⟩<;>rfl
   · exact h.elim
 | .it id,v,l,h=>by simp only[R] at h; obtain ⟨_,_,rfl⟩:=h; rfl
 | .mp id,v,l,h=>by simp only[R] at h; obtain ⟨_,_,rfl⟩:=h; rfl
 | .bx id off,v,l,h=>by simp only[R] at h; obtain ⟨_,_,_,rfl⟩:=h; rfl
 | .op id,v,l,h=>by simp only[R] at h; obtain ⟨_,rfl,_⟩:=h; rfl
 | .ptr id off,v,l,h=>by simp only[R] at h; obtain ⟨_,_,_,_,rfl⟩:=h; rfl
 | .ba id off en ln,v,l,h=>by simp only[R] at h; obtain ⟨_,_,_,_,rfl⟩:=h; rfl
 | .vw id,v,l,h=>by simp only[R] at h; obtain ⟨_,_,_,_,rfl⟩:=h; rfl
 | .rp t off,v,l,h=>by simp only[R] at h; obtain ⟨_,_,_,_,rfl⟩:=h; rfl
 | .orp t off,v,l,h=>by simp only[R] at h; rcases h with ⟨_,rfl⟩ | ⟨_,_,_,_,_,_,rfl⟩<;>rfl
 | .cl f t,v,l,h=>by simp only[R] at h; obtain ⟨as,rfl,_⟩:=h; rfl
theorem eL:∀ {t:Ty}{v:t.V}{l:List AVal},t.isV=true→R Γ t v false l→∃ a,l=[a]
 | .int k,v,l,_,h=>by simp only[R] at h; exact ⟨_,h⟩
 | .bool,v,l,_,h=>by simp only[R] at h; exact ⟨_,h⟩
 | .str,v,l,_,h=>by simp only[R] at h; exact ⟨_,h⟩
 | .sl t,v,l,_,h=>by
   simp only[R] at h
   rcases h with ⟨_,h⟩ | ⟨_,_,_,h,_⟩<;>exact ⟨_,h⟩
 | .agg t,v,l,_,h=>by simp only[R] at h; obtain ⟨cs,h,_⟩:=h; exact ⟨_,h⟩
 | .arr n t,v,l,_,h=>by simp only[R] at h; obtain ⟨cs,h,_⟩:=h; exact ⟨_,h⟩
 | .tup t,v,l,_,h=>by simp only[R] at h; obtain ⟨as,h,_⟩:=h; exact ⟨_,h⟩
 | .unit,v,l,h,_=>by cases h
 | .cons t ts,v,l,h,_=>by cases h
 | .nilsl,v,l,_,h=>by simp only[R] at h; exact ⟨_,h⟩
 | .nilp,v,l,_,h=>by simp only[R] at h; exact ⟨_,h⟩
 | .fn f,v,l,_,h=>by simp only[R] at h; exact ⟨_,h⟩
 | .err,v,l,_,h=>by simp only[R] at h; obtain ⟨a,h,_⟩:=h; exact ⟨a,h⟩
 | .undef,v,l,_,h=>by simp only[R] at h; exact ⟨_,h⟩
 | .any,v,l,_,h=>by simp only[R] at h; obtain ⟨a,h,_⟩:=h; exact ⟨_,h⟩
 | .own id,v,l,_,h=>by
   simp only[R] at h
   split at h
   · exact ⟨_,h⟩
   · rcases h with h | ⟨_,_,h⟩<;>exact ⟨_,h⟩
   · exact h.elim
 | .it id,v,l,_,h=>by simp only[R] at h; obtain ⟨_,_,h⟩:=h; exact ⟨_,h⟩
 | .mp id,v,l,_,h=>by simp only[R] at h; obtain ⟨_,_,h⟩:=h; exact ⟨_,h⟩
 | .bx id off,v,l,_,h=>by simp only[R] at h; obtain ⟨_,_,_,h⟩:=h; exact ⟨_,h⟩
 | .op id,v,l,_,h=>by simp only[R] at h; obtain ⟨a,h,_⟩:=h; exact ⟨a,h⟩
 | .ptr id off,v,l,_,h=>by simp only[R] at h; obtain ⟨_,_,_,_,h⟩:=h; exact ⟨_,h⟩
 | .ba id off en ln,v,l,_,h=>by simp only[R] at h; obtain ⟨_,_,_,_,h⟩:=h; exact ⟨_,h⟩
 | .vw id,v,l,_,h=>by simp only[R] at h; obtain ⟨_,_,_,_,h⟩:=h; exact ⟨_,h⟩
 | .rp t off,v,l,_,h=>by simp only[R] at h; obtain ⟨_,_,_,_,h⟩:=h; exact ⟨_,h⟩
 | .orp t off,v,l,_,h=>by simp only[R] at h; rcases h with ⟨_,h⟩ | ⟨_,_,_,_,_,_,h⟩<;>exact ⟨_,h⟩
 | .cl f t,v,l,_,h=>by simp only[R] at h; obtain ⟨as,h,_⟩:=h; exact ⟨_,h⟩
theorem bO:∀ {t:Ty}{v:t.V}{a:AVal},t.isV=true→R Γ t v false [a]→R Γ t v true a.cells
 | .int k,v,a,_,h=>by simp only[R] at h ⊢; cases h; rfl
 | .bool,v,a,_,h=>by simp only[R] at h ⊢; cases h; rfl
 | .str,v,a,_,h=>by simp only[R] at h ⊢; cases h; rfl
 | .sl t,v,a,_,h=>by
   simp only[R] at h ⊢
   rcases h with ⟨h0,h⟩ | ⟨f,n,as,h,h1⟩
   · cases h; exact .inl ⟨h0,rfl⟩
   · cases h; exact .inr ⟨f,n,as,rfl,h1⟩
 | .agg t,v,a,_,h=>by simp only[R] at h ⊢; obtain ⟨cs,h,h1⟩:=h; cases h; exact h1
 | .arr n t,v,a,_,h=>by simp only[R] at h ⊢; obtain ⟨cs,h,h1⟩:=h; cases h; exact h1
 | .tup t,v,a,_,h=>by simp only[R] at h ⊢; obtain ⟨as,h,h1⟩:=h; cases h; exact ⟨as,rfl,h1⟩
 | .unit,v,a,h,_=>by cases h
 | .cons t ts,v,a,h,_=>by cases h
 | .nilsl,v,a,_,h=>by simp only[R] at h ⊢; cases h; rfl
 | .nilp,v,a,_,h=>by simp only[R] at h ⊢; cases h; rfl
 | .fn f,v,a,_,h=>by simp only[R] at h ⊢; cases h; rfl
 | .err,v,a,_,h=>by simp only[R] at h ⊢; obtain ⟨b,h,h1⟩:=h; cases h; exact ⟨a,by rcases h1 with ⟨_,e⟩ | ⟨_,_,e⟩<;>subst e<;>rfl,h1⟩
 | .undef,v,a,_,h=>by simp only[R] at h ⊢; cases h; rfl
 | .any,v,a,_,h=>by
   simp only[R] at h ⊢
   obtain ⟨b,h,h1⟩:=h
   cases h
   refine ⟨a,?_,h1⟩
   cases a<;>first | rfl | cases h1
 | .own id,v,a,_,h=>by
   simp only[R] at h ⊢
   split<;>rename_i hg<;>rw[hg] at h<;>simp only at h
   · cases h; rfl
   · rcases h with h | ⟨h1,n,h⟩
     · cases h; exact .inl rfl
     · cases h; exact .inr ⟨h1,n,rfl⟩
 | .it id,v,a,_,h=>by simp only[R] at h ⊢; obtain ⟨r,h1,h⟩:=h; cases h; exact ⟨r,h1,rfl⟩
 | .mp id,v,a,_,h=>by simp only[R] at h ⊢; obtain ⟨r,h1,h⟩:=h; cases h; exact ⟨r,h1,rfl⟩
 | .bx id off,v,a,_,h=>by simp only[R] at h ⊢; obtain ⟨r,n,h1,h⟩:=h; cases h; exact ⟨r,n,h1,rfl⟩
 | .op id,v,a,_,h=>by simp only[R] at h ⊢; obtain ⟨b,h,h1⟩:=h; cases h; exact ⟨a,by rcases h1 with ⟨_,e⟩ | ⟨_,_,_,_,e⟩<;>subst e<;>rfl,h1⟩
 | .ptr id off,v,a,_,h=>by simp only[R] at h ⊢; obtain ⟨r,n,len,h1,h⟩:=h; cases h; exact ⟨r,n,len,h1,rfl⟩
 | .ba id off en ln,v,a,_,h=>by simp only[R] at h ⊢; obtain ⟨r,n,len,h1,h⟩:=h; cases h; exact ⟨r,n,len,h1,rfl⟩
 | .vw id,v,a,_,h=>by simp only[R] at h ⊢; obtain ⟨r,n,len,h1,h⟩:=h; cases h; exact ⟨r,n,len,h1,rfl⟩
 | .rp t off,v,a,_,h=>by simp only[R] at h ⊢; obtain ⟨b,rest,h1,h2,h⟩:=h; cases h; exact ⟨b,rest,h1,h2,rfl⟩
 | .orp t off,v,a,_,h=>by simp only[R] at h ⊢; rcases h with ⟨h0,h⟩ | ⟨x,b,rest,h0,h1,h2,h⟩<;>cases h<;>first | exact .inl ⟨h0,rfl⟩ | exact .inr ⟨x,b,rest,h0,h1,h2,rfl⟩
 | .cl f t,v,a,_,h=>by simp only[R] at h ⊢; obtain ⟨as,h,h1⟩:=h; cases h; exact ⟨as,rfl,h1⟩
theorem afg:∀ {t:Ty}{v:t.V}{l:List AVal} (c d:Bool),t.isCell=true→R Γ t v c l→R Γ t v d l
 | .int k,v,l,c,d,_,h=>by simpa only[R] using h
 | .bool,v,l,c,d,_,h=>by simpa only[R] using h
 | .str,v,l,c,d,_,h=>by simpa only[R] using h
 | .sl t,v,l,c,d,_,h=>by simpa only[R] using h
 | .agg t,v,l,c,d,h,_=>by cases h
 | .arr n t,v,l,c,d,h,_=>by cases h
 | .tup t,v,l,c,d,h,_=>by cases h
 | .unit,v,l,c,d,h,_=>by cases h
 | .cons t ts,v,l,c,d,h,_=>by cases h
 | .nilsl,v,l,c,d,_,h=>by simpa only[R] using h
 | .nilp,v,l,c,d,_,h=>by simpa only[R] using h
 | .fn f,v,l,c,d,_,h=>by simpa only[R] using h
 | .err,v,l,c,d,_,h=>by simpa only[R] using h
 | .undef,v,l,c,d,h,_=>by cases h
 | .any,v,l,c,d,_,h=>by simpa only[R] using h
 | .own id,v,l,c,d,_,h=>by simpa only[R] using h
 | .it id,v,l,c,d,_,h=>by simpa only[R] using h
 | .mp id,v,l,c,d,_,h=>by simpa only[R] using h
 | .bx id off,v,l,c,d,_,h=>by simpa only[R] using h
 | .op id,v,l,c,d,_,h=>by simpa only[R] using h
 | .ptr id off,v,l,c,d,_,h=>by simpa only[R] using h
 | .ba id off en ln,v,l,c,d,_,h=>by simpa only[R] using h
 | .vw id,v,l,c,d,_,h=>by simpa only[R] using h
 | .rp t off,v,l,c,d,_,h=>by simpa only[R] using h
 | .orp t off,v,l,c,d,_,h=>by simpa only[R] using h
 | .cl f t,v,l,c,d,_,h=>by simpa only[R] using h
theorem d9:∀ {t:Ty}{v:t.V}{l:List AVal},t.okRow=true→R Γ t v true l→l.all AVal.isCell=true
 | .int k,v,l,_,h=>by simp only[R] at h; subst h; rfl
 | .bool,v,l,_,h=>by simp only[R] at h; subst h; rfl
 | .str,v,l,_,h=>by simp only[R] at h; subst h; rfl
 | .sl t,v,l,_,h=>by
   simp only[R] at h
   rcases h with ⟨_,rfl⟩ | ⟨_,_,_,rfl,_⟩<;>rfl
 | .agg t,v,l,hk,h=>by
   simp only[Ty.okRow,Bool.and_eq_true] at hk
   simp only[R] at h; exact d9 hk.2 h
 | .arr n t,v,l,hk,h=>by
   simp only[Ty.okRow,Bool.and_eq_true] at hk
   simp only[R] at h
   obtain ⟨_,ls,rfl,h⟩:=h
   have:∀ (v:List t.V) (ls:List (List AVal)),All2 (fun x c=>R Γ t x true c) v ls→ls.flatten.all AVal.isCell=true:=by
     intro v
     induction v with
     | nil=>intro ls h; cases ls with | nil=>rfl | cons _ _=>exact h.elim
     | cons x v ih =>
       intro ls h
       cases ls with
       | nil=>exact h.elim
       | cons c ls=>rw[List.flatten_cons,List.all_append,d9 hk.2 h.1,ih ls h.2]; rfl
   exact this v ls h
 | .tup t,v,l,hk,h=>by cases hk
 | .unit,v,l,_,h=>by simp only[R] at h; subst h; rfl
 | .cons t ts,v,l,hk,h=>by
   simp only[Ty.okRow,Bool.and_eq_true] at hk
   simp only[R] at h
   obtain ⟨l1,l2,rfl,h1,h2⟩:=h
   rw[List.all_append,d9 hk.1.2 h1,d9 hk.2 h2]; rfl
 | .nilsl,v,l,_,h=>by simp only[R] at h; subst h; rfl
 | .nilp,v,l,_,h=>by simp only[R] at h; subst h; rfl
 | .fn f,v,l,_,h=>by simp only[R] at h; subst h; rfl
 | .err,v,l,_,h=>by simp only[R] at h; obtain ⟨a,rfl,h1⟩:=h; rcases h1 with ⟨_,rfl⟩ | ⟨_,_,rfl⟩<;>rfl
 | .undef,v,l,hk,h=>by cases hk
 | .any,v,l,_,h=>by simp only[R] at h; obtain ⟨a,rfl,h⟩:=h; simp[h]
 | .own id,v,l,_,h=>by
   simp only[R] at h
   split at h
   · subst h; rfl
   · rcases h with rfl | ⟨_,_,rfl⟩<;>rfl
   · exact h.elim
 | .it id,v,l,_,h=>by simp only[R] at h; obtain ⟨_,_,rfl⟩:=h; rfl
 | .mp id,v,l,_,h=>by simp only[R] at h; obtain ⟨_,_,rfl⟩:=h; rfl
 | .bx id off,v,l,_,h=>by simp only[R] at h; obtain ⟨_,_,_,rfl⟩:=h; rfl
 | .op id,v,l,_,h=>by simp only[R] at h; obtain ⟨a,rfl,h1⟩:=h; rcases h1 with ⟨_,rfl⟩ | ⟨_,_,_,_,rfl⟩<;>rfl
 | .ptr id off,v,l,_,h=>by simp only[R] at h; obtain ⟨_,_,_,_,rfl⟩:=h; rfl
 | .ba id off en ln,v,l,_,h=>by simp only[R] at h; obtain ⟨_,_,_,_,rfl⟩:=h; rfl
 | .vw id,v,l,_,h=>by simp only[R] at h; obtain ⟨_,_,_,_,rfl⟩:=h; rfl
 | .rp t off,v,l,_,h=>by simp only[R] at h; obtain ⟨_,_,_,_,rfl⟩:=h; rfl
 | .orp t off,v,l,_,h=>by simp only[R] at h; rcases h with ⟨_,rfl⟩ | ⟨_,_,_,_,_,_,rfl⟩<;>rfl
 | .cl f t,v,l,_,h=>by simp only[R] at h; obtain ⟨as,rfl,_⟩:=h; rfl
theorem acL {t:Ty}{v:t.V}{a:AVal} (hv:t.isV=true) (h:R Γ t v false [a]):t.isAgg=a.isAgg:=by
 cases t<;>simp only[R] at h
 case agg=>obtain ⟨cs,h,_⟩:=h; cases h; rfl
 case sl=>rcases h with ⟨_,h⟩ | ⟨_,_,_,h,_⟩<;>cases h<;>rfl
 case arr=>obtain ⟨cs,h,_⟩:=h; cases h; rfl
 case tup=>obtain ⟨cs,h,_⟩:=h; cases h; rfl
 case cons=>cases hv
 case unit=>cases hv
 case any=>obtain ⟨b,e,hb⟩:=h; cases e; cases a<;>first | rfl | cases hb
 case own =>
   split at h
   · cases h; rfl
   · rcases h with h | ⟨_,_,h⟩<;>cases h<;>rfl
   · exact h.elim
 case it=>obtain ⟨_,_,h⟩:=h; cases h; rfl
 case mp=>obtain ⟨_,_,h⟩:=h; cases h; rfl
 case bx=>obtain ⟨_,_,_,h⟩:=h; cases h; rfl
 case op=>obtain ⟨b,e,h1⟩:=h; cases e; rcases h1 with ⟨_,rfl⟩ | ⟨_,_,_,_,rfl⟩<;>rfl
 case err=>obtain ⟨b,e,h1⟩:=h; cases e; rcases h1 with ⟨_,rfl⟩ | ⟨_,_,rfl⟩<;>rfl
 case ptr=>obtain ⟨_,_,_,_,h⟩:=h; cases h; rfl
 case vw=>obtain ⟨_,_,_,_,h⟩:=h; cases h; rfl
 case rp=>obtain ⟨_,_,_,_,h⟩:=h; cases h; rfl
 case orp=>rcases h with ⟨_,h⟩ | ⟨_,_,_,_,_,_,h⟩<;>cases h<;>rfl
 case ba=>obtain ⟨_,_,_,_,h⟩:=h; cases h; rfl
 case cl=>obtain ⟨as,h,_⟩:=h; cases h; rfl
 all_goals cases h; rfl
end
section
theorem dC (a b:List AVal):aA (a++b)=(aA a&&aA b):=hJ a b
theorem aT (a:AVal):aA [a]=closed a:=by simp[aA]
theorem bB:∀ (n:Nat) (l:List AVal),aA l=true→aA (l.drop n)=true
 | 0,l,h=>h
 | n+1,[],h=>rfl
 | n+1,a::l,h=>by simp only[aA,Bool.and_eq_true] at h; exact bB n l h.2
theorem dS {A:Type}{p:A→AVal→Prop} (hp:∀ x a,p x a→closed a=true):∀ {l:List A}{as:List AVal},All2 p l as→aA as=true
 | [],[],_=>rfl
 | x::l,a::as,h=>by simp only[aA,hp x a h.1,dS hp h.2,Bool.and_self]
theorem gt {a:AVal} (h:closed a=true):aA a.cells=true:=by
 cases a<;>first | (simpa [AVal.cells,aA] using h) | (simpa [AVal.cells,closed] using h)
theorem bq {Γ:Ctx}:∀ {t:Ty}{v:t.V}{c:Bool}{l:List AVal},t.closed=true→R Γ t v c l→aA l=true
 | .int k,v,c,l,_,h=>by simp only[R] at h; subst h; rfl
 | .bool,v,c,l,_,h=>by simp only[R] at h; subst h; rfl
 | .str,v,c,l,_,h=>by simp only[R] at h; subst h; rfl
 | .sl t,v,c,l,hc,h=>by
   simp only[Ty.closed,Bool.and_eq_true] at hc
   simp only[R] at h
   rcases h with ⟨_,rfl⟩ | ⟨_,_,as,rfl,_,h⟩
   · rfl
   · rw[aT]
     exact dS (p:=fun x a=>R Γ t x false [a]) (fun x a hx=>by rw[← aT]; exact bq (Γ:=Γ) (t:=t) (v:=x) hc.2 hx) h
 | .agg t,v,c,l,hc,h=>by
   cases c<;>simp only[R] at h
   · obtain ⟨cs,rfl,h⟩:=h
     rw[aT]; exact bq (t:=t) hc h
   · exact bq (t:=t) hc h
 | .arr n t,v,c,l,hc,h=>by
   simp only[Ty.closed,Bool.and_eq_true] at hc
   have:∀ (v:List t.V) (ls:List (List AVal)),All2 (fun x c=>R Γ t x true c) v ls→aA ls.flatten=true:=by
     intro v
     induction v with
     | nil=>intro ls h; cases ls with | nil=>rfl | cons _ _=>exact h.elim
     | cons x v ih =>
       intro ls h
       cases ls with
       | nil=>exact h.elim
       | cons c ls=>rw[List.flatten_cons,dC,bq hc.2 h.1,ih ls h.2]; rfl
   cases c<;>simp only[R] at h
   · obtain ⟨cs,rfl,_,ls,rfl,h⟩:=h
     rw[aT]; exact this v ls h
   · obtain ⟨_,ls,rfl,h⟩:=h
     exact this v ls h
 | .tup t,v,c,l,hc,h=>by
   simp only[R] at h; obtain ⟨as,rfl,h⟩:=h
   rw[aT]; exact bq (t:=t) hc h
 | .unit,v,c,l,_,h=>by simp only[R] at h; subst h; rfl
 | .cons t ts,v,c,l,hc,h=>by
   simp only[Ty.closed,Bool.and_eq_true] at hc
   simp only[R] at h
   obtain ⟨l1,l2,rfl,h1,h2⟩:=h
   rw[dC,bq hc.1 h1,bq hc.2 h2]; rfl
 | .nilsl,v,c,l,_,h=>by simp only[R] at h; subst h; rfl
 | .nilp,v,c,l,_,h=>by simp only[R] at h; subst h; rfl
 | .fn f,v,c,l,_,h=>by simp only[R] at h; subst h; rfl
 | .err,v,c,l,_,h=>by simp only[R] at h; obtain ⟨a,rfl,h1⟩:=h; rcases h1 with ⟨_,rfl⟩ | ⟨_,_,rfl⟩<;>rfl
 | .undef,v,c,l,_,h=>by simp only[R] at h; subst h; rfl
 | .any,v,c,l,hc,h=>by cases hc
 | .own id,v,c,l,hc,h=>by cases hc
 | .it id,v,c,l,hc,h=>by cases hc
 | .mp id,v,c,l,hc,h=>by cases hc
 | .bx id off,v,c,l,hc,h=>by cases hc
 | .op id,v,c,l,hc,h=>by cases hc
 | .ptr id off,v,c,l,hc,h=>by cases hc
 | .ba id off en ln,v,c,l,hc,h=>by cases hc
 | .vw id,v,c,l,hc,h=>by cases hc
 | .rp t off,v,c,l,hc,h=>by
   simp only[R] at h; obtain ⟨a,rest,h,hr,rfl⟩:=h
   rw[aT]
   have h1:=gt (aT a ▸ bq (t:=t) hc h)
   simp only[closed]
   exact bB _ _ (by rw[dC,h1,hr hc]; rfl)
 | .orp t off,v,c,l,hc,h=>by
   simp only[R] at h
   rcases h with ⟨_,rfl⟩ | ⟨x,a,rest,_,h,hr,rfl⟩
   · rfl
   · rw[aT]
     have h1:=gt (aT a ▸ bq (t:=t) hc h)
     simp only[closed]
     exact bB _ _ (by rw[dC,h1,hr hc]; rfl)
 | .cl f t,v,c,l,hc,h=>by
   simp only[R] at h; obtain ⟨as,rfl,h⟩:=h
   rw[aT]
   simp only[closed]
   rw[bq (t:=t) hc h]; rfl
theorem aG {A B:Type}{p q:A→B→Prop} (h:∀ x a,p x a→q x a):∀ {l:List A}{as:List B},All2 p l as→All2 q l as
 | [],[],_=>trivial
 | x::l,a::as,k=>⟨h x a k.1,aG h k.2⟩
theorem dn {Γ Γ':Ctx}:∀ {t:Ty}{v:t.V}{c:Bool}{l:List AVal},t.still=true→R Γ t v c l→R Γ' t v c l
 | .int k,v,c,l,_,h=>by simpa only[R] using h
 | .bool,v,c,l,_,h=>by simpa only[R] using h
 | .str,v,c,l,_,h=>by simpa only[R] using h
 | .sl t,v,c,l,hc,h=>by
   simp only[R] at h ⊢
   rcases h with h | ⟨f,n,as,rfl,h1,h⟩
   · exact .inl h
   · exact .inr ⟨f,n,as,rfl,h1,aG (p:=fun x a=>R Γ t x false [a]) (fun x a hx=>dn (t:=t) hc hx) h⟩
 | .agg t,v,c,l,hc,h=>by
   cases c<;>simp only[R] at h ⊢
   · obtain ⟨cs,rfl,h⟩:=h
     exact ⟨cs,rfl,dn (t:=t) hc h⟩
   · exact dn (t:=t) hc h
 | .arr n t,v,c,l,hc,h=>by
   cases c<;>simp only[R] at h ⊢
   · obtain ⟨cs,rfl,h1,ls,h2,h⟩:=h
     exact ⟨cs,rfl,h1,ls,h2,aG (p:=fun x c=>R Γ t x true c) (fun x a hx=>dn (t:=t) hc hx) h⟩
   · obtain ⟨h1,ls,h2,h⟩:=h
     exact ⟨h1,ls,h2,aG (p:=fun x c=>R Γ t x true c) (fun x a hx=>dn (t:=t) hc hx) h⟩
 | .tup t,v,c,l,hc,h=>by
   simp only[R] at h ⊢; obtain ⟨as,rfl,h⟩:=h
   exact ⟨as,rfl,dn (t:=t) hc h⟩
 | .unit,v,c,l,_,h=>by simpa only[R] using h
 | .cons t ts,v,c,l,hc,h=>by
   simp only[Ty.still,Bool.and_eq_true] at hc
   simp only[R] at h ⊢
   obtain ⟨l1,l2,rfl,h1,h2⟩:=h
   exact ⟨l1,l2,rfl,dn hc.1 h1,dn hc.2 h2⟩
 | .nilsl,v,c,l,_,h=>by simpa only[R] using h
 | .nilp,v,c,l,_,h=>by simpa only[R] using h
 | .fn f,v,c,l,_,h=>by simpa only[R] using h
 | .err,v,c,l,_,h=>by simpa only[R] using h
 | .undef,v,c,l,_,h=>by simpa only[R] using h
 | .any,v,c,l,hc,h=>by cases hc
 | .own id,v,c,l,hc,h=>by cases hc
 | .it id,v,c,l,hc,h=>by cases hc
 | .mp id,v,c,l,hc,h=>by cases hc
 | .bx id off,v,c,l,hc,h=>by cases hc
 | .op id,v,c,l,hc,h=>by cases hc
 | .ptr id off,v,c,l,hc,h=>by cases hc
 | .ba id off en ln,v,c,l,hc,h=>by cases hc
 | .vw id,v,c,l,hc,h=>by cases hc
 | .rp t off,v,c,l,hc,h=>by
   simp only[R] at h ⊢; obtain ⟨a,rest,h,h2,rfl⟩:=h
   exact ⟨a,rest,dn (t:=t) hc h,h2,rfl⟩
 | .orp t off,v,c,l,hc,h=>by
   simp only[R] at h ⊢
   rcases h with h | ⟨x,a,rest,h0,h,h2,rfl⟩
   · exact .inl h
   · exact .inr ⟨x,a,rest,h0,dn (t:=t) hc h,h2,rfl⟩
 | .cl f t,v,c,l,hc,h=>by
   simp only[R] at h ⊢; obtain ⟨as,rfl,h⟩:=h
   exact ⟨as,rfl,dn (t:=t) hc h⟩
theorem aP {Γ Γ':Ctx}{t:Ty}{v:t.V}{c:Bool}{l:List AVal} (hc:t.closed=true) (h:R Γ t v c l):R Γ' t v c l:=dn (bA hc) h
def Ty.names (j:Nat):Ty→Bool
 | .sl t=>t.names j
 | .agg t=>t.names j
 | .arr _ t=>t.names j
 | .tup t=>t.names j
 | .cons t ts=>t.names j||ts.names j
 | .own i=>Nat.beq i j
 | .it i=>Nat.beq i j
 | .mp i=>Nat.beq i j
 | .bx i _=>Nat.beq i j
 | .op i=>Nat.beq i j
 | .ptr i _=>Nat.beq i j
 | .ba i _ _ _=>Nat.beq i j
 | .vw i=>Nat.beq i j
 | .rp t _=>t.names j
 | .orp t _=>t.names j
 | .cl _ t=>t.names j
 | _=>false
theorem bG {Γ Γ':Ctx}:∀ {t:Ty}{v:t.V}{c:Bool}{l:List AVal},(∀ j x,t.names j=true→Γ j=some x→Γ' j=some x)→R Γ t v c l→R Γ' t v c l
 | .int k,v,c,l,_,h=>by simpa only[R] using h
 | .bool,v,c,l,_,h=>by simpa only[R] using h
 | .str,v,c,l,_,h=>by simpa only[R] using h
 | .sl t,v,c,l,hc,h=>by
   simp only[R] at h ⊢
   rcases h with h | ⟨f,n,as,rfl,h1,h⟩
   · exact .inl h
   · exact .inr ⟨f,n,as,rfl,h1,aG (p:=fun x a=>R Γ t x false [a]) (fun x a hx=>bG (t:=t) (fun j y hj=>hc j y hj) hx) h⟩
 | .agg t,v,c,l,hc,h=>by
   cases c<;>simp only[R] at h ⊢
   · obtain ⟨cs,rfl,h⟩:=h
     exact ⟨cs,rfl,bG (t:=t) hc h⟩
   · exact bG (t:=t) hc h
 | .arr n t,v,c,l,hc,h=>by
   cases c<;>simp only[R] at h ⊢
   · obtain ⟨cs,rfl,h1,ls,h2,h⟩:=h
     exact ⟨cs,rfl,h1,ls,h2,aG (p:=fun x c=>R Γ t x true c) (fun x a hx=>bG (t:=t) (fun j y hj=>hc j y hj) hx) h⟩
   · obtain ⟨h1,ls,h2,h⟩:=h
     exact ⟨h1,ls,h2,aG (p:=fun x c=>R Γ t x true c) (fun x a hx=>bG (t:=t) (fun j y hj=>hc j y hj) hx) h⟩
 | .tup t,v,c,l,hc,h=>by
   simp only[R] at h ⊢; obtain ⟨as,rfl,h⟩:=h
   exact ⟨as,rfl,bG (t:=t) hc h⟩
 | .unit,v,c,l,_,h=>by simpa only[R] using h
 | .cons t ts,v,c,l,hc,h=>by
   simp only[R] at h ⊢
   obtain ⟨l1,l2,rfl,h1,h2⟩:=h
   exact ⟨l1,l2,rfl,bG (fun j x hj=>hc j x (by simp[Ty.names,hj])) h1,bG (fun j x hj=>hc j x (by simp[Ty.names,hj])) h2⟩
 | .nilsl,v,c,l,_,h=>by simpa only[R] using h
 | .nilp,v,c,l,_,h=>by simpa only[R] using h
 | .fn f,v,c,l,_,h=>by simpa only[R] using h
 | .err,v,c,l,_,h=>by simpa only[R] using h
 | .undef,v,c,l,_,h=>by simpa only[R] using h
 | .any,v,c,l,hc,h=>by simpa only[R] using h
 | .own id,v,c,l,hc,h=>by
   simp only[R] at h ⊢
   have hn:(Ty.own id).names id=true:=by simp[Ty.names]
   cases hg:Γ id with
   | none=>rw[hg] at h; exact h.elim
   | some x=>rw[hg] at h; rw[hc id x hn hg]; exact h
 | .it id,v,c,l,hc,h=>by
   simp only[R] at h ⊢
   obtain ⟨r,hg,rfl⟩:=h
   exact ⟨r,hc id _ (by simp[Ty.names]) hg,rfl⟩
 | .mp id,v,c,l,hc,h=>by
   simp only[R] at h ⊢
   obtain ⟨r,hg,rfl⟩:=h
   exact ⟨r,hc id _ (by simp[Ty.names]) hg,rfl⟩
 | .bx id off,v,c,l,hc,h=>by
   simp only[R] at h ⊢
   obtain ⟨r,n,hg,rfl⟩:=h
   exact ⟨r,n,hc id _ (by simp[Ty.names]) hg,rfl⟩
 | .op id,v,c,l,hc,h=>by
   simp only[R] at h ⊢
   obtain ⟨a,rfl,h1⟩:=h
   refine ⟨a,rfl,?_⟩
   rcases h1 with h1 | ⟨e,r,n,hg,rfl⟩
   · exact .inl h1
   · exact .inr ⟨e,r,n,hc id _ (by simp[Ty.names]) hg,rfl⟩
 | .ptr id off,v,c,l,hc,h=>by
   simp only[R] at h ⊢
   obtain ⟨r,n,len,hg,rfl⟩:=h
   exact ⟨r,n,len,hc id _ (by simp[Ty.names]) hg,rfl⟩
 | .ba id off en ln,v,c,l,hc,h=>by
   simp only[R] at h ⊢
   obtain ⟨r,n,len,hg,rfl⟩:=h
   exact ⟨r,n,len,hc id _ (by simp[Ty.names]) hg,rfl⟩
 | .vw id,v,c,l,hc,h=>by
   simp only[R] at h ⊢
   obtain ⟨r,n,len,hg,rfl⟩:=h
   exact ⟨r,n,len,hc id _ (by simp[Ty.names]) hg,rfl⟩
 | .rp t off,v,c,l,hc,h=>by
   simp only[R] at h ⊢; obtain ⟨a,rest,h,h2,rfl⟩:=h
   exact ⟨a,rest,bG (t:=t) (fun j y hj=>hc j y hj) h,h2,rfl⟩
 | .orp t off,v,c,l,hc,h=>by
   simp only[R] at h ⊢
   rcases h with h | ⟨x,a,rest,h0,h,h2,rfl⟩
   · exact .inl h
   · exact .inr ⟨x,a,rest,h0,bG (t:=t) (fun j y hj=>hc j y hj) h,h2,rfl⟩
 | .cl f t,v,c,l,hc,h=>by
   simp only[R] at h ⊢; obtain ⟨as,rfl,h⟩:=h
   exact ⟨as,rfl,bG (t:=t) (fun j y hj=>hc j y hj) h⟩
end
end Go.TY
namespace Go.TY
open Go.EM
inductive Reg where
 | box (e:Nat) (t:Ty) (v:t.V)
 | cbox (e:Nat) (t:Ty) (v:t.V)
 | row (z:Bool) (e:Nat) (t:Ty) (xs:List t.V)
 | iter (s:List UInt8) (pos:Nat)
 | map (k v:Ty) (xs:List (k.V×v.V))
 | gone
abbrev Mem:=List Reg
abbrev TS:=List (Nat×TV)
def getT:TS→Nat→Option TV
 | [],_=>none
 | (k,v)::l,n=>cond (Nat.beq k n) (some v) (getT l n)
def getM:Mem→Nat→Reg
 | [],_=>.gone
 | r::_,0=>r
 | _::m,n+1=>getM m n
def setM:Mem→Nat→Reg→Mem
 | [],_,_=>[]
 | _::m,0,g=>g::m
 | r::m,n+1,g=>r::setM m n g
inductive OR:Type 1 where
 | no
 | ok (tv:TV) (m:Mem) (k:Option Nat)
 | opt (A:Type) (x:Option A) (k:A→OR)
 | br (b:Bool) (x y:OR)
def OR.go {X:Type}:OR→(TV→Mem→Option Nat→Option X)→Option X
 | .no,_=>none
 | .ok tv m k,K=>K tv m k
 | .opt _ x f,K=>x.bind fun a=>(f a).go K
 | .br b x y,K=>cond b (x.go K) (y.go K)
def isB (a b:Bool):Bool:=cond a b (!b)
def to:(t:Ty)→t.V→Nat→Nat→Bool→Option TV
 | .cons t ts,v,off,n,ag =>
   cond (Nat.ble (off+1) t.size) (cond (Nat.beq off 0&&Nat.beq t.size n&&isB ag t.isAgg) (some ⟨t,v.1⟩) (to t v.1 off n ag)) (to ts v.2 (off-t.size) n ag)
 | .agg t,v,off,n,ag=>to t v off n ag
 | _,_,_,_,_=>none
def jE (w:TV) (off n:Nat) (ag:Bool):Option TV :=
 cond (Nat.beq off 0&&Nat.beq w.t.size n&&isB ag w.t.isAgg) (some w) (to w.t w.v off n ag)
def mO (P:Program) (ft:TypeId) (w:TV) (off:Nat):Option TV :=
 match szOf P ft,P.underlying ft with
 | some n,some d=>(jE w off n (eQ d)).bind fun x=>cond (x.t.isV) (some x) none
 | _,_=>none
def putT:(t:Ty)→t.V→Nat→TV→Option TV
 | .cons t ts,v,off,w =>
   cond (Nat.ble (off+1) t.size)
     (cond (Nat.beq off 0&&Nat.beq t.size w.t.size&&isB w.t.isAgg t.isAgg) (some ⟨.cons w.t ts,(w.v,v.2)⟩)
       ((putT t v.1 off w).map fun x=>⟨.cons x.t ts,(x.v,v.2)⟩))
     ((putT ts v.2 (off-t.size) w).map fun x=>⟨.cons t x.t,(v.1,x.v)⟩)
 | .agg t,v,off,w=>(putT t v off w).map fun x=>⟨.agg x.t,x.v⟩
 | _,_,_,_=>none
def nF (u:TV) (off:Nat) (w:TV):Option TV :=
 cond (Nat.beq off 0&&Nat.beq u.t.size w.t.size&&isB w.t.isAgg u.t.isAgg) (some w) (cond u.t.isAgg (putT u.t u.v off w) none)
def kc:(t:Ty)→t.V→List TV
 | .cons t ts,v=>kc t v.1++kc ts v.2
 | .unit,_=>[]
 | .agg t,v=>kc t v
 | .arr _ t,v=>v.flatMap (kc t)
 | t,v=>[⟨t,v⟩]
structure CF where
 fr:Nat→Bool
 mu:Nat→Nat
def Ty.fixed (mu:Nat→Nat):Ty→Bool
 | .sl t=>t.fixed mu
 | .agg t=>t.fixed mu
 | .arr _ t=>t.fixed mu
 | .tup t=>t.fixed mu
 | .cons t ts=>t.fixed mu&&ts.fixed mu
 | .own i=>Nat.beq (mu i) i
 | .it i=>Nat.beq (mu i) i
 | .mp i=>Nat.beq (mu i) i
 | .bx i _=>Nat.beq (mu i) i
 | .op i=>Nat.beq (mu i) i
 | .ptr i _=>Nat.beq (mu i) i
 | .ba i _ _ _=>Nat.beq (mu i) i
 | .vw i=>Nat.beq (mu i) i
 | .rp t _=>t.fixed mu
 | .orp t _=>t.fixed mu
 | .cl _ t=>t.fixed mu
 | _=>true
def qL (f:CF) (w:TV) (u:Ty):Option u.V:=cond (u.fixed f.mu) (dq w.t w.v u fun x=>x) none
def ol (f:CF) (w:TV) (u:Ty):Option u.V :=
 match u with
 | .sl t=>match w.t with
   | .nilsl=>some ([]:List t.V)
   | _=>qL f w (.sl t)
 | .own id=>match w.t with
   | .nilsl=>cond (f.fr id) (some ()) none
   | .own k=>cond (Nat.beq (f.mu id) k) (some ()) none
   | _=>none
 | .any=>cond w.t.isCell (some ()) none
 | .op id=>match w with
   | ⟨.nilp,_⟩=>some false
   | ⟨.bx k off,_⟩=>cond (Nat.beq (f.mu id) k&&Nat.beq off 0) (some true) none
   | ⟨.op k,v⟩=>cond (Nat.beq (f.mu id) k) (some v) none
   | _=>none
 | .bx id off=>match w with
   | ⟨.bx k o,_⟩=>cond (Nat.beq (f.mu id) k&&Nat.beq off o) (some ()) none
   | _=>none
 | .orp t off=>match w with
   | ⟨.nilp,_⟩=>some (none:Option t.V)
   | ⟨.rp u o,v⟩=>cond (Nat.beq o off&&t.fixed f.mu) (dq u v t fun x=>some x) none
   | w=>qL f w (.orp t off)
 | u=>qL f w u
def ofN {A:Type} (g:List TV→Option (A×List TV)):Nat→List TV→Option (List A×List TV)
 | 0,l=>some ([],l)
 | n+1,l=>(g l).bind fun p=>(ofN g n p.2).map fun q=>(p.1::q.1,q.2)
def cT (f:CF):(u:Ty)→List TV→Option (u.V×List TV)
 | .cons t ts,l=>(cT f t l).bind fun p=>(cT f ts p.2).map fun q=>((p.1,q.1),q.2)
 | .unit,l=>some ((),l)
 | .agg t,l=>cT f t l
 | .arr n t,l=>ofN (cT f t) n l
 | u,w::l=>(ol f w u).map fun x=>(x,l)
 | _,[]=>none
def ph {A B:Type} (g:A→Option B):List A→Option (List B)
 | []=>some []
 | x::l=>(g x).bind fun y=>(ph g l).map fun ys=>y::ys
def abz (f:CF) (w:TV) (u:Ty):Option u.V:=cond (w.t.beq u&&u.fixed f.mu) (dq w.t w.v u fun x=>x) (cond w.t.isCell (ol f w u) none)
def dh (f:CF):(u t:Ty)→t.V→Option u.V
 | .cons u us,.cons t ts,v=>(dh f u t v.1).bind fun x=>(dh f us ts v.2).map fun y=>(x,y)
 | .unit,.unit,_=>some ()
 | .agg u,.agg t,v=>cond (t.beq u&&u.fixed f.mu) (dq t v u fun x=>x) (dh f u t v)
 | .arr k u,.arr n t,v=>cond (t.beq u&&u.fixed f.mu&&Nat.beq n k) (dq (.sl t) v (.sl u) fun x=>x) (cond (Nat.beq n k) (ph (dh f u t) v) none)
 | .cons _ _,_,_=>none
 | .unit,_,_=>none
 | .agg _,_,_=>none
 | .arr _ _,_,_=>none
 | u,t,v=>abz f ⟨t,v⟩ u
def bu (f:CF) (w:TV) (u:Ty):Option u.V :=
 cond (w.t.beq u&&u.fixed f.mu) (dq w.t w.v u fun x=>x) (match u with
   | .agg u'=>match w.t with
     | .agg t=>match dh f (.agg u') w.t w.v with
      | some x=>some x
      | none=>match cT f (.agg u') (kc w.t w.v) with
        | some (x,[])=>some x
        | _=>none
     | _=>none
   | .arr k u'=>dh f (.arr k u') w.t w.v
   | .cons _ _=>none
   | .unit=>none
   | .tup _=>none
   | u=>cond w.t.isCell (ol f w u) none)
def noFr:CF:={ fr:=fun _=>false,mu:=fun i=>i }
def aS:(u:Ty)→List TV→Option u.V
 | .cons t ts,w::l=>(bu noFr w t).bind fun x=>(aS ts l).map fun y=>(x,y)
 | .unit,[]=>some ()
 | _,_=>none
def bM (m:Mem):(t:Ty)→t.V→(u:Ty)→Option u.V
 | .own id,_,.sl u=>match getM m id with
   | .row _ _ t xs=>dq (.sl t) xs (.sl u) fun x=>x
   | _=>none
 | .nilsl,_,.sl u=>some ([]:List u.V)
 | .agg t,v,.agg u=>cond (t.beq u) (dq t v u fun x=>x) (bM m t v u)
 | .arr n t,v,.arr k u=>cond (t.beq u&&Nat.beq n k) (dq (.sl t) v (.sl u) fun x=>x) (cond (Nat.beq n k) (ph (fun x=>bM m t x u) v) none)
 | .tup t,v,.tup u=>bM m t v u
 | .cons t ts,v,.cons u us=>(bM m t v.1 u).bind fun x=>(bM m ts v.2 us).map fun y=>(x,y)
 | t,v,u=>cond t.closed (dq t v u id) none
def bK (m:Mem):(u:Ty)→List TV→Option u.V
 | .cons u us,w::l=>(bM m w.t w.v u).bind fun x=>(bK m us l).map fun y=>(x,y)
 | .unit,[]=>some ()
 | _,_=>none
mutual
def cM:AVal→Option TV
 | .int k n=>some ⟨.int k,n⟩
 | .bool b=>some ⟨.bool,b⟩
 | .str s=>some ⟨.str,s⟩
 | .nil=>some ⟨.nilsl,()⟩
 | .nilptr=>some ⟨.nilp,()⟩
 | .niliface=>some ⟨.err,false⟩
 | .nilmap=>some ⟨.any,()⟩
 | .agg cs=>(rV cs).map fun w=>⟨.agg w.t,w.v⟩
 | _=>none
def rV:List AVal→Option TV
 | []=>some ⟨.unit,()⟩
 | a::l=>(cM a).bind fun x=>(rV l).bind fun y=>cond x.t.isCell (some ⟨.cons x.t y.t,(x.v,y.v)⟩) none
end
def aaJ (f:TypeId→Option Ty):List Field→Option Ty
 | []=>some .unit
 | fd::l=>(f fd.type).bind fun t=>(aaJ f l).map fun ts=>.cons t ts
def shapeOf (P:Program):Nat→TypeId→Option Ty
 | 0,_=>none
 | d+1,t=>match P.underlying t with
   | some .bool=>some .bool
   | some (.int k)=>some (.int k)
   | some .string=>some .str
   | some (.slice _)=>some .nilsl
   | some (.pointer _)=>some .nilp
   | some (.struct fs)=>(aaJ (shapeOf P d) fs.toList).map .agg
   | some (.array n e)=>(shapeOf P d e).map (.arr n)
   | _=>none
def aaX {A:Type} (g:List AVal→Option (A×List AVal)):Nat→List AVal→Option (List A×List AVal)
 | 0,l=>some ([],l)
 | n+1,l=>(g l).bind fun p=>(aaX g n p.2).map fun q=>(p.1::q.1,q.2)
def aZ:(u:Ty)→List AVal→Option (u.V×List AVal)
 | .cons t ts,l=>(aZ t l).bind fun p=>(aZ ts p.2).map fun q=>((p.1,q.1),q.2)
 | .unit,l=>some ((),l)
 | .agg t,l=>aZ t l
 | .arr n t,l=>aaX (aZ t) n l
 | .int k,.int k' n::l=>cond (kbeq k k') (some (n,l)) none
 | .bool,.bool b::l=>some (b,l)
 | .str,.str s::l=>some (s,l)
 | .nilsl,.nil::l=>some ((),l)
 | .nilp,.nilptr::l=>some ((),l)
 | _,_=>none
def qk (P:Program) (t:TypeId):Option TV :=
 (zeroOf P t).bind fun a=>(shapeOf P 8 t).bind fun u=>(aZ u a.cells).bind fun p=>match p.2 with
   | []=>cond (isB u.isAgg a.isAgg&&u.isV) (some ⟨u,p.1⟩) none
   | _=>none
def ig (P:Program) (t:TypeId) (w:TV):TV :=
 match w.t with
 | .agg _=>match shapeOf P 8 t with
   | some u=>match bu noFr w u with
     | some x=>⟨u,x⟩
     | none=>w
   | none=>w
 | _=>w
def quoT (k:IntKind) (a b:Int):Option Int:=if b=0 then none else some (k.wrap (a.tdiv b))
def remT (a b:Int):Option Int:=if b=0 then none else some (a.tmod b)
def shlT (k:IntKind) (a b:Int):Option Int:=if b<0 then none else some (k.wrap (a*2 ^ (min b.toNat k.bits)))
def shrT (k:IntKind) (a b:Int):Option Int:=if b<0 then none else some (a.fdiv (2 ^ (min b.toNat k.bits)))
def catT (x y:List UInt8):Option (List UInt8):=if ((x.length+y.length:Nat):Int)>9223372036854775807 then none else some (x++y)
def mkT (l c:Int):Option Unit:=if l=c∧0≤l∧l<4294967296 then some () else none
def intT (op:BinOp) (k:IntKind) (a b:Int) (m:Mem):OR :=
 match op with
 | .add=>.ok ⟨.int k,k.wrap (a+b)⟩ m none
 | .sub=>.ok ⟨.int k,k.wrap (a-b)⟩ m none
 | .mul=>.ok ⟨.int k,k.wrap (a*b)⟩ m none
 | .quo=>.opt Int (quoT k a b) fun n=>.ok ⟨.int k,n⟩ m none
 | .rem=>.opt Int (remT a b) fun n=>.ok ⟨.int k,n⟩ m none
 | .and=>.ok ⟨.int k,k.wrap ((BitVec.ofInt k.bits a &&& BitVec.ofInt k.bits b).toNat)⟩ m none
 | .or=>.ok ⟨.int k,k.wrap ((BitVec.ofInt k.bits a ||| BitVec.ofInt k.bits b).toNat)⟩ m none
 | .xor=>.ok ⟨.int k,k.wrap ((BitVec.ofInt k.bits a ^^^ BitVec.ofInt k.bits b).toNat)⟩ m none
 | .andNot=>.ok ⟨.int k,k.wrap ((BitVec.ofInt k.bits a &&& ~~~ BitVec.ofInt k.bits b).toNat)⟩ m none
 | .eql=>.ok ⟨.bool,decide (a=b)⟩ m none
 | .neq=>.ok ⟨.bool,!decide (a=b)⟩ m none
 | .lss=>.ok ⟨.bool,decide (a<b)⟩ m none
 | .leq=>.ok ⟨.bool,decide (a≤b)⟩ m none
 | .gtr=>.ok ⟨.bool,decide (a>b)⟩ m none
 | .geq=>.ok ⟨.bool,decide (a≥b)⟩ m none
 | _=>.no
def aeX (op:BinOp) (k:IntKind) (a b:Int) (m:Mem):OR :=
 match op with
 | .shl=>.opt Int (shlT k a b) fun n=>.ok ⟨.int k,n⟩ m none
 | .shr=>.opt Int (shrT k a b) fun n=>.ok ⟨.int k,n⟩ m none
 | _=>.no
def strT (op:BinOp) (x y:List UInt8) (m:Mem):OR :=
 match op with
 | .add=>.opt (List UInt8) (catT x y) fun s=>.ok ⟨.str,s⟩ m none
 | .eql=>.ok ⟨.bool,decide (x=y)⟩ m none
 | .neq=>.ok ⟨.bool,!decide (x=y)⟩ m none
 | .lss=>.ok ⟨.bool,Op.bytesLess x y⟩ m none
 | .leq=>.ok ⟨.bool,Op.bytesLess x y||decide (x=y)⟩ m none
 | .gtr=>.ok ⟨.bool,!(Op.bytesLess x y||decide (x=y))⟩ m none
 | .geq=>.ok ⟨.bool,!(Op.bytesLess x y)⟩ m none
 | _=>.no
def gY (P:Program) (ft:TypeId) (t:Ty):Bool :=
 match szOf P ft,P.underlying ft with
 | some n,some d=>Nat.beq n t.size&&isB (eQ d) t.isAgg&&t.isV
 | _,_=>false
def eqV:(t:Ty)→t.V→t.V→Bool
 | .int _,a,b=>decide (a=b)
 | .bool,a,b=>a==b
 | .str,a,b=>decide (a=b)
 | .agg t,a,b=>eqV t a b
 | .cons t ts,a,b=>eqV t a.1 b.1&&eqV ts a.2 b.2
 | .unit,_,_=>true
 | _,_,_=>false
def eqFs (P:Program) (f:TypeId→Ty→Bool):List Field→Ty→Nat→Bool
 | [],.unit,_=>true
 | fd::fs,.cons t ts,off => !(fd.name == "_")&&Nat.beq fd.offset off&&gY P fd.type t&&f fd.type t&&eqFs P f fs ts (off+t.size)
 | _,_,_=>false
def f8 (P:Program):Nat→TypeId→Ty→Bool
 | 0,_,_=>false
 | d+1,t,ty=>match P.underlying t with
   | some .bool=>match ty with
     | .bool=>true
     | _=>false
   | some (.int k)=>match ty with
     | .int k'=>true
     | _=>false
   | some .string=>match ty with
     | .str=>true
     | _=>false
   | some (.struct fs)=>match ty with
     | .agg row => !P.stoodInHeld t&&eqFs P (f8 P d) fs.toList row 0
     | _=>false
   | _=>false
def vB (x:TV):Option Bool :=
 match x with
 | ⟨.orp _ _,v⟩=>some v.isNone
 | _=>none
def aep (P:Program) (t:TypeId) (x y:TV):Option Bool :=
 match x.t,y.t with
 | .nilp,.nilp=>match P.underlying t with
   | some (.pointer _)=>some true
   | _=>none
 | .rp _ _,.nilp=>match P.underlying t with
   | some (.pointer _)=>some false
   | _=>none
 | .nilp,.rp _ _=>match P.underlying t with
   | some (.pointer _)=>some false
   | _=>none
 | .orp _ _,.nilp=>match P.underlying t with
   | some (.pointer _)=>vB x
   | _=>none
 | .nilp,.orp _ _=>match P.underlying t with
   | some (.pointer _)=>vB y
   | _=>none
 | .bool,.bool=>cond (f8 P 8 t .bool) (dq x.t x.v .bool fun a=>dq y.t y.v .bool fun b=>a==b).join none
 | .agg u,.agg u' =>
   cond (!(P.eqGuardType P.depth t)) (
     let x':=ig P t x; let y':=ig P t y
     cond (f8 P 8 t x'.t) (dq y'.t y'.v x'.t fun b=>eqV x'.t x'.v b) (cond (f8 P 8 t y'.t) (dq x'.t x'.v y'.t fun a=>eqV y'.t a y'.v) none)) none
 | _,_=>none
def binT (P:Program) (op:BinOp) (t:TypeId) (x y:TV) (m:Mem):OR :=
 match op with
 | .shl | .shr=>match x,y with
   | ⟨.int k,a⟩,⟨.int _,b⟩=>aeX op k a b m
   | _,_=>.no
 | op=>match x,y with
   | ⟨.int k,a⟩,⟨.int k',b⟩=>cond (kbeq k k') (intT op k a b m) .no
   | ⟨.str,a⟩,⟨.str,b⟩=>strT op a b m
   | x,y=>match op with
     | .eql=>match aep P t x y with
       | some b=>.ok ⟨.bool,b⟩ m none
       | none=>.no
     | .neq=>match aep P t x y with
       | some b=>.ok ⟨.bool,!b⟩ m none
       | none=>.no
     | _=>.no
def unT (op:UnOp) (x:TV) (m:Mem):OR :=
 match op,x with
 | .neg,⟨.int k,n⟩=>.ok ⟨.int k,k.wrap (0-n)⟩ m none
 | .xor,⟨.int k,n⟩=>intT .xor k (if k.signed then -1 else k.max) n m
 | .not,⟨.bool,b⟩=>.ok ⟨.bool,!b⟩ m none
 | _,_=>.no
def ajt (c a b:TV) (m:Mem):OR :=
 match c with
 | ⟨.bool,t⟩=>.br t (.ok a m none) (.ok b m none)
 | _=>.no
def aj3 (P:Program) (src dst:TypeId) (x:TV) (m:Mem):OR :=
 match P.underlying src,P.underlying dst with
 | some _,some (.int k)=>match x with
   | ⟨.int _,n⟩=>.ok ⟨.int k,k.wrap n⟩ m none
   | _=>.no
 | some _,some .string=>match x with
   | ⟨.str,s⟩=>.ok ⟨.str,s⟩ m none
   | ⟨.int _,n⟩=>.ok ⟨.str,(Utf8.encode n).data.toList⟩ m none
   | _=>.no
 | _,_=>.no
def atI {A:Type} (l:List A) (i:Int):Option A:=if 0≤i then l[i.toNat]? else none
def subI {A:Type} (l:List A) (lo hi:Int):Option (List A):=if 0≤lo∧lo≤hi∧hi≤l.length then some ((l.take hi.toNat).drop lo.toNat) else none
def inI (n:Nat) (i:Int):Option Nat:=if 0≤i∧i<n then some i.toNat else none
def abM (P:Program) (t:TypeId) (x i:TV) (m:Mem):OR :=
 match i with
 | ⟨.int _,i⟩=>match P.underlying t with
   | some .string=>match x with
     | ⟨.str,s⟩=>.opt UInt8 (atI s i) fun b=>.ok ⟨.int .u8,(b.toNat:Int)⟩ m none
     | _=>.no
   | some (.array len e)=>match szOf P e with
     | some n=>match x with
       | ⟨.arr len' u,xs⟩=>cond (Nat.beq u.size n&&Nat.beq len len'&&gY P e u) (.opt u.V (atI xs i) fun y=>.ok ⟨u,y⟩ m none) .no
       | _=>.no
     | none=>.no
   | _=>.no
 | _=>.no
def idxT (P:Program) (t:TypeId) (x i:TV) (m:Mem):OR :=
 match i with
 | ⟨.int _,i⟩=>match P.underlying t with
   | some (.slice e)=>match szOf P e with
     | some n=>match x with
       | ⟨.sl u,xs⟩=>cond (Nat.beq u.size n && !(Nat.beq n 0)&&u.isV) (.opt u.V (atI xs i) fun v=>.ok ⟨.rp u 0,v⟩ m none) .no
       | ⟨.own id,_⟩=>match getM m id with
         | .row _ e u xs=>cond (Nat.beq u.size n && !(Nat.beq n 0)) (.opt Nat (inI xs.length i) fun k=>.ok ⟨.ptr id 0,k⟩ m none) .no
         | _=>.no
       | ⟨.vw id,v⟩=>match getM m id with
         | .row _ e u xs=>cond (Nat.beq u.size n && !(Nat.beq n 0)) (.br xs.isEmpty .no (.opt Nat (inI v.2 i) fun k=>.ok ⟨.ptr id 0,v.1+k⟩ m none)) .no
         | _=>.no
       | _=>.no
     | none=>.no
   | some (.array len e)=>match szOf P e with
     | some n=>match x with
       | ⟨.rp t off,v⟩=>match jE ⟨t,v⟩ off (len*n) true with
         | some ⟨.arr len' u,xs⟩=>cond (Nat.beq u.size n && !(Nat.beq n 0)&&u.isV&&t.isV&&Nat.beq len len'&&(!u.closed||t.closed)) (.opt u.V (atI xs i) fun v=>.ok ⟨.rp u 0,v⟩ m none) .no
         | _=>.no
       | ⟨.bx id off,_⟩=>cond (!(Nat.beq n 0)) (.opt Nat (inI len i) fun k=>.ok ⟨.ba id off n len,k⟩ m none) .no
       | _=>.no
     | none=>.no
   | _=>.no
 | _=>.no
def ab3 (P:Program) (s:TypeId) (x:TV) (f:Nat) (m:Mem):OR :=
 match jR P s f with
 | some fd=>match szOf P fd.type with
   | some (_+1)=>match x with
     | ⟨.bx id off,_⟩=>.ok ⟨.bx id (off+fd.offset),()⟩ m none
     | ⟨.ptr id off,i⟩=>.ok ⟨.ptr id (off+fd.offset),i⟩ m none
     | ⟨.rp t off,v⟩=>.ok ⟨.rp t (off+fd.offset),v⟩ m none
     | ⟨.orp t off,v⟩=>.opt t.V v fun y=>.ok ⟨.rp t (off+fd.offset),y⟩ m none
     | _=>.no
   | _=>.no
 | none=>.no
def ofO (m:Mem):Option TV→OR
 | some w=>.ok w m none
 | none=>.no
def ab1 (P:Program) (s:TypeId) (x:TV) (f:Nat) (m:Mem):OR :=
 match jR P s f with
 | some fd=>cond x.t.isAgg (ofO m (mO P fd.type x fd.offset)) .no
 | none=>.no
def nthT:(t:Ty)→t.V→Nat→Option TV
 | .cons t _,v,0=>some ⟨t,v.1⟩
 | .cons _ ts,v,n+1=>nthT ts v.2 n
 | _,_,_=>none
def rowV:Ty→Bool
 | .cons t ts=>t.isV&&rowV ts
 | .unit=>true
 | _=>false
def pO (x:TV) (i:Nat) (m:Mem):OR :=
 match x with
 | ⟨.tup t,v⟩=>cond (rowV t) (ofO m (nthT t v i)) .no
 | _=>.no
def hU (x:Option TV) (d:Int):Option Int :=
 match x with
 | none=>some d
 | some ⟨.int _,i⟩=>some i
 | some _=>none
def kR (n:Nat) (l h:Int):Option (Nat×Nat):=if 0≤l∧l≤h∧h≤n then some (l.toNat,h.toNat-l.toNat) else none
def aaF (P:Program) (t:TypeId) (x:TV) (lo hi mx:Option TV) (m:Mem):OR :=
 match mx with
 | some _=>.no
 | none=>match P.underlying t with
   | some .string=>match x with
     | ⟨.str,s⟩=>match hU lo 0,hU hi s.length with
       | some l,some h=>.opt (List UInt8) (subI s l h) fun r=>.ok ⟨.str,r⟩ m none
       | _,_=>.no
     | _=>.no
   | some (.slice e)=>match szOf P e with
     | some n=>match x with
       | ⟨.sl u,xs⟩=>match hU lo 0,hU hi xs.length with
         | some l,some h=>cond (Nat.beq u.size n) (.opt (List u.V) (subI xs l h) fun r=>.ok ⟨.sl u,r⟩ m none) .no
         | _,_=>.no
       | ⟨.own id,_⟩=>match getM m id with
         | .row _ _ u xs=>match hU lo 0,hU hi xs.length with
           | some l,some h=>cond (Nat.beq u.size n) (.br xs.isEmpty .no (.opt (Nat×Nat) (kR xs.length l h) fun p=>.ok ⟨.vw id,p⟩ m none)) .no
           | _,_=>.no
         | _=>.no
       | ⟨.vw id,v⟩=>match getM m id with
         | .row _ _ u xs=>match hU lo 0,hU hi v.2 with
           | some l,some h=>cond (Nat.beq u.size n) (.br xs.isEmpty .no (.opt (Nat×Nat) (kR v.2 l h) fun p=>.ok ⟨.vw id,(v.1+p.1,p.2)⟩ m none)) .no
           | _,_=>.no
         | _=>.no
       | _=>.no
     | none=>.no
   | _=>.no
def lenT (P:Program) (t:TypeId) (x:TV) (m:Mem):OR :=
 match P.underlying t with
 | some .string=>match x with
   | ⟨.str,s⟩=>.ok ⟨.int .i64,(s.length:Int)⟩ m none
   | _=>.no
 | some (.slice _)=>match x with
   | ⟨.nilsl,_⟩=>.ok ⟨.int .i64,(0:Int)⟩ m none
   | ⟨.sl _,xs⟩=>.ok ⟨.int .i64,(xs.length:Int)⟩ m none
   | ⟨.own id,_⟩=>match getM m id with
     | .row _ _ _ xs=>.ok ⟨.int .i64,(xs.length:Int)⟩ m none
     | _=>.no
   | ⟨.vw id,v⟩=>.ok ⟨.int .i64,(v.2:Int)⟩ m none
   | _=>.no
 | _=>.no
def pj (mx:Bool) (l:List TV) (m:Mem):OR :=
 match l with
 | [⟨.int k,a⟩,⟨.int k',b⟩]=>cond (kbeq k k') (.ok ⟨.int k,cond mx (max a b) (min a b)⟩ m none) .no
 | _=>.no
def aa2 (P:Program) (fs:Array Field) (u:TV):List (Nat×TV)→Option TV
 | []=>some u
 | (i,w)::rest=>match fs[i]? with
   | none=>none
   | some fd=>match szOf P fd.type with
     | some n=>cond (Nat.beq n w.t.size&&w.t.okRow&&w.t.isV) ((nF u fd.offset w).bind fun u'=>aa2 P fs u' rest) none
     | none=>none
def acv (P:Program) (t:TypeId) (parts:List (Nat×TV)) (m:Mem):OR :=
 match P.underlying t with
 | some (.struct fs)=>cond (fs.all fun f=>(P.info? f.type).isSome) (match qk P t with
   | some z=>cond (z.t.isAgg&&z.t.okRow) (match putT' parts fs z with
     | some w=>.ok w m none
     | none=>.no) .no
   | none=>.no) .no
 | _=>.no
where
 putT' (parts:List (Nat×TV)) (fs:Array Field) (z:TV):Option TV:=aa2 P fs z parts
def kn (P:Program) (t:TypeId) (u:Ty):Bool :=
 match szOf P t,P.underlying t with
 | some n,some d=>Nat.beq n u.size&&isB (eQ d) u.isAgg&&u.okRow&&u.isV && !(Nat.beq n 0)
 | _,_=>false
def gr (u:Ty):List TV→Option (List u.V)
 | []=>some []
 | w::l=>(bu noFr w u).bind fun x=>(gr u l).map fun y=>x::y
def rB:Nat→List (Nat×TV)→Bool
 | _,[]=>true
 | k,(i,_)::l=>Nat.beq i k&&rB (k+1) l
def kE (P:Program) (ty:List (Nat×Ty)) (t:TypeId) (len:Nat) (parts:List (Nat×TV)):Option (Σ u:Ty,List u.V) :=
 match P.underlying t with
 | some (.slice e)=>match szOf P e,zeroOf P e,aK ty e with
   | some n,some _,some u=>cond (rB 0 parts&&Nat.beq parts.length len&&kn P e u&&Nat.ble (len*n) 16777216&&u.closed&&Nat.beq u.size n) ((gr u (parts.map (·.2))).map fun xs=>⟨u,xs⟩) none
   | _,_,_=>none
 | _=>none
def orpT (x:TV) (k:(t:Ty)→Nat→t.V→OR):OR :=
 match x with
 | ⟨.orp t off,v⟩=>.opt t.V v fun y=>k t off y
 | _=>.no
def abo (x:TV) (m:Mem):OR :=
 match x.t with
 | .orp _ _=>orpT x fun t off y=>.ok ⟨.rp t off,y⟩ m none
 | .bx _ _=>.ok x m none
 | .ptr _ _=>.ok x m none
 | .ba _ _ _ _=>.ok x m none
 | .rp _ _=>.ok x m none
 | _=>.no
def aer (P:Program) (t:TypeId) (w:TV) (off n len k:Nat) (m:Mem):OR :=
 match jE w off (len*n) true with
 | some ⟨.arr len' u,xs⟩=>cond (Nat.beq u.size n&&Nat.beq len len'&&gY P t u) (.opt u.V (xs[k]?) fun y=>.ok ⟨u,y⟩ m none) .no
 | _=>.no
def loadT (P:Program) (t:TypeId) (a:TV) (m:Mem):OR :=
 match a with
 | ⟨.rp u off,v⟩=>cond u.isV (ofO m (mO P t ⟨u,v⟩ off)) .no
 | ⟨.orp u off,v⟩=>cond u.isV (.opt u.V v fun y=>ofO m (mO P t ⟨u,y⟩ off)) .no
 | ⟨.ba id off n len,k⟩=>match getM m id with
   | .box _ u v=>aer P t ⟨u,v⟩ off n len k m
   | .cbox _ u v=>aer P t ⟨u,v⟩ off n len k m
   | _=>.no
 | ⟨.bx id off,_⟩=>match getM m id with
   | .box _ u v=>ofO m (mO P t ⟨u,v⟩ off)
   | .cbox _ u v=>ofO m (mO P t ⟨u,v⟩ off)
   | _=>.no
 | ⟨.ptr id off,i⟩=>match getM m id with
   | .row _ _ u xs=>.opt u.V (xs[i]?) fun v=>ofO m (mO P t ⟨u,v⟩ off)
   | _=>.no
 | _=>.no
def ajD (P:Program) (t:TypeId) (a:TV) (m:Mem):OR :=
 match a with
 | ⟨.rp u off,v⟩=>cond u.isV (ofO m (mO P t ⟨u,v⟩ off)) .no
 | ⟨.orp u off,v⟩=>cond u.isV (.opt u.V v fun y=>ofO m (mO P t ⟨u,y⟩ off)) .no
 | _=>.no
def storeT (P:Program) (t:TypeId) (a w:TV) (m:Mem):OR :=
 cond (kn P t w.t) (match a with
   | ⟨.bx id off,_⟩=>match getM m id with
     | .box e u v=>match nF ⟨u,v⟩ off w with
       | some x=>cond (x.t.isV&&x.t.okRow&&Nat.beq x.t.size u.size) (.ok ⟨.any,()⟩ (setM m id (.box e x.t x.v)) none) .no
       | none=>.no
     | _=>.no
   | ⟨.ptr id off,i⟩=>match getM m id with
     | .row z e u xs=>.opt u.V (xs[i]?) fun v=>match nF ⟨u,v⟩ off w with
       | some x=>match bu noFr x u with
         | some y=>.ok ⟨.any,()⟩ (setM m id (.row z e u (xs.set i y))) none
         | none=>.no
       | none=>.no
     | _=>.no
   | ⟨.ba id off n len,k⟩=>match getM m id with
     | .box e u v=>match jE ⟨u,v⟩ off (len*n) true with
       | some ⟨.arr len' u',xs⟩=>match bu noFr w u' with
         | some y=>match nF ⟨u,v⟩ off ⟨.arr len' u',xs.set k y⟩ with
           | some x=>cond (Nat.beq u'.size n&&Nat.beq len len'&&u'.okRow&&u'.isV&&Nat.beq w.t.size n&&isB w.t.isAgg u'.isAgg&&x.t.isV&&x.t.okRow&&Nat.beq x.t.size u.size) (.opt u'.V (xs[k]?) fun _=>.ok ⟨.any,()⟩ (setM m id (.box e x.t x.v)) none) .no
           | none=>.no
         | none=>.no
       | _=>.no
     | _=>.no
   | _=>.no) .no
def boxT (P:Program) (ro:Bool) (t:TypeId) (w:TV) (m:Mem):OR :=
 cond (kn P t w.t&&(!ro||w.t.closed)) (.ok ⟨.bx m.length 0,()⟩ (m++[cond ro (.cbox t w.t w.v) (.box t w.t w.v)]) none) .no
def acE (P:Program) (ro:Bool) (t:TypeId) (m:Mem):OR :=
 match qk P t with
 | some z=>boxT P ro t z m
 | none=>.no
def iE:List (Nat×Ty)→Mem
 | []=>[]
 | (e,u)::l=>.row true e u []::iE l
def lk:List (Nat×Ty)→Bool
 | []=>true
 | (_,u)::l=>u.isV&&u.closed&&u.okRow && !(Nat.beq u.size 0)&&lk l
def newT (P:Program) (t:TypeId) (u:Ty) (rows:List (Nat×Ty)) (m:Mem):OR :=
 match qk P t with
 | some z=>cond (lk rows) (match bu { fr:=fun j=>Nat.ble m.length j&&Nat.ble (j+1) (m.length+rows.length),mu:=fun i=>i } z u with
   | some x=>boxT P false t ⟨u,x⟩ (m++iE rows)
   | none=>.no) .no
 | none=>.no
mutual
def cF (j:Nat):(t:Ty)→t.V→TV
 | .agg t,v=>let w:=cF j t v; ⟨.agg w.t,w.v⟩
 | .cons t ts,v=>let w:=cF j t v.1; let ws:=cF j ts v.2; ⟨.cons w.t ws.t,(w.v,ws.v)⟩
 | .own i,v=>cond (Nat.beq i j) ⟨.any,()⟩ ⟨.own i,v⟩
 | .ptr i off,v=>cond (Nat.beq i j) ⟨.any,()⟩ ⟨.ptr i off,v⟩
 | .ba i off n q,v=>cond (Nat.beq i j) ⟨.any,()⟩ ⟨.ba i off n q,v⟩
 | .vw i,v=>cond (Nat.beq i j) ⟨.any,()⟩ ⟨.vw i,v⟩
 | t,v=>⟨t,v⟩
end
def py (j:Nat):Reg→Reg
 | .box e t v=>cond (t.names j) (let w:=cF j t v; cond (w.t.names j) .gone (.box e w.t w.v)) (.box e t v)
 | .cbox e t v=>.cbox e t v
 | .row z e t xs=>cond (t.names j) .gone (.row z e t xs)
 | g=>g
def lR (j:Nat):Mem→Mem
 | []=>[]
 | g::m=>py j g::lR j m
def ach (m:Mem) (u:Ty) (y:TV):Option (List u.V) :=
 match y with
 | ⟨.nilsl,_⟩=>some []
 | ⟨.sl t,xs⟩=>dq (.sl t) xs (.sl u) fun x=>x
 | ⟨.own id,_⟩=>match getM m id with
   | .row _ _ t xs=>dq (.sl t) xs (.sl u) fun x=>x
   | _=>none
 | ⟨.str,s⟩=>match u with
   | .int .u8=>some (s.map fun b=>(b.toNat:Int))
   | _=>none
 | _=>none
def dN (n:Nat):Option Unit:=if n<most then some () else none
def ae4:TypeDesc→Bool
 | .int _=>true
 | _=>false
def uu (P:Program) (ty:List (Nat×Ty)) (tys:List TypeId) (x y:TV) (m:Mem):OR :=
 match tys with
 | [t,u]=>match cG P t,P.underlying u,aK ty (bp P t) with
   | some (n,_),some d,some et=>cond (!ae4 d&&Nat.beq et.size n&&et.isV&&et.closed&&et.okRow) (match ach m et y with
     | some ys=>match x with
       | ⟨.nilsl,_⟩=>.opt Unit (dN ys.length) fun _=>.ok ⟨.own m.length,()⟩ (m++[.row true (bp P t) et ys]) none
       | ⟨.own id,_⟩=>match getM m id with
         | .row z e t' xs=>cond (Nat.beq e (bp P t)&&Nat.ble (id+1) m.length) (match dq (.sl t') xs (.sl et) (fun x=>x) with
           | some xs=>.opt Unit (dN (xs.length+ys.length)) fun _=>.ok ⟨.own id,()⟩ (setM (lR id m) id (.row z e et (xs++ys))) (some id)
           | none=>.no) .no
         | _=>.no
       | _=>.no
     | none=>.no) .no
   | _,_,_=>.no
 | _=>.no
def ajB (P:Program) (ty:List (Nat×Ty)) (t:TypeId) (l c:TV) (m:Mem):OR :=
 match cG P t,aK ty (bp P t),l,c with
 | some (n,_),some et,⟨.int .i64,l⟩,⟨.int .i64,c⟩=>match (qk P (bp P t)).bind fun z=>bu noFr z et with
   | some z=>cond (Nat.beq et.size n&&et.isV&&et.closed&&et.okRow) (.opt Unit (mkT l c) fun _=>.ok ⟨.own m.length,()⟩ (m++[.row false (bp P t) et (List.replicate l.toNat z)]) none) .no
   | none=>.no
 | _,_,_,_=>.no
def cW (s:List UInt8):Nat→Nat→List Int
 | 0,_=>[]
 | b+1,i=>if i<s.length then ((Utf8.decode ⟨s.toArray⟩ i).1:Int)::cW s b (i+(Utf8.decode ⟨s.toArray⟩ i).2) else []
def qM (s:List UInt8):List Int:=cW s s.length 0
def sized (P:Program) (t:TypeId):Bool :=
 match szOf P t with
 | some (_+1)=>true
 | _=>false
def aj4 (P:Program) (src dst:TypeId) (x:TV) (m:Mem):OR :=
 match P.underlying src,P.underlying dst with
 | some .string,some (.slice e)=>match x,P.underlying e with
   | ⟨.str,s⟩,some (.int .u8)=>.ok ⟨.own m.length,()⟩ (m++[.row false e (.int .u8) (s.map fun b=>(b.toNat:Int))]) none
   | ⟨.str,s⟩,some (.int .i32)=>.ok ⟨.own m.length,()⟩ (m++[.row false e (.int .i32) (qM s)]) none
   | _,_=>.no
 | some (.slice e),some .string=>match P.underlying e with
   | some (.int .u8)=>match ach m (.int .u8) x with
     | some xs=>.ok ⟨.str,xs.map fun n=>UInt8.ofNat n.toNat⟩ m none
     | none=>.no
   | some (.int .i32)=>match ach m (.int .i32) x with
     | some xs=>.ok ⟨.str,xs.flatMap fun n=>(Utf8.encode n).data.toList⟩ m none
     | none=>.no
   | _=>.no
 | some (.pointer t),some .unsafePointer=>match x with
   | ⟨.bx id off,_⟩=>match getM m id with
     | .box _ u _=>cond (Nat.ble (off+1) u.size&&sized P t) (.ok ⟨.bx id off,()⟩ m none) .no
     | _=>.no
   | _=>.no
 | some .unsafePointer,some (.pointer t)=>match x with
   | ⟨.bx id off,_⟩=>match getM m id with
     | .box e u _=>match szOf P t with
       | some k=>cond (Nat.beq k u.size&&Nat.beq e t&&Nat.beq off 0) (.ok ⟨.bx id 0,()⟩ m none) .no
       | none=>.no
     | _=>.no
   | _=>.no
 | _,_=>.no
def dZ (m:Mem) (id:Nat):Bool :=
 match getM m id with
 | .box _ _ _=>true
 | .cbox _ _ _=>true
 | _=>false
def vx (m:Mem) (x y:TV):Option Bool :=
 match x,y with
 | ⟨.nilp,_⟩,⟨.nilp,_⟩=>some true
 | ⟨.bx i _,_⟩,⟨.nilp,_⟩=>cond (dZ m i) (some false) none
 | ⟨.nilp,_⟩,⟨.bx i _,_⟩=>cond (dZ m i) (some false) none
 | ⟨.op i,v⟩,⟨.nilp,_⟩=>cond (dZ m i) (some (!v)) none
 | ⟨.nilp,_⟩,⟨.op i,v⟩=>cond (dZ m i) (some (!v)) none
 | ⟨.bx i a,_⟩,⟨.bx j b,_⟩=>cond (Nat.beq i j&&Nat.beq a b&&dZ m i) (some true) none
 | ⟨.op i,v⟩,⟨.bx j b,_⟩=>cond (Nat.beq i j&&Nat.beq b 0&&dZ m i) (some v) none
 | ⟨.bx j b,_⟩,⟨.op i,v⟩=>cond (Nat.beq i j&&Nat.beq b 0&&dZ m i) (some v) none
 | _,_=>none
def ptrT (P:Program) (op:BinOp) (t:TypeId) (x y:TV) (m:Mem):OR :=
 cond (Nat.beq (lw P t) 0) .no (match op with
 | .eql=>match vx m x y with
   | some b=>.ok ⟨.bool,b⟩ m none
   | none=>.no
 | .neq=>match vx m x y with
   | some b=>.ok ⟨.bool,!b⟩ m none
   | none=>.no
 | _=>.no)
def ju (x:TV) (m:Mem):OR :=
 match x with
 | ⟨.nilsl,_⟩=>.ok ⟨.nilp,()⟩ m none
 | ⟨.own id,_⟩=>match getM m id with
   | .row z _ _ xs=>cond z (.br xs.isEmpty (.ok ⟨.nilp,()⟩ m none) (.ok ⟨.ptr id 0,0⟩ m none)) .no
   | _=>.no
 | _=>.no
def akp (n:Int):Option Unit:=if n=0 then some () else none
def aeU (i n:Nat) (k:Int):Option Unit:=if i=0∧k=n∧0<k∧k≤9223372036854775807 then some () else none
def js (P:Program) (tys:List TypeId) (p l:TV) (m:Mem):OR :=
 match tys with
 | [pt,_]=>match p,l with
   | ⟨.nilp,_⟩,⟨.int .i64,n⟩=>.opt Unit (akp n) fun _=>.ok ⟨.str,[]⟩ m none
   | ⟨.ptr id off,i⟩,⟨.int .i64,n⟩=>match getM m id with
     | .row _ e u xs=>match P.underlying pt with
       | some (.pointer el)=>match szOf P el,dq (.sl u) xs (.sl (.int .u8)) fun x=>x with
         | some 1,some xs=>cond (Nat.beq e el&&Nat.beq off 0) (.opt Unit (aeU i xs.length n) fun _=>.ok ⟨.str,xs.map fun n=>UInt8.ofNat n.toNat⟩ (setM m id .gone) none) .no
         | _,_=>.no
       | _=>.no
     | _=>.no
   | _,_=>.no
 | _=>.no
def pM (x:TV) (m:Mem):OR :=
 match x with
 | ⟨.own id,_⟩=>match getM m id with
   | .row _ _ u xs=>.ok ⟨.sl u,xs⟩ (setM m id .gone) none
   | _=>.no
 | ⟨.sl u,v⟩=>.ok ⟨.sl u,v⟩ m none
 | ⟨.nilsl,v⟩=>.ok ⟨.nilsl,v⟩ m none
 | _=>.no
def frzP (x:TV) (m:Mem):Option (TV×Mem) :=
 match x with
 | ⟨.bx id 0,_⟩=>match getM m id with
   | .box _ t v=>some (⟨.rp t 0,v⟩,setM m id .gone)
   | _=>none
 | _=>none
def frzT:List Nat→TS→Mem→Option (TS×Mem)
 | [],σ,m=>some (σ,m)
 | k::ks,σ,m=>match getT σ k with
   | some x=>match frzP x m with
     | some p=>frzT ks ((k,p.1)::σ) p.2
     | none=>none
   | none=>none
def aaZ (P:Program) (t:TypeId) (x:TV) (m:Mem):OR :=
 match P.underlying t with
 | some .string=>match x with
   | ⟨.str,s⟩=>.ok ⟨.it m.length,()⟩ (m++[.iter s 0]) none
   | _=>.no
 | _=>.no
def ajw (it:TV) (isStr:Bool) (m:Mem):OR :=
 match it with
 | ⟨.it id,_⟩=>match getM m id with
   | .iter s pos => cond isStr (.br (decide (pos < s.length))
       (.ok ⟨.tup (.cons .bool (.cons (.int .i64) (.cons (.int .i32) .unit))),(true,(pos:Int),(Utf8.decode ⟨s.toArray⟩ pos).1,())⟩ (setM m id (.iter s (pos+(Utf8.decode ⟨s.toArray⟩ pos).2))) none)
       (.ok ⟨.tup (.cons .bool .unit),(false,())⟩ m none)) .no
   | _=>.no
 | _=>.no
def acp (P:Program) (tys:List TypeId) (x:TV) (m:Mem):OR :=
 match tys with
 | [t]=>match x with
   | ⟨.vw id,v⟩=>match cG P t with
     | some (n,_)=>match getM m id with
       | .row z e u xs=>match (qk P (bp P t)).bind fun z=>bu noFr z u with
         | some zv=>cond (Nat.beq u.size n) (.br xs.isEmpty .no (.opt Unit (if v.1+v.2≤xs.length then some () else none) fun _=>.ok ⟨.tup .unit,()⟩ (setM m id (.row z e u (xs.take v.1++List.replicate v.2 zv++xs.drop (v.1+v.2)))) none)) .no
         | none=>.no
       | _=>.no
     | none=>.no
   | _=>.no
 | _=>.no
def jP (k:Ty) {B:Type} (x:k.V):List (k.V×B)→Option B
 | []=>none
 | e::l=>cond (eqV k x e.1) (some e.2) (jP k x l)
def putK (k:Ty) {B:Type} (x:k.V) (y:B):List (k.V×B)→List (k.V×B)
 | []=>[(x,y)]
 | e::l=>cond (eqV k x e.1) ((x,y)::l) (e::putK k x y l)
def getK (k:Ty) {B:Type} (z:B) (x:k.V) (l:List (k.V×B)):B×Bool :=
 match jP k x l with
 | some y=>(y,true)
 | none=>(z,false)
def pn (P:Program) (ty:List (Nat×Ty)) (t:TypeId) (r:Bool) (m:Mem):OR :=
 match P.underlying t with
 | some (.map kt et)=>match aK ty kt,aK ty et with
   | some k,some v=>cond (r&&k.isV&&v.isV&&k.closed&&v.closed) (.ok ⟨.mp m.length,()⟩ (m++[.map k v []]) none) .no
   | _,_=>.no
 | _=>.no
def pr (P:Program) (t:TypeId) (x y:TV) (ok:Bool) (m:Mem):OR :=
 match P.underlying t with
 | some (.map kt et)=>match x with
   | ⟨.mp id,_⟩=>match getM m id with
     | .map k v xs=>cond (f8 P 8 kt k) (match bu noFr y k with
       | some w=>match (qk P et).bind fun z=>bu noFr z v with
         | some z=>cond ok (.ok ⟨.tup (.cons v (.cons .bool .unit)),((getK k z w xs).1,(getK k z w xs).2,())⟩ m none) (.ok ⟨v,(getK k z w xs).1⟩ m none)
         | none=>.no
       | none=>.no) .no
     | _=>.no
   | _=>.no
 | _=>.no
def tm (P:Program) (t:TypeId) (x y z:TV) (m:Mem):OR :=
 match P.underlying t with
 | some (.map kt _)=>match x with
   | ⟨.mp id,_⟩=>match getM m id with
     | .map k v xs=>cond (f8 P 8 kt k) (match bu noFr y k,bu noFr z v with
       | some w,some u=>.ok ⟨.any,()⟩ (setM m id (.map k v (putK k w u xs))) none
       | _,_=>.no) .no
     | _=>.no
   | _=>.no
 | _=>.no
structure TFn where
 ps:Ty
 res:Ty
 fn:ps.V→Option res.V
inductive RS where
 | same
 | box (e:Nat) (t:Ty)
 | row (z:Bool) (e:Nat) (t:Ty)
 | iter
 | map (k v:Ty)
 | gone
@[reducible] def jpM:List RS→Type
 | []=>Unit
 | .box _ t::l=>t.V×jpM l
 | .row _ _ t::l=>List t.V×jpM l
 | .iter::l=>Nat×jpM l
 | .map k v::l=>List (k.V×v.V)×jpM l
 | .same::l=>jpM l
 | .gone::l=>jpM l
structure TRaw where
 ps:Ty
 ins:List RS
 res:Ty
 outs:List RS
 fn:ps.V→jpM ins→Option (res.V×jpM outs)
 stay:Bool:=false
structure TNew where
 ps:Ty
 e:Nat
 t:Ty
 fn:ps.V→Option t.V
 row:Bool:=false
 mp:Bool:=false
 pair:Bool:=false
structure TEnv where
 pure:List (Nat×TFn):=[]
 look:List (Nat×TFn):=[]
 glob:List (Nat×TV):=[]
 ty:List (Nat×Ty):=[]
 raw:List (Nat×TRaw):=[]
 fresh:List (Nat×TNew):=[]
structure JP where
 keep:List (Nat×Ty)
 mem:List RS
structure TH where
 joins:List (Nat×JP):=[]
 loops:List (Nat×JP):=[]
 cuts:List (Nat×List (Nat×JP)):=[]
 ro:List Nat:=[]
 news:List (Nat×(Ty×List (Nat×Ty))):=[]
def Ty.triv:Ty→Bool
 | .nilsl=>true
 | .nilp=>true
 | .fn _=>true
 | .undef=>true
 | .any=>true
 | .own _=>true
 | .it _=>true
 | .mp _=>true
 | .bx _ _=>true
 | _=>false
@[reducible] def jpC (b:Bool) (T S:Type):Type:=match b with
 | true=>S
 | false=>T×S
def jpMk {T S:Type}:(b:Bool)→T→S→jpC b T S
 | true,_,y=>y
 | false,x,y=>(x,y)
def ajG {T S:Type}:(b:Bool)→jpC b T S→S
 | true,v=>v
 | false,v=>v.2
def aqx {S:Type}:(t:Ty)→jpC t.triv t.V S→t.V
 | .int _,v=>v.1
 | .bool,v=>v.1
 | .str,v=>v.1
 | .sl _,v=>v.1
 | .agg _,v=>v.1
 | .arr _ _,v=>v.1
 | .tup _,v=>v.1
 | .unit,v=>v.1
 | .cons _ _,v=>v.1
 | .nilsl,_=>()
 | .nilp,_=>()
 | .fn _,_=>()
 | .err,v=>v.1
 | .undef,_=>()
 | .any,_=>()
 | .own _,_=>()
 | .it _,_=>()
 | .mp _,_=>()
 | .bx _ _,_=>()
 | .op _,v=>v.1
 | .ptr _ _,v=>v.1
 | .ba _ _ _ _,v=>v.1
 | .vw _,v=>v.1
 | .rp _ _,v=>v.1
 | .orp _ _,v=>v.1
 | .cl _ _,v=>v.1
@[reducible] def jpS (R:Type):List (Nat×Ty)→Type
 | []=>R
 | (_,t)::l=>jpC t.triv t.V (jpS R l)
abbrev JP.V (j:JP):Type:=jpS (jpM j.mem) j.keep
def muOf:List (Nat×Ty)→TS→List (Nat×Nat)
 | [],_=>[]
 | (k,t)::l,σ=>match t with
   | .own j=>match getT σ k with
     | some w=>match w.t with
       | .own i=>(j,i)::muOf l σ
       | _=>muOf l σ
     | none=>muOf l σ
   | _=>muOf l σ
def muF (l:List (Nat×Nat)) (j:Nat):Nat :=
 match aK l j with
 | some i=>i
 | none=>j
def abs (l:List (Nat×Nat)):Nat→Nat→Bool
 | 0,_=>true
 | j+1,n=>(List.range n).all (fun i=>Nat.beq i j || !(Nat.beq (muF l i) (muF l j)))&&abs l j n
def cfM (l:List (Nat×Nat)) (m:Mem):CF:={ fr:=fun j=>Nat.ble m.length (muF l j),mu:=muF l }
def dw (l:List (Nat×Nat)) (m0 m:Mem):(rs:List RS)→Nat→Option (jpM rs)
 | [],_=>some ()
 | .same::rs,j=>cond (Nat.beq (muF l j) j) (match getM m0 j with
   | .cbox _ _ _=>match getM m j with
     | .cbox _ _ _=>dw l m0 m rs (j+1)
     | _=>none
   | _=>none) none
 | .box e t::rs,j=>match getM m (muF l j) with
   | .box e' t' v=>cond (Nat.beq e e'&&t.isV&&t.okRow&&Nat.beq t.size t'.size) ((bu (cfM l m) ⟨t',v⟩ t).bind fun x=>(dw l m0 m rs (j+1)).map fun y=>(x,y)) none
   | _=>none
 | .row z e t :: rs, j => cond (Nat.ble m.length (muF l j))
     (cond (t.isV&&t.closed&&t.okRow && !(Nat.beq t.size 0)) ((dw l m0 m rs (j+1)).map fun y=>(([]:List t.V),y)) none)
     (match getM m (muF l j) with
      | .row z' e' t' xs=>cond (Nat.beq e e'&&(!z||z')) ((dq (.sl t') xs (.sl t) fun x=>x).bind fun x=>(dw l m0 m rs (j+1)).map fun y=>(x,y)) none
      | _=>none)
 | .iter::rs,j=>cond (Nat.beq (muF l j) j) (match getM m0 j with
   | .iter _ _=>match getM m j with
     | .iter s p=>(dw l m0 m rs (j+1)).map fun y=>(p,y)
     | _=>none
   | _=>none) none
 | .map k v::rs,j=>cond (Nat.beq (muF l j) j) (match getM m j with
   | .map k' v' xs=>(dq (.sl (.cons k' v')) xs (.sl (.cons k v)) fun x=>x).bind fun x=>(dw l m0 m rs (j+1)).map fun y=>(x,y)
   | _=>none) none
 | .gone::rs,j=>dw l m0 m rs (j+1)
def rP (f:CF) {R:Type} (r:Option R):(l:List (Nat×Ty))→TS→Option (jpS R l)
 | [],_=>r
 | (k,t)::l,σ=>(getT σ k).bind fun w=>(bu f w t).bind fun x=>(rP f r l σ).map fun y=>jpMk t.triv x y
def Ty.lows (n:Nat):Ty→Bool
 | .sl t=>t.lows n
 | .agg t=>t.lows n
 | .arr _ t=>t.lows n
 | .tup t=>t.lows n
 | .cons t ts=>t.lows n&&ts.lows n
 | .own i=>Nat.ble (i+1) n
 | .it i=>Nat.ble (i+1) n
 | .mp i=>Nat.ble (i+1) n
 | .bx i _=>Nat.ble (i+1) n
 | .op i=>Nat.ble (i+1) n
 | .ptr i _=>Nat.ble (i+1) n
 | .ba i _ _ _=>Nat.ble (i+1) n
 | .vw i=>Nat.ble (i+1) n
 | .rp t _=>t.lows n
 | .orp t _=>t.lows n
 | .cl _ t=>t.lows n
 | _=>true
def tg (n:Nat):RS→Bool
 | .box _ t=>t.lows n
 | .row _ _ t=>t.lows n
 | _=>true
def JP.ok (j:JP):Bool:=(j.keep.all fun p=>p.2.lows j.mem.length&&p.2.isV)&&j.mem.all (tg j.mem.length)
def JP.enter (j:JP) (m0:Mem) (σ:TS) (m:Mem):Option j.V:=cond (j.ok&&abs (muOf j.keep σ) j.mem.length j.mem.length&&Nat.ble m0.length j.mem.length) (rP (cfM (muOf j.keep σ) m) (dw (muOf j.keep σ) m0 m j.mem 0) j.keep σ) none
def vK {R:Type}:(l:List (Nat×Ty))→jpS R l→TS
 | [],_=>[]
 | (k,t)::l,v=>(k,⟨t,aqx t v⟩)::vK l (ajG t.triv v)
def xq {R:Type}:(l:List (Nat×Ty))→jpS R l→R
 | [],v=>v
 | (k,t)::l,v=>xq l (ajG t.triv v)
def aL (m0:Mem):(rs:List RS)→jpM rs→Nat→Mem
 | [],_,_=>[]
 | .same::rs,v,j=>getM m0 j::aL m0 rs v (j+1)
 | .box e t::rs,v,j=>.box e t v.1::aL m0 rs v.2 (j+1)
 | .row z e t::rs,v,j=>.row z e t v.1::aL m0 rs v.2 (j+1)
 | .iter::rs,v,j=>(match getM m0 j with
   | .iter s _=>.iter s v.1
   | _=>.gone)::aL m0 rs v.2 (j+1)
 | .map k u::rs,v,j=>.map k u v.1::aL m0 rs v.2 (j+1)
 | .gone::rs,v,j=>.gone::aL m0 rs v (j+1)
def asv (p:Nat→Bool) (σ0:TS):TS:=σ0.filter fun q=>p q.1&&(match getT σ0 q.1 with
 | some w=>w.t.still
 | none=>false)
def JP.slots (j:JP) (p:Nat→Bool) (σ0:TS) (v:j.V):TS:=vK j.keep v++asv p σ0
def JP.memo (j:JP) (m0:Mem) (v:j.V):Mem:=aL m0 j.mem (xq j.keep v) 0
def be {A X:Type} (f:A→Option X):A⊕X→Option X
 | .inl v=>f v
 | .inr x=>some x
def ew {A X:Type} (f:A→Option (A⊕X)):Nat→A→Option X
 | 0,_=>none
 | n+1,a=>(f a).bind (be (ew f n))
open Classical in
noncomputable def aJ {A X:Type} (f:A→Option (A⊕X)) (a:A):Option X :=
 if h:∃ n r,ew f n a=some r then ew f h.choose a else none
section
variable (P:Program) (E:Env) (h:Hints) (ET:TEnv) (H:TH)
def bn (σ:TS):Operand→Option TV
 | .tmp t=>getT σ t
 | .const v=>cM (dW v)
 | .global g=>aK ET.glob g
 | .func f=>some ⟨.fn f,()⟩
def jG (σ:TS):List Operand→Option (List TV)
 | []=>some []
 | x::l=>(bn ET σ x).bind fun w=>(jG σ l).map fun ws=>w::ws
def lE (σ:TS):List (Nat×Operand)→Option (List (Nat×TV))
 | []=>some []
 | (i,x)::l=>(bn ET σ x).bind fun w=>(lE σ l).map fun ws=>(i,w)::ws
def w1 (x:Option TV) (f:TV→OR):OR :=
 match x with
 | some w=>f w
 | none=>.no
def optT (σ:TS) (x:Option Operand):Option (Option TV) :=
 match x with
 | none=>some none
 | some x=>(bn ET σ x).map some
def aey (tf:TFn) (l:List TV) (m:Mem):OR :=
 match aS tf.ps l with
 | some v=>.opt tf.res.V (tf.fn v) fun r=>.ok ⟨tf.res,r⟩ m none
 | none=>.no
def Ty.ren (f:Nat→Nat):Ty→Ty
 | .sl t=>.sl (t.ren f)
 | .agg t=>.agg (t.ren f)
 | .arr n t=>.arr n (t.ren f)
 | .tup t=>.tup (t.ren f)
 | .cons t ts=>.cons (t.ren f) (ts.ren f)
 | .own i=>.own (f i)
 | .it i=>.it (f i)
 | .mp i=>.mp (f i)
 | .bx i o=>.bx (f i) o
 | .op i=>.op (f i)
 | .ptr i o=>.ptr (f i) o
 | .ba i o n q=>.ba (f i) o n q
 | .vw i=>.vw (f i)
 | .rp t o=>.rp (t.ren f) o
 | .orp t o=>.orp (t.ren f) o
 | .cl o t=>.cl o (t.ren f)
 | t=>t
def abF:Ty→Ty→List (Nat×Nat)
 | .agg t,.agg u=>abF t u
 | .cons t ts,.cons u us=>abF t u++abF ts us
 | .own a,.own b=>[(a,b)]
 | .bx a _,.bx b _=>[(a,b)]
 | _,_=>[]
def aqy:Ty→List TV→List (Nat×Nat)
 | .cons t ts,w::l=>abF t w.t++aqy ts l
 | _,_=>[]
def rsTy:List RS→Nat→Ty
 | [],_=>.unit
 | .box _ t::_,0=>t
 | _::_,0=>.unit
 | _::l,n+1=>rsTy l n
def hC (tr:TRaw) (l:List TV) (m:Mem):List (Nat×Nat) :=
 let a:=aqy tr.ps l
 a++a.flatMap fun p=>match getM m p.2 with
   | .box _ t _=>abF (rsTy tr.ins p.1) t
   | _=>[]
def d5 (n:Nat):List RS→Bool
 | []=>true
 | .box _ t::l=>t.lows n&&d5 n l
 | .row _ _ t::l=>t.lows n&&d5 n l
 | .gone::l=>d5 n l
 | _=>false
def rr (l:List (Nat×Nat)) (k:Nat):Nat→Bool
 | 0=>true
 | n+1=>Nat.ble (muF l n+1) k&&rr l k n
def rowsOf (l:List (Nat×Nat)):List RS→Nat→List Nat
 | [],_=>[]
 | .row _ _ _::r,j=>muF l j::rowsOf l r (j+1)
 | _::r,j=>rowsOf l r (j+1)
def invF:List (Nat×Nat)→Nat→Nat
 | [],j=>j
 | (a,b)::l,j=>cond (Nat.beq b j) a (invF l j)
def mY (l:List (Nat×Nat)):Reg→Option Reg
 | .box e t v=>(bu { fr:=fun _=>false,mu:=invF l } ⟨t,v⟩ (t.ren (muF l))).map fun x=>.box e (t.ren (muF l)) x
 | .row z e t xs=>some (.row z e t xs)
 | .gone=>some .gone
 | _=>none
def jT (l:List (Nat×Nat)):Mem→Nat→Mem→Option Mem
 | [],_,m=>some m
 | g::gs,j,m=>(mY l g).bind fun g'=>jT l gs (j+1) (setM m (muF l j) g')
def bd (f:CF):(u:Ty)→List TV→Option u.V
 | .cons t ts,w::l=>(bu f w t).bind fun x=>(bd f ts l).map fun y=>(x,y)
 | .unit,[]=>some ()
 | _,_=>none
def abG (l:List (Nat×Nat)):Nat→Bool
 | 0=>true
 | n+1=>Nat.beq (invF l (muF l n)) n&&abG l n
def Ty.free:Ty→Bool
 | .any=>true
 | .tup t=>t.free
 | .cons t ts=>t.free&&ts.free
 | t=>t.closed
def pE:List RS→Bool
 | []=>true
 | .box _ _::l=>pE l
 | .row _ _ _::l=>pE l
 | _=>false
def resB (l:List (Nat×Nat)) (t:Ty) (v:t.V):Option TV :=
 cond t.free (some ⟨t,v⟩) ((bu { fr:=fun _=>false,mu:=invF l } ⟨t,v⟩ (t.ren (muF l))).map fun x=>⟨t.ren (muF l),x⟩)
def rawT (tr:TRaw) (l:List TV) (m:Mem):OR :=
 cond (abG (hC tr l m) tr.ins.length&&rr (hC tr l m) m.length tr.ins.length&&d5 tr.ins.length tr.ins&&d5 tr.ins.length tr.outs&&Nat.beq tr.outs.length tr.ins.length&&(tr.res.free||tr.res.lows tr.ins.length)&&tr.res.isV&&pE tr.ins&&tr.ps.lows tr.ins.length)
   (match dw (hC tr l m) m m tr.ins 0,bd (cfM (hC tr l m) m) tr.ps l with
     | some v,some pv=>match cond tr.stay [] (rowsOf (hC tr l m) tr.ins 0) with
       | []=>.opt (tr.res.V×jpM tr.outs) (tr.fn pv v) fun q=>match jT (hC tr l m) (aL [] tr.outs q.2 0) 0 m,resB (hC tr l m) tr.res q.1 with
         | some m',some w=>.ok w m' none
         | _,_=>.no
       | [k]=>.opt (tr.res.V×jpM tr.outs) (tr.fn pv v) fun q=>match jT (hC tr l m) (aL [] tr.outs q.2 0) 0 (lR k m),resB (hC tr l m) tr.res q.1 with
         | some m',some w=>.ok w m' (some k)
         | _,_=>.no
       | _=>.no
     | _,_=>.no) .no
def abp (e:Nat):(t:Ty)→Option t.V→Mem→OR
 | .sl u,x,m=>cond (u.isV&&u.closed&&u.okRow && !(Nat.beq u.size 0)) (.opt (List u.V) x fun xs=>.ok ⟨.own m.length,()⟩ (m++[.row false e u xs]) none) .no
 | _,_,_=>.no
def abq:(t:Ty)→Option t.V→Mem→OR
 | .sl (.cons k v),x,m=>cond (k.isV&&v.isV&&k.closed&&v.closed) (.opt (List (k.V×v.V)) x fun xs=>.ok ⟨.mp m.length,()⟩ (m++[.map k v xs]) none) .no
 | _,_,_=>.no
def vE (e:Nat):(t:Ty)→Option t.V→Mem→OR
 | .cons (.sl u) rs,x,m=>cond (u.isV&&u.closed&&u.okRow && !(Nat.beq u.size 0)&&rs.closed&&rowV rs) (.opt (List u.V×rs.V) x fun p=>.br p.1.isEmpty (.ok ⟨.tup (.cons .nilp rs),((),p.2)⟩ m none) (.opt u.V p.1.head? fun v=>.ok ⟨.tup (.cons (.bx m.length 0) rs),((),p.2)⟩ (m++[.box e u v]) none)) .no
 | _,_,_=>.no
def ajx (tn:TNew) (l:List TV) (m:Mem):OR :=
 cond tn.pair (match aS tn.ps l with
   | some pv=>vE tn.e tn.t (tn.fn pv) m
   | none=>.no) <|
 cond tn.mp (match aS tn.ps l with
   | some pv=>abq tn.t (tn.fn pv) m
   | none=>.no) <|
 cond tn.row (match aS tn.ps l with
   | some pv=>abp tn.e tn.t (tn.fn pv) m
   | none=>.no) <|
 cond (tn.t.isV&&tn.t.closed&&tn.t.okRow && !(Nat.beq tn.t.size 0)) (match aS tn.ps l with
   | some pv=>.opt tn.t.V (tn.fn pv) fun v=>.ok ⟨.bx m.length 0,()⟩ (m++[.box tn.e tn.t v]) none
   | none=>.no) .no
def Ty.scal:Ty→Bool
 | .int _=>true
 | .bool=>true
 | .str=>true
 | .tup t=>t.scal
 | .cons t ts=>t.scal&&ts.scal
 | .unit=>true
 | _=>false
def ajC (tf:TFn) (l:List TV) (m:Mem):OR :=
 cond tf.res.scal (match bK m tf.ps l with
 | some v=>.opt tf.res.V (tf.fn v) fun r=>.ok ⟨tf.res,r⟩ m none
 | none=>.no) .no
def nilI:Operand→Bool
 | .const v=>match dW v with
   | .niliface=>true
   | _=>false
 | _=>false
def errT (op:BinOp) (t:TypeId) (x:TV) (m:Mem):OR :=
 match x with
 | ⟨.err,v⟩=>match P.underlying t with
   | some (.interface _)=>match op with
     | .eql=>.ok ⟨.bool,!v⟩ m none
     | .neq=>.ok ⟨.bool,v⟩ m none
     | _=>.no
   | _=>.no
 | _=>.no
def tyL:List TV→Ty
 | []=>.unit
 | w::l=>.cons w.t (tyL l)
def valL:(l:List TV)→(tyL l).V
 | []=>()
 | w::l=>(w.v,valL l)
def unL:(t:Ty)→t.V→Option (List TV)
 | .cons t ts,v=>cond t.isV ((unL ts v.2).map fun l=>⟨t,v.1⟩::l) none
 | .unit,_=>some []
 | _,_=>none
def opPT (σ:TS) (m:Mem) (o:Oper):OR :=
 match o.op with
 | .makeFunc (.func f) a c=>match a.toList with
   | []=>match jG ET σ c.toList with
     | some l=>.ok ⟨.cl f (tyL l),valL l⟩ m none
     | none=>.no
   | _=>.no
 | .move x=>ofO m (bn ET σ x)
 | .assign x=>ofO m (bn ET σ x)
 | .pick c a b=>w1 (bn ET σ c) fun c=>w1 (bn ET σ a) fun a=>w1 (bn ET σ b) fun b=>ajt c a b m
 | .binOp op t x y _=>w1 (bn ET σ x) fun x'=>w1 (bn ET σ y) fun y'=>cond (nilI y) (errT P op t x' m) (binT P op t x' y' m)
 | .unOp op _ x=>w1 (bn ET σ x) fun x=>unT op x m
 | .convert src dst x=>w1 (bn ET σ x) fun x=>aj3 P src dst x m
 | .index t x i=>w1 (bn ET σ x) fun x=>w1 (bn ET σ i) fun i=>abM P t x i m
 | .indexAddr t x i=>w1 (bn ET σ x) fun x=>w1 (bn ET σ i) fun i=>idxT P t x i m
 | .fieldAddr s x f=>w1 (bn ET σ x) fun x=>ab3 P s x f m
 | .field s x f=>w1 (bn ET σ x) fun x=>ab1 P s x f m
 | .extract x i=>w1 (bn ET σ x) fun x=>pO x i m
 | .slice t x lo hi mx=>w1 (bn ET σ x) fun x=>match optT ET σ lo,optT ET σ hi,optT ET σ mx with
   | some lo,some hi,some mx=>aaF P t x lo hi mx m
   | _,_,_=>.no
 | .build t parts=>match lE ET σ parts.toList with
   | some ps=>acv P t ps m
   | none=>.no
 | .buildSlice t len parts=>match lE ET σ parts.toList with
   | some ps=>match kE P ET.ty t len ps with
     | some ⟨u,xs⟩=>.ok ⟨.sl u,xs⟩ m none
     | none=>.no
   | none=>.no
 | .nilCheck x=>w1 (bn ET σ x) fun x=>abo x m
 | .load t a=>w1 (bn ET σ a) fun a=>ajD P t a m
 | .call c=>match c.callee with
   | .builtin .len=>match c.args.toList,c.argTypes.toList with
     | [x],[t]=>w1 (bn ET σ x) fun x=>lenT P t x m
     | _,_=>.no
   | .builtin .max=>match jG ET σ c.args.toList with
     | some l=>pj true l m
     | none=>.no
   | .builtin .min=>match jG ET σ c.args.toList with
     | some l=>pj false l m
     | none=>.no
   | .value (.func f)=>match aK ET.pure f with
     | some tf=>match jG ET σ c.args.toList with
       | some l=>aey tf l m
       | none=>.no
     | none=>match aK E.pure f with
       | some _=>.no
       | none=>cond (memN f E.same) (match c.args.toList with
         | [x]=>ofO m (bn ET σ x)
         | _=>.no) .no
   | _=>.no
 | _=>.no
def isRo (o:Oper):Bool :=
 match o.dst with
 | some d=>memN d H.ro
 | none=>false
def xG (t:TypeId) (x:Operand) (w:TV):TV:=cond (isConst x) (ig P t w) w
def opST (σ:TS) (m:Mem) (o:Oper):OR :=
 match o.op with
 | .binOp op t x y _=>w1 (bn ET σ x) fun x=>w1 (bn ET σ y) fun y=>ptrT P op t x y m
 | .convert src dst x=>w1 (bn ET σ x) fun x=>aj4 P src dst x m
 | .buildSlice t len parts=>match lE ET σ parts.toList with
   | some ps=>match kE P ET.ty t len ps with
     | some ⟨u,xs⟩=>cond u.okRow (.ok ⟨.own m.length,()⟩ (m++[.row false (bp P t) u xs]) none) .no
     | none=>.no
   | none=>.no
 | .load t a=>w1 (bn ET σ a) fun a=>loadT P t a m
 | .store t a v=>match o.dst with
   | some _=>.no
   | none=>w1 (bn ET σ a) fun a=>w1 (bn ET σ v) fun w=>storeT P t a (xG P t v w) m
 | .alloc t=>match o.dst.bind (aK H.news) with
   | some q=>newT P t q.1 q.2 m
   | none=>acE P (isRo H o) t m
 | .box t v=>w1 (bn ET σ v) fun w=>boxT P (isRo H o) t (xG P t v w) m
 | .makeSlice t l c=>w1 (bn ET σ l) fun l=>w1 (bn ET σ c) fun c=>ajB P ET.ty t l c m
 | .range t x=>w1 (bn ET σ x) fun x=>aaZ P t x m
 | .next it b=>w1 (bn ET σ it) fun it=>ajw it b m
 | .assign x=>w1 (bn ET σ x) fun x=>pM x m
 | .move x=>w1 (bn ET σ x) fun x=>pM x m
 | .makeMap t r=>pn P ET.ty t r.isNone m
 | .lookup t x y ok=>w1 (bn ET σ x) fun x=>w1 (bn ET σ y) fun y=>pr P t x y ok m
 | .mapUpdate t x y z=>match o.dst with
   | some _=>.no
   | none=>w1 (bn ET σ x) fun x=>w1 (bn ET σ y) fun y=>w1 (bn ET σ z) fun z=>tm P t x y z m
 | .call c=>match c.callee with
   | .builtin .append=>match c.args.toList with
     | [x,y]=>w1 (bn ET σ x) fun x=>w1 (bn ET σ y) fun y=>uu P ET.ty c.argTypes.toList x y m
     | _=>.no
   | .builtin .unsafeSliceData=>match c.args.toList with
     | [x]=>w1 (bn ET σ x) fun x=>ju x m
     | _=>.no
   | .builtin .unsafeString=>match c.args.toList with
     | [x,y]=>w1 (bn ET σ x) fun x=>w1 (bn ET σ y) fun y=>js P c.argTypes.toList x y m
     | _=>.no
   | .builtin .clear=>match c.args.toList with
     | [x]=>w1 (bn ET σ x) fun x=>acp P c.argTypes.toList x m
     | _=>.no
   | .value (.func f)=>match aK ET.look f with
     | some tf=>match jG ET σ c.args.toList with
       | some l=>ajC tf l m
       | none=>.no
     | none=>match aK ET.raw f with
       | some tr=>match jG ET σ c.args.toList with
         | some l=>rawT tr l m
         | none=>.no
       | none=>match aK ET.fresh f with
         | some tn=>match jG ET σ c.args.toList with
           | some l=>ajx tn l m
           | none=>.no
         | none=>.no
   | _=>.no
 | _=>.no
def fnOf (σ:TS) (o:Oper):Option (Nat×List Operand×List TV) :=
 match o.op with
 | .call c=>match c.callee with
   | .value (.func _)=>none
   | .value x=>match bn ET σ x with
     | some ⟨.fn f,_⟩=>some (f,c.args.toList,[])
     | some ⟨.cl f t,v⟩=>(unL t v).map fun l=>(f,c.args.toList,l)
     | _=>none
   | _=>none
 | _=>none
def opT (σ:TS) (m:Mem) (o:Oper):OR :=
 match Nat.beq (cls E h o) 0 with
 | true=>opPT P E ET σ m o
 | false=>match fnOf ET σ o with
   | none=>opST P ET H σ m o
   | some (f,xs,cap)=>match aK E.pure f with
     | none=>.no
     | some _=>match aK ET.pure f with
       | some tf=>match jG ET σ xs with
         | some l=>aey tf (l++cap) m
         | none=>.no
       | none=>.no
def abD (k:Option Nat) (σ:TS):TS :=
 match k with
 | none=>σ
 | some j=>σ.filter fun q=>match getT σ q.1 with
   | some w => !(w.t.names j)
   | none=>false
def adV (d:Option Nat) (w:TV) (σ:TS):TS :=
 match d with
 | some d=>(d,w)::σ
 | none=>σ
def doT {X:Type} (σ:TS) (m:Mem) (o:Oper) (K:TS→Mem→Option X):Option X :=
 (opT P E h ET H σ m o).go fun w m' k=>K (adV o.dst w (abD k σ)) m'
def aaG {X:Type} (σ:TS) (m:Mem) (o:Oper) (K:TS→Mem→Option X):Option X:=K (adV o.dst ⟨.undef,()⟩ σ) m
def stepT {X:Type} (ops:List Oper) (σ:TS) (m:Mem) (o:Oper) (K:TS→Mem→Option X):Option X :=
 match o.guard with
 | none=>doT P E h ET H σ m o K
 | some (j,want)=>match (ops[j]?).bind (·.dst) with
   | some g=>match getT σ g with
     | some ⟨.bool, b⟩ => cond b
         (cond want (doT P E h ET H ((g,⟨.bool,true⟩)::σ) m o K) (aaG ((g,⟨.bool,true⟩)::σ) m o K))
         (cond want (aaG ((g,⟨.bool,false⟩)::σ) m o K) (doT P E h ET H ((g,⟨.bool,false⟩)::σ) m o K))
     | some ⟨.undef,_⟩=>aaG σ m o K
     | _=>none
   | none=>none
def opsT {X:Type} (ops:List Oper):List Oper→TS→Mem→(TS→Mem→Option X)→Option X
 | [],σ,m,K=>K σ m
 | o::os,σ,m,K=>stepT P E h ET H ops σ m o fun σ' m'=>opsT ops os σ' m' K
def j4 (os:List Oper) (k:Nat):Bool:=os.all fun o=>match o.dst with
 | some d => !(Nat.beq d k)
 | none=>true
def cutT {X:Type} (ops:List Oper):List (Nat×JP)→List Oper→TS→Mem→(TS→Mem→Option X)→Option X
 | [],os,σ,m,K=>opsT P E h ET H ops os σ m K
 | (n,j)::cs,os,σ,m,K =>
   (opsT P E h ET H (X:=j.V) ops (os.take n) σ m fun σ' m'=>j.enter m σ' m').bind fun v =>
     cutT ops cs (os.drop n) (j.slots (j4 (os.take n)) σ v) (j.memo m v) K
def stays:Code→Nat→Bool
 | .region id ops _,k=>j4 ops.toList k && !memN k (aem h id)
 | .seq a b,k=>stays a k&&stays b k&&(match aK h.seqs (bb b) with | some _=>false | none=>true)
 | .cond _ a b,k=>stays a k&&stays b k
 | .block _ a,k=>stays a k
 | .loop b,k=>stays b k&&(match aK h.loops (bb b) with
   | some keep=>memN k keep
   | none=>false)
 | _,_=>true
noncomputable def DT:Code→(X:Type)→TS→Mem→(AExit→TS→Mem→Option X)→Option X
 | .skip,_,σ,m,K=>K .normal σ m
 | .region id ops draw,_,σ,m,K=>match frzT (aem h id) σ m with
   | some p=>cond (draw && !mh P E h ops) none (cutT P E h ET H ops.toList ((aK H.cuts id).getD []) ops.toList p.1 p.2 (K .normal))
   | none=>none
 | .seq a b,X,σ,m,K =>
   match aK h.seqs (bb b) with
   | some _=>none
   | none=>match aK H.joins (bb b) with
     | some j => (DT a (j.V ⊕ X) σ m (fun e σ' m' => match e with
         | .normal=>(j.enter m σ' m').map .inl
         | e=>(K e σ' m').map .inr)).bind (be fun v=>DT b X (j.slots (stays h a) σ v) (j.memo m v) K)
     | none => DT a X σ m (fun e σ' m' => match e with
         | .normal=>DT b X σ' m' K
         | e=>K e σ' m')
 | .cond c a b,X,σ,m,K=>match bn ET σ c with
   | some ⟨.bool,t⟩=>cond t (DT a X σ m K) (DT b X σ m K)
   | _=>none
 | .block id b, X, σ, m, K => DT b X σ m (fun e σ' m' => match e with
     | .exit i=>cond (Nat.beq i id) (K .normal σ' m') (K (.exit i) σ' m')
     | e=>K e σ' m')
 | .loop b,X,σ,m,K =>
   match aK h.loops (bb b),aK H.loops (bb b) with
   | some keep, some j => cond (j.keep.all fun p => memN p.1 keep) ((j.enter m σ m).bind fun v0 => aJ (fun v => DT b (j.V ⊕ X) (j.slots (fun k => stays h b k && memN k keep) σ v) (j.memo m v) (fun e σ' m' => match e with
       | .normal=>(j.enter m σ' m').map .inl
       | e=>(K e σ' m').map .inr)) v0) none
   | _,_=>none
 | .exit id,_,σ,m,K=>K (.exit id) σ m
 | .ret,_,σ,m,K=>K .ret σ m
 | _,_,_,_,_=>none
def eO:(t:Ty)→t.V→Nat→TS
 | .cons t ts,v,n=>(n,⟨t,v.1⟩)::eO ts v.2 (n+1)
 | _,_,_=>[]
def rowLen:Ty→Nat
 | .cons _ ts=>rowLen ts+1
 | _=>0
def resT (σ:TS) (m:Mem):List ResultVar→Option (List TV)
 | []=>some []
 | .tmp t::l=>(getT σ t).bind fun w=>(resT σ m l).map fun ws=>w::ws
 | .cell a t::l=>(getT σ a).bind fun w=>match loadT P t w m with
   | .ok x _ _=>(resT σ m l).map fun ws=>x::ws
   | _=>none
def endT (σ:TS) (m:Mem) (rs:List ResultVar) (res:Ty):Option res.V :=
 (resT P σ m rs).bind fun l=>match l,res with
   | [w],res=>bM m w.t w.v res
   | l,.tup u=>bK m u l
   | _,_=>none
noncomputable def runY (fn:Func) (ps res:Ty) (v:ps.V):Option res.V :=
 cond (Nat.beq (rowLen ps) (fn.params.size+fn.nfree)&&rowV ps&&ps.closed&&res.closed&&res.isV&&ct fn.ntmps (fn.body.getD .skip)&&Nat.ble (fn.params.size+fn.nfree) fn.ntmps)
   (match fn.body with
    | some c=>DT P E h ET H c res.V (eO ps v 0) [] (fun e σ m=>match e with
       | .normal=>endT P σ m fn.results.toList res
       | .ret=>endT P σ m fn.results.toList res
       | _=>none)
    | none=>none) none
def akd (l:List TV) (res:Ty):Option res.V :=
 match l,res with
 | [w],res=>bu noFr w res
 | l,.tup u=>aS u l
 | _,_=>none
def aa8 (σ:TS) (k j:Nat):Bool :=
 match getT σ k with
 | some w=>match w.t with
   | .bx i o=>Nat.beq i j&&Nat.beq o 0
   | _=>false
 | none=>false
def sj (σ:TS):List (Nat×Nat)→Bool
 | []=>true
 | (k,j)::l=>aa8 σ k j&&sj σ l
def we (bs:List (Nat×Nat)) (σ:TS) (m:Mem) (rs:List ResultVar) (res:Ty) (outs:List RS):Option (res.V×jpM outs) :=
 cond (sj σ bs) ((resT P σ m rs).bind fun l=>(akd l res).bind fun r=>(dw [] m m outs 0).map fun w=>(r,w)) none
def xA:Ty→Nat→Option Ty
 | .cons t _,0=>some t
 | .cons _ ts,n+1=>xA ts n
 | _,_=>none
def bsOk (c:Code) (ps:Ty):List (Nat×Nat)→Bool
 | []=>true
 | (k,j)::l=>stays h c k&&(match xA ps k with
   | some (.bx i o)=>Nat.beq i j&&Nat.beq o 0
   | _=>false)&&bsOk c ps l
def rD:List (Nat×Nat)→Nat→Bool
 | [],_=>false
 | (_,i)::l,j=>Nat.beq i j||rD l j
def di (bs:List (Nat×Nat)):List RS→List RS→Nat→Bool
 | [],[],_=>true
 | .box _ t::l,g::l',j=>(match g with
   | .box _ u=>Nat.beq t.size u.size&&rD bs j
   | _=>false)&&di bs l l' (j+1)
 | _::l,_::l',j=>di bs l l' (j+1)
 | _,_,_=>false
noncomputable def rawY (bs:List (Nat×Nat)) (fn:Func) (ps:Ty) (ins:List RS) (res:Ty) (outs:List RS) (v:ps.V) (w:jpM ins):Option (res.V×jpM outs) :=
 cond (Nat.beq (rowLen ps) (fn.params.size+fn.nfree)&&rowV ps&&(res.free||res.lows ins.length)&&res.isV&&pE ins&&d5 ins.length ins&&d5 ins.length outs&&Nat.beq outs.length ins.length&&ct fn.ntmps (fn.body.getD .skip)&&Nat.ble (fn.params.size+fn.nfree) fn.ntmps)
   (match fn.body with
    | some c=>cond (bsOk h c ps bs&&di bs ins outs 0) (DT P E h ET H c (res.V×jpM outs) (eO ps v 0) (aL [] ins w 0) (fun e σ m=>match e with
       | .normal=>we P bs σ m fn.results.toList res outs
       | .ret=>we P bs σ m fn.results.toList res outs
       | _=>none)) none
    | none=>none) none
def ae7 (σ:TS) (m:Mem) (rs:List ResultVar) (k v:Ty):Option (List (k.V×v.V)) :=
 match resT P σ m rs with
 | some [⟨.mp j,_⟩]=>match getM m j with
   | .map k' v' xs=>dq (.sl (.cons k' v')) xs (.sl (.cons k v)) fun x=>x
   | _=>none
 | _=>none
def ab7 (σ:TS) (m:Mem) (rs:List ResultVar) (e:Nat) (u r:Ty):Option (List u.V×r.V) :=
 match resT P σ m rs with
 | some (w::x::l)=>(aS r (x::l)).bind fun y=>match w with
   | ⟨.nilp,_⟩=>some ([],y)
   | ⟨.bx j o,_⟩=>match getM m j with
     | .box e' t' v=>cond (Nat.beq o 0&&Nat.beq e e'&&Nat.beq u.size t'.size) ((bu noFr ⟨t',v⟩ u).map fun z=>([z],y)) none
     | _=>none
   | _=>none
 | _=>none
noncomputable def newG {A:Type} (fn:Func) (ps:Ty) (ok:Bool) (fin:TS→Mem→Option A) (v:ps.V):Option A :=
 cond (Nat.beq (rowLen ps) (fn.params.size+fn.nfree)&&rowV ps&&ps.closed&&ok&&ct fn.ntmps (fn.body.getD .skip)&&Nat.ble (fn.params.size+fn.nfree) fn.ntmps)
   (match fn.body with
    | some c=>DT P E h ET H c A (eO ps v 0) [] (fun x σ m=>match x with
       | .normal=>fin σ m
       | .ret=>fin σ m
       | _=>none)
    | none=>none) none
noncomputable def aqu (fn:Func) (ps k u:Ty) (v:ps.V):Option (List (k.V×u.V)):=newG P E h ET H fn ps (k.closed&&u.closed) (fun σ m=>ae7 P σ m fn.results.toList k u) v
noncomputable def aqt (fn:Func) (ps:Ty) (e:Nat) (u r:Ty) (v:ps.V):Option (List u.V×r.V):=newG P E h ET H fn ps (u.closed&&r.closed) (fun σ m=>ab7 P σ m fn.results.toList e u r) v
end
end Go.TY
namespace Go.TY
open Go.EM
section
variable {Γ:Ctx}
theorem j5 {a b:Bool} (h:isB a b=true):a=b:=by cases a<;>cases b<;>first | rfl | cases h
theorem aR:∀ {t:Ty}{v:t.V}{l:List AVal} (c d:Bool),t.isAgg=false→t.isV=true→R Γ t v c l→R Γ t v d l
 | .int k,v,l,c,d,_,_,h=>by simpa only[R] using h
 | .bool,v,l,c,d,_,_,h=>by simpa only[R] using h
 | .str,v,l,c,d,_,_,h=>by simpa only[R] using h
 | .sl t,v,l,c,d,_,_,h=>by simpa only[R] using h
 | .agg t,v,l,c,d,h,_,_=>by cases h
 | .arr n t,v,l,c,d,h,_,_=>by cases h
 | .tup t,v,l,c,d,_,_,h=>by simpa only[R] using h
 | .unit,v,l,c,d,_,h,_=>by cases h
 | .cons t ts,v,l,c,d,_,h,_=>by cases h
 | .nilsl,v,l,c,d,_,_,h=>by simpa only[R] using h
 | .nilp,v,l,c,d,_,_,h=>by simpa only[R] using h
 | .fn f,v,l,c,d,_,_,h=>by simpa only[R] using h
 | .err,v,l,c,d,_,_,h=>by simpa only[R] using h
 | .undef,v,l,c,d,_,_,h=>by simpa only[R] using h
 | .any,v,l,c,d,_,_,h=>by simpa only[R] using h
 | .own id,v,l,c,d,_,_,h=>by simpa only[R] using h
 | .it id,v,l,c,d,_,_,h=>by simpa only[R] using h
 | .mp id,v,l,c,d,_,_,h=>by simpa only[R] using h
 | .bx id off,v,l,c,d,_,_,h=>by simpa only[R] using h
 | .op id,v,l,c,d,_,_,h=>by simpa only[R] using h
 | .ptr id off,v,l,c,d,_,_,h=>by simpa only[R] using h
 | .ba id off en ln,v,l,c,d,_,_,h=>by simpa only[R] using h
 | .vw id,v,l,c,d,_,_,h=>by simpa only[R] using h
 | .rp t off,v,l,c,d,_,_,h=>by simpa only[R] using h
 | .orp t off,v,l,c,d,_,_,h=>by simpa only[R] using h
 | .cl off t,v,l,c,d,_,_,h=>by simpa only[R] using h
theorem gA {t:Ty}{v:t.V}{l:List AVal} (hv:t.isV=true) (h:R Γ t v true l):∃ a,a.cells=l∧R Γ t v false [a]∧(t.isAgg=true→a = .agg l)∧(t.isAgg=false→l=[a]):=by
 cases ha:t.isAgg with
 | true =>
   cases t<;>first | (cases ha; done) | exact ⟨.agg l,rfl,⟨l,rfl,h⟩,fun _=>rfl,fun h=>by cases h⟩
 | false =>
   have h':=aR true false ha hv h
   obtain ⟨a,rfl⟩:=eL hv h'
   refine ⟨a,?_,h',(fun h=>absurd h (by simp)),fun _=>rfl⟩
   have hc:=bO hv h'
   have:=dI hc
   cases t<;>simp only[R] at h'<;>first
     | (cases ha; done)
     | (cases hv; done)
     | (cases h'; rfl)
     | skip
   case sl=>rcases h' with ⟨_,e⟩ | ⟨_,_,_,e,_⟩<;>cases e<;>rfl
   case tup=>obtain ⟨_,e,_⟩:=h'; cases e; rfl
   case any=>obtain ⟨b,e,hb⟩:=h'; cases e; cases a<;>first | rfl | cases hb
   case own=>split at h'<;>first | (cases h'; rfl) | (rcases h' with h' | ⟨_,_,h'⟩<;>cases h'<;>rfl) | exact h'.elim
   case it=>obtain ⟨_,_,e⟩:=h'; cases e; rfl
   case mp=>obtain ⟨_,_,e⟩:=h'; cases e; rfl
   case bx=>obtain ⟨_,_,_,e⟩:=h'; cases e; rfl
   case op=>obtain ⟨_,e,h1⟩:=h'; cases e; rcases h1 with ⟨_,rfl⟩ | ⟨_,_,_,_,rfl⟩<;>rfl
   case orp=>rcases h' with ⟨_,e⟩ | ⟨_,_,_,_,_,_,e⟩<;>cases e<;>rfl
   case ba=>obtain ⟨_,_,_,_,e⟩:=h'; cases e; rfl
   case err=>obtain ⟨_,e,h1⟩:=h'; cases e; rcases h1 with ⟨_,rfl⟩ | ⟨_,_,rfl⟩<;>rfl
   case ptr=>obtain ⟨_,_,_,_,e⟩:=h'; cases e; rfl
   case vw=>obtain ⟨_,_,_,_,e⟩:=h'; cases e; rfl
   case rp=>obtain ⟨_,_,_,_,e⟩:=h'; cases e; rfl
   case cl=>obtain ⟨_,e,_⟩:=h'; cases e; rfl
def iI (cs:List AVal) (off n:Nat) (ag:Bool):Option AVal:=cond ag (cond (Nat.ble (off+n) cs.length) (some (.agg ((cs.drop off).take n))) none) (cs[off]?)
theorem jC {t:Ty}{v:t.V}{l1 l2:List AVal}{n:Nat}{ag:Bool} (hv:t.isV=true) (hn:t.size=n) (ha:ag=t.isAgg) (h:R Γ t v true l1):∃ a,R Γ t v false [a]∧iI (l1++l2) 0 n ag=some a:=by
 obtain ⟨a,hc,hr,h1,h2⟩:=gA hv h
 refine ⟨a,hr,?_⟩
 subst ha
 have hl:=dI h
 cases hb:t.isAgg with
 | true =>
   simp only[iI,cond_true,Nat.zero_add,List.drop_zero]
   have:Nat.ble n (l1++l2).length=true:=by rw[Nat.ble_eq]; simp; omega
   rw[this,cond_true,h1 hb]
   congr 2
   rw[List.take_append_of_le_length (by omega),List.take_of_length_le (by omega)]
 | false =>
   simp only[iI,cond_false]
   rw[h2 hb]; rfl
theorem lD {l1 l2:List AVal}{off n:Nat}{ag:Bool} (h:l1.length≤off):iI (l1++l2) off n ag=iI l2 (off-l1.length) n ag:=by
 unfold iI
 cases ag with
 | true =>
   simp only[cond_true,List.length_append]
   have e:Nat.ble (off+n) (l1.length+l2.length)=Nat.ble (off-l1.length+n) l2.length:=by
     rw[Bool.eq_iff_iff,Nat.ble_eq,Nat.ble_eq]; omega
   rw[e,List.drop_append_of_le_length_or h]
 | false =>
   simp only[cond_false]
   rw[List.getElem?_append_right h]
where
 List.drop_append_of_le_length_or {l1 l2:List AVal}{off:Nat} (h:l1.length≤off):(l1++l2).drop off=l2.drop (off-l1.length):=by
   rw[List.drop_append,List.drop_eq_nil_of_le h,List.nil_append]
theorem nH {l1 l2:List AVal}{off n:Nat}{ag:Bool}{a:AVal} (h:iI l1 off n ag=some a):iI (l1++l2) off n ag=some a:=by
 unfold iI at h ⊢
 cases ag with
 | true =>
   simp only[cond_true] at h ⊢
   cases hb:Nat.ble (off+n) l1.length with
   | false=>rw[hb] at h; cases h
   | true =>
     rw[hb] at h
     rw[Nat.ble_eq] at hb
     have:Nat.ble (off+n) (l1++l2).length=true:=by rw[Nat.ble_eq]; simp; omega
     rw[this,← h]
     simp only[cond_true]
     rw[List.drop_append_of_le_length (by omega),List.take_append_of_le_length (by simp; omega)]
 | false =>
   simp only[cond_false] at h ⊢
   have hlt:off<l1.length:=by
     rcases Nat.lt_or_ge off l1.length with h' | h'
     · exact h'
     · rw[List.getElem?_eq_none h'] at h; cases h
   rw[List.getElem?_append_left hlt]; exact h
theorem vz:∀ {t:Ty}{v:t.V}{cs:List AVal}{off n:Nat}{ag:Bool}{w:TV},R Γ t v true cs→to t v off n ag=some w→w.t.isV=true→∃ a,R Γ w.t w.v false [a]∧iI cs off n ag=some a
 | .cons t ts,v,cs,off,n,ag,w,h,hp,hv=>by
   simp only[R] at h
   obtain ⟨l1,l2,rfl,h1,h2⟩:=h
   have hl:=dI h1
   simp only[to] at hp
   cases hb:Nat.ble (off+1) t.size with
   | true =>
     rw[hb,cond_true] at hp
     cases hc:(Nat.beq off 0&&Nat.beq t.size n&&isB ag t.isAgg) with
     | true =>
       rw[hc,cond_true] at hp
       simp only[Bool.and_eq_true,Nat.beq_eq] at hc
       cases hp
       obtain ⟨⟨rfl,hn⟩,ha⟩:=hc
       exact jC hv hn (j5 ha) h1
     | false =>
       rw[hc,cond_false] at hp
       obtain ⟨a,ha,hp⟩:=vz h1 hp hv
       exact ⟨a,ha,nH hp⟩
   | false =>
     rw[hb,cond_false] at hp
     obtain ⟨a,ha,hp⟩:=vz h2 hp hv
     have hge:l1.length≤off:=by
       rcases Nat.lt_or_ge off t.size with h' | h'
       · have:Nat.ble (off+1) t.size=true:=by rw[Nat.ble_eq]; omega
         rw[this] at hb; cases hb
       · omega
     refine ⟨a,ha,?_⟩
     rw[lD hge,hl]; exact hp
 | .agg t,v,cs,off,n,ag,w,h,hp,hv=>by
   simp only[R] at h
   simp only[to] at hp
   exact vz (t:=t) h hp hv
 | .int k,v,cs,off,n,ag,w,h,hp,hv=>by cases hp
 | .bool,v,cs,off,n,ag,w,h,hp,hv=>by cases hp
 | .str,v,cs,off,n,ag,w,h,hp,hv=>by cases hp
 | .sl t,v,cs,off,n,ag,w,h,hp,hv=>by cases hp
 | .arr _ t,v,cs,off,n,ag,w,h,hp,hv=>by cases hp
 | .tup t,v,cs,off,n,ag,w,h,hp,hv=>by cases hp
 | .unit,v,cs,off,n,ag,w,h,hp,hv=>by cases hp
 | .nilsl,v,cs,off,n,ag,w,h,hp,hv=>by cases hp
 | .nilp,v,cs,off,n,ag,w,h,hp,hv=>by cases hp
 | .fn f,v,cs,off,n,ag,w,h,hp,hv=>by cases hp
 | .err,v,cs,off,n,ag,w,h,hp,hv=>by cases hp
 | .undef,v,cs,off,n,ag,w,h,hp,hv=>by cases hp
 | .any,v,cs,off,n,ag,w,h,hp,hv=>by cases hp
 | .own id,v,cs,off,n,ag,w,h,hp,hv=>by cases hp
 | .it id,v,cs,off,n,ag,w,h,hp,hv=>by cases hp
 | .mp id,v,cs,off,n,ag,w,h,hp,hv=>by cases hp
 | .bx id o,v,cs,off,n,ag,w,h,hp,hv=>by cases hp
 | .op id,v,cs,off,n,ag,w,h,hp,hv=>by cases hp
 | .ptr id o,v,cs,off,n,ag,w,h,hp,hv=>by cases hp
 | .ba id o en ln,v,cs,off,n,ag,w,h,hp,hv=>by cases hp
 | .vw id,v,cs,off,n,ag,w,h,hp,hv=>by cases hp
 | .rp t o,v,cs,off,n,ag,w,h,hp,hv=>by cases hp
 | .orp t o,v,cs,off,n,ag,w,h,hp,hv=>by cases hp
 | .cl o t,v,cs,off,n,ag,w,h,hp,hv=>by cases hp
theorem iL {w0:TV}{cs:List AVal}{off n:Nat}{ag:Bool}{w:TV} (h:R Γ w0.t w0.v true cs) (hp:jE w0 off n ag=some w) (hv:w.t.isV=true):∃ a,R Γ w.t w.v false [a]∧iI cs off n ag=some a:=by
 unfold jE at hp
 cases hc:(Nat.beq off 0&&Nat.beq w0.t.size n&&isB ag w0.t.isAgg) with
 | true =>
   rw[hc,cond_true] at hp
   simp only[Bool.and_eq_true,Nat.beq_eq] at hc
   cases hp
   obtain ⟨⟨rfl,hn⟩,ha⟩:=hc
   have:=jC (l2:=[]) hv hn (j5 ha) h
   simpa using this
 | false =>
   rw[hc,cond_false] at hp
   exact vz h hp hv
theorem gn {P:Program}{ft:TypeId}{w0:TV}{cs:List AVal}{off:Nat}{w:TV} (h:R Γ w0.t w0.v true cs) (hp:mO P ft w0 off=some w):w.t.isV=true∧∃ a,R Γ w.t w.v false [a]∧cS P ft cs off=some a:=by
 unfold mO at hp
 unfold cS
 split at hp
 · rename_i n d hn hd
   simp only[hn,hd]
   rw[Option.bind_eq_some_iff] at hp
   obtain ⟨x,h1,h2⟩:=hp
   cases hv:x.t.isV with
   | false=>rw[hv] at h2; cases h2
   | true =>
     rw[hv] at h2
     cases h2
     obtain ⟨a,ha,hq⟩:=iL h h1 hv
     exact ⟨hv,a,ha,hq⟩
 · cases hp
theorem adR {l1 l2 wc:List AVal} (h:wc.length=l1.length):(l1++l2).take 0++wc++(l1++l2).drop (0+wc.length)=wc++l2:=by
 simp[h]
theorem adQ {l1 l2 wc:List AVal}{off:Nat} (h:off+wc.length≤l1.length):(l1++l2).take off++wc++(l1++l2).drop (off+wc.length)=(l1.take off++wc++l1.drop (off+wc.length))++l2:=by
 rw[List.take_append_of_le_length (by omega),List.drop_append_of_le_length h]
 simp only[List.append_assoc]
theorem aa3 {l1 l2 wc:List AVal}{off:Nat} (h:l1.length≤off):(l1++l2).take off++wc++(l1++l2).drop (off+wc.length)=l1++(l2.take (off-l1.length)++wc++l2.drop (off-l1.length+wc.length)):=by
 rw[List.take_append,List.take_of_length_le h,List.drop_append,List.drop_eq_nil_of_le (by omega),List.nil_append]
 simp only[List.append_assoc]
 congr 4
 omega
structure PutOk (t:Ty) (off:Nat) (w x:TV):Prop where
 size:x.t.size=t.size
 le:off+w.t.size≤t.size
 row:w.t.okRow=true→t.okRow=true→x.t.okRow=true
 agg:x.t.isAgg=t.isAgg
 isV:w.t.isV=true→x.t.isV=t.isV
theorem adS:∀ {t:Ty}{v:t.V}{cs:List AVal}{off:Nat}{w x:TV}{wc:List AVal},R Γ t v true cs→putT t v off w=some x→w.t.isV=true→t.okRow=true→R Γ w.t w.v true wc →
   R Γ x.t x.v true (cs.take off++wc++cs.drop (off+wc.length))∧PutOk t off w x
 | .cons t ts,v,cs,off,w,x,wc,h,hp,hv,hk,hw=>by
   simp only[R] at h
   obtain ⟨l1,l2,rfl,h1,h2⟩:=h
   have hl:=dI h1
   have hlw:=dI hw
   simp only[Ty.okRow,Bool.and_eq_true] at hk
   simp only[putT] at hp
   cases hb:Nat.ble (off+1) t.size with
   | true =>
     rw[hb,cond_true] at hp
     rw[Nat.ble_eq] at hb
     cases hc:(Nat.beq off 0&&Nat.beq t.size w.t.size&&isB w.t.isAgg t.isAgg) with
     | true =>
       rw[hc,cond_true] at hp
       simp only[Bool.and_eq_true,Nat.beq_eq] at hc
       obtain ⟨⟨rfl,hn⟩,ha⟩:=hc
       cases hp
       constructor
       · rw[adR (by omega)]
         exact ⟨wc,l2,rfl,hw,h2⟩
       · exact ⟨by simp only[Ty.size]; omega,by simp only[Ty.size]; omega,fun a b=>by simp only[Ty.okRow,Bool.and_eq_true] at b ⊢; exact ⟨⟨hv,a⟩,b.2⟩,rfl,fun _=>rfl⟩
     | false =>
       rw[hc,cond_false,Option.map_eq_some_iff] at hp
       obtain ⟨y,hy,rfl⟩:=hp
       obtain ⟨g1,g2⟩:=adS h1 hy hv hk.1.2 hw
       have hle:=g2.le
       constructor
       · rw[adQ (by omega)]
         exact ⟨_,l2,rfl,g1,h2⟩
       · exact ⟨by simp only [Ty.size, g2.size], by simp only [Ty.size]; omega, fun a b => by
           simp only[Ty.okRow,Bool.and_eq_true] at b ⊢
           exact ⟨⟨(g2.isV hv).trans b.1.1,g2.row a b.1.2⟩,b.2⟩,rfl,fun _=>rfl⟩
   | false =>
     rw[hb,cond_false,Option.map_eq_some_iff] at hp
     obtain ⟨y,hy,rfl⟩:=hp
     have hge:t.size≤off:=by
       rcases Nat.lt_or_ge off t.size with h' | h'
       · have:Nat.ble (off+1) t.size=true:=by rw[Nat.ble_eq]; omega
         rw[this] at hb; cases hb
       · exact h'
     obtain ⟨g1,g2⟩:=adS h2 hy hv hk.2 hw
     have hle:=g2.le
     constructor
     · rw[aa3 (by omega),hl]
       exact ⟨l1,_,rfl,h1,g1⟩
     · exact ⟨by simp only [Ty.size, g2.size], by simp only [Ty.size]; omega, fun a b => by
         simp only[Ty.okRow,Bool.and_eq_true] at b ⊢
         exact ⟨b.1,g2.row a b.2⟩,rfl,fun _=>rfl⟩
 | .agg t,v,cs,off,w,x,wc,h,hp,hv,hk,hw=>by
   simp only[R] at h
   simp only[Ty.okRow,Bool.and_eq_true] at hk
   simp only[putT,Option.map_eq_some_iff] at hp
   obtain ⟨y,hy,rfl⟩:=hp
   obtain ⟨g1,g2⟩:=adS (t:=t) h hy hv hk.2 hw
   refine ⟨g1,⟨g2.size,g2.le,fun a b => ?_,rfl,fun _=>rfl⟩⟩
   simp only[Ty.okRow,Bool.and_eq_true] at b ⊢
   exact ⟨by rw[g2.isV hv]; exact b.1,g2.row a b.2⟩
 | .int k,v,cs,off,w,x,wc,h,hp,_,_,hw=>by cases hp
 | .bool,v,cs,off,w,x,wc,h,hp,_,_,hw=>by cases hp
 | .str,v,cs,off,w,x,wc,h,hp,_,_,hw=>by cases hp
 | .sl t,v,cs,off,w,x,wc,h,hp,_,_,hw=>by cases hp
 | .arr _ t,v,cs,off,w,x,wc,h,hp,_,_,hw=>by cases hp
 | .tup t,v,cs,off,w,x,wc,h,hp,_,_,hw=>by cases hp
 | .unit,v,cs,off,w,x,wc,h,hp,_,_,hw=>by cases hp
 | .nilsl,v,cs,off,w,x,wc,h,hp,_,_,hw=>by cases hp
 | .nilp,v,cs,off,w,x,wc,h,hp,_,_,hw=>by cases hp
 | .fn f,v,cs,off,w,x,wc,h,hp,_,_,hw=>by cases hp
 | .err,v,cs,off,w,x,wc,h,hp,_,_,hw=>by cases hp
 | .undef,v,cs,off,w,x,wc,h,hp,_,_,hw=>by cases hp
 | .any,v,cs,off,w,x,wc,h,hp,_,_,hw=>by cases hp
 | .own id,v,cs,off,w,x,wc,h,hp,_,_,hw=>by cases hp
 | .it id,v,cs,off,w,x,wc,h,hp,_,_,hw=>by cases hp
 | .mp id,v,cs,off,w,x,wc,h,hp,_,_,hw=>by cases hp
 | .bx id o,v,cs,off,w,x,wc,h,hp,_,_,hw=>by cases hp
 | .op id,v,cs,off,w,x,wc,h,hp,_,_,hw=>by cases hp
 | .ptr id o,v,cs,off,w,x,wc,h,hp,_,_,hw=>by cases hp
 | .ba id o en ln,v,cs,off,w,x,wc,h,hp,_,_,hw=>by cases hp
 | .vw id,v,cs,off,w,x,wc,h,hp,_,_,hw=>by cases hp
 | .rp t o,v,cs,off,w,x,wc,h,hp,_,_,hw=>by cases hp
 | .orp t o,v,cs,off,w,x,wc,h,hp,_,_,hw=>by cases hp
 | .cl o t,v,cs,off,w,x,wc,h,hp,_,_,hw=>by cases hp
theorem kv {u w x:TV}{a b:AVal}{off:Nat} (hu:R Γ u.t u.v false [a]) (huv:u.t.isV=true) (huk:u.t.okRow=true) (hw:R Γ w.t w.v false [b]) (hv:w.t.isV=true) (hp:nF u off w=some x) :
   R Γ x.t x.v false [putCells a off b]∧x.t.isV=true∧(w.t.okRow=true→x.t.okRow=true)∧x.t.size=u.t.size∧off+b.cells.length≤a.cells.length∧(a.isAgg=true∨b.isAgg=false):=by
 have hca:=bO huv hu
 have hcb:=bO hv hw
 have hla:=dI hca
 have hlb:=dI hcb
 have haa:=acL huv hu
 have hab:=acL hv hw
 unfold nF at hp
 cases hc:(Nat.beq off 0&&Nat.beq u.t.size w.t.size&&isB w.t.isAgg u.t.isAgg) with
 | true =>
   rw[hc,cond_true] at hp
   simp only[Bool.and_eq_true,Nat.beq_eq] at hc
   obtain ⟨⟨rfl,hn⟩,ha⟩:=hc
   cases hp
   have ha:=j5 ha
   have hpc:putCells a 0 b=b:=by
     unfold putCells
     cases a with
     | agg cs =>
       simp only[List.take_zero,List.nil_append,Nat.zero_add]
       have hd:cs.drop b.cells.length=[]:=List.drop_eq_nil_of_le (by simp only[AVal.cells] at hla; omega)
       simp only[hd,List.append_nil]
       have:b.isAgg=true:=by rw[← hab,ha,haa]; rfl
       cases b<;>first | rfl | cases this
     | _=>rfl
   rw[hpc]
   refine ⟨hw,hv,fun h=>h,by omega,by omega,?_⟩
   cases hb:b.isAgg with
   | true=>left; rw[← haa,← ha,hab,hb]
   | false=>right; rfl
 | false =>
   rw[hc,cond_false] at hp
   cases hg:u.t.isAgg with
   | false=>rw[hg] at hp; cases hp
   | true =>
     rw[hg,cond_true] at hp
     obtain ⟨t,v⟩:=u
     cases t<;>try (first | (cases hg; done) | (cases hp; done))
     rename_i t
     simp only[R] at hu
     obtain ⟨cs,e,hu⟩:=hu
     cases e
     obtain ⟨g1,g2⟩:=adS (t:=.agg t) (v:=v) (cs:=cs) hu hp hv huk hcb
     have hagg:=g2.agg
     have hxv:x.t.isV=true:=by have:=g2.isV hv; rw[this]; rfl
     have hxa:x.t.isAgg=true:=hagg
     refine ⟨?_,hxv,fun h=>g2.row h huk,g2.size,?_,.inl rfl⟩
     · obtain ⟨xt,xv⟩:=x
       cases xt<;>first | (cases hxa; done) | exact ⟨_,rfl,g1⟩
     · have:=g2.le
       have hz:(AVal.agg cs).cells=cs:=rfl
       rw[hz] at hla ⊢
       rw[hlb,hla]; exact this
end
end Go.TY
