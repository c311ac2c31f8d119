import Derived.Test.YtmklghkhfimfgaaGreatDoorT2
set_option linter.unusedVariables false
set_option linter.unusedSimpArgs false
namespace Go.TY
open Go.EM
structure Moved (f:CF) (p:Nat→Prop) (Γ Γ':Ctx):Prop where
 mu:∀ j,p j→∀ y,Γ (f.mu j)=some y→Γ' j=some y
 fr:∀ j,p j→f.fr j=true→∃ b,Γ' j=some (.inl b)
theorem Moved.no {p:Nat→Prop}{Γ:Ctx}:Moved noFr p Γ Γ:=⟨fun j _ y h=>h,fun j _ h=>by cases h⟩
theorem cG:∀ {u:Ty}{mu:Nat→Nat}{j:Nat},u.fixed mu=true→u.names j=true→mu j=j
 | .sl t,mu,j,h,k=>cG (u:=t) h k
 | .agg t,mu,j,h,k=>cG (u:=t) h k
 | .arr _ t,mu,j,h,k=>cG (u:=t) h k
 | .tup t,mu,j,h,k=>cG (u:=t) h k
 | .rp t _,mu,j,h,k=>cG (u:=t) h k
 | .orp t _,mu,j,h,k=>cG (u:=t) h k
 | .cl _ t,mu,j,h,k=>cG (u:=t) h k
 | .cons t ts,mu,j,h,k=>by
   simp only[Ty.fixed,Ty.names,Bool.and_eq_true,Bool.or_eq_true] at h k
   rcases k with k | k
   · exact cG h.1 k
   · exact cG h.2 k
 | .own i,mu,j,h,k=>by simp only[Ty.fixed,Ty.names,Nat.beq_eq] at h k; subst k; exact h
 | .it i,mu,j,h,k=>by simp only[Ty.fixed,Ty.names,Nat.beq_eq] at h k; subst k; exact h
 | .mp i,mu,j,h,k=>by simp only[Ty.fixed,Ty.names,Nat.beq_eq] at h k; subst k; exact h
 | .bx i _,mu,j,h,k=>by simp only[Ty.fixed,Ty.names,Nat.beq_eq] at h k; subst k; exact h
 | .op i,mu,j,h,k=>by simp only[Ty.fixed,Ty.names,Nat.beq_eq] at h k; subst k; exact h
 | .ptr i _,mu,j,h,k=>by simp only[Ty.fixed,Ty.names,Nat.beq_eq] at h k; subst k; exact h
 | .ba i _ _ _,mu,j,h,k=>by simp only[Ty.fixed,Ty.names,Nat.beq_eq] at h k; subst k; exact h
 | .vw i,mu,j,h,k=>by simp only[Ty.fixed,Ty.names,Nat.beq_eq] at h k; subst k; exact h
 | .int _,mu,j,h,k=>by cases k
 | .bool,mu,j,h,k=>by cases k
 | .str,mu,j,h,k=>by cases k
 | .unit,mu,j,h,k=>by cases k
 | .nilsl,mu,j,h,k=>by cases k
 | .nilp,mu,j,h,k=>by cases k
 | .fn f,mu,j,h,k=>by cases k
 | .err,mu,j,h,k=>by cases k
 | .undef,mu,j,h,k=>by cases k
 | .any,mu,j,h,k=>by cases k
section
variable {f:CF}{p:Nat→Prop}{Γ Γ':Ctx}
theorem uC {w:TV}{u:Ty}{x:u.V}{c:Bool}{l:List AVal} (hm:Moved f p Γ Γ') (hp:∀ j,u.names j=true→p j) (hf:u.fixed f.mu=true) (h:dM w.t w.v u (fun x=>x)=some x) (hr:R Γ w.t w.v c l):R Γ' u x c l:=by
 obtain ⟨t,v⟩:=w
 obtain ⟨e,hx⟩:=bh h
 simp only at e
 subst e
 subst hx
 refine bC (fun j y hj hy=>hm.mu j (hp j hj) y ?_) hr
 rw[cG hf hj]; exact hy
theorem ki {w:TV}{u:Ty}{x:u.V}{c:Bool}{l:List AVal} (hm:Moved f p Γ Γ') (hp:∀ j,u.names j=true→p j) (h:nd f w u=some x) (hr:R Γ w.t w.v c l):R Γ' u x c l:=by
 unfold nd at h
 cases hf:u.fixed f.mu with
 | false=>rw[hf] at h; cases h
 | true=>rw[hf] at h; exact uC hm hp hf h hr
theorem pk {w:TV}{u:Ty}{x:u.V}{a:AVal} (hm:Moved f p Γ Γ') (hp:∀ j,u.names j=true→p j) (hw:w.t.isAgg=false) (hwv:w.t.isV=true) (h:nS f w u=some x) (hr:R Γ w.t w.v false [a]):R Γ' u x false [a]:=by
 unfold nS at h
 split at h
 · rename_i t
   split at h
   · rename_i ht
     obtain ⟨wt,wv⟩:=w
     simp only at ht
     subst ht
     cases h
     simp only[R] at hr ⊢
     cases hr; refine .inl ⟨?_,?_⟩<;>first | trivial | rfl
   · exact ki hm hp h hr
 · rename_i id
   split at h
   · rename_i ht
     obtain ⟨wt,wv⟩:=w
     simp only at ht
     subst ht
     cases hf:f.fr id with
     | false=>rw[hf] at h; cases h
     | true =>
       simp only[R] at hr ⊢
       obtain ⟨b,hb⟩:=hm.fr id (hp id (by simp[Ty.names])) hf
       rw[hb]
       exact .inl hr
   · rename_i k ht
     obtain ⟨wt,wv⟩:=w
     simp only at ht
     subst ht
     cases hk:Nat.beq (f.mu id) k with
     | false=>rw[hk] at h; cases h
     | true =>
       rw[Nat.beq_eq] at hk
       simp only[R] at hr ⊢
       cases hg:Γ k with
       | none=>rw[hg] at hr; exact hr.elim
       | some y =>
         rw[hg] at hr
         rw[hm.mu id (hp id (by simp[Ty.names])) y (by rw[hk]; exact hg)]
         exact hr
   · cases h
 · cases hc:w.t.isCell with
   | false=>rw[hc] at h; cases h
   | true =>
     simp only[R]
     refine ⟨a,rfl,?_⟩
     have h1:=adQ false true hc hr
     have h2:w.t.okRow=true:=by
       cases hwt:w.t<;>rw[hwt] at hc hw<;>first | rfl | cases hc | cases hw
     have:=dW h2 h1
     simpa using this
 · rename_i id
   split at h
   · cases h
     simp only[R] at hr ⊢
     cases hr
     exact ⟨_,rfl,.inl ⟨by first | rfl | trivial,rfl⟩⟩
   · rename_i k off _
     cases hk:(Nat.beq (f.mu id) k&&Nat.beq off 0) with
     | false=>rw[hk] at h; cases h
     | true =>
       rw[hk] at h; cases h
       simp only[Bool.and_eq_true,Nat.beq_eq] at hk
       simp only[R] at hr ⊢
       obtain ⟨r,n,h1,h2⟩:=hr
       cases h2
       exact ⟨_,rfl,.inr ⟨by first | rfl | trivial,r,n,hm.mu id (hp id (by simp[Ty.names])) _ (by rw[hk.1]; exact h1),by rw[hk.2]⟩⟩
   · rename_i k v
     cases hk:Nat.beq (f.mu id) k with
     | false=>rw[hk] at h; cases h
     | true =>
       rw[hk] at h; cases h
       rw[Nat.beq_eq] at hk
       simp only[R] at hr ⊢
       obtain ⟨b,h1,h2⟩:=hr
       refine ⟨b,h1,?_⟩
       rcases h2 with h2 | ⟨h2,r,n,h3,h4⟩
       · exact .inl h2
       · exact .inr ⟨h2,r,n,hm.mu id (hp id (by simp[Ty.names])) _ (by rw[hk]; exact h3),h4⟩
   · cases h
 · rename_i id off
   split at h
   · rename_i k o _
     cases hk:(Nat.beq (f.mu id) k&&Nat.beq off o) with
     | false=>rw[hk] at h; cases h
     | true =>
       rw[hk] at h; cases h
       simp only[Bool.and_eq_true,Nat.beq_eq] at hk
       simp only[R] at hr ⊢
       obtain ⟨r,n,h1,h2⟩:=hr
       exact ⟨r,n,hm.mu id (hp id (by simp[Ty.names])) _ (by rw[hk.1]; exact h1),by rw[hk.2]; exact h2⟩
   · cases h
 · rename_i id off n len
   split at h
   · rename_i k o _
     cases hk:(Nat.beq (f.mu id) k&&Nat.ble off o&&Nat.beq n 1) with
     | false=>rw[hk] at h; cases h
     | true =>
       rw[hk] at h; cases h
       simp only[Bool.and_eq_true,Nat.beq_eq,Nat.ble_eq] at hk
       obtain ⟨⟨h1,h2⟩,h3⟩:=hk
       subst h3
       simp only[R] at hr ⊢
       obtain ⟨r,q,g1,g2⟩:=hr
       exact ⟨r,q,1,hm.mu id (hp id (by simp[Ty.names])) _ (by rw[h1]; exact g1),by rw[g2,Nat.mul_one,Nat.add_sub_cancel' h2]⟩
   · exact ki hm hp h hr
 · rename_i t off
   split at h
   · cases h
     simp only[R] at hr ⊢
     exact .inl ⟨by first | rfl | trivial,hr⟩
   · rename_i u o v
     cases hk:(Nat.beq o off&&t.fixed f.mu) with
     | false=>rw[hk] at h; cases h
     | true =>
       rw[hk,cond_true] at h
       simp only[Bool.and_eq_true,Nat.beq_eq] at hk
       obtain ⟨e,hx⟩:=bh h
       subst e
       subst hx
       rw[hk.1] at hr
       have h2:R Γ' (.rp u off) v false [a]:=bC (fun j y hj hy=>hm.mu j (hp j (by simpa only[Ty.names] using hj)) y (by rw[cG hk.2 (by simpa only[Ty.names] using hj)]; exact hy)) hr
       simp only[R] at h2 ⊢
       obtain ⟨b,rest,h3,h4,h5⟩:=h2
       exact .inr ⟨v,b,rest,by first | rfl | trivial,h3,h4,h5⟩
   · exact ki hm hp h hr
 · exact ki hm hp h hr
def jj (Γ:Ctx) (l:List TV) (cs:List AVal):Prop:=All2 (fun w a=>w.t.isAgg=false∧w.t.isV=true∧R Γ w.t w.v false [a]) l cs
theorem iX:∀ {t:Ty}{v:t.V}{cs:List AVal},R Γ t v true cs→jj Γ (j5 t v) cs
 | .cons t ts,v,cs,h=>by
   simp only[R] at h
   obtain ⟨l1,l2,rfl,h1,h2⟩:=h
   exact cH (iX h1) (iX h2)
 | .unit,v,cs,h=>by simp only[R] at h; subst h; trivial
 | .agg t,v,cs,h=>by simp only[R] at h; exact iX (t:=t) h
 | .arr n t,v,cs,h=>by
   simp only[R] at h
   obtain ⟨_,ls,rfl,h⟩:=h
   have:∀ (v:List t.V) (ls:List (List AVal)),All2 (fun x c=>R Γ t x true c) v ls→jj Γ (v.flatMap (j5 t)) ls.flatten:=by
     intro v
     induction v with
     | nil=>intro ls h; cases ls with | nil=>trivial | cons _ _=>exact h.elim
     | cons x v ih =>
       intro ls h
       cases ls with
       | nil=>exact h.elim
       | cons c ls=>rw[List.flatten_cons,List.flatMap_cons]; exact cH (iX h.1) (ih ls h.2)
   exact this v ls h
 | .int k,v,cs,h=>by have h':=h; simp only[R] at h'; subst h'; exact ⟨⟨rfl,rfl,aQ true false rfl rfl h⟩,trivial⟩
 | .bool,v,cs,h=>by have h':=h; simp only[R] at h'; subst h'; exact ⟨⟨rfl,rfl,aQ true false rfl rfl h⟩,trivial⟩
 | .str,v,cs,h=>by have h':=h; simp only[R] at h'; subst h'; exact ⟨⟨rfl,rfl,aQ true false rfl rfl h⟩,trivial⟩
 | .sl t,v,cs,h=>by
   obtain ⟨a,rfl⟩:=eE (t:=.sl t) rfl (aQ true false rfl rfl h)
   exact ⟨⟨rfl,rfl,aQ true false rfl rfl h⟩,trivial⟩
 | .tup t,v,cs,h=>by
   obtain ⟨a,rfl⟩:=eE (t:=.tup t) rfl (aQ true false rfl rfl h)
   exact ⟨⟨rfl,rfl,aQ true false rfl rfl h⟩,trivial⟩
 | .nilsl,v,cs,h=>by have h':=h; simp only[R] at h'; subst h'; exact ⟨⟨rfl,rfl,aQ true false rfl rfl h⟩,trivial⟩
 | .nilp,v,cs,h=>by have h':=h; simp only[R] at h'; subst h'; exact ⟨⟨rfl,rfl,aQ true false rfl rfl h⟩,trivial⟩
 | .fn f,v,cs,h=>by have h':=h; simp only[R] at h'; subst h'; exact ⟨⟨rfl,rfl,aQ true false rfl rfl h⟩,trivial⟩
 | .err,v,cs,h=>by
   obtain ⟨a,rfl⟩:=eE (t:=.err) rfl (aQ true false rfl rfl h)
   exact ⟨⟨rfl,rfl,aQ true false rfl rfl h⟩,trivial⟩
 | .undef,v,cs,h=>by have h':=h; simp only[R] at h'; subst h'; exact ⟨⟨rfl,rfl,aQ true false rfl rfl h⟩,trivial⟩
 | .any,v,cs,h=>by
   obtain ⟨a,rfl⟩:=eE (t:=.any) rfl (aQ true false rfl rfl h)
   exact ⟨⟨rfl,rfl,aQ true false rfl rfl h⟩,trivial⟩
 | .own id,v,cs,h=>by
   obtain ⟨a,rfl⟩:=eE (t:=.own id) rfl (aQ true false rfl rfl h)
   exact ⟨⟨rfl,rfl,aQ true false rfl rfl h⟩,trivial⟩
 | .it id,v,cs,h=>by
   obtain ⟨a,rfl⟩:=eE (t:=.it id) rfl (aQ true false rfl rfl h)
   exact ⟨⟨rfl,rfl,aQ true false rfl rfl h⟩,trivial⟩
 | .mp id,v,cs,h=>by
   obtain ⟨a,rfl⟩:=eE (t:=.mp id) rfl (aQ true false rfl rfl h)
   exact ⟨⟨rfl,rfl,aQ true false rfl rfl h⟩,trivial⟩
 | .bx id o,v,cs,h=>by
   obtain ⟨a,rfl⟩:=eE (t:=.bx id o) rfl (aQ true false rfl rfl h)
   exact ⟨⟨rfl,rfl,aQ true false rfl rfl h⟩,trivial⟩
 | .op id,v,cs,h=>by
   obtain ⟨a,rfl⟩:=eE (t:=.op id) rfl (aQ true false rfl rfl h)
   exact ⟨⟨rfl,rfl,aQ true false rfl rfl h⟩,trivial⟩
 | .ptr id o,v,cs,h=>by
   obtain ⟨a,rfl⟩:=eE (t:=.ptr id o) rfl (aQ true false rfl rfl h)
   exact ⟨⟨rfl,rfl,aQ true false rfl rfl h⟩,trivial⟩
 | .ba id o en ln,v,cs,h=>by
   obtain ⟨a,rfl⟩:=eE (t:=.ba id o en ln) rfl (aQ true false rfl rfl h)
   exact ⟨⟨rfl,rfl,aQ true false rfl rfl h⟩,trivial⟩
 | .vw id,v,cs,h=>by
   obtain ⟨a,rfl⟩:=eE (t:=.vw id) rfl (aQ true false rfl rfl h)
   exact ⟨⟨rfl,rfl,aQ true false rfl rfl h⟩,trivial⟩
 | .rp t o,v,cs,h=>by
   obtain ⟨a,rfl⟩:=eE (t:=.rp t o) rfl (aQ true false rfl rfl h)
   exact ⟨⟨rfl,rfl,aQ true false rfl rfl h⟩,trivial⟩
 | .orp t o,v,cs,h=>by
   obtain ⟨a,rfl⟩:=eE (t:=.orp t o) rfl (aQ true false rfl rfl h)
   exact ⟨⟨rfl,rfl,aQ true false rfl rfl h⟩,trivial⟩
 | .cl o t,v,cs,h=>by
   obtain ⟨a,rfl⟩:=eE (t:=.cl o t) rfl (aQ true false rfl rfl h)
   exact ⟨⟨rfl,rfl,aQ true false rfl rfl h⟩,trivial⟩
theorem ql {u:Ty} (h1:u.isAgg=false) (h2:u.isV=true) {l:List TV}{x:u.V}{rest:List TV} (h:cL f u l=some (x,rest)):∃ w,l=w::rest∧nS f w u=some x:=by
 cases u<;>first | (cases h1; done) | (cases h2; done) | skip
 all_goals
   cases l with
   | nil=>simp[cL] at h
   | cons w l =>
     simp only[cL,Option.map_eq_some_iff] at h
     obtain ⟨y,hy,e⟩:=h
     cases e
     exact ⟨w,rfl,hy⟩
theorem f8 (hm:Moved f p Γ Γ'):∀ {u:Ty}{l:List TV}{x:u.V}{rest:List TV}{cs:List AVal},(∀ j,u.names j=true→p j)→cL f u l=some (x,rest)→jj Γ l cs→∃ c1 c2,cs=c1++c2∧R Γ' u x true c1∧jj Γ rest c2
 | .cons t ts,l,x,rest,cs,hp,h,hr=>by
   simp only[cL,Option.bind_eq_some_iff,Option.map_eq_some_iff] at h
   obtain ⟨⟨y,l1⟩,h1,⟨z,l2⟩,h2,e⟩:=h
   cases e
   obtain ⟨c1,c2,rfl,g1,g2⟩:=f8 hm (fun j hj=>hp j (by simp[Ty.names,hj])) h1 hr
   obtain ⟨d1,d2,rfl,k1,k2⟩:=f8 hm (fun j hj=>hp j (by simp[Ty.names,hj])) h2 g2
   exact ⟨c1++d1,d2,by simp,⟨c1,d1,rfl,g1,k1⟩,k2⟩
 | .unit,l,x,rest,cs,hp,h,hr=>by
   simp only[cL] at h
   cases h
   exact ⟨[],cs,rfl,by simp[R],hr⟩
 | .agg t,l,x,rest,cs,hp,h,hr=>by
   simp only[cL] at h
   exact f8 (u:=t) hm hp h hr
 | .arr n t,l,x,rest,cs,hp,h,hr=>by
   simp only[cL] at h
   have:∀ (n:Nat) (l:List TV) (xs:List t.V) (rest:List TV) (cs:List AVal),ofN (cL f t) n l=some (xs,rest)→jj Γ l cs→xs.length=n∧∃ ls c2,cs=List.flatten ls++c2∧All2 (fun x c=>R Γ' t x true c) xs ls∧jj Γ rest c2:=by
     intro n
     induction n with
     | zero=>intro l xs rest cs h hr; simp only[ofN] at h; cases h; exact ⟨rfl,[],cs,rfl,trivial,hr⟩
     | succ n ih =>
       intro l xs rest cs h hr
       simp only[ofN,Option.bind_eq_some_iff,Option.map_eq_some_iff] at h
       obtain ⟨⟨y,l1⟩,h1,⟨ys,l2⟩,h2,e⟩:=h
       cases e
       obtain ⟨c1,c2,rfl,g1,g2⟩:=f8 (u:=t) hm hp h1 hr
       obtain ⟨k0,ls,c3,rfl,k1,k2⟩:=ih _ _ _ _ h2 g2
       exact ⟨by simp[k0],c1::ls,c3,by simp,⟨g1,k1⟩,k2⟩
   obtain ⟨k0,ls,c2,rfl,k1,k2⟩:=this n l x rest cs h hr
   exact ⟨ls.flatten,c2,rfl,⟨k0,ls,rfl,k1⟩,k2⟩
 | .int k,l,x,rest,cs,hp,h,hr=>leaf (.int k) rfl rfl hm hp h hr
 | .bool,l,x,rest,cs,hp,h,hr=>leaf .bool rfl rfl hm hp h hr
 | .str,l,x,rest,cs,hp,h,hr=>leaf .str rfl rfl hm hp h hr
 | .sl t,l,x,rest,cs,hp,h,hr=>leaf (.sl t) rfl rfl hm hp h hr
 | .tup t,l,x,rest,cs,hp,h,hr=>leaf (.tup t) rfl rfl hm hp h hr
 | .nilsl,l,x,rest,cs,hp,h,hr=>leaf .nilsl rfl rfl hm hp h hr
 | .nilp,l,x,rest,cs,hp,h,hr=>leaf .nilp rfl rfl hm hp h hr
 | .fn f,l,x,rest,cs,hp,h,hr=>leaf (.fn f) rfl rfl hm hp h hr
 | .err,l,x,rest,cs,hp,h,hr=>leaf .err rfl rfl hm hp h hr
 | .undef,l,x,rest,cs,hp,h,hr=>leaf .undef rfl rfl hm hp h hr
 | .any,l,x,rest,cs,hp,h,hr=>leaf .any rfl rfl hm hp h hr
 | .own id,l,x,rest,cs,hp,h,hr=>leaf (.own id) rfl rfl hm hp h hr
 | .it id,l,x,rest,cs,hp,h,hr=>leaf (.it id) rfl rfl hm hp h hr
 | .mp id,l,x,rest,cs,hp,h,hr=>leaf (.mp id) rfl rfl hm hp h hr
 | .bx id o,l,x,rest,cs,hp,h,hr=>leaf (.bx id o) rfl rfl hm hp h hr
 | .op id,l,x,rest,cs,hp,h,hr=>leaf (.op id) rfl rfl hm hp h hr
 | .ptr id o,l,x,rest,cs,hp,h,hr=>leaf (.ptr id o) rfl rfl hm hp h hr
 | .ba id o en ln,l,x,rest,cs,hp,h,hr=>leaf (.ba id o en ln) rfl rfl hm hp h hr
 | .vw id,l,x,rest,cs,hp,h,hr=>leaf (.vw id) rfl rfl hm hp h hr
 | .rp t o,l,x,rest,cs,hp,h,hr=>leaf (.rp t o) rfl rfl hm hp h hr
 | .orp t o,l,x,rest,cs,hp,h,hr=>leaf (.orp t o) rfl rfl hm hp h hr
 | .cl o t,l,x,rest,cs,hp,h,hr=>leaf (.cl o t) rfl rfl hm hp h hr
where
 leaf (u:Ty) (h1:u.isAgg=false) (h2:u.isV=true) (hm:Moved f p Γ Γ') {l:List TV}{x:u.V}{rest:List TV}{cs:List AVal} (hp:∀ j,u.names j=true→p j) (h:cL f u l=some (x,rest)) (hr:jj Γ l cs):∃ c1 c2,cs=c1++c2∧R Γ' u x true c1∧jj Γ rest c2:=by
   obtain ⟨w,rfl,hw⟩:=ql h1 h2 h
   cases cs with
   | nil=>exact hr.elim
   | cons a cs =>
     obtain ⟨⟨g1,g2,g3⟩,g4⟩:=hr
     exact ⟨[a],cs,rfl,aQ false true h1 h2 (pk hm hp g1 g2 hw g3),g4⟩
theorem jD {t:Ty} (h:t.isCell=true):t.isAgg=false∧t.isV=true:=by cases t<;>first | exact ⟨rfl,rfl⟩ | cases h
theorem acD {t u:Ty}{v:t.V}{x:u.V}{cs:List AVal} (h1:u.isAgg=false) (h2:u.isV=true) (hm:Moved f p Γ Γ') (hp:∀ j,u.names j=true→p j) (h:aas f ⟨t,v⟩ u=some x) (hr:R Γ t v true cs):R Γ' u x true cs:=by
 unfold aas at h
 cases hb:(t.beq u&&u.fixed f.mu) with
 | true =>
   simp only[hb,cond_true] at h
   rw[Bool.and_eq_true] at hb
   exact uC (w:=⟨t,v⟩) hm hp hb.2 h hr
 | false =>
   simp only[hb,cond_false] at h
   cases hc:t.isCell with
   | false=>rw[hc] at h; cases h
   | true =>
     rw[hc,cond_true] at h
     obtain ⟨g1,g2⟩:=jD hc
     have hr2:=aQ true false g1 g2 hr
     obtain ⟨a,rfl⟩:=eE g2 hr2
     exact aQ false true h1 h2 (pk (w:=⟨t,v⟩) hm hp g1 g2 h hr2)
theorem aah {A B:Type}{g:A→Option B}{q:A→List AVal→Prop}{q':B→List AVal→Prop} (h:∀ x y c,g x=some y→q x c→q' y c):∀ {l:List A}{m:List B}{ls:List (List AVal)},oQ g l=some m→All2 q l ls→All2 q' m ls∧m.length=l.length
 | [],m,ls,hm,hl=>by
   simp only[oQ] at hm; cases hm
   cases ls with
   | nil=>exact ⟨trivial,rfl⟩
   | cons _ _=>exact hl.elim
 | x::l,m,ls,hm,hl=>by
   simp only[oQ,Option.bind_eq_some_iff,Option.map_eq_some_iff] at hm
   obtain ⟨y,h1,ys,h2,rfl⟩:=hm
   cases ls with
   | nil=>exact hl.elim
   | cons c ls =>
     obtain ⟨g1,g2⟩:=aah h h2 hl.2
     exact ⟨⟨h x y c h1 hl.1,g1⟩,by simp[g2]⟩
theorem qX (hm:Moved f p Γ Γ'):∀ {u t:Ty}{v:t.V}{x:u.V}{cs:List AVal},(∀ j,u.names j=true→p j)→df f u t v=some x→R Γ t v true cs→R Γ' u x true cs:=by
 intro u
 induction u with
 | cons u us ih1 ih2 =>
   intro t v x cs hp h hr
   cases t<;>simp only[df] at h<;>first | (cases h; done) | skip
   rename_i t ts
   simp only[Option.bind_eq_some_iff,Option.map_eq_some_iff] at h
   obtain ⟨y,h1,z,h2,rfl⟩:=h
   simp only[R] at hr ⊢
   obtain ⟨l1,l2,rfl,k1,k2⟩:=hr
   exact ⟨l1,l2,rfl,ih1 (fun j hj=>hp j (by simp[Ty.names,hj])) h1 k1,ih2 (fun j hj=>hp j (by simp[Ty.names,hj])) h2 k2⟩
 | unit =>
   intro t v x cs hp h hr
   cases t<;>simp only[df] at h<;>first | (cases h; done) | skip
   simpa only[R] using hr
 | agg u ih =>
   intro t v x cs hp h hr
   cases t<;>simp only[df] at h<;>first | (cases h; done) | skip
   rename_i t
   simp only[R] at hr ⊢
   cases hb:(t.beq u&&u.fixed f.mu) with
   | true =>
     rw[hb,cond_true] at h
     rw[Bool.and_eq_true] at hb
     exact uC (w:=⟨t,v⟩) hm hp hb.2 h hr
   | false =>
     rw[hb,cond_false] at h
     exact ih hp h hr
 | arr k u ih =>
   intro t v x cs hp h hr
   cases t<;>simp only[df] at h<;>first | (cases h; done) | skip
   rename_i n t
   simp only[R] at hr ⊢
   obtain ⟨hn,ls,hls,hall⟩:=hr
   cases hb:(t.beq u&&u.fixed f.mu&&Nat.beq n k) with
   | true =>
     rw[hb,cond_true] at h
     simp only[Bool.and_eq_true,Nat.beq_eq] at hb
     obtain ⟨e,hx⟩:=bh h
     cases e
     subst hx
     refine ⟨hn.trans hb.2,ls,hls,aN (p:=fun x c=>R Γ u x true c) (fun x a hx => ?_) hall⟩
     exact bC (fun j y hj hy=>hm.mu j (hp j (by simpa only[Ty.names] using hj)) y (by rw[cG hb.1.2 hj]; exact hy)) hx
   | false =>
     rw[hb,cond_false] at h
     cases hk:Nat.beq n k with
     | false=>rw[hk] at h; cases h
     | true =>
       rw[hk,cond_true] at h
       rw[Nat.beq_eq] at hk
       obtain ⟨g1,g2⟩:=aah (q:=fun x c=>R Γ t x true c) (q':=fun x c=>R Γ' u x true c) (fun a b c h1 h2=>ih (fun j hj=>hp j (by simpa only[Ty.names] using hj)) h1 h2) h hall
       exact ⟨by rw[g2,hn,hk],ls,hls,g1⟩
 | _ =>
   intro t v x cs hp h hr
   simp only[df] at h
   exact acD rfl rfl hm hp h hr
theorem eu {w:TV}{u:Ty}{x:u.V}{a:AVal} (hm:Moved f p Γ Γ') (hp:∀ j,u.names j=true→p j) (h:bo f w u=some x) (hr:R Γ w.t w.v false [a]):R Γ' u x false [a]:=by
 unfold bo at h
 cases hb:(w.t.beq u&&u.fixed f.mu) with
 | true =>
   rw[hb,cond_true] at h
   rw[Bool.and_eq_true] at hb
   exact uC hm hp hb.2 h hr
 | false =>
   rw[hb,cond_false] at h
   split at h
   · rename_i u'
     split at h
     · rename_i t ht
       split at h
       · rename_i y hy
         cases h
         obtain ⟨wt,wv⟩:=w
         simp only at ht
         subst ht
         simp only[R] at hr
         obtain ⟨cs,e,hc⟩:=hr
         cases e
         exact ⟨cs,rfl,qX (u:=.agg u') (t:=.agg t) hm hp hy hc⟩
       split at h
       · rename_i y hy
         cases h
         obtain ⟨wt,wv⟩:=w
         simp only at ht
         subst ht
         have hr':=hr
         simp only[R] at hr'
         obtain ⟨cs,e,hc⟩:=hr'
         cases e
         have hl:jj Γ (j5 (.agg t) wv) cs:=iX (t:=.agg t) (v:=wv) hc
         obtain ⟨c1,c2,rfl,g1,g2⟩:=f8 (u:=.agg u') hm hp hy hl
         cases c2 with
         | nil =>
           rw[List.append_nil]
           exact ⟨c1,rfl,g1⟩
         | cons _ _=>exact g2.elim
       · cases h
     · cases h
   · rename_i k u'
     obtain ⟨wt,wv⟩:=w
     cases wt<;>simp only[df] at h<;>first | (cases h; done) | skip
     rename_i n t
     simp only[R] at hr
     obtain ⟨cs,e,hc⟩:=hr
     cases e
     have:=qX (u:=.arr k u') (t:=.arr n t) (v:=wv) (x:=x) (cs:=cs) hm hp (by simp only[df]; exact h) hc
     exact ⟨cs,rfl,this⟩
   · cases h
   · cases h
   · cases h
   · cases hc:w.t.isCell with
     | false=>rw[hc] at h; cases h
     | true =>
       rw[hc] at h
       obtain ⟨g1,g2⟩:=jD hc
       exact pk hm hp g1 g2 h hr
end
section
variable {Γ:Ctx}
theorem ch {w:TV}{u:Ty}{x:u.V}{a:AVal} (h:bo noFr w u=some x) (hr:R Γ w.t w.v false [a]):R Γ u x false [a] :=
 eu (f:=noFr) (p:=fun _=>True) Moved.no (fun _ _=>trivial) h hr
def iq (Γ:Ctx) (l:List TV) (as:List AVal):Prop:=All2 (fun w a=>w.t.isV=true∧R Γ w.t w.v false [a]) l as
theorem ew:∀ {u:Ty}{l:List TV}{x:u.V}{as:List AVal},aV u l=some x→iq Γ l as→R Γ u x false as
 | .cons t ts,w::l,x,a::as,h,hr=>by
   simp only[aV,Option.bind_eq_some_iff,Option.map_eq_some_iff] at h
   obtain ⟨y,h1,z,h2,rfl⟩:=h
   exact ⟨[a],as,rfl,ch h1 hr.1.2,ew h2 hr.2⟩
 | .cons t ts,w::l,x,[],h,hr=>hr.elim
 | .cons t ts,[],x,as,h,hr=>by simp[aV] at h
 | .unit,[],x,[],h,hr=>by simp[R]
 | .unit,[],x,a::as,h,hr=>hr.elim
 | .unit,w::l,x,as,h,hr=>by simp[aV] at h
 | .int _,l,x,as,h,hr=>by simp[aV] at h
 | .bool,l,x,as,h,hr=>by simp[aV] at h
 | .str,l,x,as,h,hr=>by simp[aV] at h
 | .sl _,l,x,as,h,hr=>by simp[aV] at h
 | .agg _,l,x,as,h,hr=>by simp[aV] at h
 | .arr _ _,l,x,as,h,hr=>by simp[aV] at h
 | .tup _,l,x,as,h,hr=>by simp[aV] at h
 | .nilsl,l,x,as,h,hr=>by simp[aV] at h
 | .nilp,l,x,as,h,hr=>by simp[aV] at h
 | .fn f,l,x,as,h,hr=>by simp[aV] at h
 | .err,l,x,as,h,hr=>by simp[aV] at h
 | .undef,l,x,as,h,hr=>by simp[aV] at h
 | .any,l,x,as,h,hr=>by simp[aV] at h
 | .own _,l,x,as,h,hr=>by simp[aV] at h
 | .it _,l,x,as,h,hr=>by simp[aV] at h
 | .mp _,l,x,as,h,hr=>by simp[aV] at h
 | .bx _ _,l,x,as,h,hr=>by simp[aV] at h
 | .op _,l,x,as,h,hr=>by simp[aV] at h
 | .ptr _ _,l,x,as,h,hr=>by simp[aV] at h
 | .ba _ _ _ _,l,x,as,h,hr=>by simp[aV] at h
 | .vw _,l,x,as,h,hr=>by simp[aV] at h
 | .rp _ _,l,x,as,h,hr=>by simp[aV] at h
 | .orp _ _,l,x,as,h,hr=>by simp[aV] at h
 | .cl _ _,l,x,as,h,hr=>by simp[aV] at h
theorem lQ {u:Ty}:∀ {l:List TV}{xs:List u.V}{as:List AVal},ge u l=some xs→iq Γ l as→All2 (fun x a=>R Γ u x false [a]) xs as
 | [],xs,[],h,_=>by simp only[ge] at h; cases h; trivial
 | [],xs,a::as,h,hr=>hr.elim
 | w::l,xs,[],h,hr=>hr.elim
 | w::l,xs,a::as,h,hr=>by
   simp only[ge,Option.bind_eq_some_iff,Option.map_eq_some_iff] at h
   obtain ⟨y,h1,z,h2,rfl⟩:=h
   exact ⟨ch h1 hr.1.2,lQ h2 hr.2⟩
mutual
theorem uA:∀ {a:AVal}{w:TV},cD a=some w→w.t.isV=true∧R Γ w.t w.v false [a]
 | .int k n,w,h=>by simp only[cD] at h; cases h; exact ⟨rfl,rfl⟩
 | .bool b,w,h=>by simp only[cD] at h; cases h; exact ⟨rfl,rfl⟩
 | .str s,w,h=>by simp only[cD] at h; cases h; exact ⟨rfl,rfl⟩
 | .nil,w,h=>by simp only[cD] at h; cases h; exact ⟨rfl,rfl⟩
 | .nilptr,w,h=>by simp only[cD] at h; cases h; exact ⟨rfl,rfl⟩
 | .nilmap,w,h=>by simp only[cD] at h; cases h; exact ⟨rfl,_,rfl,rfl⟩
 | .agg cs,w,h=>by
   simp only[cD,Option.map_eq_some_iff] at h
   obtain ⟨x,hx,rfl⟩:=h
   exact ⟨rfl,cs,rfl,uB hx⟩
 | .tup _,w,h=>by simp[cD] at h
 | .tree ..,w,h=>by simp[cD] at h
 | .own ..,w,h=>by simp[cD] at h
 | .ptr ..,w,h=>by simp[cD] at h
 | .rptr _,w,h=>by simp[cD] at h
 | .func ..,w,h=>by simp[cD] at h
 | .nilfunc,w,h=>by simp[cD] at h
 | .iface ..,w,h=>by simp[cD] at h
 | .niliface,w,h=>by simp only[cD] at h; cases h; exact ⟨rfl,_,rfl,.inl ⟨rfl,rfl⟩⟩
 | .map _,w,h=>by simp[cD] at h
 | .any,w,h=>by simp[cD] at h
theorem uB:∀ {l:List AVal}{w:TV},qV l=some w→R Γ w.t w.v true l
 | [],w,h=>by simp only[qV] at h; cases h; rfl
 | a::l,w,h=>by
   simp only[qV,Option.bind_eq_some_iff] at h
   obtain ⟨x,hx,y,hy,h⟩:=h
   cases hc:x.t.isCell with
   | false=>rw[hc] at h; cases h
   | true =>
     rw[hc] at h
     cases h
     exact ⟨[a],l,rfl,adQ false true hc (uA hx).2,uB hy⟩
end
theorem la:∀ {u:Ty}{l:List AVal}{v:u.V}{rest:List AVal},a8 u l=some (v,rest)→∃ c,l=c++rest∧R Γ u v true c
 | .cons t ts,l,v,rest,h=>by
   simp only[a8,Option.bind_eq_some_iff,Option.map_eq_some_iff] at h
   obtain ⟨⟨x,l1⟩,h1,⟨y,l2⟩,h2,e⟩:=h
   cases e
   obtain ⟨c1,rfl,g1⟩:=la h1
   obtain ⟨c2,e2,g2⟩:=la h2
   simp only at e2
   subst e2
   exact ⟨c1++c2,by simp,c1,c2,rfl,g1,g2⟩
 | .unit,l,v,rest,h=>by simp only[a8] at h; cases h; exact ⟨[],rfl,rfl⟩
 | .agg t,l,v,rest,h=>by simp only[a8] at h; exact la (u:=t) h
 | .arr n t,l,v,rest,h=>by
   simp only[a8] at h
   have:∀ (n:Nat) (l:List AVal) (xs:List t.V) (rest:List AVal),zN (a8 t) n l=some (xs,rest)→xs.length=n∧∃ ls,l=List.flatten ls++rest∧All2 (fun x c=>R Γ t x true c) xs ls:=by
     intro n
     induction n with
     | zero=>intro l xs rest h; simp only[zN] at h; cases h; exact ⟨rfl,[],rfl,trivial⟩
     | succ n ih =>
       intro l xs rest h
       simp only[zN,Option.bind_eq_some_iff,Option.map_eq_some_iff] at h
       obtain ⟨⟨y,l1⟩,h1,⟨ys,l2⟩,h2,e⟩:=h
       cases e
       obtain ⟨c1,rfl,g1⟩:=la (u:=t) h1
       obtain ⟨k0,ls,e2,k1⟩:=ih _ _ _ h2
       simp only at e2
       subst e2
       exact ⟨by simp[k0],c1::ls,by simp,⟨g1,k1⟩⟩
   obtain ⟨k0,ls,rfl,k1⟩:=this n l v rest h
   exact ⟨ls.flatten,rfl,k0,ls,rfl,k1⟩
 | .int k,.int k' n::l,v,rest,h=>by
   simp only[a8] at h
   cases hk:kbeq k k' with
   | false=>rw[hk] at h; cases h
   | true =>
     rw[hk] at h; cases h
     exact ⟨[.int k' n],rfl,by rw[lF hk]; rfl⟩
 | .bool,.bool b::l,v,rest,h=>by simp only[a8] at h; cases h; exact ⟨[_],rfl,rfl⟩
 | .str,.str s::l,v,rest,h=>by simp only[a8] at h; cases h; exact ⟨[_],rfl,rfl⟩
 | .nilsl,.nil::l,v,rest,h=>by simp only[a8] at h; cases h; exact ⟨[.nil],rfl,rfl⟩
 | .nilp,.nilptr::l,v,rest,h=>by simp only[a8] at h; cases h; exact ⟨[.nilptr],rfl,rfl⟩
 | .int k,[],v,rest,h=>by simp[a8] at h
 | .bool,[],v,rest,h=>by simp[a8] at h
 | .str,[],v,rest,h=>by simp[a8] at h
 | .nilsl,[],v,rest,h=>by simp[a8] at h
 | .nilp,[],v,rest,h=>by simp[a8] at h
 | .int k,.bool _::l,v,rest,h=>by simp[a8] at h
 | .int k,.str _::l,v,rest,h=>by simp[a8] at h
 | .int k,.agg _::l,v,rest,h=>by simp[a8] at h
 | .int k,.tup _::l,v,rest,h=>by simp[a8] at h
 | .int k,.nil::l,v,rest,h=>by simp[a8] at h
 | .int k,.tree .. :: l,v,rest,h=>by simp[a8] at h
 | .int k,.own .. :: l,v,rest,h=>by simp[a8] at h
 | .int k,.ptr .. :: l,v,rest,h=>by simp[a8] at h
 | .int k,.rptr _::l,v,rest,h=>by simp[a8] at h
 | .int k,.nilptr::l,v,rest,h=>by simp[a8] at h
 | .int k,.func .. :: l,v,rest,h=>by simp[a8] at h
 | .int k,.nilfunc::l,v,rest,h=>by simp[a8] at h
 | .int k,.iface .. :: l,v,rest,h=>by simp[a8] at h
 | .int k,.niliface::l,v,rest,h=>by simp[a8] at h
 | .int k,.map _::l,v,rest,h=>by simp[a8] at h
 | .int k,.nilmap::l,v,rest,h=>by simp[a8] at h
 | .int k,.any::l,v,rest,h=>by simp[a8] at h
 | .bool,a::l,v,rest,h=>by cases a<;>first | (simp[a8] at h; done) | (simp only[a8] at h; cases h; exact ⟨[_],rfl,rfl⟩)
 | .str,a::l,v,rest,h=>by cases a<;>first | (simp[a8] at h; done) | (simp only[a8] at h; cases h; exact ⟨[_],rfl,rfl⟩)
 | .nilsl,a::l,v,rest,h=>by cases a<;>first | (simp[a8] at h; done) | (simp only[a8] at h; cases h; exact ⟨[_],rfl,rfl⟩)
 | .nilp,a::l,v,rest,h=>by cases a<;>first | (simp[a8] at h; done) | (simp only[a8] at h; cases h; exact ⟨[_],rfl,rfl⟩)
 | .fn f,l,v,rest,h=>by cases l<;>simp[a8] at h
 | .err,l,v,rest,h=>by cases l<;>simp[a8] at h
 | .sl _,l,v,rest,h=>by cases l<;>simp[a8] at h
 | .tup _,l,v,rest,h=>by cases l<;>simp[a8] at h
 | .undef,l,v,rest,h=>by cases l<;>simp[a8] at h
 | .any,l,v,rest,h=>by cases l<;>simp[a8] at h
 | .own _,l,v,rest,h=>by cases l<;>simp[a8] at h
 | .it _,l,v,rest,h=>by cases l<;>simp[a8] at h
 | .mp _,l,v,rest,h=>by cases l<;>simp[a8] at h
 | .bx _ _,l,v,rest,h=>by cases l<;>simp[a8] at h
 | .op _,l,v,rest,h=>by cases l<;>simp[a8] at h
 | .ptr _ _,l,v,rest,h=>by cases l<;>simp[a8] at h
 | .ba _ _ _ _,l,v,rest,h=>by cases l<;>simp[a8] at h
 | .vw _,l,v,rest,h=>by cases l<;>simp[a8] at h
 | .rp _ _,l,v,rest,h=>by cases l<;>simp[a8] at h
 | .orp _ _,l,v,rest,h=>by cases l<;>simp[a8] at h
 | .cl _ _,l,v,rest,h=>by cases l<;>simp[a8] at h
theorem hJ {P:Program}{t:TypeId}{w:TV} (h:og P t=some w):w.t.isV=true∧∃ a,zeroOf P t=some a∧R Γ w.t w.v false [a]:=by
 unfold og at h
 simp only[Option.bind_eq_some_iff] at h
 obtain ⟨a,ha,u,hu,⟨v,rest⟩,hv,h⟩:=h
 split at h
 · rename_i hrest
   simp only at hrest
   subst hrest
   cases hc:(isB u.isAgg a.isAgg&&u.isV) with
   | false=>rw[hc] at h; cases h
   | true =>
     rw[hc] at h
     rw[Bool.and_eq_true] at hc
     cases h
     obtain ⟨c,hc1,hr⟩:=la (Γ:=Γ) hv
     rw[List.append_nil] at hc1
     refine ⟨hc.2,a,ha,?_⟩
     obtain ⟨b,hb1,hb2,hb3,hb4⟩:=gw hc.2 hr
     have:b=a:=by
       have e:=jZ hc.1
       cases hg:u.isAgg with
       | true =>
         rw[hb3 hg,← hc1]
         rw[hg] at e
         cases a<;>first | rfl | cases e
       | false =>
         have hl:=hb4 hg
         rw[hg] at e
         rw[hl] at hc1
         cases a<;>first | (simp only[AVal.cells] at hc1; exact (List.cons.inj hc1).1.symm) | cases e
     rw[← this]; exact hb2
 · cases h
theorem sj {P:Program}{t:TypeId}{w:TV}:ii P t w=w∨(w.t.isAgg=true∧∃ u x,bo noFr w u=some x∧ii P t w=⟨u,x⟩):=by
 unfold ii
 split
 · rename_i hw
   split
   · rename_i u hu
     split
     · rename_i x hx
       exact .inr ⟨by rw[hw]; rfl,u,x,hx,rfl⟩
     · exact .inl rfl
   · exact .inl rfl
 · exact .inl rfl
theorem sG {f:CF}{w:TV}{u:Ty}{x:u.V} (hw:w.t.isAgg=true) (h:bo f w u=some x):u.isAgg=true:=by
 unfold bo at h
 cases hb:(w.t.beq u&&u.fixed f.mu) with
 | true =>
   rw[Bool.and_eq_true] at hb
   rw[← Ty.beq_eq hb.1]; exact hw
 | false =>
   rw[hb,cond_false] at h
   split at h
   · rfl
   · rfl
   · cases h
   · cases h
   · cases h
   · cases hc:w.t.isCell with
     | false=>rw[hc] at h; cases h
     | true=>have:=(jD hc).1; rw[hw] at this; cases this
theorem sk {P:Program}{t:TypeId}{w:TV}{a:AVal} (hv:w.t.isV=true) (hr:R Γ w.t w.v false [a]):(ii P t w).t.isV=true∧R Γ (ii P t w).t (ii P t w).v false [a]:=by
 rcases sj (P:=P) (t:=t) (w:=w) with h | ⟨hw,u,x,hx,h⟩
 · rw[h]; exact ⟨hv,hr⟩
 · rw[h]
   refine ⟨?_,ch hx hr⟩
   have:=sG hw hx
   cases u<;>first | rfl | cases this
end
end Go.TY
namespace Go.TY
open Go.EM
def RegR (Γ:Ctx) (st:ar) (id:Nat):Reg→Prop
 | .box e t v=>t.isV=true∧t.okRow=true∧t.size≠0∧∃ r a,Γ id=some (.inr (r,t.size,1))∧st[r]? = some (.row e t.size [a])∧R Γ t v false [a]
 | .cbox e t v=>t.isV=true∧t.closed=true∧t.okRow=true∧t.size≠0∧∃ r a,Γ id=some (.inr (r,t.size,1))∧st[r]? = some (.row e t.size [a])∧R Γ t v false [a]
 | .row z e t xs=>t.isV=true∧t.closed=true∧t.okRow=true∧t.size≠0∧((xs=[]∧∃ b,Γ id=some (.inl b)∧(z=true→b=false))∨∃ r as,Γ id=some (.inr (r,t.size,xs.length))∧st[r]? = some (.row e t.size as)∧All2 (fun x a=>R Γ t x false [a]) xs as∧(z=true→xs≠[]))
 | .iter s pos=>∃ r,Γ id=some (.inr (r,0,0))∧st[r]? = some (.iter s pos)
 | .map k v xs=>k.isV=true∧v.isV=true∧k.closed=true∧v.closed=true∧∃ r es,Γ id=some (.inr (r,0,0))∧st[r]? = some (.map es)∧All2 (fun p e=>R Γ k p.1 false [e.1]∧R Γ v p.2 false [e.2]) xs es
 | .gone=>True
abbrev Frame:Type:=Nat→Option AReg
structure MemR (Φ:Frame) (Γ:Ctx) (m:Mem) (st:ar):Prop where
 reg:∀ id,id<m.length→RegR Γ st id (getM m id)
 out:∀ id,m.length≤id→Γ id=none
 inj:∀ i j r n l n' l',Γ i=some (.inr (r,n,l))→Γ j=some (.inr (r,n',l'))→i=j
 lt:∀ i r n l,Γ i=some (.inr (r,n,l))→r<st.length
 old:∀ r g,Φ r=some g→st[r]? = some g
 dis:∀ r g i n l,Φ r=some g→Γ i≠some (.inr (r,n,l))
theorem pa:∀ {m:Mem}{i:Nat},m.length≤i→getM m i = .gone
 | [],_,_=>rfl
 | _::m,0,h=>by simp at h
 | _::m,i+1,h=>pa (m:=m) (by simpa using h)
theorem dQ {m:Mem}{i:Nat}{g:Reg} (h:getM m i=g) (hg:g ≠ .gone):i<m.length:=by
 rcases Nat.lt_or_ge i m.length with h' | h'
 · exact h'
 · rw[pa h'] at h; exact absurd h.symm hg
theorem MemR.oldlt {Φ:Frame}{Γ:Ctx}{m:Mem}{st:ar} (h:MemR Φ Γ m st) {r:Nat}{g:AReg} (hr:Φ r=some g):r<st.length:=by
 have h1:=h.old r g hr
 rcases Nat.lt_or_ge r st.length with h' | h'
 · exact h'
 · rw[List.getElem?_eq_none h'] at h1; cases h1
theorem MemR.at {Φ:Frame}{Γ:Ctx}{m:Mem}{st:ar} (h:MemR Φ Γ m st) (id:Nat):RegR Γ st id (getM m id):=by
 rcases Nat.lt_or_ge id m.length with h' | h'
 · exact h.reg id h'
 · rw[pa h']; trivial
def OkP (Γ:Ctx) (m:Mem) (av:Option AVal) (res:OR):Prop :=
 ∀ (X:Type) (K:TV→Mem→Option Nat→Option X) (x:X),res.go K=some x→∃ w a,K w m none=some x∧av=some a∧w.t.isV=true∧R Γ w.t w.v false [a]
section
variable {Φ:Frame}{Γ:Ctx}{m:Mem}{st:ar}{P:Program}
theorem OkP.no {av:Option AVal}:OkP Γ m av .no:=fun X K x h=>by cases h
theorem OkP.ok {w:TV}{a:AVal}{av:Option AVal} (hv:w.t.isV=true) (hr:R Γ w.t w.v false [a]) (ha:av=some a):OkP Γ m av (.ok w m none):=fun X K x h=>⟨w,a,h,ha,hv,hr⟩
theorem OkP.opt {A:Type}{y:Option A}{k:A→OR}{av:Option AVal} (h:∀ z,y=some z→OkP Γ m av (k z)):OkP Γ m av (.opt A y k):=fun X K x hx=>by
 simp only[OR.go,Option.bind_eq_some_iff] at hx
 obtain ⟨z,hz,hx⟩:=hx
 exact h z hz X K x hx
theorem OkP.br {b:Bool}{p q:OR}{av:Option AVal} (h1:b=true→OkP Γ m av p) (h2:b=false→OkP Γ m av q):OkP Γ m av (.br b p q):=fun X K x hx=>by
 simp only[OR.go] at hx
 cases b
 · exact h2 rfl X K x hx
 · exact h1 rfl X K x hx
theorem OkP.cond {b:Bool}{p q:OR}{av:Option AVal} (h1:b=true→OkP Γ m av p) (h2:b=false→OkP Γ m av q):OkP Γ m av (Bool.rec q p b):=by
 cases b
 · exact h2 rfl
 · exact h1 rfl
theorem OkP.ofO {o:Option TV}{av:Option AVal} (h:∀ w,o=some w→w.t.isV=true∧∃ a,R Γ w.t w.v false [a]∧av=some a):OkP Γ m av (ofO m o):=by
 cases o with
 | none=>exact .no
 | some w=>obtain ⟨h1,a,h2,h3⟩:=h w rfl; exact .ok h1 h2 h3
theorem iO {A:Type}{p:Prop} [Decidable p] {x:A}{y:A} (h:(if p then none else some x)=some y):¬ p∧x=y:=by
 split at h
 · cases h
 · rename_i hp; cases h; exact ⟨hp,rfl⟩
theorem dK {A:Type}{p:Prop} [Decidable p] {x:A}{y:A} (h:(if p then some x else none)=some y):p∧x=y:=by
 split at h
 · rename_i hp; cases h; exact ⟨hp,rfl⟩
 · cases h
theorem ain {op:BinOp}{k:IntKind}{a b:Int}{t:TypeId}{lit:Bool} (h1:op ≠ .shl) (h2:op ≠ .shr):OkP Γ m (abin P op t lit (.int k a) (.int k b)) (intT op k a b m):=by
 have e1:(a==b)=decide (a=b):=by by_cases h:a=b<;>simp[h]
 have e2:(a != b) = !decide (a=b):=by by_cases h:a=b<;>simp[h,bne]
 cases op<;>first | exact absurd rfl h1 | exact absurd rfl h2 | skip
 case quo =>
   refine .opt fun z hz => ?_
   obtain ⟨hb,rfl⟩:=iO hz
   exact .ok rfl rfl (by simp[abin,aint,hb])
 case rem =>
   refine .opt fun z hz => ?_
   obtain ⟨hb,rfl⟩:=iO hz
   exact .ok rfl rfl (by simp[abin,aint,hb])
 case eql=>exact .ok rfl rfl (by simp[abin,aint,e1])
 case neq=>exact .ok rfl rfl (by simp[abin,aint,e2])
 all_goals first | exact .no | exact .ok rfl rfl (by simp[abin,aint])
theorem pX {op:BinOp}{k k':IntKind}{a b:Int}{t:TypeId}{lit:Bool} (h:op = .shl∨op = .shr):OkP Γ m (abin P op t lit (.int k a) (.int k' b)) (adC op k a b m):=by
 rcases h with rfl | rfl
 · refine .opt fun z hz => ?_
   obtain ⟨hb,rfl⟩:=iO hz
   exact .ok rfl rfl (by simp only[abin,rk,if_neg hb])
 · refine .opt fun z hz => ?_
   obtain ⟨hb,rfl⟩:=iO hz
   exact .ok rfl rfl (by simp only[abin,rk,if_neg hb])
theorem ahM {op:BinOp}{x y:List UInt8}{t:TypeId}{lit:Bool}:OkP Γ m (abin P op t lit (.str x) (.str y)) (strT op x y m):=by
 have e1:(x==y)=decide (x=y):=by by_cases h:x=y<;>simp[h]
 have e3:IntKind.i64.max=9223372036854775807:=by decide
 cases op
 case add =>
   refine .opt fun z hz => ?_
   obtain ⟨hb,rfl⟩:=iO hz
   exact .ok rfl rfl (by simp only[abin,astr,e3,if_neg hb])
 all_goals first | exact .no | exact .ok rfl rfl (by simp[abin,astr,e1])
theorem lk {ft:TypeId}{t:Ty}{v:t.V}{pre l1 l2:List AVal} (h:fJ P ft t=true) (hr:R Γ t v true l1):∃ a,cK P ft (pre++(l1++l2)) pre.length=some a∧R Γ t v false [a]:=by
 unfold fJ at h
 unfold cK
 split at h
 · rename_i n d hn hd
   simp only[Bool.and_eq_true,Nat.beq_eq] at h
   obtain ⟨⟨h1,h2⟩,h3⟩:=h
   simp only[hn,hd]
   obtain ⟨a,g1,g2⟩:=ju (l2:=l2) h3 h1.symm (jZ h2) hr
   refine ⟨a,?_,g1⟩
   have:=lg (l1:=pre) (l2:=l1++l2) (off:=pre.length) (n:=n) (ag:=eJ d) (Nat.le_refl _)
   rw[Nat.sub_self,g2] at this
   exact this
 · cases h
theorem uT {f:AVal→AVal→TypeId→Option Bool}{g:TypeId→Ty→Bool} (hf:∀ t ty x y a b,g t ty=true→R Γ ty x false [a]→R Γ ty y false [b]→f a b t=some (eqV ty x y)) :
   ∀ {fs:List Field}{row:Ty}{off:Nat}{x y:row.V}{p1 p2 c1 c2:List AVal},eqFs P g fs row off=true→R Γ row x true c1→R Γ row y true c2→p1.length=off→p2.length=off→j7 f P fs (p1++c1) (p2++c2)=some (eqV row x y)
 | [],.unit,off,x,y,p1,p2,c1,c2,h,_,_,_,_=>rfl
 | fd::fs,.cons t ts,off,x,y,p1,p2,c1,c2,h,hx,hy,h1,h2=>by
   simp only[eqFs,Bool.and_eq_true,Nat.beq_eq,Bool.not_eq_true'] at h
   obtain ⟨⟨⟨⟨hn,ho⟩,hp⟩,hg⟩,hr⟩:=h
   simp only[R] at hx hy
   obtain ⟨l1,l2,rfl,x1,x2⟩:=hx
   obtain ⟨k1,k2,rfl,y1,y2⟩:=hy
   obtain ⟨a,ha,ra⟩:=lk (pre:=p1) (l2:=l2) hp x1
   obtain ⟨b,hb,rb⟩:=lk (pre:=p2) (l2:=k2) hp y1
   have hn':¬ fd.name = "_" := by simpa using hn
   unfold j7
   rw[if_neg hn',ho]
   rw[show cK P fd.type (p1++(l1++l2)) off=some a by rw[← h1]; exact ha,show cK P fd.type (p2++(k1++k2)) off=some b by rw[← h2]; exact hb]
   simp only[hf _ _ _ _ _ _ hg ra rb,Option.bind_some]
   have ih:=uT hf (p1:=p1++l1) (p2:=p2++k1) hr x2 y2 (by rw[List.length_append,cU x1,h1]) (by rw[List.length_append,cU y1,h2])
   rw[List.append_assoc,List.append_assoc] at ih
   rw[ih]
   simp only[eqV]
   cases eqV t x.1 y.1<;>rfl
 | [],.cons _ _,_,_,_,_,_,_,_,h,_,_,_,_=>by cases h
 | [],.int _,_,_,_,_,_,_,_,h,_,_,_,_=>by cases h
 | [],.bool,_,_,_,_,_,_,_,h,_,_,_,_=>by cases h
 | [],.str,_,_,_,_,_,_,_,h,_,_,_,_=>by cases h
 | [],.sl _,_,_,_,_,_,_,_,h,_,_,_,_=>by cases h
 | [],.agg _,_,_,_,_,_,_,_,h,_,_,_,_=>by cases h
 | [],.arr _ _,_,_,_,_,_,_,_,h,_,_,_,_=>by cases h
 | [],.tup _,_,_,_,_,_,_,_,h,_,_,_,_=>by cases h
 | [],.nilsl,_,_,_,_,_,_,_,h,_,_,_,_=>by cases h
 | [],.nilp,_,_,_,_,_,_,_,h,_,_,_,_=>by cases h
 | [],.fn f,_,_,_,_,_,_,_,h,_,_,_,_=>by cases h
 | [],.err,_,_,_,_,_,_,_,h,_,_,_,_=>by cases h
 | [],.undef,_,_,_,_,_,_,_,h,_,_,_,_=>by cases h
 | [],.any,_,_,_,_,_,_,_,h,_,_,_,_=>by cases h
 | [],.own _,_,_,_,_,_,_,_,h,_,_,_,_=>by cases h
 | [],.it _,_,_,_,_,_,_,_,h,_,_,_,_=>by cases h
 | [],.mp _,_,_,_,_,_,_,_,h,_,_,_,_=>by cases h
 | [],.bx _ _,_,_,_,_,_,_,_,h,_,_,_,_=>by cases h
 | [],.op _,_,_,_,_,_,_,_,h,_,_,_,_=>by cases h
 | [],.ptr _ _,_,_,_,_,_,_,_,h,_,_,_,_=>by cases h
 | [],.ba _ _ _ _,_,_,_,_,_,_,_,h,_,_,_,_=>by cases h
 | [],.vw _,_,_,_,_,_,_,_,h,_,_,_,_=>by cases h
 | [],.rp _ _,_,_,_,_,_,_,_,h,_,_,_,_=>by cases h
 | [],.orp _ _,_,_,_,_,_,_,_,h,_,_,_,_=>by cases h
 | [],.cl _ _,_,_,_,_,_,_,_,h,_,_,_,_=>by cases h
 | _::_,.unit,_,_,_,_,_,_,_,h,_,_,_,_=>by cases h
 | _::_,.int _,_,_,_,_,_,_,_,h,_,_,_,_=>by cases h
 | _::_,.bool,_,_,_,_,_,_,_,h,_,_,_,_=>by cases h
 | _::_,.str,_,_,_,_,_,_,_,h,_,_,_,_=>by cases h
 | _::_,.sl _,_,_,_,_,_,_,_,h,_,_,_,_=>by cases h
 | _::_,.agg _,_,_,_,_,_,_,_,h,_,_,_,_=>by cases h
 | _::_,.arr _ _,_,_,_,_,_,_,_,h,_,_,_,_=>by cases h
 | _::_,.tup _,_,_,_,_,_,_,_,h,_,_,_,_=>by cases h
 | _::_,.nilsl,_,_,_,_,_,_,_,h,_,_,_,_=>by cases h
 | _::_,.nilp,_,_,_,_,_,_,_,h,_,_,_,_=>by cases h
 | _::_,.fn f,_,_,_,_,_,_,_,h,_,_,_,_=>by cases h
 | _::_,.err,_,_,_,_,_,_,_,h,_,_,_,_=>by cases h
 | _::_,.undef,_,_,_,_,_,_,_,h,_,_,_,_=>by cases h
 | _::_,.any,_,_,_,_,_,_,_,h,_,_,_,_=>by cases h
 | _::_,.own _,_,_,_,_,_,_,_,h,_,_,_,_=>by cases h
 | _::_,.it _,_,_,_,_,_,_,_,h,_,_,_,_=>by cases h
 | _::_,.mp _,_,_,_,_,_,_,_,h,_,_,_,_=>by cases h
 | _::_,.bx _ _,_,_,_,_,_,_,_,h,_,_,_,_=>by cases h
 | _::_,.op _,_,_,_,_,_,_,_,h,_,_,_,_=>by cases h
 | _::_,.ptr _ _,_,_,_,_,_,_,_,h,_,_,_,_=>by cases h
 | _::_,.ba _ _ _ _,_,_,_,_,_,_,_,h,_,_,_,_=>by cases h
 | _::_,.vw _,_,_,_,_,_,_,_,h,_,_,_,_=>by cases h
 | _::_,.rp _ _,_,_,_,_,_,_,_,h,_,_,_,_=>by cases h
 | _::_,.orp _ _,_,_,_,_,_,_,_,h,_,_,_,_=>by cases h
 | _::_,.cl _ _,_,_,_,_,_,_,_,h,_,_,_,_=>by cases h
theorem sv {t:Ty}{sz:Nat} (hs:t.size=sz):∀ {xs:List t.V}{ls:List (List AVal)}{i:Nat}{x:t.V},All2 (fun x c=>R Γ t x true c) xs ls→xs[i]? = some x→∃ c post,(((ls.take i).flatten).length=i*sz∧ls.flatten=(ls.take i).flatten++(c++post))∧R Γ t x true c
 | y::xs,c::ls,0,x,h,hx=>by
   simp at hx; subst hx
   exact ⟨c,ls.flatten,⟨by simp,by simp⟩,h.1⟩
 | y::xs,c::ls,i+1,x,h,hx=>by
   simp only[List.getElem?_cons_succ] at hx
   obtain ⟨d,post,⟨h1,h2⟩,h3⟩:=sv hs h.2 hx
   refine ⟨d,post,⟨?_,?_⟩,h3⟩
   · simp only[List.take_succ_cons,List.flatten_cons,List.length_append,h1,cU h.1,hs]
     rw[Nat.succ_mul,Nat.add_comm]
   · simp only[List.take_succ_cons,List.flatten_cons,h2,List.append_assoc]
 | [],[],i,x,h,hx=>by simp at hx
theorem lj {ft:TypeId}{t:Ty} (h:fJ P ft t=true):∃ n d,szOf P ft=some n∧P.underlying ft=some d∧n=t.size∧eJ d=t.isAgg∧t.isV=true:=by
 unfold fJ at h
 split at h
 · rename_i n d h1 h2
   simp only[Bool.and_eq_true,Nat.beq_eq] at h
   exact ⟨n,d,h1,h2,h.1.1,(jZ h.1.2),h.2⟩
 · cases h
theorem kv {e:TypeId}{u:Ty}{n i off:Nat}{xs:List u.V}{ls:List (List AVal)}{pre post:List AVal}{z:u.V} (hn:u.size=n) (hp:fJ P e u=true) (hall:All2 (fun x c=>R Γ u x true c) xs ls) (hz:xs[i]? = some z) :
   ∃ a,u.isV=true∧R Γ u z false [a]∧(pre.length=off→cK P e (pre++(ls.flatten++post)) (off+i*n)=some a):=by
 obtain ⟨n',d,h1,h2,h3,h4,h5⟩:=lj hp
 obtain ⟨c,post',⟨g1,g2⟩,g3⟩:=sv hn hall hz
 obtain ⟨a,k1,k2,k3,k4⟩:=gw h5 g3
 refine ⟨a,h5,k2,fun hl => ?_⟩
 have hlc:=cU g3
 have e1:(pre++(ls.flatten++post)).drop (off+i*n)=c++(post'++post):=by
   rw[g2,← hl,← List.drop_drop,List.drop_left' rfl,← g1]
   simp
 unfold cK
 simp only[h1,h2]
 have hle:off+i*n+c.length≤(pre++(ls.flatten++post)).length:=by
   have:=congrArg List.length e1
   simp only[List.length_drop,List.length_append] at this
   have hlt:off+i*n≤(pre++(ls.flatten++post)).length:=by
     rw[g2]; simp only[List.length_append]; omega
   simp only[List.length_append] at hlt ⊢
   omega
 cases ha:u.isAgg with
 | true =>
   rw[h4,ha,cond_true]
   have hb:Nat.ble (off+i*n+n') (pre++(ls.flatten++post)).length=true:=by rw[Nat.ble_eq]; omega
   rw[hb,cond_true,e1,k3 ha,h3,← hlc,List.take_left' rfl]
 | false =>
   rw[h4,ha,cond_false]
   have:=k4 ha
   have e2:(pre++(ls.flatten++post))[off+i*n]? = ((pre++(ls.flatten++post)).drop (off+i*n))[0]? := by rw[List.getElem?_drop,Nat.add_zero]
   rw[e2,e1,this]; rfl
theorem uS {f:AVal→AVal→TypeId→Option Bool}{e:TypeId}{u:Ty}{n:Nat} (hn:u.size=n) (hp:fJ P e u=true) (hf:∀ (x y:u.V) (a b:AVal),R Γ u x false [a]→R Γ u y false [b]→f a b e=some (eqV u x y)) :
   ∀ (v1 v2:List u.V) (l1 l2:List (List AVal)) (i:Nat) (p1 p2:List AVal),All2 (fun x c=>R Γ u x true c) v1 l1→All2 (fun x c=>R Γ u x true c) v2 l2→v1.length=v2.length→p1.length=i*n→p2.length=i*n →
     lZ f P e n (List.range' i v1.length) (p1++l1.flatten) (p2++l2.flatten)=some (eqVL (eqV u) v1 v2)
 | [],[],l1,l2,i,p1,p2,h1,h2,_,_,_=>rfl
 | x::v1,y::v2,c1::l1,c2::l2,i,p1,p2,h1,h2,hl,k1,k2=>by
   obtain ⟨a,g1,g2,g3⟩:=kv (P:=P) (off:=i*n) (pre:=p1) (post:=[]) (i:=0) (z:=x) hn hp (xs:=x::v1) (ls:=c1::l1) h1 rfl
   obtain ⟨b,g4,g5,g6⟩:=kv (P:=P) (off:=i*n) (pre:=p2) (post:=[]) (i:=0) (z:=y) hn hp (xs:=y::v2) (ls:=c2::l2) h2 rfl
   have q1:=g3 k1
   have q2:=g6 k2
   rw[List.append_nil,Nat.zero_mul,Nat.add_zero] at q1 q2
   have r1:=cU h1.1
   have r2:=cU h2.1
   have ih:=uS hn hp hf v1 v2 l1 l2 (i+1) (p1++c1) (p2++c2) h1.2 h2.2 (by simpa using hl) (by rw[List.length_append,Nat.succ_mul,k1,r1,hn]) (by rw[List.length_append,Nat.succ_mul,k2,r2,hn])
   rw[List.length_cons,List.range'_succ]
   simp only[lZ,q1,q2,hf x y a b g2 g5,Option.bind_some,eqVL]
   cases eqV u x y with
   | false=>rfl
   | true =>
     rw[cond_true,Bool.true_and,← ih,List.flatten_cons,List.flatten_cons,List.append_assoc,List.append_assoc]
theorem wS:∀ (d:Nat) (t:TypeId) (ty:Ty) (x y:ty.V) (a b:AVal),fv P d t ty=true→R Γ ty x false [a]→R Γ ty y false [b]→aeq P d t a b=some (eqV ty x y)
 | 0,t,ty,x,y,a,b,h,_,_=>by cases h
 | d+1,t,ty,x,y,a,b,h,hx,hy=>by
   unfold fv at h
   unfold aeq
   split at h
   · rename_i hu
     split at h
     · simp only[R] at hx hy; cases hx; cases hy
       simp only[hu,eqV]
     · cases h
   · rename_i k hu
     split at h
     · rename_i k'
       simp only[R] at hx hy; cases hx; cases hy
       have:(x==y)=decide (x=y):=by by_cases h:x=y<;>simp[h]
       simp only[hu,eqV,if_true,this]
     · cases h
   · rename_i hu
     split at h
     · simp only[R] at hx hy; cases hx; cases hy
       have:(x==y)=decide (x=y):=by by_cases h:x=y<;>simp[h]
       simp only[hu,eqV,this]
     · cases h
   · rename_i fs hu
     split at h
     · rename_i row
       simp only[Bool.and_eq_true,Bool.not_eq_true'] at h
       simp only[R] at hx hy
       obtain ⟨xs,e1,hx⟩:=hx
       obtain ⟨ys,e2,hy⟩:=hy
       cases e1; cases e2
       simp only[hu,h.1]
       have:=uT (P:=P) (f:=fun a b u=>aeq P d u a b) (g:=fv P d) (fun t ty x y a b=>wS d t ty x y a b) (p1:=[]) (p2:=[]) h.2 hx hy rfl rfl
       exact this
     · cases h
   · cases h
theorem apx {t:TypeId}{ty:Ty}{x y:ty.V}{a b:AVal} (h:acO P t ty=true) (hx:R Γ ty x false [a]) (hy:R Γ ty y false [b]):aeq P 8 t a b=some (eqV ty x y):=by
 unfold acO at h
 unfold aeq
 split at h
 · rename_i n e hu
   split at h
   · rename_i n' u
     simp only[Bool.and_eq_true,Nat.beq_eq] at h
     obtain ⟨⟨rfl,hp⟩,hk⟩:=h
     obtain ⟨sz,dd,s1,s2,s3,_,_⟩:=lj hp
     simp only[R] at hx hy
     obtain ⟨xs,e1,hn1,l1,rfl,h1⟩:=hx
     obtain ⟨ys,e2,hn2,l2,rfl,h2⟩:=hy
     cases e1; cases e2
     simp only[hu,s1,Option.bind_some,eqV]
     have:=uS (P:=P) (e:=e) (u:=u) (n:=sz) (f:=fun a b u=>aeq P 7 u a b) s3.symm hp (fun x y a b hx hy=>wS 7 e u x y a b hk hx hy) x y l1 l2 0 [] [] h1 h2 (by rw[hn1,hn2]) (by simp) (by simp)
     rw[hn1,List.nil_append,List.nil_append,← List.range_eq_range'] at this
     exact this
   · cases h
 · cases h
theorem aaV {t:TypeId}{lit:Bool}{x y:TV}{a b:AVal}{r:Bool} (hx:R Γ x.t x.v false [a]) (hy:R Γ y.t y.v false [b]) (hxv:x.t.isV=true) (hyv:y.t.isV=true) (h:acP P t x y=some r) :
   (∀ k n,a ≠ .int k n )∧(∀ s,a ≠ .str s)∧cond (eqOk P t lit a b) (aeq P 8 t a b) none=some r:=by
 obtain ⟨xt,xv⟩:=x
 obtain ⟨yt,yv⟩:=y
 unfold acP at h
 simp only at h hx hy hxv hyv
 split at h
 · split at h
   · rename_i hu
     cases h
     simp only[R] at hx hy; cases hx; cases hy
     refine ⟨(fun _ _ e=>by cases e),(fun _ e=>by cases e),?_⟩
     simp only[eqOk,cond_true,aeq,hu]
   · cases h
 · split at h
   · rename_i hu
     cases h
     simp only[R] at hx hy; cases hy
     obtain ⟨_,_,_,_,e⟩:=hx; cases e
     refine ⟨(fun _ _ e=>by cases e),(fun _ e=>by cases e),?_⟩
     simp only[eqOk,cond_true,aeq,hu]
   · cases h
 · split at h
   · rename_i hu
     cases h
     simp only[R] at hx hy; cases hx
     obtain ⟨_,_,_,_,e⟩:=hy; cases e
     refine ⟨(fun _ _ e=>by cases e),(fun _ e=>by cases e),?_⟩
     simp only[eqOk,cond_true,aeq,hu]
   · cases h
 · split at h
   · rename_i hu
     simp only[tR] at h
     cases h
     simp only[R] at hx hy
     cases hy
     rcases hx with ⟨e0,e⟩ | ⟨_,_,_,e0,_,_,e⟩
     · cases e
       refine ⟨(fun _ _ e=>by cases e),(fun _ e=>by cases e),?_⟩
       rw[e0]
       simp only[eqOk,cond_true,aeq,hu,Option.isNone_none]
     · cases e
       refine ⟨(fun _ _ e=>by cases e),(fun _ e=>by cases e),?_⟩
       rw[e0]
       simp only[eqOk,cond_true,aeq,hu,Option.isNone_some]
   · cases h
 · split at h
   · rename_i hu
     simp only[tR] at h
     cases h
     simp only[R] at hx hy
     cases hx
     rcases hy with ⟨e0,e⟩ | ⟨_,_,_,e0,_,_,e⟩
     · cases e
       refine ⟨(fun _ _ e=>by cases e),(fun _ e=>by cases e),?_⟩
       rw[e0]
       simp only[eqOk,cond_true,aeq,hu,Option.isNone_none]
     · cases e
       refine ⟨(fun _ _ e=>by cases e),(fun _ e=>by cases e),?_⟩
       rw[e0]
       simp only[eqOk,cond_true,aeq,hu,Option.isNone_some]
   · cases h
 · cases ho:fv P 8 t .bool with
   | false=>rw[ho] at h; cases h
   | true =>
     rw[ho,cond_true] at h
     have hh:r=(xv==yv):=by
       simp only[dM,Ty.beq,dite_true] at h
       simpa using h.symm
     have hq:=wS (P:=P) 8 t .bool xv yv a b ho hx hy
     simp only[R] at hx hy; cases hx; cases hy
     refine ⟨(fun _ _ e=>by cases e),(fun _ e=>by cases e),?_⟩
     simp only[eqOk,cond_true,hq,eqV,hh]
 · rename_i n1 u1 n2 u2
   cases hg:(!(P.eqGuardType P.depth t)&&acO P t (.arr n1 u1)) with
   | false=>rw[hg] at h; cases h
   | true =>
     rw[hg,cond_true] at h
     rw[Bool.and_eq_true] at hg
     obtain ⟨e,hr⟩:=bh h
     cases e
     subst hr
     have hq:=apx (P:=P) hg.2 hx hy
     simp only[R] at hx hy
     obtain ⟨_,e1,_⟩:=hx
     obtain ⟨_,e2,_⟩:=hy
     cases e1; cases e2
     refine ⟨(fun _ _ e=>by cases e),(fun _ e=>by cases e),?_⟩
     simp only[eqOk,hg.1,cond_true]
     exact hq
 · rename_i u u'
   cases hg:(!(P.eqGuardType P.depth t)) with
   | false=>rw[hg] at h; cases h
   | true =>
     rw[hg,cond_true] at h
     have nx:=sk (P:=P) (t:=t) (w:=⟨.agg u,xv⟩) hxv hx
     have ny:=sk (P:=P) (t:=t) (w:=⟨.agg u',yv⟩) hyv hy
     have hq:aeq P 8 t a b=some r:=by
       cases ho:fv P 8 t (ii P t ⟨.agg u,xv⟩).t with
       | true =>
         rw[ho,cond_true] at h
         obtain ⟨e,hr⟩:=bh h
         subst hr
         generalize ii P t ⟨.agg u,xv⟩=X at *
         generalize ii P t ⟨.agg u',yv⟩=Y at *
         obtain ⟨Xt,Xv⟩:=X
         obtain ⟨Yt,Yv⟩:=Y
         simp only at e
         subst e
         exact wS 8 t _ _ _ a b ho nx.2 ny.2
       | false =>
         rw[ho,cond_false] at h
         cases ho2:fv P 8 t (ii P t ⟨.agg u',yv⟩).t with
         | false=>rw[ho2] at h; cases h
         | true =>
           rw[ho2,cond_true] at h
           obtain ⟨e,hr⟩:=bh h
           subst hr
           generalize ii P t ⟨.agg u,xv⟩=X at *
           generalize ii P t ⟨.agg u',yv⟩=Y at *
           obtain ⟨Xt,Xv⟩:=X
           obtain ⟨Yt,Yv⟩:=Y
           simp only at e
           subst e
           exact wS 8 t _ _ _ a b ho2 nx.2 ny.2
     simp only[R] at hx hy
     obtain ⟨_,e1,_⟩:=hx
     obtain ⟨_,e2,_⟩:=hy
     cases e1; cases e2
     refine ⟨(fun _ _ e=>by cases e),(fun _ e=>by cases e),?_⟩
     simp only[eqOk,hg,cond_true,hq]
 · cases h
end
end Go.TY
namespace Go.TY
open Go.EM
abbrev Γ0:Ctx:=fun _=>none
structure TOk (F:PFn) (tf:TFn):Prop where
 ps:tf.ps.closed=true
 res:tf.res.closed=true
 isV:tf.res.isV=true
 run:∀ v r as,tf.fn v=some r→R Γ0 tf.ps v false as→∃ a,F as=some a∧R Γ0 tf.res r false [a]
section
variable {Φ:Frame}{Γ:Ctx}{m:Mem}{st:ar}{P:Program}
theorem ac6 {s:List UInt8}{a:AVal} (h:R Γ .str s false [a]):a = .str s:=by simp only[R] at h; cases h; rfl
theorem apA {b:Bool}{a:AVal} (h:R Γ .bool b false [a]):a = .bool b:=by simp only[R] at h; cases h; rfl
theorem mb {t:TypeId}{lit:Bool}{a b:AVal}{r:Bool} (h1:∀ k n,a ≠ .int k n) (h2:∀ s,a ≠ .str s) (h:cond (eqOk P t lit a b) (aeq P 8 t a b) none=some r):abin P .eql t lit a b=some (.bool r)∧abin P .neq t lit a b=some (.bool !r):=by
 cases ho:eqOk P t lit a b with
 | false=>rw[ho] at h; cases h
 | true =>
   rw[ho,cond_true] at h
   constructor
   · cases a<;>first | exact absurd rfl (h1 _ _) | exact absurd rfl (h2 _) | (simp only[abin,ho,cond_true,h,Option.map_some])
   · cases a<;>first | exact absurd rfl (h1 _ _) | exact absurd rfl (h2 _) | (simp only[abin,ho,cond_true,h,Option.map_some])
theorem aiA {op:BinOp}{t:TypeId}{lit:Bool}{x y:TV}{a b:AVal} (hx:R Γ x.t x.v false [a]) (hy:R Γ y.t y.v false [b]) (hxv:x.t.isV=true) (hyv:y.t.isV=true):OkP Γ m (abin P op t lit a b) (binT P op t x y m):=by
 unfold binT
 split
 · split
   · rename_i k n k' n'
     simp only[R] at hx hy; cases hx; cases hy
     exact pX (.inl rfl)
   · exact .no
 · split
   · rename_i k n k' n'
     simp only[R] at hx hy; cases hx; cases hy
     exact pX (.inr rfl)
   · exact .no
 · rename_i h1 h2
   split
   · rename_i k n k' n'
     simp only[R] at hx hy; cases hx; cases hy
     cases hk:kbeq k k' with
     | false=>exact .no
     | true =>
       rw[← lF hk]
       exact ain h1 h2
   · simp only[R] at hx hy; cases hx; cases hy
     exact ahM
   · split
     · split
       · rename_i r hr
         obtain ⟨g1,g2,g3⟩:=aaV (lit:=lit) hx hy hxv hyv hr
         exact .ok rfl rfl (mb g1 g2 g3).1
       · exact .no
     · split
       · rename_i r hr
         obtain ⟨g1,g2,g3⟩:=aaV (lit:=lit) hx hy hxv hyv hr
         exact .ok rfl rfl (mb g1 g2 g3).2
       · exact .no
     · exact .no
theorem aoR {op:UnOp}{x:TV}{a:AVal} (hx:R Γ x.t x.v false [a]):OkP Γ m (aun op a) (unT op x m):=by
 unfold unT
 split
 · simp only[R] at hx; cases hx; exact .ok rfl rfl rfl
 · simp only[R] at hx; cases hx; exact .ok rfl rfl rfl
 · simp only[R] at hx; cases hx; exact .ok rfl rfl rfl
 · exact .no
theorem acm {c x y:TV}{a b d:AVal} (hc:R Γ c.t c.v false [a]) (hx:R Γ x.t x.v false [b]) (hy:R Γ y.t y.v false [d]) (hxv:x.t.isV=true) (hyv:y.t.isV=true):OkP Γ m (abn a b d) (ah3 c x y m):=by
 unfold ah3
 split
 · simp only[R] at hc; cases hc
   refine .br (fun e => ?_) (fun e => ?_)
   · subst e; exact .ok hxv hx rfl
   · subst e; exact .ok hyv hy rfl
 · exact .no
theorem nV:∀ {xs:List Int}{as:List AVal},All2 (fun x a=>[a]=[AVal.int .u8 x]) xs as→bi as=some (xs.map fun n=>UInt8.ofNat n.toNat)
 | [],[],_=>rfl
 | [],_::_,h=>h.elim
 | _::_,[],h=>h.elim
 | x::xs,a::as,h=>by
   obtain ⟨h1,h2⟩:=h
   cases h1
   simp only[bi,nV h2,Option.map_some,List.map_cons]
theorem acX {src dst:TypeId}{x:TV}{a:AVal} (hx:R Γ x.t x.v false [a]):OkP Γ m (pr P src dst a) (aiw P src dst x m):=by
 unfold aiw
 split
 · rename_i h1 h2
   split
   · simp only[R] at hx; cases hx; exact .ok rfl rfl (by simp only[pr,h1,h2])
   · exact .no
 · rename_i h1 h2
   split
   · simp only[R] at hx; cases hx; exact .ok rfl rfl (by simp only[pr,h1,h2])
   · simp only[R] at hx; cases hx; exact .ok rfl rfl (by simp only[pr,h1,h2])
   · rename_i xs
     split
     · rename_i e hs2
       split
       · rename_i he
         cases hemp:xs.isEmpty with
         | true=>exact .no
         | false =>
           simp only[cond_false]
           simp only[R] at hx
           rcases hx with ⟨rfl,_⟩ | ⟨f,n,as,hx,hn,ha⟩
           · cases hemp
           cases hx
           have hn:n=1:=by
             rcases hn with rfl | h
             · cases hemp
             · exact h
           subst hn
           have hb:=nV ha
           rw[h1] at hs2
           cases hs2
           refine .ok rfl rfl ?_
           simp only[pr,h1,h2,he]
           rw[hb]
           rfl
       · exact .no
     · exact .no
   · exact .no
 · exact .no
theorem ku {A:Type}{l:List A}{i:Int}{x:A} (h:atI l i=some x):0≤i∧l[i.toNat]? = some x:=by
 unfold atI at h
 split at h
 · rename_i h0; exact ⟨h0,h⟩
 · cases h
theorem o8 {n:Nat}{i:Int}{k:Nat} (h:inI n i=some k):(0≤i∧i<n)∧i.toNat=k:=dK h
theorem pV {A:Type}{l r:List A}{lo hi:Int} (h:subI l lo hi=some r):(0≤lo∧lo≤hi∧hi≤l.length)∧(l.take hi.toNat).drop lo.toNat=r:=dK h
theorem aaE {t:TypeId}{x i:TV}{a b:AVal} (hx:R Γ x.t x.v false [a]) (hi:R Γ i.t i.v false [b]):OkP Γ m (lY P t a b) (aaF P t x i m):=by
 unfold aaF
 split
 · simp only[R] at hi; cases hi
   split
   · rename_i hu
     split
     · simp only[R] at hx; cases hx
       refine .opt fun z hz => ?_
       obtain ⟨h0,h1⟩:=ku hz
       exact .ok rfl rfl (by simp only[lY,hu,h0,if_true,h1,Option.map_some])
     · exact .no
   · rename_i len e hu
     split
     · rename_i n hs
       split
       · rename_i len' u xs
         cases hc:(Nat.beq u.size n&&Nat.beq len len'&&fJ P e u) with
         | false=>exact .no
         | true =>
           simp only[Bool.and_eq_true,Nat.beq_eq] at hc
           obtain ⟨⟨hc1,hc2⟩,hc3⟩:=hc
           subst hc2
           refine .opt fun z hz => ?_
           obtain ⟨h0,h1⟩:=ku hz
           simp only[R] at hx
           obtain ⟨cs,hx,hlen,ls,hls,hall⟩:=hx
           cases hx
           obtain ⟨a,g1,g2,g3⟩:=kv (P:=P) (off:=0) (pre:=[]) (post:=[]) hc1 hc3 hall h1
           simp only[List.nil_append,List.append_nil,List.length_nil,Nat.zero_add] at g3
           refine .ok g1 g2 ?_
           have hi:=(List.getElem?_eq_some_iff.1 h1).1
           simp only[lY,hu]
           rw[if_pos ⟨h0,by omega⟩,hs,Option.bind_some,hls]
           exact g3 trivial
       · exact .no
     · exact .no
   · exact .no
 · exact .no
theorem fO {n:Nat} (h:Nat.beq n 0=false):n≠0:=fun e=>by rw[e] at h; cases h
theorem aio (hm:MemR Φ Γ m st) {t:TypeId}{x i:TV}{a b:AVal} (hx:R Γ x.t x.v false [a]) (hi:R Γ i.t i.v false [b]):OkP Γ m (aidx P t a b) (idxT P t x i m):=by
 unfold idxT
 split
 · rename_i k n
   simp only[R] at hi; cases hi
   split
   · rename_i e hu
     split
     · rename_i sz hs
       split
       · rename_i u xs
         cases hc:(Nat.beq u.size sz && !(Nat.beq sz 0)&&u.isV) with
         | false=>exact .no
         | true =>
           simp only[Bool.and_eq_true,Nat.beq_eq,Bool.not_eq_true'] at hc
           obtain ⟨⟨hc1,hc2⟩,hc3⟩:=hc
           have hc2:=fO hc2
           refine .opt fun z hz => ?_
           obtain ⟨h0,h1⟩:=ku hz
           simp only[R] at hx
           rcases hx with ⟨hn,hx⟩ | ⟨f,n',as,hx,hn,hx2⟩
           · rw[hn] at h1; simp at h1
           · cases hx
             have hne:xs≠[]:=fun e=>by rw[e] at h1; simp at h1
             have hn':n'=sz:=(hn.resolve_left hne).trans hc1
             obtain ⟨v,hv1,hv2⟩:=ky hx2 h1
             refine .ok rfl (a:=.rptr v.cells) ⟨v,[],hv2,fun _=>rfl,by rw[List.drop_zero,List.append_nil]⟩ ?_
             simp only[aidx,hu,hs]
             rw[if_pos ⟨hn',hc2,h0⟩,hv1,Option.map_some]
       · rename_i id _
         split
         · rename_i e u xs hg
           cases hc:(Nat.beq u.size sz && !(Nat.beq sz 0)) with
           | false=>exact .no
           | true =>
             simp only[Bool.and_eq_true,Nat.beq_eq,Bool.not_eq_true'] at hc
             obtain ⟨hc1,hc2⟩:=hc
             have hc2:=fO hc2
             refine .opt fun z hz => ?_
             obtain ⟨⟨h0,h1⟩,rfl⟩:=o8 hz
             have hr:=hm.at id
             rw[hg] at hr
             obtain ⟨_,_,_,_,hr⟩:=hr
             simp only[R] at hx
             rcases hr with ⟨rfl,_⟩ | ⟨r,as,g1,g2,g3⟩
             · simp at h1; omega
             · rw[g1] at hx
               cases hx
               refine .ok rfl (a:=.ptr r xs.length n.toNat 0) ⟨r,u.size,xs.length,g1,rfl⟩ ?_
               simp only[aidx,hu,hs,Nat.zero_add]
               rw[if_pos ⟨hc1,hc2,h0,h1⟩]
         · exact .no
       · rename_i id v
         split
         · rename_i e u xs hg
           cases hc:(Nat.beq u.size sz && !(Nat.beq sz 0)) with
           | false=>exact .no
           | true =>
             simp only[Bool.and_eq_true,Nat.beq_eq,Bool.not_eq_true'] at hc
             obtain ⟨hc1,hc2⟩:=hc
             have hc2:=fO hc2
             refine .br (fun _=>.no) (fun hne => ?_)
             refine .opt fun z hz => ?_
             obtain ⟨⟨h0,h1⟩,rfl⟩:=o8 hz
             have hr:=hm.at id
             rw[hg] at hr
             obtain ⟨_,_,_,_,hr⟩:=hr
             simp only[R] at hx
             obtain ⟨r0,n0,l0,k1,hx⟩:=hx
             cases hx
             rcases hr with ⟨rfl,_⟩ | ⟨r,as,g1,g2,g3⟩
             · cases hne
             · rw[g1] at k1
               cases k1
               refine .ok rfl (a:=.ptr r0 xs.length (v.1+n.toNat) 0) ⟨r0,u.size,xs.length,g1,rfl⟩ ?_
               simp only[aidx,hu,hs]
               rw[if_pos ⟨hc1,hc2,h0,h1⟩]
         · exact .no
       · exact .no
     · exact .no
   · rename_i len e hu
     split
     · rename_i sz hs
       split
       · rename_i t off v
         split
         · rename_i len' u xs hp
           cases hc:(Nat.beq u.size sz && !(Nat.beq sz 0)&&u.isV&&t.isV&&Nat.beq len len'&&(!u.closed||t.closed)) with
           | false=>exact .no
           | true =>
             simp only[Bool.and_eq_true,Nat.beq_eq,Bool.not_eq_true'] at hc
             obtain ⟨⟨⟨⟨⟨hc1,hc2⟩,hc3⟩,hc4⟩,hc5⟩,hc6⟩:=hc
             subst hc5
             refine .opt fun z hz => ?_
             obtain ⟨h0,h1⟩:=ku hz
             simp only[R] at hx
             obtain ⟨b,rest,hb,hrc,hx⟩:=hx
             cases hx
             obtain ⟨aa,ha1,ha2⟩:=iI (w0:=⟨t,v⟩) (bL hc4 hb) hp rfl
             simp only[R] at ha1
             obtain ⟨cs,ha3,hlen,ls,hls,hall⟩:=ha1
             cases ha3
             have hpick:Nat.ble (off+len*sz) b.cells.length=true∧(b.cells.drop off).take (len*sz)=cs:=by
               unfold iG at ha2
               simp only[cond_true] at ha2
               cases hb':Nat.ble (off+len*sz) b.cells.length with
               | false=>rw[hb'] at ha2; cases ha2
               | true=>rw[hb',cond_true] at ha2; cases ha2; exact ⟨rfl,rfl⟩
             rw[Nat.ble_eq] at hpick
             have hilt:n.toNat<xs.length:=by
               rcases Nat.lt_or_ge n.toNat xs.length with h' | h'
               · exact h'
               · rw[List.getElem?_eq_none h'] at h1; cases h1
             obtain ⟨c,post,hsp,hcr⟩:=sv hc1 hall h1
             have hdrop:(b.cells++rest).drop (off+n.toNat*sz)=c++(post++((b.cells.drop (off+len*sz))++rest)):=by
               have e1:b.cells.drop off=cs++b.cells.drop (off+len*sz):=by
                 rw[← hpick.2,← List.drop_drop,List.take_append_drop]
               rw[← List.drop_drop,List.drop_append_of_le_length (by omega),e1,List.append_assoc,hls,List.drop_append_of_le_length (by have:=hsp; rw[← hls]; rw[hls,this.2]; simp[this.1]),hsp.2,← hsp.1,List.drop_left' rfl]
               simp
             obtain ⟨cv,k1,k2,_,_⟩:=gw hc3 hcr
             refine .ok rfl (a:=.rptr ((b.cells++rest).drop (off+n.toNat*sz))) ⟨cv,post++((b.cells.drop (off+len*sz))++rest),k2,fun hu=>by
               have ht:t.closed=true:=by simpa [hu] using hc6
               have h1:=gf (aY b ▸ bP (t:=t) ht hb)
               have h2:aC ((b.cells++rest).drop (off+n.toNat*sz))=true:=bw _ _ (by rw[dD,h1,hrc ht]; rfl)
               rw[hdrop,dD,Bool.and_eq_true] at h2
               exact h2.2,by rw[hdrop,List.drop_zero,k1]⟩ ?_
             simp only[aidx,hu,hs]
             rw[if_pos ⟨h0,by omega⟩,List.drop_drop]
         · exact .no
       · rename_i id off _
         cases hc:(!(Nat.beq sz 0)) with
         | false=>exact .no
         | true =>
           refine .opt fun z hz => ?_
           obtain ⟨⟨h0,h1⟩,rfl⟩:=o8 hz
           simp only[R] at hx
           obtain ⟨r,n0,g1,hx⟩:=hx
           cases hx
           refine .ok rfl (a:=.ptr r 1 0 (off+n.toNat*sz)) ⟨r,n0,1,g1,rfl⟩ ?_
           simp only[aidx,hu,hs]
           rw[if_pos ⟨h0,h1⟩]
       · exact .no
     · exact .no
   · exact .no
 · exact .no
theorem aaQ {s:TypeId}{x:TV}{a:AVal}{f:Nat} (hx:R Γ x.t x.v false [a]):OkP Γ m (jd P s a f) (aaR P s x f m):=by
 unfold aaR
 split
 · rename_i fd hf
   split
   · rename_i n hs
     split
     · simp only[R] at hx; obtain ⟨r,n,hg,hx⟩:=hx; cases hx
       exact .ok rfl (a:=.ptr r 1 0 _) ⟨r,n,hg,rfl⟩ (by simp only[jd,hf,hs])
     · simp only[R] at hx; obtain ⟨r,n,len,hg,hx⟩:=hx; cases hx
       exact .ok rfl (a:=.ptr r len _ _) ⟨r,n,len,hg,rfl⟩ (by simp only[jd,hf,hs])
     · simp only[R] at hx; obtain ⟨b,rest,hb,hrc,hx⟩:=hx; cases hx
       exact .ok rfl (a:=.rptr _) ⟨b,rest,hb,hrc,rfl⟩ (by simp only[jd,hf,hs,List.drop_drop])
     · simp only[R] at hx
       refine .opt fun y hy => ?_
       rcases hx with ⟨e0,_⟩ | ⟨z,b,rest,e0,hb,hrc,hx⟩
       · rw[e0] at hy; cases hy
       · rw[e0] at hy; cases hy
         cases hx
         exact .ok rfl (a:=.rptr _) ⟨b,rest,hb,hrc,rfl⟩ (by simp only[jd,hf,hs,List.drop_drop])
     · exact .no
   · exact .no
 · exact .no
theorem aaO {s:TypeId}{x:TV}{a:AVal}{f:Nat} (hxv:x.t.isV=true) (hx:R Γ x.t x.v false [a]):OkP Γ m (oc P s a f) (aaP P s x f m):=by
 unfold aaP
 split
 · rename_i fd hf
   cases hg:x.t.isAgg with
   | false=>exact .no
   | true =>
     have ha:=ta hxv hx
     rw[hg] at ha
     cases a<;>try (cases ha; done)
     rename_i cs
     refine .ofO fun w hw => ?_
     obtain ⟨h1,b,h2,h3⟩:=fY (bL hxv hx) hw
     exact ⟨h1,b,h2,by simp only[oc,hf]; exact h3⟩
 · exact .no
theorem adG:∀ {t:Ty}{v:t.V}{as:List AVal}{i:Nat}{w:TV},rowV t=true→R Γ t v false as→nthT t v i=some w→w.t.isV=true∧∃ a,R Γ w.t w.v false [a]∧as[i]? = some a
 | .cons t ts,v,as,0,w,hv,hr,h=>by
   simp only[rowV,Bool.and_eq_true] at hv
   simp only[R] at hr
   obtain ⟨l1,l2,rfl,h1,h2⟩:=hr
   obtain ⟨a,rfl⟩:=eE hv.1 h1
   simp only[nthT] at h; cases h
   exact ⟨hv.1,a,h1,rfl⟩
 | .cons t ts,v,as,i+1,w,hv,hr,h=>by
   simp only[rowV,Bool.and_eq_true] at hv
   simp only[R] at hr
   obtain ⟨l1,l2,rfl,h1,h2⟩:=hr
   obtain ⟨a,rfl⟩:=eE hv.1 h1
   simp only[nthT] at h
   exact adG (t:=ts) (i:=i) hv.2 h2 h
 | .unit,v,as,i,w,hv,hr,h=>by cases i<;>cases h
 | .int _,_,_,_,_,hv,_,_=>by cases hv
 | .bool,_,_,_,_,hv,_,_=>by cases hv
 | .str,_,_,_,_,hv,_,_=>by cases hv
 | .sl _,_,_,_,_,hv,_,_=>by cases hv
 | .agg _,_,_,_,_,hv,_,_=>by cases hv
 | .arr _ _,_,_,_,_,hv,_,_=>by cases hv
 | .tup _,_,_,_,_,hv,_,_=>by cases hv
 | .nilsl,_,_,_,_,hv,_,_=>by cases hv
 | .nilp,_,_,_,_,hv,_,_=>by cases hv
 | .fn f,_,_,_,_,hv,_,_=>by cases hv
 | .err,_,_,_,_,hv,_,_=>by cases hv
 | .undef,_,_,_,_,hv,_,_=>by cases hv
 | .any,_,_,_,_,hv,_,_=>by cases hv
 | .own _,_,_,_,_,hv,_,_=>by cases hv
 | .it _,_,_,_,_,hv,_,_=>by cases hv
 | .mp _,_,_,_,_,hv,_,_=>by cases hv
 | .bx _ _,_,_,_,_,hv,_,_=>by cases hv
 | .op _,_,_,_,_,hv,_,_=>by cases hv
 | .ptr _ _,_,_,_,_,hv,_,_=>by cases hv
 | .ba _ _ _ _,_,_,_,_,hv,_,_=>by cases hv
 | .vw _,_,_,_,_,hv,_,_=>by cases hv
 | .rp _ _,_,_,_,_,hv,_,_=>by cases hv
 | .orp _ _,_,_,_,_,hv,_,_=>by cases hv
 | .cl _ _,_,_,_,_,hv,_,_=>by cases hv
theorem sx {x:TV}{a:AVal}{i:Nat} (hx:R Γ x.t x.v false [a]):OkP Γ m (je a i) (pc x i m):=by
 unfold pc
 split
 · rename_i t v
   simp only[R] at hx; obtain ⟨as,hx,hr⟩:=hx; cases hx
   cases hv:rowV t with
   | false=>exact .no
   | true =>
     refine .ofO fun w hw => ?_
     obtain ⟨h1,b,h2,h3⟩:=adG hv hr hw
     exact ⟨h1,b,h2,h3⟩
 · exact .no
def OptR (Γ:Ctx) (x:Option TV) (a:Option AVal):Prop :=
 match x,a with
 | none,none=>True
 | some w,some a=>R Γ w.t w.v false [a]
 | _,_=>False
theorem dH {x:Option TV}{a:Option AVal}{d:Nat}{n:Int} (h:OptR Γ x a) (hb:hC x d=some n) (h0:0≤n):dN a d=some n.toNat:=by
 unfold hC at hb
 split at hb
 · cases hb
   cases a with
   | none=>simp[dN]
   | some _=>exact h.elim
 · cases hb
   cases a with
   | none=>exact h.elim
   | some a =>
     simp only[OptR,R] at h; cases h
     simp[dN,h0]
 · cases hb
theorem mT {n:Nat}{l h:Int}{p:Nat×Nat} (e:ahJ n l h=some p):(0≤l∧l≤h∧h≤n)∧p=(l.toNat,h.toNat-l.toNat):=by
 obtain ⟨h1,h2⟩:=dK e
 exact ⟨h1,h2.symm⟩
theorem zu (hm:MemR Φ Γ m st) {t:TypeId}{x:TV}{a:AVal}{lo hi mx:Option TV}{l h q:Option AVal} (hx:R Γ x.t x.v false [a]) (h1:OptR Γ lo l) (h2:OptR Γ hi h) (h3:OptR Γ mx q):OkP Γ m (hH P t a l h q) (zw P t x lo hi mx m):=by
 unfold zw
 split
 · exact .no
 · cases q with
   | some _=>exact h3.elim
   | none =>
     split
     · rename_i hu
       split
       · rename_i s
         simp only[R] at hx; cases hx
         split
         · rename_i n k e1 e2
           refine .opt fun z hz => ?_
           obtain ⟨⟨g1,g2,g3⟩,rfl⟩:=pV hz
           have b1:=dH (d:=0) h1 e1 g1
           have b2:=dH (d:=s.length) h2 e2 (by omega)
           refine .ok rfl rfl ?_
           simp only[hH,hu,b1,b2]
           rw[if_pos ⟨by omega,by omega⟩]
         · exact .no
       · exact .no
     · rename_i e hu
       split
       · rename_i n hs
         split
         · rename_i u xs
           split
           · rename_i l' k' e1 e2
             cases hc:Nat.beq u.size n with
             | false=>exact .no
             | true =>
               rw[Nat.beq_eq] at hc
               refine .opt fun z hz => ?_
               obtain ⟨⟨g1,g2,g3⟩,rfl⟩:=pV hz
               simp only[R] at hx
               rcases hx with ⟨hn,hx⟩ | ⟨f,n',as,hx,hn,hx2⟩
               · cases hx
                 subst hn
                 have b1:=dH (d:=0) h1 e1 g1
                 have b2:=dH (d:=0) h2 e2 (by omega)
                 simp only[List.length_nil,Int.natCast_zero] at g3
                 have z1:l'.toNat=0:=by omega
                 have z2:k'.toNat=0:=by omega
                 refine .ok rfl (a:=.nil) (.inl ⟨by simp,rfl⟩) ?_
                 have b3:dN none 0=some 0:=rfl
                 simp only[hH,hu,hs,b1,b2,b3,z1,z2,Option.isSome_none,Bool.false_and,Bool.false_eq_true,if_false]
               · cases hx
                 have hl:=bq hx2
                 have b1:=dH (d:=0) h1 e1 g1
                 have b2:=dH (d:=as.length) h2 (by rw[hl]; exact e2) (by omega)
                 have hn':n'=n∨as.length=0:=by
                   rcases hn with rfl | hn
                   · right; rw[hl]; rfl
                   · left; exact hn.trans hc
                 refine .ok rfl (a:=.tree (f&&k'.toNat==as.length) n' ((as.take k'.toNat).drop l'.toNat)) (.inr ⟨_,n',_,rfl,?_,mq _ (mm _ hx2)⟩) ?_
                 · rcases hn with rfl | hn
                   · left; simp
                   · right; exact hn
                 simp only[hH,hu,hs,b1,b2]
                 rw[if_pos ⟨hn',by omega,by omega⟩]
           · exact .no
         · rename_i id _
           split
           · rename_i e' u xs hg
             split
             · rename_i l' k' e1 e2
               cases hc:Nat.beq u.size n with
               | false=>exact .no
               | true =>
                 rw[Nat.beq_eq] at hc
                 refine .br (fun _=>.no) (fun hne => ?_)
                 refine .opt fun z hz => ?_
                 obtain ⟨⟨g1,g2,g3⟩,rfl⟩:=mT hz
                 have hr:=hm.at id
                 rw[hg] at hr
                 obtain ⟨_,_,_,_,hr⟩:=hr
                 simp only[R] at hx
                 rcases hr with ⟨rfl,_⟩ | ⟨r,as,k1,k2,k3⟩
                 · cases hne
                 · rw[k1] at hx
                   cases hx
                   have b1:=dH (d:=0) h1 e1 g1
                   have b2:=dH (d:=xs.length) h2 e2 (by omega)
                   refine .ok rfl (a:=.own r u.size xs.length l'.toNat (k'.toNat-l'.toNat)) ⟨r,u.size,xs.length,k1,rfl⟩ ?_
                   simp only[hH,hu,hs,b1,b2,Nat.zero_add]
                   rw[if_pos ⟨hc,by omega,by omega⟩]
             · exact .no
           · exact .no
         · rename_i id v
           split
           · rename_i e' u xs hg
             split
             · rename_i l' k' e1 e2
               cases hc:Nat.beq u.size n with
               | false=>exact .no
               | true =>
                 rw[Nat.beq_eq] at hc
                 refine .br (fun _=>.no) (fun hne => ?_)
                 refine .opt fun z hz => ?_
                 obtain ⟨⟨g1,g2,g3⟩,rfl⟩:=mT hz
                 have hr:=hm.at id
                 rw[hg] at hr
                 obtain ⟨_,_,_,_,hr⟩:=hr
                 simp only[R] at hx
                 obtain ⟨r0,n0,l0,q1,hx⟩:=hx
                 cases hx
                 rcases hr with ⟨rfl,_⟩ | ⟨r,as,k1,k2,k3⟩
                 · cases hne
                 · rw[k1] at q1
                   cases q1
                   have b1:=dH (d:=0) h1 e1 g1
                   have b2:=dH (d:=v.2) h2 e2 (by omega)
                   refine .ok rfl (a:=.own r0 u.size xs.length (v.1+l'.toNat) (k'.toNat-l'.toNat)) ⟨r0,u.size,xs.length,k1,rfl⟩ ?_
                   simp only[hH,hu,hs,b1,b2]
                   rw[if_pos ⟨hc,by omega,by omega⟩]
             · exact .no
           · exact .no
         · exact .no
       · exact .no
     · exact .no
theorem aie (hm:MemR Φ Γ m st) {t:TypeId}{x:TV}{a:AVal} (hx:R Γ x.t x.v false [a]):OkP Γ m (alen P t a) (lenT P t x m):=by
 unfold lenT
 split
 · rename_i hu
   split
   · simp only[R] at hx; cases hx; exact .ok rfl rfl (by simp only[alen,hu])
   · exact .no
 · rename_i e hu
   split
   · simp only[R] at hx; cases hx; exact .ok rfl rfl (by simp only[alen,hu])
   · rename_i u xs
     simp only[R] at hx
     rcases hx with ⟨hn,hx⟩ | ⟨f,n',as,hx,hn,hx2⟩
     · cases hx; subst hn; exact .ok rfl rfl (by simp only[alen,hu]; rfl)
     · cases hx; exact .ok rfl rfl (by simp only[alen,hu,bq hx2])
   · rename_i id _
     split
     · rename_i e u xs hg
       have hr:=hm.at id
       rw[hg] at hr
       obtain ⟨_,_,_,_,hr⟩:=hr
       simp only[R] at hx
       rcases hr with ⟨rfl,_,g1,_⟩ | ⟨r,as,g1,g2,g3⟩
       · rw[g1] at hx
         rcases hx with hx | ⟨_,n',hx⟩
         · cases hx; exact .ok rfl rfl (by simp only[alen,hu]; rfl)
         · cases hx; exact .ok rfl rfl (by simp only[alen,hu]; rfl)
       · rw[g1] at hx; cases hx; exact .ok rfl rfl (by simp only[alen,hu])
     · exact .no
   · simp only[R] at hx
     obtain ⟨r0,n0,l0,q1,hx⟩:=hx
     cases hx
     exact .ok rfl rfl (by simp only[alen,hu])
   · exact .no
 · exact .no
theorem ail (a b:Int):(if b<a then b else a)=min a b:=by rw[Int.min_def]; split<;>split<;>omega
theorem aim (a b:Int):(if b>a then b else a)=max a b:=by rw[Int.max_def]; split<;>split<;>omega
theorem nv {mx:Bool}{l:List TV}{as:List AVal} (h:iq Γ l as):OkP Γ m (gp mx as) (oS mx l m):=by
 unfold oS
 split
 · rename_i k a k' b
   match as,h with
   | [x,y],h =>
     have h1:=h.1.2
     have h2:=h.2.1.2
     simp only[R] at h1 h2
     cases h1; cases h2
     cases hk:kbeq k k' with
     | false=>exact .no
     | true =>
       have e:=lF hk
       subst e
       refine .ok rfl rfl ?_
       simp only[gp,if_true]
       cases mx<;>simp only[cond_true,cond_false]
       · rw[ail]
       · rw[aim]
 · exact .no
def oe (Γ:Ctx) (l:List (Nat×TV)) (as:List (Nat×AVal)):Prop:=All2 (fun p q=>p.1=q.1∧p.2.t.isV=true∧R Γ p.2.t p.2.v false [q.2]) l as
theorem zT {fs:Array Field}:∀ {parts:List (Nat×TV)}{as:List (Nat×AVal)}{u w:TV}{cs:List AVal},R Γ u.t u.v false [.agg cs]→u.t.isV=true→u.t.okRow=true→oe Γ parts as→zU P fs u parts=some w →
   ∃ cs',sU P fs cs as=some cs'∧w.t.isV=true∧R Γ w.t w.v false [.agg cs']
 | [],[],u,w,cs,hu,hv,hk,hp,h=>by simp only[zU] at h; cases h; exact ⟨cs,rfl,hv,hu⟩
 | [],_::_,u,w,cs,hu,hv,hk,hp,h=>hp.elim
 | _::_,[],u,w,cs,hu,hv,hk,hp,h=>hp.elim
 | (i,x)::parts,(j,a)::as,u,w,cs,hu,hv,hk,hp,h=>by
   obtain ⟨⟨e,hx1,hx2⟩,hp⟩:=hp
   simp only at e hx1 hx2
   subst e
   unfold zU at h
   split at h
   · cases h
   · rename_i fd hf
     split at h
     · rename_i n hn
       cases hc:(Nat.beq n x.t.size&&x.t.okRow&&x.t.isV) with
       | false=>rw[hc] at h; cases h
       | true =>
         rw[hc,cond_true,Option.bind_eq_some_iff] at h
         obtain ⟨u',hu',h⟩:=h
         simp only[Bool.and_eq_true,Nat.beq_eq] at hc
         obtain ⟨⟨hc1,hc2⟩,hc3⟩:=hc
         obtain ⟨g1,g2,g3,g4,g5,g6⟩:=kj hu hv hk hx2 hx1 hu'
         have hcl:=bL hx1 hx2
         have hlen:=cU hcl
         obtain ⟨cs',k1,k2,k3⟩:=zT (cs:=cs.take fd.offset++a.cells++cs.drop (fd.offset+a.cells.length)) g1 g2 (g3 hc2) hp h
         refine ⟨cs',?_,k2,k3⟩
         unfold sU
         simp only[hf,hn]
         rw[show (AVal.agg cs).cells=cs from rfl] at g5
         rw[if_pos ⟨by omega,by omega,dW hc2 hcl⟩]
         rw[show n=a.cells.length by omega]
         exact k1
     · cases h
theorem abg {t:TypeId}{parts:List (Nat×TV)}{as:List (Nat×AVal)} (hp:oe Γ parts as):OkP Γ m (ma P t as) (abh P t parts m):=by
 unfold abh
 split
 · rename_i fs hu
   cases hi:fs.all fun f=>(P.info? f.type).isSome with
   | false=>exact .no
   | true =>
     simp only[cond_true]
     split
     · rename_i z hz
       cases hg:(z.t.isAgg&&z.t.okRow) with
       | false=>exact .no
       | true =>
         rw[Bool.and_eq_true] at hg
         simp only[cond_true]
         split
         · rename_i w hw
           obtain ⟨z1,a,z2,z3⟩:=hJ (Γ:=Γ) hz
           have ha:=ta z1 z3
           rw[hg.1] at ha
           cases a<;>try (cases ha; done)
           rename_i cs
           obtain ⟨cs',k1,k2,k3⟩:=zT z3 z1 hg.2 hp hw
           refine .ok k2 k3 ?_
           simp only[ma,z2,hu,hi,if_true]
           rw[show (AVal.agg cs).cells=cs from rfl,k1,Option.map_some]
         · exact .no
     · exact .no
 · rename_i n e hu
   cases hi:(parts.isEmpty&&(P.info? e).isSome) with
   | false=>exact .no
   | true =>
     simp only[cond_true]
     rw[Bool.and_eq_true] at hi
     split
     · rename_i z hz
       cases hg:z.t.isAgg with
       | false=>exact .no
       | true =>
         simp only[cond_true]
         obtain ⟨z1,a,z2,z3⟩:=hJ (Γ:=Γ) hz
         have ha:=ta z1 z3
         rw[hg] at ha
         have hpe:as.isEmpty=true:=by
           have h1:=hi.1
           rw[List.isEmpty_iff] at h1
           subst h1
           cases as with
           | nil=>rfl
           | cons _ _=>exact hp.elim
         refine .ok z1 z3 ?_
         simp only[ma,z2,hu]
         rw[if_pos ⟨hpe,ha.symm,hi.2⟩]
     · exact .no
 · exact .no
theorem aaM {e:TypeId}{u:Ty}{x:u.V}{a:AVal} (hf:kc P e u=true) (hr:R Γ u x false [a]):fits P e a=true:=by
 unfold kc at hf
 unfold fits
 split at hf
 · rename_i n d hn hd
   simp only[Bool.and_eq_true,Nat.beq_eq,Bool.not_eq_true'] at hf
   obtain ⟨⟨⟨⟨h1,h2⟩,h3⟩,h4⟩,h5⟩:=hf
   have hc:=bL h4 hr
   simp only[hn,hd,Bool.and_eq_true,beq_iff_eq,bne_iff_ne]
   refine ⟨⟨⟨by rw[cU hc,h1],?_⟩,dW h3 hc⟩,fO h5⟩
   rw[← ta h4 hr,jZ h2]
 · cases hf
theorem uh:∀ {l:List (Nat×TV)}{as:List (Nat×AVal)}{k:Nat},oe Γ l as→qB k l=true→wx k as=true
 | [],[],k,_,_=>rfl
 | (i,x)::l,(j,a)::as,k,h,hk=>by
   obtain ⟨⟨e,_⟩,h⟩:=h
   simp only at e
   subst e
   simp only[qB,Bool.and_eq_true,Nat.beq_eq] at hk
   simp only[wx,Bool.and_eq_true,beq_iff_eq]
   exact ⟨hk.1,uh h hk.2⟩
theorem nt:∀ {l:List (Nat×TV)}{as:List (Nat×AVal)},oe Γ l as→iq Γ (l.map (·.2)) (as.map (·.2))
 | [],[],_=>trivial
 | _::_,_::_,h=>⟨h.1.2,nt h.2⟩
theorem uO {e:TypeId}{u:Ty} (hf:kc P e u=true):∀ {xs:List u.V}{as:List (Nat×AVal)},All2 (fun x a=>R Γ u x false [a]) xs (as.map (·.2))→as.all (fun p=>fits P e p.2)=true
 | [],[],_=>rfl
 | x::xs,a::as,h=>by
   simp only[List.all_cons,Bool.and_eq_true]
   exact ⟨aaM hf h.1,uO hf h.2⟩
 | [],_::_,h=>h.elim
 | _::_,[],h=>h.elim
theorem nW {ty:List (Nat×Ty)}{t:TypeId}{len:Nat}{parts:List (Nat×TV)}{as:List (Nat×AVal)}{u:Ty}{xs:List u.V} (hp:oe Γ parts as) (h:kq P ty t len parts=some ⟨u,xs⟩) :
   u.isV=true∧u.size≠0∧cP P t len as=some (u.size,as.map (·.2))∧All2 (fun x a=>R Γ u x false [a]) xs (as.map (·.2)):=by
 unfold kq at h
 split at h
 · rename_i e hu
   split at h
   · rename_i n z u' hn hz hl
     cases hc:(qB 0 parts&&Nat.beq parts.length len&&kc P e u'&&Nat.ble (len*n) 16777216&&Nat.beq u'.size n) with
     | false=>rw[hc] at h; cases h
     | true =>
       rw[hc,cond_true,Option.map_eq_some_iff] at h
       obtain ⟨ys,hy,e⟩:=h
       cases e
       simp only[Bool.and_eq_true,Nat.beq_eq,Nat.ble_eq] at hc
       obtain ⟨⟨⟨⟨c1,c2⟩,c3⟩,c4⟩,c6⟩:=hc
       have hr:=lQ hy (nt hp)
       have hv:u.isV=true∧n≠0:=by
         unfold kc at c3
         split at c3
         · simp only[Bool.and_eq_true,Bool.not_eq_true'] at c3
           rename_i n' d hn' hd
           rw[hn] at hn'; cases hn'
           exact ⟨c3.1.2,fO c3.2⟩
         · cases c3
       refine ⟨hv.1,by rw[c6]; exact hv.2,?_,hr⟩
       have hlen:as.length=len:=by rw[← c2,bq hp]
       unfold cP
       simp only[hu,hn,hz,c6]
       rw[if_pos]
       simp only[Bool.and_eq_true,beq_iff_eq,decide_eq_true_eq]
       exact ⟨⟨⟨uh hp c1,hlen⟩,uO c3 hr⟩,c4,hv.2⟩
   · cases h
 · cases h
theorem aaj {x:TV}{a:AVal} (hxv:x.t.isV=true) (hx:R Γ x.t x.v false [a]):OkP Γ m (uM a) (aak x m):=by
 obtain ⟨t,v⟩:=x
 unfold aak
 split
 · rename_i ht; simp only at ht; subst ht
   simp only[R] at hx
   unfold orpT
   refine .opt fun y hy => ?_
   rcases hx with ⟨e0,_⟩ | ⟨z,b,rest,e0,h1,h2,h⟩
   · rw[e0] at hy; cases hy
   · rw[e0] at hy; cases hy
     cases h
     exact .ok rfl ⟨b,rest,h1,h2,rfl⟩ rfl
 · rename_i ht; simp only at ht; subst ht
   have h:=hx; simp only[R] at h; obtain ⟨_,_,_,h⟩:=h; cases h
   exact .ok rfl hx rfl
 · rename_i ht; simp only at ht; subst ht
   have h:=hx; simp only[R] at h; obtain ⟨_,_,_,_,h⟩:=h; cases h
   exact .ok rfl hx rfl
 · rename_i ht; simp only at ht; subst ht
   have h:=hx; simp only[R] at h; obtain ⟨_,_,_,_,h⟩:=h; cases h
   exact .ok rfl hx rfl
 · rename_i ht; simp only at ht; subst ht
   have h:=hx; simp only[R] at h; obtain ⟨_,_,_,_,h⟩:=h; cases h
   exact .ok rfl hx rfl
 · exact .no
theorem pm {F:PFn}{tf:TFn}{l:List TV}{as:List AVal} (hF:TOk F tf) (h:iq Γ l as):OkP Γ m (kf F as) (ac1 tf l m):=by
 unfold ac1
 split
 · rename_i v hv
   refine .opt fun r hr => ?_
   have hp:=ew hv h
   obtain ⟨a,h1,h2⟩:=hF.run v r as hr (a7 hF.ps hp)
   refine .ok hF.isV (a7 hF.res h2) ?_
   simp only[kf,bP hF.ps hp,cond_true,h1]
 · exact .no
end
end Go.TY
