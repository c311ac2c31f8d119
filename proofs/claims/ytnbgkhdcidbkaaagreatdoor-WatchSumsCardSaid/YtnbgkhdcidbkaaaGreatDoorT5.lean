import Derived.Test.YtnbgkhdcidbkaaaGreatDoorT2
set_option linter.unusedVariables false
set_option linter.unusedSimpArgs false
namespace Go.TY
open Go.EM
structure Moved (f:CF) (p:Nat→Prop) (Γ Γ':Ctx):Prop where
 mu:∀ j,p j→∀ y,Γ (f.mu j)=some y→Γ' j=some y
 fr:∀ j,p j→f.fr j=true→∃ b,Γ' j=some (.inl b)
theorem Moved.no {p:Nat→Prop}{Γ:Ctx}:Moved noFr p Γ Γ:=⟨fun j _ y h=>h,fun j _ h=>by cases h⟩
theorem cP:∀ {u:Ty}{mu:Nat→Nat}{j:Nat},u.fixed mu=true→u.names j=true→mu j=j
 | .sl t,mu,j,h,k=>cP (u:=t) h k
 | .agg t,mu,j,h,k=>cP (u:=t) h k
 | .arr _ t,mu,j,h,k=>cP (u:=t) h k
 | .tup t,mu,j,h,k=>cP (u:=t) h k
 | .rp t _,mu,j,h,k=>cP (u:=t) h k
 | .orp t _,mu,j,h,k=>cP (u:=t) h k
 | .cl _ t,mu,j,h,k=>cP (u:=t) h k
 | .cons t ts,mu,j,h,k=>by
   simp only[Ty.fixed,Ty.names,Bool.and_eq_true,Bool.or_eq_true] at h k
   rcases k with k | k
   · exact cP h.1 k
   · exact cP h.2 k
 | .own i,mu,j,h,k=>by simp only[Ty.fixed,Ty.names,Nat.beq_eq] at h k; subst k; exact h
 | .it i,mu,j,h,k=>by simp only[Ty.fixed,Ty.names,Nat.beq_eq] at h k; subst k; exact h
 | .mp i,mu,j,h,k=>by simp only[Ty.fixed,Ty.names,Nat.beq_eq] at h k; subst k; exact h
 | .bx i _,mu,j,h,k=>by simp only[Ty.fixed,Ty.names,Nat.beq_eq] at h k; subst k; exact h
 | .op i,mu,j,h,k=>by simp only[Ty.fixed,Ty.names,Nat.beq_eq] at h k; subst k; exact h
 | .ptr i _,mu,j,h,k=>by simp only[Ty.fixed,Ty.names,Nat.beq_eq] at h k; subst k; exact h
 | .ba i _ _ _,mu,j,h,k=>by simp only[Ty.fixed,Ty.names,Nat.beq_eq] at h k; subst k; exact h
 | .vw i,mu,j,h,k=>by simp only[Ty.fixed,Ty.names,Nat.beq_eq] at h k; subst k; exact h
 | .int _,mu,j,h,k=>by cases k
 | .bool,mu,j,h,k=>by cases k
 | .str,mu,j,h,k=>by cases k
 | .unit,mu,j,h,k=>by cases k
 | .nilsl,mu,j,h,k=>by cases k
 | .nilp,mu,j,h,k=>by cases k
 | .fn f,mu,j,h,k=>by cases k
 | .err,mu,j,h,k=>by cases k
 | .undef,mu,j,h,k=>by cases k
 | .any,mu,j,h,k=>by cases k
section
variable {f:CF}{p:Nat→Prop}{Γ Γ':Ctx}
theorem wm {w:TV}{u:Ty}{x:u.V}{c:Bool}{l:List AVal} (hm:Moved f p Γ Γ') (hp:∀ j,u.names j=true→p j) (hf:u.fixed f.mu=true) (h:dq w.t w.v u (fun x=>x)=some x) (hr:R Γ w.t w.v c l):R Γ' u x c l:=by
 obtain ⟨t,v⟩:=w
 obtain ⟨e,hx⟩:=aV h
 simp only at e
 subst e
 subst hx
 refine bG (fun j y hj hy=>hm.mu j (hp j hj) y ?_) hr
 rw[cP hf hj]; exact hy
theorem oV {w:TV}{u:Ty}{x:u.V}{c:Bool}{l:List AVal} (hm:Moved f p Γ Γ') (hp:∀ j,u.names j=true→p j) (h:qL f w u=some x) (hr:R Γ w.t w.v c l):R Γ' u x c l:=by
 unfold qL at h
 cases hf:u.fixed f.mu with
 | false=>rw[hf] at h; cases h
 | true=>rw[hf] at h; exact wm hm hp hf h hr
theorem pX {w:TV}{u:Ty}{x:u.V}{a:AVal} (hm:Moved f p Γ Γ') (hp:∀ j,u.names j=true→p j) (hw:w.t.isAgg=false) (hwv:w.t.isV=true) (h:ol f w u=some x) (hr:R Γ w.t w.v false [a]):R Γ' u x false [a]:=by
 unfold ol at h
 split at h
 · rename_i t
   split at h
   · rename_i ht
     obtain ⟨wt,wv⟩:=w
     simp only at ht
     subst ht
     cases h
     simp only[R] at hr ⊢
     cases hr; refine .inl ⟨?_,?_⟩<;>first | trivial | rfl
   · exact oV hm hp h hr
 · rename_i id
   split at h
   · rename_i ht
     obtain ⟨wt,wv⟩:=w
     simp only at ht
     subst ht
     cases hf:f.fr id with
     | false=>rw[hf] at h; cases h
     | true =>
       simp only[R] at hr ⊢
       obtain ⟨b,hb⟩:=hm.fr id (hp id (by simp[Ty.names])) hf
       rw[hb]
       exact .inl hr
   · rename_i k ht
     obtain ⟨wt,wv⟩:=w
     simp only at ht
     subst ht
     cases hk:Nat.beq (f.mu id) k with
     | false=>rw[hk] at h; cases h
     | true =>
       rw[Nat.beq_eq] at hk
       simp only[R] at hr ⊢
       cases hg:Γ k with
       | none=>rw[hg] at hr; exact hr.elim
       | some y =>
         rw[hg] at hr
         rw[hm.mu id (hp id (by simp[Ty.names])) y (by rw[hk]; exact hg)]
         exact hr
   · cases h
 · cases hc:w.t.isCell with
   | false=>rw[hc] at h; cases h
   | true =>
     simp only[R]
     refine ⟨a,rfl,?_⟩
     have h1:=afg false true hc hr
     have h2:w.t.okRow=true:=by
       cases hwt:w.t<;>rw[hwt] at hc hw<;>first | rfl | cases hc | cases hw
     have:=d9 h2 h1
     simpa using this
 · rename_i id
   split at h
   · cases h
     simp only[R] at hr ⊢
     cases hr
     exact ⟨_,rfl,.inl ⟨by first | rfl | trivial,rfl⟩⟩
   · rename_i k off _
     cases hk:(Nat.beq (f.mu id) k&&Nat.beq off 0) with
     | false=>rw[hk] at h; cases h
     | true =>
       rw[hk] at h; cases h
       simp only[Bool.and_eq_true,Nat.beq_eq] at hk
       simp only[R] at hr ⊢
       obtain ⟨r,n,h1,h2⟩:=hr
       cases h2
       exact ⟨_,rfl,.inr ⟨by first | rfl | trivial,r,n,hm.mu id (hp id (by simp[Ty.names])) _ (by rw[hk.1]; exact h1),by rw[hk.2]⟩⟩
   · rename_i k v
     cases hk:Nat.beq (f.mu id) k with
     | false=>rw[hk] at h; cases h
     | true =>
       rw[hk] at h; cases h
       rw[Nat.beq_eq] at hk
       simp only[R] at hr ⊢
       obtain ⟨b,h1,h2⟩:=hr
       refine ⟨b,h1,?_⟩
       rcases h2 with h2 | ⟨h2,r,n,h3,h4⟩
       · exact .inl h2
       · exact .inr ⟨h2,r,n,hm.mu id (hp id (by simp[Ty.names])) _ (by rw[hk]; exact h3),h4⟩
   · cases h
 · rename_i id off
   split at h
   · rename_i k o _
     cases hk:(Nat.beq (f.mu id) k&&Nat.beq off o) with
     | false=>rw[hk] at h; cases h
     | true =>
       rw[hk] at h; cases h
       simp only[Bool.and_eq_true,Nat.beq_eq] at hk
       simp only[R] at hr ⊢
       obtain ⟨r,n,h1,h2⟩:=hr
       exact ⟨r,n,hm.mu id (hp id (by simp[Ty.names])) _ (by rw[hk.1]; exact h1),by rw[hk.2]; exact h2⟩
   · cases h
 · rename_i t off
   split at h
   · cases h
     simp only[R] at hr ⊢
     exact .inl ⟨by first | rfl | trivial,hr⟩
   · rename_i u o v
     cases hk:(Nat.beq o off&&t.fixed f.mu) with
     | false=>rw[hk] at h; cases h
     | true =>
       rw[hk,cond_true] at h
       simp only[Bool.and_eq_true,Nat.beq_eq] at hk
       obtain ⟨e,hx⟩:=aV h
       subst e
       subst hx
       rw[hk.1] at hr
       have h2:R Γ' (.rp u off) v false [a]:=bG (fun j y hj hy=>hm.mu j (hp j (by simpa only[Ty.names] using hj)) y (by rw[cP hk.2 (by simpa only[Ty.names] using hj)]; exact hy)) hr
       simp only[R] at h2 ⊢
       obtain ⟨b,rest,h3,h4,h5⟩:=h2
       exact .inr ⟨v,b,rest,by first | rfl | trivial,h3,h4,h5⟩
   · exact oV hm hp h hr
 · exact oV hm hp h hr
def jo (Γ:Ctx) (l:List TV) (cs:List AVal):Prop:=All2 (fun w a=>w.t.isAgg=false∧w.t.isV=true∧R Γ w.t w.v false [a]) l cs
theorem jd:∀ {t:Ty}{v:t.V}{cs:List AVal},R Γ t v true cs→jo Γ (kc t v) cs
 | .cons t ts,v,cs,h=>by
   simp only[R] at h
   obtain ⟨l1,l2,rfl,h1,h2⟩:=h
   exact ch (jd h1) (jd h2)
 | .unit,v,cs,h=>by simp only[R] at h; subst h; trivial
 | .agg t,v,cs,h=>by simp only[R] at h; exact jd (t:=t) h
 | .arr n t,v,cs,h=>by
   simp only[R] at h
   obtain ⟨_,ls,rfl,h⟩:=h
   have:∀ (v:List t.V) (ls:List (List AVal)),All2 (fun x c=>R Γ t x true c) v ls→jo Γ (v.flatMap (kc t)) ls.flatten:=by
     intro v
     induction v with
     | nil=>intro ls h; cases ls with | nil=>trivial | cons _ _=>exact h.elim
     | cons x v ih =>
       intro ls h
       cases ls with
       | nil=>exact h.elim
       | cons c ls=>rw[List.flatten_cons,List.flatMap_cons]; exact ch (jd h.1) (ih ls h.2)
   exact this v ls h
 | .int k,v,cs,h=>by have h':=h; simp only[R] at h'; subst h'; exact ⟨⟨rfl,rfl,aR true false rfl rfl h⟩,trivial⟩
 | .bool,v,cs,h=>by have h':=h; simp only[R] at h'; subst h'; exact ⟨⟨rfl,rfl,aR true false rfl rfl h⟩,trivial⟩
 | .str,v,cs,h=>by have h':=h; simp only[R] at h'; subst h'; exact ⟨⟨rfl,rfl,aR true false rfl rfl h⟩,trivial⟩
 | .sl t,v,cs,h=>by
   obtain ⟨a,rfl⟩:=eL (t:=.sl t) rfl (aR true false rfl rfl h)
   exact ⟨⟨rfl,rfl,aR true false rfl rfl h⟩,trivial⟩
 | .tup t,v,cs,h=>by
   obtain ⟨a,rfl⟩:=eL (t:=.tup t) rfl (aR true false rfl rfl h)
   exact ⟨⟨rfl,rfl,aR true false rfl rfl h⟩,trivial⟩
 | .nilsl,v,cs,h=>by have h':=h; simp only[R] at h'; subst h'; exact ⟨⟨rfl,rfl,aR true false rfl rfl h⟩,trivial⟩
 | .nilp,v,cs,h=>by have h':=h; simp only[R] at h'; subst h'; exact ⟨⟨rfl,rfl,aR true false rfl rfl h⟩,trivial⟩
 | .fn f,v,cs,h=>by have h':=h; simp only[R] at h'; subst h'; exact ⟨⟨rfl,rfl,aR true false rfl rfl h⟩,trivial⟩
 | .err,v,cs,h=>by
   obtain ⟨a,rfl⟩:=eL (t:=.err) rfl (aR true false rfl rfl h)
   exact ⟨⟨rfl,rfl,aR true false rfl rfl h⟩,trivial⟩
 | .undef,v,cs,h=>by have h':=h; simp only[R] at h'; subst h'; exact ⟨⟨rfl,rfl,aR true false rfl rfl h⟩,trivial⟩
 | .any,v,cs,h=>by
   obtain ⟨a,rfl⟩:=eL (t:=.any) rfl (aR true false rfl rfl h)
   exact ⟨⟨rfl,rfl,aR true false rfl rfl h⟩,trivial⟩
 | .own id,v,cs,h=>by
   obtain ⟨a,rfl⟩:=eL (t:=.own id) rfl (aR true false rfl rfl h)
   exact ⟨⟨rfl,rfl,aR true false rfl rfl h⟩,trivial⟩
 | .it id,v,cs,h=>by
   obtain ⟨a,rfl⟩:=eL (t:=.it id) rfl (aR true false rfl rfl h)
   exact ⟨⟨rfl,rfl,aR true false rfl rfl h⟩,trivial⟩
 | .mp id,v,cs,h=>by
   obtain ⟨a,rfl⟩:=eL (t:=.mp id) rfl (aR true false rfl rfl h)
   exact ⟨⟨rfl,rfl,aR true false rfl rfl h⟩,trivial⟩
 | .bx id o,v,cs,h=>by
   obtain ⟨a,rfl⟩:=eL (t:=.bx id o) rfl (aR true false rfl rfl h)
   exact ⟨⟨rfl,rfl,aR true false rfl rfl h⟩,trivial⟩
 | .op id,v,cs,h=>by
   obtain ⟨a,rfl⟩:=eL (t:=.op id) rfl (aR true false rfl rfl h)
   exact ⟨⟨rfl,rfl,aR true false rfl rfl h⟩,trivial⟩
 | .ptr id o,v,cs,h=>by
   obtain ⟨a,rfl⟩:=eL (t:=.ptr id o) rfl (aR true false rfl rfl h)
   exact ⟨⟨rfl,rfl,aR true false rfl rfl h⟩,trivial⟩
 | .ba id o en ln,v,cs,h=>by
   obtain ⟨a,rfl⟩:=eL (t:=.ba id o en ln) rfl (aR true false rfl rfl h)
   exact ⟨⟨rfl,rfl,aR true false rfl rfl h⟩,trivial⟩
 | .vw id,v,cs,h=>by
   obtain ⟨a,rfl⟩:=eL (t:=.vw id) rfl (aR true false rfl rfl h)
   exact ⟨⟨rfl,rfl,aR true false rfl rfl h⟩,trivial⟩
 | .rp t o,v,cs,h=>by
   obtain ⟨a,rfl⟩:=eL (t:=.rp t o) rfl (aR true false rfl rfl h)
   exact ⟨⟨rfl,rfl,aR true false rfl rfl h⟩,trivial⟩
 | .orp t o,v,cs,h=>by
   obtain ⟨a,rfl⟩:=eL (t:=.orp t o) rfl (aR true false rfl rfl h)
   exact ⟨⟨rfl,rfl,aR true false rfl rfl h⟩,trivial⟩
 | .cl o t,v,cs,h=>by
   obtain ⟨a,rfl⟩:=eL (t:=.cl o t) rfl (aR true false rfl rfl h)
   exact ⟨⟨rfl,rfl,aR true false rfl rfl h⟩,trivial⟩
theorem rf {u:Ty} (h1:u.isAgg=false) (h2:u.isV=true) {l:List TV}{x:u.V}{rest:List TV} (h:cT f u l=some (x,rest)):∃ w,l=w::rest∧ol f w u=some x:=by
 cases u<;>first | (cases h1; done) | (cases h2; done) | skip
 all_goals
   cases l with
   | nil=>simp[cT] at h
   | cons w l =>
     simp only[cT,Option.map_eq_some_iff] at h
     obtain ⟨y,hy,e⟩:=h
     cases e
     exact ⟨w,rfl,hy⟩
theorem gq (hm:Moved f p Γ Γ'):∀ {u:Ty}{l:List TV}{x:u.V}{rest:List TV}{cs:List AVal},(∀ j,u.names j=true→p j)→cT f u l=some (x,rest)→jo Γ l cs→∃ c1 c2,cs=c1++c2∧R Γ' u x true c1∧jo Γ rest c2
 | .cons t ts,l,x,rest,cs,hp,h,hr=>by
   simp only[cT,Option.bind_eq_some_iff,Option.map_eq_some_iff] at h
   obtain ⟨⟨y,l1⟩,h1,⟨z,l2⟩,h2,e⟩:=h
   cases e
   obtain ⟨c1,c2,rfl,g1,g2⟩:=gq hm (fun j hj=>hp j (by simp[Ty.names,hj])) h1 hr
   obtain ⟨d1,d2,rfl,k1,k2⟩:=gq hm (fun j hj=>hp j (by simp[Ty.names,hj])) h2 g2
   exact ⟨c1++d1,d2,by simp,⟨c1,d1,rfl,g1,k1⟩,k2⟩
 | .unit,l,x,rest,cs,hp,h,hr=>by
   simp only[cT] at h
   cases h
   exact ⟨[],cs,rfl,by simp[R],hr⟩
 | .agg t,l,x,rest,cs,hp,h,hr=>by
   simp only[cT] at h
   exact gq (u:=t) hm hp h hr
 | .arr n t,l,x,rest,cs,hp,h,hr=>by
   simp only[cT] at h
   have:∀ (n:Nat) (l:List TV) (xs:List t.V) (rest:List TV) (cs:List AVal),ofN (cT f t) n l=some (xs,rest)→jo Γ l cs→xs.length=n∧∃ ls c2,cs=List.flatten ls++c2∧All2 (fun x c=>R Γ' t x true c) xs ls∧jo Γ rest c2:=by
     intro n
     induction n with
     | zero=>intro l xs rest cs h hr; simp only[ofN] at h; cases h; exact ⟨rfl,[],cs,rfl,trivial,hr⟩
     | succ n ih =>
       intro l xs rest cs h hr
       simp only[ofN,Option.bind_eq_some_iff,Option.map_eq_some_iff] at h
       obtain ⟨⟨y,l1⟩,h1,⟨ys,l2⟩,h2,e⟩:=h
       cases e
       obtain ⟨c1,c2,rfl,g1,g2⟩:=gq (u:=t) hm hp h1 hr
       obtain ⟨k0,ls,c3,rfl,k1,k2⟩:=ih _ _ _ _ h2 g2
       exact ⟨by simp[k0],c1::ls,c3,by simp,⟨g1,k1⟩,k2⟩
   obtain ⟨k0,ls,c2,rfl,k1,k2⟩:=this n l x rest cs h hr
   exact ⟨ls.flatten,c2,rfl,⟨k0,ls,rfl,k1⟩,k2⟩
 | .int k,l,x,rest,cs,hp,h,hr=>leaf (.int k) rfl rfl hm hp h hr
 | .bool,l,x,rest,cs,hp,h,hr=>leaf .bool rfl rfl hm hp h hr
 | .str,l,x,rest,cs,hp,h,hr=>leaf .str rfl rfl hm hp h hr
 | .sl t,l,x,rest,cs,hp,h,hr=>leaf (.sl t) rfl rfl hm hp h hr
 | .tup t,l,x,rest,cs,hp,h,hr=>leaf (.tup t) rfl rfl hm hp h hr
 | .nilsl,l,x,rest,cs,hp,h,hr=>leaf .nilsl rfl rfl hm hp h hr
 | .nilp,l,x,rest,cs,hp,h,hr=>leaf .nilp rfl rfl hm hp h hr
 | .fn f,l,x,rest,cs,hp,h,hr=>leaf (.fn f) rfl rfl hm hp h hr
 | .err,l,x,rest,cs,hp,h,hr=>leaf .err rfl rfl hm hp h hr
 | .undef,l,x,rest,cs,hp,h,hr=>leaf .undef rfl rfl hm hp h hr
 | .any,l,x,rest,cs,hp,h,hr=>leaf .any rfl rfl hm hp h hr
 | .own id,l,x,rest,cs,hp,h,hr=>leaf (.own id) rfl rfl hm hp h hr
 | .it id,l,x,rest,cs,hp,h,hr=>leaf (.it id) rfl rfl hm hp h hr
 | .mp id,l,x,rest,cs,hp,h,hr=>leaf (.mp id) rfl rfl hm hp h hr
 | .bx id o,l,x,rest,cs,hp,h,hr=>leaf (.bx id o) rfl rfl hm hp h hr
 | .op id,l,x,rest,cs,hp,h,hr=>leaf (.op id) rfl rfl hm hp h hr
 | .ptr id o,l,x,rest,cs,hp,h,hr=>leaf (.ptr id o) rfl rfl hm hp h hr
 | .ba id o en ln,l,x,rest,cs,hp,h,hr=>leaf (.ba id o en ln) rfl rfl hm hp h hr
 | .vw id,l,x,rest,cs,hp,h,hr=>leaf (.vw id) rfl rfl hm hp h hr
 | .rp t o,l,x,rest,cs,hp,h,hr=>leaf (.rp t o) rfl rfl hm hp h hr
 | .orp t o,l,x,rest,cs,hp,h,hr=>leaf (.orp t o) rfl rfl hm hp h hr
 | .cl o t,l,x,rest,cs,hp,h,hr=>leaf (.cl o t) rfl rfl hm hp h hr
where
 leaf (u:Ty) (h1:u.isAgg=false) (h2:u.isV=true) (hm:Moved f p Γ Γ') {l:List TV}{x:u.V}{rest:List TV}{cs:List AVal} (hp:∀ j,u.names j=true→p j) (h:cT f u l=some (x,rest)) (hr:jo Γ l cs):∃ c1 c2,cs=c1++c2∧R Γ' u x true c1∧jo Γ rest c2:=by
   obtain ⟨w,rfl,hw⟩:=rf h1 h2 h
   cases cs with
   | nil=>exact hr.elim
   | cons a cs =>
     obtain ⟨⟨g1,g2,g3⟩,g4⟩:=hr
     exact ⟨[a],cs,rfl,aR false true h1 h2 (pX hm hp g1 g2 hw g3),g4⟩
theorem jK {t:Ty} (h:t.isCell=true):t.isAgg=false∧t.isV=true:=by cases t<;>first | exact ⟨rfl,rfl⟩ | cases h
theorem aea {t u:Ty}{v:t.V}{x:u.V}{cs:List AVal} (h1:u.isAgg=false) (h2:u.isV=true) (hm:Moved f p Γ Γ') (hp:∀ j,u.names j=true→p j) (h:abz f ⟨t,v⟩ u=some x) (hr:R Γ t v true cs):R Γ' u x true cs:=by
 unfold abz at h
 cases hb:(t.beq u&&u.fixed f.mu) with
 | true =>
   simp only[hb,cond_true] at h
   rw[Bool.and_eq_true] at hb
   exact wm (w:=⟨t,v⟩) hm hp hb.2 h hr
 | false =>
   simp only[hb,cond_false] at h
   cases hc:t.isCell with
   | false=>rw[hc] at h; cases h
   | true =>
     rw[hc,cond_true] at h
     obtain ⟨g1,g2⟩:=jK hc
     have hr2:=aR true false g1 g2 hr
     obtain ⟨a,rfl⟩:=eL g2 hr2
     exact aR false true h1 h2 (pX (w:=⟨t,v⟩) hm hp g1 g2 h hr2)
theorem abk {A B:Type}{g:A→Option B}{q:A→List AVal→Prop}{q':B→List AVal→Prop} (h:∀ x y c,g x=some y→q x c→q' y c):∀ {l:List A}{m:List B}{ls:List (List AVal)},ph g l=some m→All2 q l ls→All2 q' m ls∧m.length=l.length
 | [],m,ls,hm,hl=>by
   simp only[ph] at hm; cases hm
   cases ls with
   | nil=>exact ⟨trivial,rfl⟩
   | cons _ _=>exact hl.elim
 | x::l,m,ls,hm,hl=>by
   simp only[ph,Option.bind_eq_some_iff,Option.map_eq_some_iff] at hm
   obtain ⟨y,h1,ys,h2,rfl⟩:=hm
   cases ls with
   | nil=>exact hl.elim
   | cons c ls =>
     obtain ⟨g1,g2⟩:=abk h h2 hl.2
     exact ⟨⟨h x y c h1 hl.1,g1⟩,by simp[g2]⟩
theorem rW (hm:Moved f p Γ Γ'):∀ {u t:Ty}{v:t.V}{x:u.V}{cs:List AVal},(∀ j,u.names j=true→p j)→dh f u t v=some x→R Γ t v true cs→R Γ' u x true cs:=by
 intro u
 induction u with
 | cons u us ih1 ih2 =>
   intro t v x cs hp h hr
   cases t<;>simp only[dh] at h<;>first | (cases h; done) | skip
   rename_i t ts
   simp only[Option.bind_eq_some_iff,Option.map_eq_some_iff] at h
   obtain ⟨y,h1,z,h2,rfl⟩:=h
   simp only[R] at hr ⊢
   obtain ⟨l1,l2,rfl,k1,k2⟩:=hr
   exact ⟨l1,l2,rfl,ih1 (fun j hj=>hp j (by simp[Ty.names,hj])) h1 k1,ih2 (fun j hj=>hp j (by simp[Ty.names,hj])) h2 k2⟩
 | unit =>
   intro t v x cs hp h hr
   cases t<;>simp only[dh] at h<;>first | (cases h; done) | skip
   simpa only[R] using hr
 | agg u ih =>
   intro t v x cs hp h hr
   cases t<;>simp only[dh] at h<;>first | (cases h; done) | skip
   rename_i t
   simp only[R] at hr ⊢
   cases hb:(t.beq u&&u.fixed f.mu) with
   | true =>
     rw[hb,cond_true] at h
     rw[Bool.and_eq_true] at hb
     exact wm (w:=⟨t,v⟩) hm hp hb.2 h hr
   | false =>
     rw[hb,cond_false] at h
     exact ih hp h hr
 | arr k u ih =>
   intro t v x cs hp h hr
   cases t<;>simp only[dh] at h<;>first | (cases h; done) | skip
   rename_i n t
   simp only[R] at hr ⊢
   obtain ⟨hn,ls,hls,hall⟩:=hr
   cases hb:(t.beq u&&u.fixed f.mu&&Nat.beq n k) with
   | true =>
     rw[hb,cond_true] at h
     simp only[Bool.and_eq_true,Nat.beq_eq] at hb
     obtain ⟨e,hx⟩:=aV h
     cases e
     subst hx
     refine ⟨hn.trans hb.2,ls,hls,aG (p:=fun x c=>R Γ u x true c) (fun x a hx => ?_) hall⟩
     exact bG (fun j y hj hy=>hm.mu j (hp j (by simpa only[Ty.names] using hj)) y (by rw[cP hb.1.2 hj]; exact hy)) hx
   | false =>
     rw[hb,cond_false] at h
     cases hk:Nat.beq n k with
     | false=>rw[hk] at h; cases h
     | true =>
       rw[hk,cond_true] at h
       rw[Nat.beq_eq] at hk
       obtain ⟨g1,g2⟩:=abk (q:=fun x c=>R Γ t x true c) (q':=fun x c=>R Γ' u x true c) (fun a b c h1 h2=>ih (fun j hj=>hp j (by simpa only[Ty.names] using hj)) h1 h2) h hall
       exact ⟨by rw[g2,hn,hk],ls,hls,g1⟩
 | _ =>
   intro t v x cs hp h hr
   simp only[dh] at h
   exact aea rfl rfl hm hp h hr
theorem eD {w:TV}{u:Ty}{x:u.V}{a:AVal} (hm:Moved f p Γ Γ') (hp:∀ j,u.names j=true→p j) (h:bu f w u=some x) (hr:R Γ w.t w.v false [a]):R Γ' u x false [a]:=by
 unfold bu at h
 cases hb:(w.t.beq u&&u.fixed f.mu) with
 | true =>
   rw[hb,cond_true] at h
   rw[Bool.and_eq_true] at hb
   exact wm hm hp hb.2 h hr
 | false =>
   rw[hb,cond_false] at h
   split at h
   · rename_i u'
     split at h
     · rename_i t ht
       split at h
       · rename_i y hy
         cases h
         obtain ⟨wt,wv⟩:=w
         simp only at ht
         subst ht
         simp only[R] at hr
         obtain ⟨cs,e,hc⟩:=hr
         cases e
         exact ⟨cs,rfl,rW (u:=.agg u') (t:=.agg t) hm hp hy hc⟩
       split at h
       · rename_i y hy
         cases h
         obtain ⟨wt,wv⟩:=w
         simp only at ht
         subst ht
         have hr':=hr
         simp only[R] at hr'
         obtain ⟨cs,e,hc⟩:=hr'
         cases e
         have hl:jo Γ (kc (.agg t) wv) cs:=jd (t:=.agg t) (v:=wv) hc
         obtain ⟨c1,c2,rfl,g1,g2⟩:=gq (u:=.agg u') hm hp hy hl
         cases c2 with
         | nil =>
           rw[List.append_nil]
           exact ⟨c1,rfl,g1⟩
         | cons _ _=>exact g2.elim
       · cases h
     · cases h
   · rename_i k u'
     obtain ⟨wt,wv⟩:=w
     cases wt<;>simp only[dh] at h<;>first | (cases h; done) | skip
     rename_i n t
     simp only[R] at hr
     obtain ⟨cs,e,hc⟩:=hr
     cases e
     have:=rW (u:=.arr k u') (t:=.arr n t) (v:=wv) (x:=x) (cs:=cs) hm hp (by simp only[dh]; exact h) hc
     exact ⟨cs,rfl,this⟩
   · cases h
   · cases h
   · cases h
   · cases hc:w.t.isCell with
     | false=>rw[hc] at h; cases h
     | true =>
       rw[hc] at h
       obtain ⟨g1,g2⟩:=jK hc
       exact pX hm hp g1 g2 h hr
end
section
variable {Γ:Ctx}
theorem bX {w:TV}{u:Ty}{x:u.V}{a:AVal} (h:bu noFr w u=some x) (hr:R Γ w.t w.v false [a]):R Γ u x false [a] :=
 eD (f:=noFr) (p:=fun _=>True) Moved.no (fun _ _=>trivial) h hr
def ip (Γ:Ctx) (l:List TV) (as:List AVal):Prop:=All2 (fun w a=>w.t.isV=true∧R Γ w.t w.v false [a]) l as
theorem dR:∀ {u:Ty}{l:List TV}{x:u.V}{as:List AVal},aS u l=some x→ip Γ l as→R Γ u x false as
 | .cons t ts,w::l,x,a::as,h,hr=>by
   simp only[aS,Option.bind_eq_some_iff,Option.map_eq_some_iff] at h
   obtain ⟨y,h1,z,h2,rfl⟩:=h
   exact ⟨[a],as,rfl,bX h1 hr.1.2,dR h2 hr.2⟩
 | .cons t ts,w::l,x,[],h,hr=>hr.elim
 | .cons t ts,[],x,as,h,hr=>by simp[aS] at h
 | .unit,[],x,[],h,hr=>by simp[R]
 | .unit,[],x,a::as,h,hr=>hr.elim
 | .unit,w::l,x,as,h,hr=>by simp[aS] at h
 | .int _,l,x,as,h,hr=>by simp[aS] at h
 | .bool,l,x,as,h,hr=>by simp[aS] at h
 | .str,l,x,as,h,hr=>by simp[aS] at h
 | .sl _,l,x,as,h,hr=>by simp[aS] at h
 | .agg _,l,x,as,h,hr=>by simp[aS] at h
 | .arr _ _,l,x,as,h,hr=>by simp[aS] at h
 | .tup _,l,x,as,h,hr=>by simp[aS] at h
 | .nilsl,l,x,as,h,hr=>by simp[aS] at h
 | .nilp,l,x,as,h,hr=>by simp[aS] at h
 | .fn f,l,x,as,h,hr=>by simp[aS] at h
 | .err,l,x,as,h,hr=>by simp[aS] at h
 | .undef,l,x,as,h,hr=>by simp[aS] at h
 | .any,l,x,as,h,hr=>by simp[aS] at h
 | .own _,l,x,as,h,hr=>by simp[aS] at h
 | .it _,l,x,as,h,hr=>by simp[aS] at h
 | .mp _,l,x,as,h,hr=>by simp[aS] at h
 | .bx _ _,l,x,as,h,hr=>by simp[aS] at h
 | .op _,l,x,as,h,hr=>by simp[aS] at h
 | .ptr _ _,l,x,as,h,hr=>by simp[aS] at h
 | .ba _ _ _ _,l,x,as,h,hr=>by simp[aS] at h
 | .vw _,l,x,as,h,hr=>by simp[aS] at h
 | .rp _ _,l,x,as,h,hr=>by simp[aS] at h
 | .orp _ _,l,x,as,h,hr=>by simp[aS] at h
 | .cl _ _,l,x,as,h,hr=>by simp[aS] at h
theorem mj {u:Ty}:∀ {l:List TV}{xs:List u.V}{as:List AVal},gr u l=some xs→ip Γ l as→All2 (fun x a=>R Γ u x false [a]) xs as
 | [],xs,[],h,_=>by simp only[gr] at h; cases h; trivial
 | [],xs,a::as,h,hr=>hr.elim
 | w::l,xs,[],h,hr=>hr.elim
 | w::l,xs,a::as,h,hr=>by
   simp only[gr,Option.bind_eq_some_iff,Option.map_eq_some_iff] at h
   obtain ⟨y,h1,z,h2,rfl⟩:=h
   exact ⟨bX h1 hr.1.2,mj h2 hr.2⟩
mutual
theorem wj:∀ {a:AVal}{w:TV},cM a=some w→w.t.isV=true∧R Γ w.t w.v false [a]
 | .int k n,w,h=>by simp only[cM] at h; cases h; exact ⟨rfl,rfl⟩
 | .bool b,w,h=>by simp only[cM] at h; cases h; exact ⟨rfl,rfl⟩
 | .str s,w,h=>by simp only[cM] at h; cases h; exact ⟨rfl,rfl⟩
 | .nil,w,h=>by simp only[cM] at h; cases h; exact ⟨rfl,rfl⟩
 | .nilptr,w,h=>by simp only[cM] at h; cases h; exact ⟨rfl,rfl⟩
 | .nilmap,w,h=>by simp only[cM] at h; cases h; exact ⟨rfl,_,rfl,rfl⟩
 | .agg cs,w,h=>by
   simp only[cM,Option.map_eq_some_iff] at h
   obtain ⟨x,hx,rfl⟩:=h
   exact ⟨rfl,cs,rfl,wk hx⟩
 | .tup _,w,h=>by simp[cM] at h
 | .tree ..,w,h=>by simp[cM] at h
 | .own ..,w,h=>by simp[cM] at h
 | .ptr ..,w,h=>by simp[cM] at h
 | .rptr _,w,h=>by simp[cM] at h
 | .func ..,w,h=>by simp[cM] at h
 | .nilfunc,w,h=>by simp[cM] at h
 | .iface ..,w,h=>by simp[cM] at h
 | .niliface,w,h=>by simp only[cM] at h; cases h; exact ⟨rfl,_,rfl,.inl ⟨rfl,rfl⟩⟩
 | .map _,w,h=>by simp[cM] at h
 | .any,w,h=>by simp[cM] at h
theorem wk:∀ {l:List AVal}{w:TV},rV l=some w→R Γ w.t w.v true l
 | [],w,h=>by simp only[rV] at h; cases h; rfl
 | a::l,w,h=>by
   simp only[rV,Option.bind_eq_some_iff] at h
   obtain ⟨x,hx,y,hy,h⟩:=h
   cases hc:x.t.isCell with
   | false=>rw[hc] at h; cases h
   | true =>
     rw[hc] at h
     cases h
     exact ⟨[a],l,rfl,afg false true hc (wj hx).2,wk hy⟩
end
theorem lp:∀ {u:Ty}{l:List AVal}{v:u.V}{rest:List AVal},aZ u l=some (v,rest)→∃ c,l=c++rest∧R Γ u v true c
 | .cons t ts,l,v,rest,h=>by
   simp only[aZ,Option.bind_eq_some_iff,Option.map_eq_some_iff] at h
   obtain ⟨⟨x,l1⟩,h1,⟨y,l2⟩,h2,e⟩:=h
   cases e
   obtain ⟨c1,rfl,g1⟩:=lp h1
   obtain ⟨c2,e2,g2⟩:=lp h2
   simp only at e2
   subst e2
   exact ⟨c1++c2,by simp,c1,c2,rfl,g1,g2⟩
 | .unit,l,v,rest,h=>by simp only[aZ] at h; cases h; exact ⟨[],rfl,rfl⟩
 | .agg t,l,v,rest,h=>by simp only[aZ] at h; exact lp (u:=t) h
 | .arr n t,l,v,rest,h=>by
   simp only[aZ] at h
   have:∀ (n:Nat) (l:List AVal) (xs:List t.V) (rest:List AVal),aaX (aZ t) n l=some (xs,rest)→xs.length=n∧∃ ls,l=List.flatten ls++rest∧All2 (fun x c=>R Γ t x true c) xs ls:=by
     intro n
     induction n with
     | zero=>intro l xs rest h; simp only[aaX] at h; cases h; exact ⟨rfl,[],rfl,trivial⟩
     | succ n ih =>
       intro l xs rest h
       simp only[aaX,Option.bind_eq_some_iff,Option.map_eq_some_iff] at h
       obtain ⟨⟨y,l1⟩,h1,⟨ys,l2⟩,h2,e⟩:=h
       cases e
       obtain ⟨c1,rfl,g1⟩:=lp (u:=t) h1
       obtain ⟨k0,ls,e2,k1⟩:=ih _ _ _ h2
       simp only at e2
       subst e2
       exact ⟨by simp[k0],c1::ls,by simp,⟨g1,k1⟩⟩
   obtain ⟨k0,ls,rfl,k1⟩:=this n l v rest h
   exact ⟨ls.flatten,rfl,k0,ls,rfl,k1⟩
 | .int k,.int k' n::l,v,rest,h=>by
   simp only[aZ] at h
   cases hk:kbeq k k' with
   | false=>rw[hk] at h; cases h
   | true =>
     rw[hk] at h; cases h
     exact ⟨[.int k' n],rfl,by rw[pz hk]; rfl⟩
 | .bool,.bool b::l,v,rest,h=>by simp only[aZ] at h; cases h; exact ⟨[_],rfl,rfl⟩
 | .str,.str s::l,v,rest,h=>by simp only[aZ] at h; cases h; exact ⟨[_],rfl,rfl⟩
 | .nilsl,.nil::l,v,rest,h=>by simp only[aZ] at h; cases h; exact ⟨[.nil],rfl,rfl⟩
 | .nilp,.nilptr::l,v,rest,h=>by simp only[aZ] at h; cases h; exact ⟨[.nilptr],rfl,rfl⟩
 | .int k,[],v,rest,h=>by simp[aZ] at h
 | .bool,[],v,rest,h=>by simp[aZ] at h
 | .str,[],v,rest,h=>by simp[aZ] at h
 | .nilsl,[],v,rest,h=>by simp[aZ] at h
 | .nilp,[],v,rest,h=>by simp[aZ] at h
 | .int k,.bool _::l,v,rest,h=>by simp[aZ] at h
 | .int k,.str _::l,v,rest,h=>by simp[aZ] at h
 | .int k,.agg _::l,v,rest,h=>by simp[aZ] at h
 | .int k,.tup _::l,v,rest,h=>by simp[aZ] at h
 | .int k,.nil::l,v,rest,h=>by simp[aZ] at h
 | .int k,.tree .. :: l,v,rest,h=>by simp[aZ] at h
 | .int k,.own .. :: l,v,rest,h=>by simp[aZ] at h
 | .int k,.ptr .. :: l,v,rest,h=>by simp[aZ] at h
 | .int k,.rptr _::l,v,rest,h=>by simp[aZ] at h
 | .int k,.nilptr::l,v,rest,h=>by simp[aZ] at h
 | .int k,.func .. :: l,v,rest,h=>by simp[aZ] at h
 | .int k,.nilfunc::l,v,rest,h=>by simp[aZ] at h
 | .int k,.iface .. :: l,v,rest,h=>by simp[aZ] at h
 | .int k,.niliface::l,v,rest,h=>by simp[aZ] at h
 | .int k,.map _::l,v,rest,h=>by simp[aZ] at h
 | .int k,.nilmap::l,v,rest,h=>by simp[aZ] at h
 | .int k,.any::l,v,rest,h=>by simp[aZ] at h
 | .bool,a::l,v,rest,h=>by cases a<;>first | (simp[aZ] at h; done) | (simp only[aZ] at h; cases h; exact ⟨[_],rfl,rfl⟩)
 | .str,a::l,v,rest,h=>by cases a<;>first | (simp[aZ] at h; done) | (simp only[aZ] at h; cases h; exact ⟨[_],rfl,rfl⟩)
 | .nilsl,a::l,v,rest,h=>by cases a<;>first | (simp[aZ] at h; done) | (simp only[aZ] at h; cases h; exact ⟨[_],rfl,rfl⟩)
 | .nilp,a::l,v,rest,h=>by cases a<;>first | (simp[aZ] at h; done) | (simp only[aZ] at h; cases h; exact ⟨[_],rfl,rfl⟩)
 | .fn f,l,v,rest,h=>by cases l<;>simp[aZ] at h
 | .err,l,v,rest,h=>by cases l<;>simp[aZ] at h
 | .sl _,l,v,rest,h=>by cases l<;>simp[aZ] at h
 | .tup _,l,v,rest,h=>by cases l<;>simp[aZ] at h
 | .undef,l,v,rest,h=>by cases l<;>simp[aZ] at h
 | .any,l,v,rest,h=>by cases l<;>simp[aZ] at h
 | .own _,l,v,rest,h=>by cases l<;>simp[aZ] at h
 | .it _,l,v,rest,h=>by cases l<;>simp[aZ] at h
 | .mp _,l,v,rest,h=>by cases l<;>simp[aZ] at h
 | .bx _ _,l,v,rest,h=>by cases l<;>simp[aZ] at h
 | .op _,l,v,rest,h=>by cases l<;>simp[aZ] at h
 | .ptr _ _,l,v,rest,h=>by cases l<;>simp[aZ] at h
 | .ba _ _ _ _,l,v,rest,h=>by cases l<;>simp[aZ] at h
 | .vw _,l,v,rest,h=>by cases l<;>simp[aZ] at h
 | .rp _ _,l,v,rest,h=>by cases l<;>simp[aZ] at h
 | .orp _ _,l,v,rest,h=>by cases l<;>simp[aZ] at h
 | .cl _ _,l,v,rest,h=>by cases l<;>simp[aZ] at h
theorem jp {P:Program}{t:TypeId}{w:TV} (h:qk P t=some w):w.t.isV=true∧∃ a,zeroOf P t=some a∧R Γ w.t w.v false [a]:=by
 unfold qk at h
 simp only[Option.bind_eq_some_iff] at h
 obtain ⟨a,ha,u,hu,⟨v,rest⟩,hv,h⟩:=h
 split at h
 · rename_i hrest
   simp only at hrest
   subst hrest
   cases hc:(isB u.isAgg a.isAgg&&u.isV) with
   | false=>rw[hc] at h; cases h
   | true =>
     rw[hc] at h
     rw[Bool.and_eq_true] at hc
     cases h
     obtain ⟨c,hc1,hr⟩:=lp (Γ:=Γ) hv
     rw[List.append_nil] at hc1
     refine ⟨hc.2,a,ha,?_⟩
     obtain ⟨b,hb1,hb2,hb3,hb4⟩:=gA hc.2 hr
     have:b=a:=by
       have e:=j5 hc.1
       cases hg:u.isAgg with
       | true =>
         rw[hb3 hg,← hc1]
         rw[hg] at e
         cases a<;>first | rfl | cases e
       | false =>
         have hl:=hb4 hg
         rw[hg] at e
         rw[hl] at hc1
         cases a<;>first | (simp only[AVal.cells] at hc1; exact (List.cons.inj hc1).1.symm) | cases e
     rw[← this]; exact hb2
 · cases h
theorem tC {P:Program}{t:TypeId}{w:TV}:ig P t w=w∨(w.t.isAgg=true∧∃ u x,bu noFr w u=some x∧ig P t w=⟨u,x⟩):=by
 unfold ig
 split
 · rename_i hw
   split
   · rename_i u hu
     split
     · rename_i x hx
       exact .inr ⟨by rw[hw]; rfl,u,x,hx,rfl⟩
     · exact .inl rfl
   · exact .inl rfl
 · exact .inl rfl
theorem tZ {f:CF}{w:TV}{u:Ty}{x:u.V} (hw:w.t.isAgg=true) (h:bu f w u=some x):u.isAgg=true:=by
 unfold bu at h
 cases hb:(w.t.beq u&&u.fixed f.mu) with
 | true =>
   rw[Bool.and_eq_true] at hb
   rw[← Ty.beq_eq hb.1]; exact hw
 | false =>
   rw[hb,cond_false] at h
   split at h
   · rfl
   · rfl
   · cases h
   · cases h
   · cases h
   · cases hc:w.t.isCell with
     | false=>rw[hc] at h; cases h
     | true=>have:=(jK hc).1; rw[hw] at this; cases this
theorem tD {P:Program}{t:TypeId}{w:TV}{a:AVal} (hv:w.t.isV=true) (hr:R Γ w.t w.v false [a]):(ig P t w).t.isV=true∧R Γ (ig P t w).t (ig P t w).v false [a]:=by
 rcases tC (P:=P) (t:=t) (w:=w) with h | ⟨hw,u,x,hx,h⟩
 · rw[h]; exact ⟨hv,hr⟩
 · rw[h]
   refine ⟨?_,bX hx hr⟩
   have:=tZ hw hx
   cases u<;>first | rfl | cases this
end
end Go.TY
namespace Go.TY
open Go.EM
def RegR (Γ:Ctx) (st:aq) (id:Nat):Reg→Prop
 | .box e t v=>t.isV=true∧t.okRow=true∧t.size≠0∧∃ r a,Γ id=some (.inr (r,t.size,1))∧st[r]? = some (.row e t.size [a])∧R Γ t v false [a]
 | .cbox e t v=>t.isV=true∧t.closed=true∧t.okRow=true∧t.size≠0∧∃ r a,Γ id=some (.inr (r,t.size,1))∧st[r]? = some (.row e t.size [a])∧R Γ t v false [a]
 | .row z e t xs=>t.isV=true∧t.closed=true∧t.okRow=true∧t.size≠0∧((xs=[]∧∃ b,Γ id=some (.inl b)∧(z=true→b=false))∨∃ r as,Γ id=some (.inr (r,t.size,xs.length))∧st[r]? = some (.row e t.size as)∧All2 (fun x a=>R Γ t x false [a]) xs as∧(z=true→xs≠[]))
 | .iter s pos=>∃ r,Γ id=some (.inr (r,0,0))∧st[r]? = some (.iter s pos)
 | .map k v xs=>k.isV=true∧v.isV=true∧k.closed=true∧v.closed=true∧∃ r es,Γ id=some (.inr (r,0,0))∧st[r]? = some (.map es)∧All2 (fun p e=>R Γ k p.1 false [e.1]∧R Γ v p.2 false [e.2]) xs es
 | .gone=>True
abbrev Frame:Type:=Nat→Option AReg
structure MemR (Φ:Frame) (Γ:Ctx) (m:Mem) (st:aq):Prop where
 reg:∀ id,id<m.length→RegR Γ st id (getM m id)
 out:∀ id,m.length≤id→Γ id=none
 inj:∀ i j r n l n' l',Γ i=some (.inr (r,n,l))→Γ j=some (.inr (r,n',l'))→i=j
 lt:∀ i r n l,Γ i=some (.inr (r,n,l))→r<st.length
 old:∀ r g,Φ r=some g→st[r]? = some g
 dis:∀ r g i n l,Φ r=some g→Γ i≠some (.inr (r,n,l))
theorem pJ:∀ {m:Mem}{i:Nat},m.length≤i→getM m i = .gone
 | [],_,_=>rfl
 | _::m,0,h=>by simp at h
 | _::m,i+1,h=>pJ (m:=m) (by simpa using h)
theorem eB {m:Mem}{i:Nat}{g:Reg} (h:getM m i=g) (hg:g ≠ .gone):i<m.length:=by
 rcases Nat.lt_or_ge i m.length with h' | h'
 · exact h'
 · rw[pJ h'] at h; exact absurd h.symm hg
theorem MemR.oldlt {Φ:Frame}{Γ:Ctx}{m:Mem}{st:aq} (h:MemR Φ Γ m st) {r:Nat}{g:AReg} (hr:Φ r=some g):r<st.length:=by
 have h1:=h.old r g hr
 rcases Nat.lt_or_ge r st.length with h' | h'
 · exact h'
 · rw[List.getElem?_eq_none h'] at h1; cases h1
theorem MemR.at {Φ:Frame}{Γ:Ctx}{m:Mem}{st:aq} (h:MemR Φ Γ m st) (id:Nat):RegR Γ st id (getM m id):=by
 rcases Nat.lt_or_ge id m.length with h' | h'
 · exact h.reg id h'
 · rw[pJ h']; trivial
def OkP (Γ:Ctx) (m:Mem) (av:Option AVal) (res:OR):Prop :=
 ∀ (X:Type) (K:TV→Mem→Option Nat→Option X) (x:X),res.go K=some x→∃ w a,K w m none=some x∧av=some a∧w.t.isV=true∧R Γ w.t w.v false [a]
section
variable {Φ:Frame}{Γ:Ctx}{m:Mem}{st:aq}{P:Program}
theorem OkP.no {av:Option AVal}:OkP Γ m av .no:=fun X K x h=>by cases h
theorem OkP.ok {w:TV}{a:AVal}{av:Option AVal} (hv:w.t.isV=true) (hr:R Γ w.t w.v false [a]) (ha:av=some a):OkP Γ m av (.ok w m none):=fun X K x h=>⟨w,a,h,ha,hv,hr⟩
theorem OkP.opt {A:Type}{y:Option A}{k:A→OR}{av:Option AVal} (h:∀ z,y=some z→OkP Γ m av (k z)):OkP Γ m av (.opt A y k):=fun X K x hx=>by
 simp only[OR.go,Option.bind_eq_some_iff] at hx
 obtain ⟨z,hz,hx⟩:=hx
 exact h z hz X K x hx
theorem OkP.br {b:Bool}{p q:OR}{av:Option AVal} (h1:b=true→OkP Γ m av p) (h2:b=false→OkP Γ m av q):OkP Γ m av (.br b p q):=fun X K x hx=>by
 simp only[OR.go] at hx
 cases b
 · exact h2 rfl X K x hx
 · exact h1 rfl X K x hx
theorem OkP.cond {b:Bool}{p q:OR}{av:Option AVal} (h1:b=true→OkP Γ m av p) (h2:b=false→OkP Γ m av q):OkP Γ m av (Bool.rec q p b):=by
 cases b
 · exact h2 rfl
 · exact h1 rfl
theorem OkP.ofO {o:Option TV}{av:Option AVal} (h:∀ w,o=some w→w.t.isV=true∧∃ a,R Γ w.t w.v false [a]∧av=some a):OkP Γ m av (ofO m o):=by
 cases o with
 | none=>exact .no
 | some w=>obtain ⟨h1,a,h2,h3⟩:=h w rfl; exact .ok h1 h2 h3
theorem iS {A:Type}{p:Prop} [Decidable p] {x:A}{y:A} (h:(if p then none else some x)=some y):¬ p∧x=y:=by
 split at h
 · cases h
 · rename_i hp; cases h; exact ⟨hp,rfl⟩
theorem dd {A:Type}{p:Prop} [Decidable p] {x:A}{y:A} (h:(if p then some x else none)=some y):p∧x=y:=by
 split at h
 · rename_i hp; cases h; exact ⟨hp,rfl⟩
 · cases h
theorem ajN {op:BinOp}{k:IntKind}{a b:Int}{t:TypeId}{lit:Bool} (h1:op ≠ .shl) (h2:op ≠ .shr):OkP Γ m (abin P op t lit (.int k a) (.int k b)) (intT op k a b m):=by
 have e1:(a==b)=decide (a=b):=by by_cases h:a=b<;>simp[h]
 have e2:(a != b) = !decide (a=b):=by by_cases h:a=b<;>simp[h,bne]
 cases op<;>first | exact absurd rfl h1 | exact absurd rfl h2 | skip
 case quo =>
   refine .opt fun z hz => ?_
   obtain ⟨hb,rfl⟩:=iS hz
   exact .ok rfl rfl (by simp[abin,aint,hb])
 case rem =>
   refine .opt fun z hz => ?_
   obtain ⟨hb,rfl⟩:=iS hz
   exact .ok rfl rfl (by simp[abin,aint,hb])
 case eql=>exact .ok rfl rfl (by simp[abin,aint,e1])
 case neq=>exact .ok rfl rfl (by simp[abin,aint,e2])
 all_goals first | exact .no | exact .ok rfl rfl (by simp[abin,aint])
theorem qK {op:BinOp}{k k':IntKind}{a b:Int}{t:TypeId}{lit:Bool} (h:op = .shl∨op = .shr):OkP Γ m (abin P op t lit (.int k a) (.int k' b)) (aeX op k a b m):=by
 rcases h with rfl | rfl
 · refine .opt fun z hz => ?_
   obtain ⟨hb,rfl⟩:=iS hz
   exact .ok rfl rfl (by simp only[abin,sm,if_neg hb])
 · refine .opt fun z hz => ?_
   obtain ⟨hb,rfl⟩:=iS hz
   exact .ok rfl rfl (by simp only[abin,sm,if_neg hb])
theorem ajg {op:BinOp}{x y:List UInt8}{t:TypeId}{lit:Bool}:OkP Γ m (abin P op t lit (.str x) (.str y)) (strT op x y m):=by
 have e1:(x==y)=decide (x=y):=by by_cases h:x=y<;>simp[h]
 have e3:IntKind.i64.max=9223372036854775807:=by decide
 cases op
 case add =>
   refine .opt fun z hz => ?_
   obtain ⟨hb,rfl⟩:=iS hz
   exact .ok rfl rfl (by simp only[abin,astr,e3,if_neg hb])
 all_goals first | exact .no | exact .ok rfl rfl (by simp[abin,astr,e1])
theorem lG {ft:TypeId}{t:Ty}{v:t.V}{pre l1 l2:List AVal} (h:gY P ft t=true) (hr:R Γ t v true l1):∃ a,cS P ft (pre++(l1++l2)) pre.length=some a∧R Γ t v false [a]:=by
 unfold gY at h
 unfold cS
 split at h
 · rename_i n d hn hd
   simp only[Bool.and_eq_true,Nat.beq_eq] at h
   obtain ⟨⟨h1,h2⟩,h3⟩:=h
   simp only[hn,hd]
   obtain ⟨a,g1,g2⟩:=jC (l2:=l2) h3 h1.symm (j5 h2) hr
   refine ⟨a,?_,g1⟩
   have:=lD (l1:=pre) (l2:=l1++l2) (off:=pre.length) (n:=n) (ag:=eQ d) (Nat.le_refl _)
   rw[Nat.sub_self,g2] at this
   exact this
 · cases h
theorem wC {f:AVal→AVal→TypeId→Option Bool}{g:TypeId→Ty→Bool} (hf:∀ t ty x y a b,g t ty=true→R Γ ty x false [a]→R Γ ty y false [b]→f a b t=some (eqV ty x y)) :
   ∀ {fs:List Field}{row:Ty}{off:Nat}{x y:row.V}{p1 p2 c1 c2:List AVal},eqFs P g fs row off=true→R Γ row x true c1→R Γ row y true c2→p1.length=off→p2.length=off→ke f P fs (p1++c1) (p2++c2)=some (eqV row x y)
 | [],.unit,off,x,y,p1,p2,c1,c2,h,_,_,_,_=>rfl
 | fd::fs,.cons t ts,off,x,y,p1,p2,c1,c2,h,hx,hy,h1,h2=>by
   simp only[eqFs,Bool.and_eq_true,Nat.beq_eq,Bool.not_eq_true'] at h
   obtain ⟨⟨⟨⟨hn,ho⟩,hp⟩,hg⟩,hr⟩:=h
   simp only[R] at hx hy
   obtain ⟨l1,l2,rfl,x1,x2⟩:=hx
   obtain ⟨k1,k2,rfl,y1,y2⟩:=hy
   obtain ⟨a,ha,ra⟩:=lG (pre:=p1) (l2:=l2) hp x1
   obtain ⟨b,hb,rb⟩:=lG (pre:=p2) (l2:=k2) hp y1
   have hn':¬ fd.name = "_" := by simpa using hn
   unfold ke
   rw[if_neg hn',ho]
   rw[show cS P fd.type (p1++(l1++l2)) off=some a by rw[← h1]; exact ha,show cS P fd.type (p2++(k1++k2)) off=some b by rw[← h2]; exact hb]
   simp only[hf _ _ _ _ _ _ hg ra rb,Option.bind_some]
   have ih:=wC hf (p1:=p1++l1) (p2:=p2++k1) hr x2 y2 (by rw[List.length_append,dI x1,h1]) (by rw[List.length_append,dI y1,h2])
   rw[List.append_assoc,List.append_assoc] at ih
   rw[ih]
   simp only[eqV]
   cases eqV t x.1 y.1<;>rfl
 | [],.cons _ _,_,_,_,_,_,_,_,h,_,_,_,_=>by cases h
 | [],.int _,_,_,_,_,_,_,_,h,_,_,_,_=>by cases h
 | [],.bool,_,_,_,_,_,_,_,h,_,_,_,_=>by cases h
 | [],.str,_,_,_,_,_,_,_,h,_,_,_,_=>by cases h
 | [],.sl _,_,_,_,_,_,_,_,h,_,_,_,_=>by cases h
 | [],.agg _,_,_,_,_,_,_,_,h,_,_,_,_=>by cases h
 | [],.arr _ _,_,_,_,_,_,_,_,h,_,_,_,_=>by cases h
 | [],.tup _,_,_,_,_,_,_,_,h,_,_,_,_=>by cases h
 | [],.nilsl,_,_,_,_,_,_,_,h,_,_,_,_=>by cases h
 | [],.nilp,_,_,_,_,_,_,_,h,_,_,_,_=>by cases h
 | [],.fn f,_,_,_,_,_,_,_,h,_,_,_,_=>by cases h
 | [],.err,_,_,_,_,_,_,_,h,_,_,_,_=>by cases h
 | [],.undef,_,_,_,_,_,_,_,h,_,_,_,_=>by cases h
 | [],.any,_,_,_,_,_,_,_,h,_,_,_,_=>by cases h
 | [],.own _,_,_,_,_,_,_,_,h,_,_,_,_=>by cases h
 | [],.it _,_,_,_,_,_,_,_,h,_,_,_,_=>by cases h
 | [],.mp _,_,_,_,_,_,_,_,h,_,_,_,_=>by cases h
 | [],.bx _ _,_,_,_,_,_,_,_,h,_,_,_,_=>by cases h
 | [],.op _,_,_,_,_,_,_,_,h,_,_,_,_=>by cases h
 | [],.ptr _ _,_,_,_,_,_,_,_,h,_,_,_,_=>by cases h
 | [],.ba _ _ _ _,_,_,_,_,_,_,_,h,_,_,_,_=>by cases h
 | [],.vw _,_,_,_,_,_,_,_,h,_,_,_,_=>by cases h
 | [],.rp _ _,_,_,_,_,_,_,_,h,_,_,_,_=>by cases h
 | [],.orp _ _,_,_,_,_,_,_,_,h,_,_,_,_=>by cases h
 | [],.cl _ _,_,_,_,_,_,_,_,h,_,_,_,_=>by cases h
 | _::_,.unit,_,_,_,_,_,_,_,h,_,_,_,_=>by cases h
 | _::_,.int _,_,_,_,_,_,_,_,h,_,_,_,_=>by cases h
 | _::_,.bool,_,_,_,_,_,_,_,h,_,_,_,_=>by cases h
 | _::_,.str,_,_,_,_,_,_,_,h,_,_,_,_=>by cases h
 | _::_,.sl _,_,_,_,_,_,_,_,h,_,_,_,_=>by cases h
 | _::_,.agg _,_,_,_,_,_,_,_,h,_,_,_,_=>by cases h
 | _::_,.arr _ _,_,_,_,_,_,_,_,h,_,_,_,_=>by cases h
 | _::_,.tup _,_,_,_,_,_,_,_,h,_,_,_,_=>by cases h
 | _::_,.nilsl,_,_,_,_,_,_,_,h,_,_,_,_=>by cases h
 | _::_,.nilp,_,_,_,_,_,_,_,h,_,_,_,_=>by cases h
 | _::_,.fn f,_,_,_,_,_,_,_,h,_,_,_,_=>by cases h
 | _::_,.err,_,_,_,_,_,_,_,h,_,_,_,_=>by cases h
 | _::_,.undef,_,_,_,_,_,_,_,h,_,_,_,_=>by cases h
 | _::_,.any,_,_,_,_,_,_,_,h,_,_,_,_=>by cases h
 | _::_,.own _,_,_,_,_,_,_,_,h,_,_,_,_=>by cases h
 | _::_,.it _,_,_,_,_,_,_,_,h,_,_,_,_=>by cases h
 | _::_,.mp _,_,_,_,_,_,_,_,h,_,_,_,_=>by cases h
 | _::_,.bx _ _,_,_,_,_,_,_,_,h,_,_,_,_=>by cases h
 | _::_,.op _,_,_,_,_,_,_,_,h,_,_,_,_=>by cases h
 | _::_,.ptr _ _,_,_,_,_,_,_,_,h,_,_,_,_=>by cases h
 | _::_,.ba _ _ _ _,_,_,_,_,_,_,_,h,_,_,_,_=>by cases h
 | _::_,.vw _,_,_,_,_,_,_,_,h,_,_,_,_=>by cases h
 | _::_,.rp _ _,_,_,_,_,_,_,_,h,_,_,_,_=>by cases h
 | _::_,.orp _ _,_,_,_,_,_,_,_,h,_,_,_,_=>by cases h
 | _::_,.cl _ _,_,_,_,_,_,_,_,h,_,_,_,_=>by cases h
theorem acH:∀ (d:Nat) (t:TypeId) (ty:Ty) (x y:ty.V) (a b:AVal),f8 P d t ty=true→R Γ ty x false [a]→R Γ ty y false [b]→aeq P d t a b=some (eqV ty x y)
 | 0,t,ty,x,y,a,b,h,_,_=>by cases h
 | d+1,t,ty,x,y,a,b,h,hx,hy=>by
   unfold f8 at h
   unfold aeq
   split at h
   · rename_i hu
     split at h
     · simp only[R] at hx hy; cases hx; cases hy
       simp only[hu,eqV]
     · cases h
   · rename_i k hu
     split at h
     · rename_i k'
       simp only[R] at hx hy; cases hx; cases hy
       have:(x==y)=decide (x=y):=by by_cases h:x=y<;>simp[h]
       simp only[hu,eqV,if_true,this]
     · cases h
   · rename_i hu
     split at h
     · simp only[R] at hx hy; cases hx; cases hy
       have:(x==y)=decide (x=y):=by by_cases h:x=y<;>simp[h]
       simp only[hu,eqV,this]
     · cases h
   · rename_i fs hu
     split at h
     · rename_i row
       simp only[Bool.and_eq_true,Bool.not_eq_true'] at h
       simp only[R] at hx hy
       obtain ⟨xs,e1,hx⟩:=hx
       obtain ⟨ys,e2,hy⟩:=hy
       cases e1; cases e2
       simp only[hu,h.1]
       have:=wC (P:=P) (f:=fun a b u=>aeq P d u a b) (g:=f8 P d) (fun t ty x y a b=>acH d t ty x y a b) (p1:=[]) (p2:=[]) h.2 hx hy rfl rfl
       exact this
     · cases h
   · cases h
theorem ab5 {t:TypeId}{lit:Bool}{x y:TV}{a b:AVal}{r:Bool} (hx:R Γ x.t x.v false [a]) (hy:R Γ y.t y.v false [b]) (hxv:x.t.isV=true) (hyv:y.t.isV=true) (h:aep P t x y=some r) :
   (∀ k n,a ≠ .int k n )∧(∀ s,a ≠ .str s)∧cond (eqOk P t lit a b) (aeq P 8 t a b) none=some r:=by
 obtain ⟨xt,xv⟩:=x
 obtain ⟨yt,yv⟩:=y
 unfold aep at h
 simp only at h hx hy hxv hyv
 split at h
 · split at h
   · rename_i hu
     cases h
     simp only[R] at hx hy; cases hx; cases hy
     refine ⟨(fun _ _ e=>by cases e),(fun _ e=>by cases e),?_⟩
     simp only[eqOk,cond_true,aeq,hu]
   · cases h
 · split at h
   · rename_i hu
     cases h
     simp only[R] at hx hy; cases hy
     obtain ⟨_,_,_,_,e⟩:=hx; cases e
     refine ⟨(fun _ _ e=>by cases e),(fun _ e=>by cases e),?_⟩
     simp only[eqOk,cond_true,aeq,hu]
   · cases h
 · split at h
   · rename_i hu
     cases h
     simp only[R] at hx hy; cases hx
     obtain ⟨_,_,_,_,e⟩:=hy; cases e
     refine ⟨(fun _ _ e=>by cases e),(fun _ e=>by cases e),?_⟩
     simp only[eqOk,cond_true,aeq,hu]
   · cases h
 · split at h
   · rename_i hu
     simp only[vB] at h
     cases h
     simp only[R] at hx hy
     cases hy
     rcases hx with ⟨e0,e⟩ | ⟨_,_,_,e0,_,_,e⟩
     · cases e
       refine ⟨(fun _ _ e=>by cases e),(fun _ e=>by cases e),?_⟩
       rw[e0]
       simp only[eqOk,cond_true,aeq,hu,Option.isNone_none]
     · cases e
       refine ⟨(fun _ _ e=>by cases e),(fun _ e=>by cases e),?_⟩
       rw[e0]
       simp only[eqOk,cond_true,aeq,hu,Option.isNone_some]
   · cases h
 · split at h
   · rename_i hu
     simp only[vB] at h
     cases h
     simp only[R] at hx hy
     cases hx
     rcases hy with ⟨e0,e⟩ | ⟨_,_,_,e0,_,_,e⟩
     · cases e
       refine ⟨(fun _ _ e=>by cases e),(fun _ e=>by cases e),?_⟩
       rw[e0]
       simp only[eqOk,cond_true,aeq,hu,Option.isNone_none]
     · cases e
       refine ⟨(fun _ _ e=>by cases e),(fun _ e=>by cases e),?_⟩
       rw[e0]
       simp only[eqOk,cond_true,aeq,hu,Option.isNone_some]
   · cases h
 · cases ho:f8 P 8 t .bool with
   | false=>rw[ho] at h; cases h
   | true =>
     rw[ho,cond_true] at h
     have hh:r=(xv==yv):=by
       simp only[dq,Ty.beq,dite_true] at h
       simpa using h.symm
     have hq:=acH (P:=P) 8 t .bool xv yv a b ho hx hy
     simp only[R] at hx hy; cases hx; cases hy
     refine ⟨(fun _ _ e=>by cases e),(fun _ e=>by cases e),?_⟩
     simp only[eqOk,cond_true,hq,eqV,hh]
 · rename_i u u'
   cases hg:(!(P.eqGuardType P.depth t)) with
   | false=>rw[hg] at h; cases h
   | true =>
     rw[hg,cond_true] at h
     have nx:=tD (P:=P) (t:=t) (w:=⟨.agg u,xv⟩) hxv hx
     have ny:=tD (P:=P) (t:=t) (w:=⟨.agg u',yv⟩) hyv hy
     have hq:aeq P 8 t a b=some r:=by
       cases ho:f8 P 8 t (ig P t ⟨.agg u,xv⟩).t with
       | true =>
         rw[ho,cond_true] at h
         obtain ⟨e,hr⟩:=aV h
         subst hr
         generalize ig P t ⟨.agg u,xv⟩=X at *
         generalize ig P t ⟨.agg u',yv⟩=Y at *
         obtain ⟨Xt,Xv⟩:=X
         obtain ⟨Yt,Yv⟩:=Y
         simp only at e
         subst e
         exact acH 8 t _ _ _ a b ho nx.2 ny.2
       | false =>
         rw[ho,cond_false] at h
         cases ho2:f8 P 8 t (ig P t ⟨.agg u',yv⟩).t with
         | false=>rw[ho2] at h; cases h
         | true =>
           rw[ho2,cond_true] at h
           obtain ⟨e,hr⟩:=aV h
           subst hr
           generalize ig P t ⟨.agg u,xv⟩=X at *
           generalize ig P t ⟨.agg u',yv⟩=Y at *
           obtain ⟨Xt,Xv⟩:=X
           obtain ⟨Yt,Yv⟩:=Y
           simp only at e
           subst e
           exact acH 8 t _ _ _ a b ho2 nx.2 ny.2
     simp only[R] at hx hy
     obtain ⟨_,e1,_⟩:=hx
     obtain ⟨_,e2,_⟩:=hy
     cases e1; cases e2
     refine ⟨(fun _ _ e=>by cases e),(fun _ e=>by cases e),?_⟩
     simp only[eqOk,hg,cond_true,hq]
 · cases h
end
end Go.TY
namespace Go.TY
open Go.EM
abbrev Γ0:Ctx:=fun _=>none
structure TOk (F:PFn) (tf:TFn):Prop where
 ps:tf.ps.closed=true
 res:tf.res.closed=true
 isV:tf.res.isV=true
 run:∀ v r as,tf.fn v=some r→R Γ0 tf.ps v false as→∃ a,F as=some a∧R Γ0 tf.res r false [a]
section
variable {Φ:Frame}{Γ:Ctx}{m:Mem}{st:aq}{P:Program}
theorem aqS {b:Bool}{a:AVal} (h:R Γ .bool b false [a]):a = .bool b:=by simp only[R] at h; cases h; rfl
theorem mz {t:TypeId}{lit:Bool}{a b:AVal}{r:Bool} (h1:∀ k n,a ≠ .int k n) (h2:∀ s,a ≠ .str s) (h:cond (eqOk P t lit a b) (aeq P 8 t a b) none=some r):abin P .eql t lit a b=some (.bool r)∧abin P .neq t lit a b=some (.bool !r):=by
 cases ho:eqOk P t lit a b with
 | false=>rw[ho] at h; cases h
 | true =>
   rw[ho,cond_true] at h
   constructor
   · cases a<;>first | exact absurd rfl (h1 _ _) | exact absurd rfl (h2 _) | (simp only[abin,ho,cond_true,h,Option.map_some])
   · cases a<;>first | exact absurd rfl (h1 _ _) | exact absurd rfl (h2 _) | (simp only[abin,ho,cond_true,h,Option.map_some])
theorem akb {op:BinOp}{t:TypeId}{lit:Bool}{x y:TV}{a b:AVal} (hx:R Γ x.t x.v false [a]) (hy:R Γ y.t y.v false [b]) (hxv:x.t.isV=true) (hyv:y.t.isV=true):OkP Γ m (abin P op t lit a b) (binT P op t x y m):=by
 unfold binT
 split
 · split
   · rename_i k n k' n'
     simp only[R] at hx hy; cases hx; cases hy
     exact qK (.inl rfl)
   · exact .no
 · split
   · rename_i k n k' n'
     simp only[R] at hx hy; cases hx; cases hy
     exact qK (.inr rfl)
   · exact .no
 · rename_i h1 h2
   split
   · rename_i k n k' n'
     simp only[R] at hx hy; cases hx; cases hy
     cases hk:kbeq k k' with
     | false=>exact .no
     | true =>
       rw[← pz hk]
       exact ajN h1 h2
   · simp only[R] at hx hy; cases hx; cases hy
     exact ajg
   · split
     · split
       · rename_i r hr
         obtain ⟨g1,g2,g3⟩:=ab5 (lit:=lit) hx hy hxv hyv hr
         exact .ok rfl rfl (mz g1 g2 g3).1
       · exact .no
     · split
       · rename_i r hr
         obtain ⟨g1,g2,g3⟩:=ab5 (lit:=lit) hx hy hxv hyv hr
         exact .ok rfl rfl (mz g1 g2 g3).2
       · exact .no
     · exact .no
theorem aqd {op:UnOp}{x:TV}{a:AVal} (hx:R Γ x.t x.v false [a]):OkP Γ m (aun op a) (unT op x m):=by
 unfold unT
 split
 · simp only[R] at hx; cases hx; exact .ok rfl rfl rfl
 · simp only[R] at hx; cases hx; exact .ok rfl rfl rfl
 · simp only[R] at hx; cases hx; exact .ok rfl rfl rfl
 · exact .no
theorem adW {c x y:TV}{a b d:AVal} (hc:R Γ c.t c.v false [a]) (hx:R Γ x.t x.v false [b]) (hy:R Γ y.t y.v false [d]) (hxv:x.t.isV=true) (hyv:y.t.isV=true):OkP Γ m (acB a b d) (ajt c x y m):=by
 unfold ajt
 split
 · simp only[R] at hc; cases hc
   refine .br (fun e => ?_) (fun e => ?_)
   · subst e; exact .ok hxv hx rfl
   · subst e; exact .ok hyv hy rfl
 · exact .no
theorem aev {src dst:TypeId}{x:TV}{a:AVal} (hx:R Γ x.t x.v false [a]):OkP Γ m (ss P src dst a) (aj3 P src dst x m):=by
 unfold aj3
 split
 · rename_i h1 h2
   split
   · simp only[R] at hx; cases hx; exact .ok rfl rfl (by simp only[ss,h1,h2])
   · exact .no
 · rename_i h1 h2
   split
   · simp only[R] at hx; cases hx; exact .ok rfl rfl (by simp only[ss,h1,h2])
   · simp only[R] at hx; cases hx; exact .ok rfl rfl (by simp only[ss,h1,h2])
   · exact .no
 · exact .no
theorem kG {A:Type}{l:List A}{i:Int}{x:A} (h:atI l i=some x):0≤i∧l[i.toNat]? = some x:=by
 unfold atI at h
 split at h
 · rename_i h0; exact ⟨h0,h⟩
 · cases h
theorem pF {n:Nat}{i:Int}{k:Nat} (h:inI n i=some k):(0≤i∧i<n)∧i.toNat=k:=dd h
theorem qA {A:Type}{l r:List A}{lo hi:Int} (h:subI l lo hi=some r):(0≤lo∧lo≤hi∧hi≤l.length)∧(l.take hi.toNat).drop lo.toNat=r:=dd h
theorem tU {t:Ty}{sz:Nat} (hs:t.size=sz):∀ {xs:List t.V}{ls:List (List AVal)}{i:Nat}{x:t.V},All2 (fun x c=>R Γ t x true c) xs ls→xs[i]? = some x→∃ c post,(((ls.take i).flatten).length=i*sz∧ls.flatten=(ls.take i).flatten++(c++post))∧R Γ t x true c
 | y::xs,c::ls,0,x,h,hx=>by
   simp at hx; subst hx
   exact ⟨c,ls.flatten,⟨by simp,by simp⟩,h.1⟩
 | y::xs,c::ls,i+1,x,h,hx=>by
   simp only[List.getElem?_cons_succ] at hx
   obtain ⟨d,post,⟨h1,h2⟩,h3⟩:=tU hs h.2 hx
   refine ⟨d,post,⟨?_,?_⟩,h3⟩
   · simp only[List.take_succ_cons,List.flatten_cons,List.length_append,h1,dI h.1,hs]
     rw[Nat.succ_mul,Nat.add_comm]
   · simp only[List.take_succ_cons,List.flatten_cons,h2,List.append_assoc]
 | [],[],i,x,h,hx=>by simp at hx
theorem tq {ft:TypeId}{t:Ty} (h:gY P ft t=true):∃ n d,szOf P ft=some n∧P.underlying ft=some d∧n=t.size∧eQ d=t.isAgg∧t.isV=true:=by
 unfold gY at h
 split at h
 · rename_i n d h1 h2
   simp only[Bool.and_eq_true,Nat.beq_eq] at h
   exact ⟨n,d,h1,h2,h.1.1,(j5 h.1.2),h.2⟩
 · cases h
theorem wu {e:TypeId}{u:Ty}{n i off:Nat}{xs:List u.V}{ls:List (List AVal)}{pre post:List AVal}{z:u.V} (hn:u.size=n) (hp:gY P e u=true) (hall:All2 (fun x c=>R Γ u x true c) xs ls) (hz:xs[i]? = some z) :
   ∃ a,u.isV=true∧R Γ u z false [a]∧(pre.length=off→cS P e (pre++(ls.flatten++post)) (off+i*n)=some a):=by
 obtain ⟨n',d,h1,h2,h3,h4,h5⟩:=tq hp
 obtain ⟨c,post',⟨g1,g2⟩,g3⟩:=tU hn hall hz
 obtain ⟨a,k1,k2,k3,k4⟩:=gA h5 g3
 refine ⟨a,h5,k2,fun hl => ?_⟩
 have hlc:=dI g3
 have e1:(pre++(ls.flatten++post)).drop (off+i*n)=c++(post'++post):=by
   rw[g2,← hl,← List.drop_drop,List.drop_left' rfl,← g1]
   simp
 unfold cS
 simp only[h1,h2]
 have hle:off+i*n+c.length≤(pre++(ls.flatten++post)).length:=by
   have:=congrArg List.length e1
   simp only[List.length_drop,List.length_append] at this
   have hlt:off+i*n≤(pre++(ls.flatten++post)).length:=by
     rw[g2]; simp only[List.length_append]; omega
   simp only[List.length_append] at hlt ⊢
   omega
 cases ha:u.isAgg with
 | true =>
   rw[h4,ha,cond_true]
   have hb:Nat.ble (off+i*n+n') (pre++(ls.flatten++post)).length=true:=by rw[Nat.ble_eq]; omega
   rw[hb,cond_true,e1,k3 ha,h3,← hlc,List.take_left' rfl]
 | false =>
   rw[h4,ha,cond_false]
   have:=k4 ha
   have e2:(pre++(ls.flatten++post))[off+i*n]? = ((pre++(ls.flatten++post)).drop (off+i*n))[0]? := by rw[List.getElem?_drop,Nat.add_zero]
   rw[e2,e1,this]; rfl
theorem abL {t:TypeId}{x i:TV}{a b:AVal} (hx:R Γ x.t x.v false [a]) (hi:R Γ i.t i.v false [b]):OkP Γ m (my P t a b) (abM P t x i m):=by
 unfold abM
 split
 · simp only[R] at hi; cases hi
   split
   · rename_i hu
     split
     · simp only[R] at hx; cases hx
       refine .opt fun z hz => ?_
       obtain ⟨h0,h1⟩:=kG hz
       exact .ok rfl rfl (by simp only[my,hu,h0,if_true,h1,Option.map_some])
     · exact .no
   · rename_i len e hu
     split
     · rename_i n hs
       split
       · rename_i len' u xs
         cases hc:(Nat.beq u.size n&&Nat.beq len len'&&gY P e u) with
         | false=>exact .no
         | true =>
           simp only[Bool.and_eq_true,Nat.beq_eq] at hc
           obtain ⟨⟨hc1,hc2⟩,hc3⟩:=hc
           subst hc2
           refine .opt fun z hz => ?_
           obtain ⟨h0,h1⟩:=kG hz
           simp only[R] at hx
           obtain ⟨cs,hx,hlen,ls,hls,hall⟩:=hx
           cases hx
           obtain ⟨a,g1,g2,g3⟩:=wu (P:=P) (off:=0) (pre:=[]) (post:=[]) hc1 hc3 hall h1
           simp only[List.nil_append,List.append_nil,List.length_nil,Nat.zero_add] at g3
           refine .ok g1 g2 ?_
           have hi:=(List.getElem?_eq_some_iff.1 h1).1
           simp only[my,hu]
           rw[if_pos ⟨h0,by omega⟩,hs,Option.bind_some,hls]
           exact g3 trivial
       · exact .no
     · exact .no
   · exact .no
 · exact .no
theorem fY {n:Nat} (h:Nat.beq n 0=false):n≠0:=fun e=>by rw[e] at h; cases h
theorem ajP (hm:MemR Φ Γ m st) {t:TypeId}{x i:TV}{a b:AVal} (hx:R Γ x.t x.v false [a]) (hi:R Γ i.t i.v false [b]):OkP Γ m (aidx P t a b) (idxT P t x i m):=by
 unfold idxT
 split
 · rename_i k n
   simp only[R] at hi; cases hi
   split
   · rename_i e hu
     split
     · rename_i sz hs
       split
       · rename_i u xs
         cases hc:(Nat.beq u.size sz && !(Nat.beq sz 0)&&u.isV) with
         | false=>exact .no
         | true =>
           simp only[Bool.and_eq_true,Nat.beq_eq,Bool.not_eq_true'] at hc
           obtain ⟨⟨hc1,hc2⟩,hc3⟩:=hc
           have hc2:=fY hc2
           refine .opt fun z hz => ?_
           obtain ⟨h0,h1⟩:=kG hz
           simp only[R] at hx
           rcases hx with ⟨hn,hx⟩ | ⟨f,n',as,hx,hn,hx2⟩
           · rw[hn] at h1; simp at h1
           · cases hx
             have hne:xs≠[]:=fun e=>by rw[e] at h1; simp at h1
             have hn':n'=sz:=(hn.resolve_left hne).trans hc1
             obtain ⟨v,hv1,hv2⟩:=fR hx2 h1
             refine .ok rfl (a:=.rptr v.cells) ⟨v,[],hv2,fun _=>rfl,by rw[List.drop_zero,List.append_nil]⟩ ?_
             simp only[aidx,hu,hs]
             rw[if_pos ⟨hn',hc2,h0⟩,hv1,Option.map_some]
       · rename_i id _
         split
         · rename_i e u xs hg
           cases hc:(Nat.beq u.size sz && !(Nat.beq sz 0)) with
           | false=>exact .no
           | true =>
             simp only[Bool.and_eq_true,Nat.beq_eq,Bool.not_eq_true'] at hc
             obtain ⟨hc1,hc2⟩:=hc
             have hc2:=fY hc2
             refine .opt fun z hz => ?_
             obtain ⟨⟨h0,h1⟩,rfl⟩:=pF hz
             have hr:=hm.at id
             rw[hg] at hr
             obtain ⟨_,_,_,_,hr⟩:=hr
             simp only[R] at hx
             rcases hr with ⟨rfl,_⟩ | ⟨r,as,g1,g2,g3⟩
             · simp at h1; omega
             · rw[g1] at hx
               cases hx
               refine .ok rfl (a:=.ptr r xs.length n.toNat 0) ⟨r,u.size,xs.length,g1,rfl⟩ ?_
               simp only[aidx,hu,hs,Nat.zero_add]
               rw[if_pos ⟨hc1,hc2,h0,h1⟩]
         · exact .no
       · rename_i id v
         split
         · rename_i e u xs hg
           cases hc:(Nat.beq u.size sz && !(Nat.beq sz 0)) with
           | false=>exact .no
           | true =>
             simp only[Bool.and_eq_true,Nat.beq_eq,Bool.not_eq_true'] at hc
             obtain ⟨hc1,hc2⟩:=hc
             have hc2:=fY hc2
             refine .br (fun _=>.no) (fun hne => ?_)
             refine .opt fun z hz => ?_
             obtain ⟨⟨h0,h1⟩,rfl⟩:=pF hz
             have hr:=hm.at id
             rw[hg] at hr
             obtain ⟨_,_,_,_,hr⟩:=hr
             simp only[R] at hx
             obtain ⟨r0,n0,l0,k1,hx⟩:=hx
             cases hx
             rcases hr with ⟨rfl,_⟩ | ⟨r,as,g1,g2,g3⟩
             · cases hne
             · rw[g1] at k1
               cases k1
               refine .ok rfl (a:=.ptr r0 xs.length (v.1+n.toNat) 0) ⟨r0,u.size,xs.length,g1,rfl⟩ ?_
               simp only[aidx,hu,hs]
               rw[if_pos ⟨hc1,hc2,h0,h1⟩]
         · exact .no
       · exact .no
     · exact .no
   · rename_i len e hu
     split
     · rename_i sz hs
       split
       · rename_i t off v
         split
         · rename_i len' u xs hp
           cases hc:(Nat.beq u.size sz && !(Nat.beq sz 0)&&u.isV&&t.isV&&Nat.beq len len'&&(!u.closed||t.closed)) with
           | false=>exact .no
           | true =>
             simp only[Bool.and_eq_true,Nat.beq_eq,Bool.not_eq_true'] at hc
             obtain ⟨⟨⟨⟨⟨hc1,hc2⟩,hc3⟩,hc4⟩,hc5⟩,hc6⟩:=hc
             subst hc5
             refine .opt fun z hz => ?_
             obtain ⟨h0,h1⟩:=kG hz
             simp only[R] at hx
             obtain ⟨b,rest,hb,hrc,hx⟩:=hx
             cases hx
             obtain ⟨aa,ha1,ha2⟩:=iL (w0:=⟨t,v⟩) (bO hc4 hb) hp rfl
             simp only[R] at ha1
             obtain ⟨cs,ha3,hlen,ls,hls,hall⟩:=ha1
             cases ha3
             have hpick:Nat.ble (off+len*sz) b.cells.length=true∧(b.cells.drop off).take (len*sz)=cs:=by
               unfold iI at ha2
               simp only[cond_true] at ha2
               cases hb':Nat.ble (off+len*sz) b.cells.length with
               | false=>rw[hb'] at ha2; cases ha2
               | true=>rw[hb',cond_true] at ha2; cases ha2; exact ⟨rfl,rfl⟩
             rw[Nat.ble_eq] at hpick
             have hilt:n.toNat<xs.length:=by
               rcases Nat.lt_or_ge n.toNat xs.length with h' | h'
               · exact h'
               · rw[List.getElem?_eq_none h'] at h1; cases h1
             obtain ⟨c,post,hsp,hcr⟩:=tU hc1 hall h1
             have hdrop:(b.cells++rest).drop (off+n.toNat*sz)=c++(post++((b.cells.drop (off+len*sz))++rest)):=by
               have e1:b.cells.drop off=cs++b.cells.drop (off+len*sz):=by
                 rw[← hpick.2,← List.drop_drop,List.take_append_drop]
               rw[← List.drop_drop,List.drop_append_of_le_length (by omega),e1,List.append_assoc,hls,List.drop_append_of_le_length (by have:=hsp; rw[← hls]; rw[hls,this.2]; simp[this.1]),hsp.2,← hsp.1,List.drop_left' rfl]
               simp
             obtain ⟨cv,k1,k2,_,_⟩:=gA hc3 hcr
             refine .ok rfl (a:=.rptr ((b.cells++rest).drop (off+n.toNat*sz))) ⟨cv,post++((b.cells.drop (off+len*sz))++rest),k2,fun hu=>by
               have ht:t.closed=true:=by simpa [hu] using hc6
               have h1:=gt (aT b ▸ bq (t:=t) ht hb)
               have h2:aA ((b.cells++rest).drop (off+n.toNat*sz))=true:=bB _ _ (by rw[dC,h1,hrc ht]; rfl)
               rw[hdrop,dC,Bool.and_eq_true] at h2
               exact h2.2,by rw[hdrop,List.drop_zero,k1]⟩ ?_
             simp only[aidx,hu,hs]
             rw[if_pos ⟨h0,by omega⟩,List.drop_drop]
         · exact .no
       · rename_i id off _
         cases hc:(!(Nat.beq sz 0)) with
         | false=>exact .no
         | true =>
           refine .opt fun z hz => ?_
           obtain ⟨⟨h0,h1⟩,rfl⟩:=pF hz
           simp only[R] at hx
           obtain ⟨r,n0,g1,hx⟩:=hx
           cases hx
           refine .ok rfl (a:=.ptr r 1 0 (off+n.toNat*sz)) ⟨r,n0,1,g1,rfl⟩ ?_
           simp only[aidx,hu,hs]
           rw[if_pos ⟨h0,h1⟩]
       · exact .no
     · exact .no
   · exact .no
 · exact .no
theorem ab2 {s:TypeId}{x:TV}{a:AVal}{f:Nat} (hx:R Γ x.t x.v false [a]):OkP Γ m (ji P s a f) (ab3 P s x f m):=by
 unfold ab3
 split
 · rename_i fd hf
   split
   · rename_i n hs
     split
     · simp only[R] at hx; obtain ⟨r,n,hg,hx⟩:=hx; cases hx
       exact .ok rfl (a:=.ptr r 1 0 _) ⟨r,n,hg,rfl⟩ (by simp only[ji,hf,hs])
     · simp only[R] at hx; obtain ⟨r,n,len,hg,hx⟩:=hx; cases hx
       exact .ok rfl (a:=.ptr r len _ _) ⟨r,n,len,hg,rfl⟩ (by simp only[ji,hf,hs])
     · simp only[R] at hx; obtain ⟨b,rest,hb,hrc,hx⟩:=hx; cases hx
       exact .ok rfl (a:=.rptr _) ⟨b,rest,hb,hrc,rfl⟩ (by simp only[ji,hf,hs,List.drop_drop])
     · simp only[R] at hx
       refine .opt fun y hy => ?_
       rcases hx with ⟨e0,_⟩ | ⟨z,b,rest,e0,hb,hrc,hx⟩
       · rw[e0] at hy; cases hy
       · rw[e0] at hy; cases hy
         cases hx
         exact .ok rfl (a:=.rptr _) ⟨b,rest,hb,hrc,rfl⟩ (by simp only[ji,hf,hs,List.drop_drop])
     · exact .no
   · exact .no
 · exact .no
theorem ab0 {s:TypeId}{x:TV}{a:AVal}{f:Nat} (hxv:x.t.isV=true) (hx:R Γ x.t x.v false [a]):OkP Γ m (oC P s a f) (ab1 P s x f m):=by
 unfold ab1
 split
 · rename_i fd hf
   cases hg:x.t.isAgg with
   | false=>exact .no
   | true =>
     have ha:=acL hxv hx
     rw[hg] at ha
     cases a<;>try (cases ha; done)
     rename_i cs
     refine .ofO fun w hw => ?_
     obtain ⟨h1,b,h2,h3⟩:=gn (bO hxv hx) hw
     exact ⟨h1,b,h2,by simp only[oC,hf]; exact h3⟩
 · exact .no
theorem ae1:∀ {t:Ty}{v:t.V}{as:List AVal}{i:Nat}{w:TV},rowV t=true→R Γ t v false as→nthT t v i=some w→w.t.isV=true∧∃ a,R Γ w.t w.v false [a]∧as[i]? = some a
 | .cons t ts,v,as,0,w,hv,hr,h=>by
   simp only[rowV,Bool.and_eq_true] at hv
   simp only[R] at hr
   obtain ⟨l1,l2,rfl,h1,h2⟩:=hr
   obtain ⟨a,rfl⟩:=eL hv.1 h1
   simp only[nthT] at h; cases h
   exact ⟨hv.1,a,h1,rfl⟩
 | .cons t ts,v,as,i+1,w,hv,hr,h=>by
   simp only[rowV,Bool.and_eq_true] at hv
   simp only[R] at hr
   obtain ⟨l1,l2,rfl,h1,h2⟩:=hr
   obtain ⟨a,rfl⟩:=eL hv.1 h1
   simp only[nthT] at h
   exact ae1 (t:=ts) (i:=i) hv.2 h2 h
 | .unit,v,as,i,w,hv,hr,h=>by cases i<;>cases h
 | .int _,_,_,_,_,hv,_,_=>by cases hv
 | .bool,_,_,_,_,hv,_,_=>by cases hv
 | .str,_,_,_,_,hv,_,_=>by cases hv
 | .sl _,_,_,_,_,hv,_,_=>by cases hv
 | .agg _,_,_,_,_,hv,_,_=>by cases hv
 | .arr _ _,_,_,_,_,hv,_,_=>by cases hv
 | .tup _,_,_,_,_,hv,_,_=>by cases hv
 | .nilsl,_,_,_,_,hv,_,_=>by cases hv
 | .nilp,_,_,_,_,hv,_,_=>by cases hv
 | .fn f,_,_,_,_,hv,_,_=>by cases hv
 | .err,_,_,_,_,hv,_,_=>by cases hv
 | .undef,_,_,_,_,hv,_,_=>by cases hv
 | .any,_,_,_,_,hv,_,_=>by cases hv
 | .own _,_,_,_,_,hv,_,_=>by cases hv
 | .it _,_,_,_,_,hv,_,_=>by cases hv
 | .mp _,_,_,_,_,hv,_,_=>by cases hv
 | .bx _ _,_,_,_,_,hv,_,_=>by cases hv
 | .op _,_,_,_,_,hv,_,_=>by cases hv
 | .ptr _ _,_,_,_,_,hv,_,_=>by cases hv
 | .ba _ _ _ _,_,_,_,_,hv,_,_=>by cases hv
 | .vw _,_,_,_,_,hv,_,_=>by cases hv
 | .rp _ _,_,_,_,_,hv,_,_=>by cases hv
 | .orp _ _,_,_,_,_,hv,_,_=>by cases hv
 | .cl _ _,_,_,_,_,hv,_,_=>by cases hv
theorem tW {x:TV}{a:AVal}{i:Nat} (hx:R Γ x.t x.v false [a]):OkP Γ m (jj a i) (pO x i m):=by
 unfold pO
 split
 · rename_i t v
   simp only[R] at hx; obtain ⟨as,hx,hr⟩:=hx; cases hx
   cases hv:rowV t with
   | false=>exact .no
   | true =>
     refine .ofO fun w hw => ?_
     obtain ⟨h1,b,h2,h3⟩:=ae1 hv hr hw
     exact ⟨h1,b,h2,h3⟩
 · exact .no
def OptR (Γ:Ctx) (x:Option TV) (a:Option AVal):Prop :=
 match x,a with
 | none,none=>True
 | some w,some a=>R Γ w.t w.v false [a]
 | _,_=>False
theorem dK {x:Option TV}{a:Option AVal}{d:Nat}{n:Int} (h:OptR Γ x a) (hb:hU x d=some n) (h0:0≤n):dU a d=some n.toNat:=by
 unfold hU at hb
 split at hb
 · cases hb
   cases a with
   | none=>simp[dU]
   | some _=>exact h.elim
 · cases hb
   cases a with
   | none=>exact h.elim
   | some a =>
     simp only[OptR,R] at h; cases h
     simp[dU,h0]
 · cases hb
theorem nh {n:Nat}{l h:Int}{p:Nat×Nat} (e:kR n l h=some p):(0≤l∧l≤h∧h≤n)∧p=(l.toNat,h.toNat-l.toNat):=by
 obtain ⟨h1,h2⟩:=dd e
 exact ⟨h1,h2.symm⟩
theorem aaE (hm:MemR Φ Γ m st) {t:TypeId}{x:TV}{a:AVal}{lo hi mx:Option TV}{l h q:Option AVal} (hx:R Γ x.t x.v false [a]) (h1:OptR Γ lo l) (h2:OptR Γ hi h) (h3:OptR Γ mx q):OkP Γ m (hX P t a l h q) (aaF P t x lo hi mx m):=by
 unfold aaF
 split
 · exact .no
 · cases q with
   | some _=>exact h3.elim
   | none =>
     split
     · rename_i hu
       split
       · rename_i s
         simp only[R] at hx; cases hx
         split
         · rename_i n k e1 e2
           refine .opt fun z hz => ?_
           obtain ⟨⟨g1,g2,g3⟩,rfl⟩:=qA hz
           have b1:=dK (d:=0) h1 e1 g1
           have b2:=dK (d:=s.length) h2 e2 (by omega)
           refine .ok rfl rfl ?_
           simp only[hX,hu,b1,b2]
           rw[if_pos ⟨by omega,by omega⟩]
         · exact .no
       · exact .no
     · rename_i e hu
       split
       · rename_i n hs
         split
         · rename_i u xs
           split
           · rename_i l' k' e1 e2
             cases hc:Nat.beq u.size n with
             | false=>exact .no
             | true =>
               rw[Nat.beq_eq] at hc
               refine .opt fun z hz => ?_
               obtain ⟨⟨g1,g2,g3⟩,rfl⟩:=qA hz
               simp only[R] at hx
               rcases hx with ⟨hn,hx⟩ | ⟨f,n',as,hx,hn,hx2⟩
               · cases hx
                 subst hn
                 have b1:=dK (d:=0) h1 e1 g1
                 have b2:=dK (d:=0) h2 e2 (by omega)
                 simp only[List.length_nil,Int.natCast_zero] at g3
                 have z1:l'.toNat=0:=by omega
                 have z2:k'.toNat=0:=by omega
                 refine .ok rfl (a:=.nil) (.inl ⟨by simp,rfl⟩) ?_
                 have b3:dU none 0=some 0:=rfl
                 simp only[hX,hu,hs,b1,b2,b3,z1,z2,Option.isSome_none,Bool.false_and,Bool.false_eq_true,if_false]
               · cases hx
                 have hl:=aU hx2
                 have b1:=dK (d:=0) h1 e1 g1
                 have b2:=dK (d:=as.length) h2 (by rw[hl]; exact e2) (by omega)
                 have hn':n'=n∨as.length=0:=by
                   rcases hn with rfl | hn
                   · right; rw[hl]; rfl
                   · left; exact hn.trans hc
                 refine .ok rfl (a:=.tree (f&&k'.toNat==as.length) n' ((as.take k'.toNat).drop l'.toNat)) (.inr ⟨_,n',_,rfl,?_,fw _ (fv _ hx2)⟩) ?_
                 · rcases hn with rfl | hn
                   · left; simp
                   · right; exact hn
                 simp only[hX,hu,hs,b1,b2]
                 rw[if_pos ⟨hn',by omega,by omega⟩]
           · exact .no
         · rename_i id _
           split
           · rename_i e' u xs hg
             split
             · rename_i l' k' e1 e2
               cases hc:Nat.beq u.size n with
               | false=>exact .no
               | true =>
                 rw[Nat.beq_eq] at hc
                 refine .br (fun _=>.no) (fun hne => ?_)
                 refine .opt fun z hz => ?_
                 obtain ⟨⟨g1,g2,g3⟩,rfl⟩:=nh hz
                 have hr:=hm.at id
                 rw[hg] at hr
                 obtain ⟨_,_,_,_,hr⟩:=hr
                 simp only[R] at hx
                 rcases hr with ⟨rfl,_⟩ | ⟨r,as,k1,k2,k3⟩
                 · cases hne
                 · rw[k1] at hx
                   cases hx
                   have b1:=dK (d:=0) h1 e1 g1
                   have b2:=dK (d:=xs.length) h2 e2 (by omega)
                   refine .ok rfl (a:=.own r u.size xs.length l'.toNat (k'.toNat-l'.toNat)) ⟨r,u.size,xs.length,k1,rfl⟩ ?_
                   simp only[hX,hu,hs,b1,b2,Nat.zero_add]
                   rw[if_pos ⟨hc,by omega,by omega⟩]
             · exact .no
           · exact .no
         · rename_i id v
           split
           · rename_i e' u xs hg
             split
             · rename_i l' k' e1 e2
               cases hc:Nat.beq u.size n with
               | false=>exact .no
               | true =>
                 rw[Nat.beq_eq] at hc
                 refine .br (fun _=>.no) (fun hne => ?_)
                 refine .opt fun z hz => ?_
                 obtain ⟨⟨g1,g2,g3⟩,rfl⟩:=nh hz
                 have hr:=hm.at id
                 rw[hg] at hr
                 obtain ⟨_,_,_,_,hr⟩:=hr
                 simp only[R] at hx
                 obtain ⟨r0,n0,l0,q1,hx⟩:=hx
                 cases hx
                 rcases hr with ⟨rfl,_⟩ | ⟨r,as,k1,k2,k3⟩
                 · cases hne
                 · rw[k1] at q1
                   cases q1
                   have b1:=dK (d:=0) h1 e1 g1
                   have b2:=dK (d:=v.2) h2 e2 (by omega)
                   refine .ok rfl (a:=.own r0 u.size xs.length (v.1+l'.toNat) (k'.toNat-l'.toNat)) ⟨r0,u.size,xs.length,k1,rfl⟩ ?_
                   simp only[hX,hu,hs,b1,b2]
                   rw[if_pos ⟨hc,by omega,by omega⟩]
             · exact .no
           · exact .no
         · exact .no
       · exact .no
     · exact .no
theorem ajE (hm:MemR Φ Γ m st) {t:TypeId}{x:TV}{a:AVal} (hx:R Γ x.t x.v false [a]):OkP Γ m (alen P t a) (lenT P t x m):=by
 unfold lenT
 split
 · rename_i hu
   split
   · simp only[R] at hx; cases hx; exact .ok rfl rfl (by simp only[alen,hu])
   · exact .no
 · rename_i e hu
   split
   · simp only[R] at hx; cases hx; exact .ok rfl rfl (by simp only[alen,hu])
   · rename_i u xs
     simp only[R] at hx
     rcases hx with ⟨hn,hx⟩ | ⟨f,n',as,hx,hn,hx2⟩
     · cases hx; subst hn; exact .ok rfl rfl (by simp only[alen,hu]; rfl)
     · cases hx; exact .ok rfl rfl (by simp only[alen,hu,aU hx2])
   · rename_i id _
     split
     · rename_i e u xs hg
       have hr:=hm.at id
       rw[hg] at hr
       obtain ⟨_,_,_,_,hr⟩:=hr
       simp only[R] at hx
       rcases hr with ⟨rfl,_,g1,_⟩ | ⟨r,as,g1,g2,g3⟩
       · rw[g1] at hx
         rcases hx with hx | ⟨_,n',hx⟩
         · cases hx; exact .ok rfl rfl (by simp only[alen,hu]; rfl)
         · cases hx; exact .ok rfl rfl (by simp only[alen,hu]; rfl)
       · rw[g1] at hx; cases hx; exact .ok rfl rfl (by simp only[alen,hu])
     · exact .no
   · simp only[R] at hx
     obtain ⟨r0,n0,l0,q1,hx⟩:=hx
     cases hx
     exact .ok rfl rfl (by simp only[alen,hu])
   · exact .no
 · exact .no
theorem ajL (a b:Int):(if b<a then b else a)=min a b:=by rw[Int.min_def]; split<;>split<;>omega
theorem ajM (a b:Int):(if b>a then b else a)=max a b:=by rw[Int.max_def]; split<;>split<;>omega
theorem nM {mx:Bool}{l:List TV}{as:List AVal} (h:ip Γ l as):OkP Γ m (gx mx as) (pj mx l m):=by
 unfold pj
 split
 · rename_i k a k' b
   match as,h with
   | [x,y],h =>
     have h1:=h.1.2
     have h2:=h.2.1.2
     simp only[R] at h1 h2
     cases h1; cases h2
     cases hk:kbeq k k' with
     | false=>exact .no
     | true =>
       have e:=pz hk
       subst e
       refine .ok rfl rfl ?_
       simp only[gx,if_true]
       cases mx<;>simp only[cond_true,cond_false]
       · rw[ajL]
       · rw[ajM]
 · exact .no
def oG (Γ:Ctx) (l:List (Nat×TV)) (as:List (Nat×AVal)):Prop:=All2 (fun p q=>p.1=q.1∧p.2.t.isV=true∧R Γ p.2.t p.2.v false [q.2]) l as
theorem aa1 {fs:Array Field}:∀ {parts:List (Nat×TV)}{as:List (Nat×AVal)}{u w:TV}{cs:List AVal},R Γ u.t u.v false [.agg cs]→u.t.isV=true→u.t.okRow=true→oG Γ parts as→aa2 P fs u parts=some w →
   ∃ cs',uz P fs cs as=some cs'∧w.t.isV=true∧R Γ w.t w.v false [.agg cs']
 | [],[],u,w,cs,hu,hv,hk,hp,h=>by simp only[aa2] at h; cases h; exact ⟨cs,rfl,hv,hu⟩
 | [],_::_,u,w,cs,hu,hv,hk,hp,h=>hp.elim
 | _::_,[],u,w,cs,hu,hv,hk,hp,h=>hp.elim
 | (i,x)::parts,(j,a)::as,u,w,cs,hu,hv,hk,hp,h=>by
   obtain ⟨⟨e,hx1,hx2⟩,hp⟩:=hp
   simp only at e hx1 hx2
   subst e
   unfold aa2 at h
   split at h
   · cases h
   · rename_i fd hf
     split at h
     · rename_i n hn
       cases hc:(Nat.beq n x.t.size&&x.t.okRow&&x.t.isV) with
       | false=>rw[hc] at h; cases h
       | true =>
         rw[hc,cond_true,Option.bind_eq_some_iff] at h
         obtain ⟨u',hu',h⟩:=h
         simp only[Bool.and_eq_true,Nat.beq_eq] at hc
         obtain ⟨⟨hc1,hc2⟩,hc3⟩:=hc
         obtain ⟨g1,g2,g3,g4,g5,g6⟩:=kv hu hv hk hx2 hx1 hu'
         have hcl:=bO hx1 hx2
         have hlen:=dI hcl
         obtain ⟨cs',k1,k2,k3⟩:=aa1 (cs:=cs.take fd.offset++a.cells++cs.drop (fd.offset+a.cells.length)) g1 g2 (g3 hc2) hp h
         refine ⟨cs',?_,k2,k3⟩
         unfold uz
         simp only[hf,hn]
         rw[show (AVal.agg cs).cells=cs from rfl] at g5
         rw[if_pos ⟨by omega,by omega,d9 hc2 hcl⟩]
         rw[show n=a.cells.length by omega]
         exact k1
     · cases h
theorem acu {t:TypeId}{parts:List (Nat×TV)}{as:List (Nat×AVal)} (hp:oG Γ parts as):OkP Γ m (oE P t as) (acv P t parts m):=by
 unfold acv
 split
 · rename_i fs hu
   cases hi:fs.all fun f=>(P.info? f.type).isSome with
   | false=>exact .no
   | true =>
     simp only[cond_true]
     split
     · rename_i z hz
       cases hg:(z.t.isAgg&&z.t.okRow) with
       | false=>exact .no
       | true =>
         rw[Bool.and_eq_true] at hg
         simp only[cond_true]
         split
         · rename_i w hw
           obtain ⟨z1,a,z2,z3⟩:=jp (Γ:=Γ) hz
           have ha:=acL z1 z3
           rw[hg.1] at ha
           cases a<;>try (cases ha; done)
           rename_i cs
           obtain ⟨cs',k1,k2,k3⟩:=aa1 z3 z1 hg.2 hp hw
           refine .ok k2 k3 ?_
           simp only[oE,z2,hu,hi,if_true]
           rw[show (AVal.agg cs).cells=cs from rfl,k1,Option.map_some]
         · exact .no
     · exact .no
 · exact .no
theorem abY {e:TypeId}{u:Ty}{x:u.V}{a:AVal} (hf:kn P e u=true) (hr:R Γ u x false [a]):fits P e a=true:=by
 unfold kn at hf
 unfold fits
 split at hf
 · rename_i n d hn hd
   simp only[Bool.and_eq_true,Nat.beq_eq,Bool.not_eq_true'] at hf
   obtain ⟨⟨⟨⟨h1,h2⟩,h3⟩,h4⟩,h5⟩:=hf
   have hc:=bO h4 hr
   simp only[hn,hd,Bool.and_eq_true,beq_iff_eq,bne_iff_ne]
   refine ⟨⟨⟨by rw[dI hc,h1],?_⟩,d9 h3 hc⟩,fY h5⟩
   rw[← acL h4 hr,j5 h2]
 · cases hf
theorem vQ:∀ {l:List (Nat×TV)}{as:List (Nat×AVal)}{k:Nat},oG Γ l as→rB k l=true→xN k as=true
 | [],[],k,_,_=>rfl
 | (i,x)::l,(j,a)::as,k,h,hk=>by
   obtain ⟨⟨e,_⟩,h⟩:=h
   simp only at e
   subst e
   simp only[rB,Bool.and_eq_true,Nat.beq_eq] at hk
   simp only[xN,Bool.and_eq_true,beq_iff_eq]
   exact ⟨hk.1,vQ h hk.2⟩
theorem nJ:∀ {l:List (Nat×TV)}{as:List (Nat×AVal)},oG Γ l as→ip Γ (l.map (·.2)) (as.map (·.2))
 | [],[],_=>trivial
 | _::_,_::_,h=>⟨h.1.2,nJ h.2⟩
theorem wz {e:TypeId}{u:Ty} (hf:kn P e u=true):∀ {xs:List u.V}{as:List (Nat×AVal)},All2 (fun x a=>R Γ u x false [a]) xs (as.map (·.2))→as.all (fun p=>fits P e p.2)=true
 | [],[],_=>rfl
 | x::xs,a::as,h=>by
   simp only[List.all_cons,Bool.and_eq_true]
   exact ⟨abY hf h.1,wz hf h.2⟩
 | [],_::_,h=>h.elim
 | _::_,[],h=>h.elim
theorem ot {ty:List (Nat×Ty)}{t:TypeId}{len:Nat}{parts:List (Nat×TV)}{as:List (Nat×AVal)}{u:Ty}{xs:List u.V} (hp:oG Γ parts as) (h:kE P ty t len parts=some ⟨u,xs⟩) :
   u.isV=true∧u.closed=true∧u.size≠0∧cV P t len as=some (u.size,as.map (·.2))∧All2 (fun x a=>R Γ u x false [a]) xs (as.map (·.2)):=by
 unfold kE at h
 split at h
 · rename_i e hu
   split at h
   · rename_i n z u' hn hz hl
     cases hc:(rB 0 parts&&Nat.beq parts.length len&&kn P e u'&&Nat.ble (len*n) 16777216&&u'.closed&&Nat.beq u'.size n) with
     | false=>rw[hc] at h; cases h
     | true =>
       rw[hc,cond_true,Option.map_eq_some_iff] at h
       obtain ⟨ys,hy,e⟩:=h
       cases e
       simp only[Bool.and_eq_true,Nat.beq_eq,Nat.ble_eq] at hc
       obtain ⟨⟨⟨⟨⟨c1,c2⟩,c3⟩,c4⟩,c5⟩,c6⟩:=hc
       have hr:=mj hy (nJ hp)
       have hv:u.isV=true∧n≠0:=by
         unfold kn at c3
         split at c3
         · simp only[Bool.and_eq_true,Bool.not_eq_true'] at c3
           rename_i n' d hn' hd
           rw[hn] at hn'; cases hn'
           exact ⟨c3.1.2,fY c3.2⟩
         · cases c3
       refine ⟨hv.1,c5,by rw[c6]; exact hv.2,?_,hr⟩
       have hlen:as.length=len:=by rw[← c2,aU hp]
       unfold cV
       simp only[hu,hn,hz,c6]
       rw[if_pos]
       simp only[Bool.and_eq_true,beq_iff_eq,decide_eq_true_eq]
       exact ⟨⟨⟨vQ hp c1,hlen⟩,wz c3 hr⟩,c4,hv.2⟩
   · cases h
 · cases h
theorem abn {x:TV}{a:AVal} (hxv:x.t.isV=true) (hx:R Γ x.t x.v false [a]):OkP Γ m (wy a) (abo x m):=by
 obtain ⟨t,v⟩:=x
 unfold abo
 split
 · rename_i ht; simp only at ht; subst ht
   simp only[R] at hx
   unfold orpT
   refine .opt fun y hy => ?_
   rcases hx with ⟨e0,_⟩ | ⟨z,b,rest,e0,h1,h2,h⟩
   · rw[e0] at hy; cases hy
   · rw[e0] at hy; cases hy
     cases h
     exact .ok rfl ⟨b,rest,h1,h2,rfl⟩ rfl
 · rename_i ht; simp only at ht; subst ht
   have h:=hx; simp only[R] at h; obtain ⟨_,_,_,h⟩:=h; cases h
   exact .ok rfl hx rfl
 · rename_i ht; simp only at ht; subst ht
   have h:=hx; simp only[R] at h; obtain ⟨_,_,_,_,h⟩:=h; cases h
   exact .ok rfl hx rfl
 · rename_i ht; simp only at ht; subst ht
   have h:=hx; simp only[R] at h; obtain ⟨_,_,_,_,h⟩:=h; cases h
   exact .ok rfl hx rfl
 · rename_i ht; simp only at ht; subst ht
   have h:=hx; simp only[R] at h; obtain ⟨_,_,_,_,h⟩:=h; cases h
   exact .ok rfl hx rfl
 · exact .no
theorem pZ {F:PFn}{tf:TFn}{l:List TV}{as:List AVal} (hF:TOk F tf) (h:ip Γ l as):OkP Γ m (kp F as) (aey tf l m):=by
 unfold aey
 split
 · rename_i v hv
   refine .opt fun r hr => ?_
   have hp:=dR hv h
   obtain ⟨a,h1,h2⟩:=hF.run v r as hr (aP hF.ps hp)
   refine .ok hF.isV (aP hF.res h2) ?_
   simp only[kp,bq hF.ps hp,cond_true,h1]
 · exact .no
end
end Go.TY
