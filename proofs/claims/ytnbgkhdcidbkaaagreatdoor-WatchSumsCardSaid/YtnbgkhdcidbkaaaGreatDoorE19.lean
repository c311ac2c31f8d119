import Derived.Test.YtnbgkhdcidbkaaaGreatDoorE12
import Derived.Test.YtnbgkhdcidbkaaaGreatDoorE5
set_option linter.unusedVariables false
set_option linter.unusedSectionVars false
set_option linter.unusedSimpArgs false
namespace Go.EM
variable [Drawn]
def jB (d:Option Nat) (v:AVal) (σ:aN):aN :=
 match d with
 | some t=>(t,v)::σ
 | none=>σ
def cd (ops:List Oper) (σ:aN) (o:Oper):Option Bool :=
 match o.guard with
 | none=>some true
 | some (j,want)=>match guardOf ops j σ with
   | .bool b=>some (b==want)
   | .tup []=>some false
   | _=>none
def StepA (P:Program) (E:Env) (h:Hints) (ops:List Oper) (o:Oper) (σ:aN) (st:aq) (v:AVal) (st':aq):Prop :=
 (cd ops σ o=some true∧((cls E h o=0∧opP P E σ o=some v∧st'=st)∨(cls E h o≠0∧opS P E σ st o=some (v,st')))) ∨
 (cd ops σ o=some false∧v = .tup []∧st'=st)
section
variable {P:Program}{E:Env}{h:Hints}{w w':World}{O:Nat→Prop}{α α':AM}{st:aq}{σ:aN}{N:Nat}{a:Act}
theorem j8 {R:Type}{ops os:List Oper}{o:Oper}{K:aN→aq→Option R}{r:R} (hh:bl P E h ops (o::os) σ st K=some r) :
   ∃ v st',StepA P E h ops o σ st v st'∧bl P E h ops os (jB o.dst v σ) st' K=some r:=by
 simp only[bl] at hh
 have fin:∀ v st',(match o.dst with | some d=>bl P E h ops os ((d,v)::σ) st' K | none=>bl P E h ops os σ st' K)=some r→bl P E h ops os (jB o.dst v σ) st' K=some r:=by
   intro v st' hx
   unfold jB
   split at hx<;>rename_i hd<;>rw[hd]<;>exact hx
 split at hh
 · rename_i hc
   have hc0:cls E h o=0:=Nat.eq_of_beq_eq_true hc
   simp only[Option.bind_eq_some_iff] at hh
   obtain ⟨v,hv,hk⟩:=hh
   refine ⟨v,st,?_,fin v st hk⟩
   split at hv
   · rename_i hg
     exact .inl ⟨by simp[cd,hg],.inl ⟨hc0,hv,rfl⟩⟩
   · rename_i j want hg
     unfold rE at hv
     split at hv
     · rename_i b hb
       cases want<;>cases b<;>simp at hv
       · exact .inl ⟨by simp[cd,hg,hb],.inl ⟨hc0,hv,rfl⟩⟩
       · exact .inr ⟨by simp[cd,hg,hb],hv.symm,rfl⟩
       · exact .inr ⟨by simp[cd,hg,hb],hv.symm,rfl⟩
       · exact .inl ⟨by simp[cd,hg,hb],.inl ⟨hc0,hv,rfl⟩⟩
     · rename_i hb
       cases hv
       exact .inr ⟨by simp[cd,hg,hb],rfl,rfl⟩
     · cases hv
 · rename_i hc
   have hc0:cls E h o≠0:=fun e=>by rw[e] at hc; simp at hc
   simp only[Option.bind_eq_some_iff] at hh
   obtain ⟨⟨v,st'⟩,hv,hk⟩:=hh
   refine ⟨v,st',?_,fin v st' hk⟩
   split at hv
   · rename_i hg
     exact .inl ⟨by simp[cd,hg],.inr ⟨hc0,hv⟩⟩
   · rename_i j want hg
     unfold lV at hv
     split at hv
     · rename_i b hb
       cases want<;>cases b<;>simp at hv
       · exact .inl ⟨by simp[cd,hg,hb],.inr ⟨hc0,hv⟩⟩
       · exact .inr ⟨by simp[cd,hg,hb],hv.1.symm,hv.2.symm⟩
       · exact .inr ⟨by simp[cd,hg,hb],hv.1.symm,hv.2.symm⟩
       · exact .inl ⟨by simp[cd,hg,hb],.inr ⟨hc0,hv⟩⟩
     · rename_i hb
       cases hv
       exact .inr ⟨by simp[cd,hg,hb],rfl,rfl⟩
     · cases hv
theorem kQ {ops:List Oper}{o:Oper}{b:Bool} (hs:SlotRep w O α σ N a) (hw:cd ops σ o=some b):Region.wanted o (yielded ops.toArray a.tmps)=b:=by
 unfold cd at hw
 unfold Region.wanted
 split at hw
 · rename_i hg; cases hw; rw[hg]
 · rename_i j want hg
   rw[hg]
   simp only[]
   split at hw
   · rename_i q hq
     cases hw
     unfold guardOf at hq
     split at hq
     · rename_i d hd
       have hr:=hs.slot d
       rw[hq] at hr
       simp only[Rep] at hr
       have hy:yielded ops.toArray a.tmps j=some q:=by
         unfold yielded
         have hd':(ops.toArray[j]?).bind (·.dst)=some d:=by simpa using hd
         rw[hd']
         simp only[Option.bind_some]
         have:a.tmps[d]? = some (.bool q):=by
           rw[Array.getD_eq_getD_getElem?] at hr
           cases ht:a.tmps[d]? with
           | none=>rw[ht] at hr; simp[undef] at hr
           | some u=>rw[ht] at hr; simp at hr; rw[hr]
         rw[this]
       rw[hy]
       cases q<;>cases want<;>rfl
     · cases hq
   · rename_i hq
     cases hw
     unfold guardOf at hq
     split at hq
     · rename_i d hd
       have hr:=hs.slot d
       rw[hq] at hr
       simp only[Rep] at hr
       obtain ⟨l,hr,hl⟩:=hr
       simp only[RepL] at hl
       subst hl
       have hy:yielded ops.toArray a.tmps j=none:=by
         unfold yielded
         have hd':(ops.toArray[j]?).bind (·.dst)=some d:=by simpa using hd
         rw[hd']
         simp only[Option.bind_some]
         rw[Array.getD_eq_getD_getElem?] at hr
         cases ht:a.tmps[d]? with
         | none=>rfl
         | some u=>rw[ht] at hr; simp at hr; rw[hr]
       rw[hy]
       cases want<;>rfl
     · cases hq
   · cases hw
theorem vp (hs:SlotRep w O α σ N a) {d:Option Nat}{v:AVal}{u:Value} (hd:∀ t,d=some t→t<N) (hv:Rep w O α v u):SlotRep w O α (jB d v σ) N (a.put d u):=by
 cases d with
 | none=>exact hs
 | some t =>
   refine ⟨fun k => ?_,hs.defers,by simp[Act.put,hs.size]⟩
   have ht:=hd t rfl
   simp only[jB,getS,Act.put]
   by_cases hk:t=k
   · subst hk
     rw[Nat.beq_refl]
     simp only[cond_true]
     rw[Array.getD_eq_getD_getElem?,Array.getElem?_setIfInBounds_self_of_lt (by rw[hs.size]; exact ht)]
     exact hv
   · have : Nat.beq t k = false := by
       cases hb:Nat.beq t k with
       | false=>rfl
       | true=>exact absurd (Nat.eq_of_beq_eq_true hb) hk
     rw[this]
     simp only[cond_false]
     rw[Array.getD_eq_getD_getElem?,Array.getElem?_setIfInBounds_ne hk,← Array.getD_eq_getD_getElem?]
     exact hs.slot k
theorem nq (hE:EnvOk P E) {ops:List Oper}{i:Nat}{o:Oper} (ho:ops[i]? = some o) {v:AVal}{st':aq} (hstep:StepA P E h ops o σ st v st') (hi:Inv w O α st) (hg:b7 E.glob w O α)
   (hs:SlotRep w O α σ N a) (K:Act→World→Prop) (Q:Exit→Act→World→Prop) (hn:∀ u w' α',Ext w α w' α'→Inv w' O α' st'→Rep w' O α' v u→K (a.put o.dst u) w') :
   wpOp P ops.toArray Q i K a w:=by
 unfold wpOp
 have ho':ops.toArray[i]? = some o:=by simpa using ho
 rw[ho']
 simp only[]
 rcases hstep with ⟨hw,hstep⟩ | ⟨hw,rfl,rfl⟩
 · rw[kQ hs hw]
   simp only[if_true]
   left
   rcases hstep with ⟨_,hp,rfl⟩ | ⟨_,hp⟩
   · exact abh hE hp hi hg hs K Q (fun u w' hq hr=>hn u w' α (hq.ext α) (hq.inv hi) hr)
   · exact abf hE hp hi hg hs K Q hn
 · rw[kQ hs hw]
   simp only[Bool.false_eq_true,if_false]
   exact hn undef w α (Ext.refl w α) hi (by simp only[Rep]; exact ⟨[],rfl,by simp[RepL]⟩)
def Post (w:World) (O:Nat→Prop) (α:AM) (σ':aN) (st':aq) (N:Nat) (a':Act) (w':World):Prop :=
 ∃ α',Ext w α w' α'∧Inv w' O α' st'∧SlotRep w' O α' σ' N a'
theorem iX (hE:EnvOk P E) {R:Type}{ops:List Oper} (hd:∀ o∈ops,∀ t,o.dst=some t→t<N) {K:aN→aq→Option R}{r:R} :
   ∀ (os:List Oper) (k:Nat) (σ:aN) (st:aq),(∀ j,os[j]? = ops[k+j]?)→bl P E h ops os σ st K=some r →
     ∃ σ' st',K σ' st'=some r∧∀ (w:World) (O:Nat→Prop) (α:AM) (a:Act) (Q:Exit→Act→World→Prop),Inv w O α st→b7 E.glob w O α→SlotRep w O α σ N a →
       (∀ a' w',Post w O α σ' st' N a' w'→Q .normal a' w')→wpOps P ops.toArray Q (List.range' k os.length) a w
 | [],k,σ,st,_,hh=>⟨σ,st,hh,fun w O α a Q hi hg hs hQ=>by simpa [wpOps] using hQ a w ⟨α,Ext.refl w α,hi,hs⟩⟩
 | o::os,k,σ,st,hk,hh=>by
   obtain ⟨v,st1,hstep,hrest⟩:=j8 hh
   obtain ⟨σ',st',hK,hw⟩:=iX hE hd os (k+1) (jB o.dst v σ) st1 (fun j=>by have:=hk (j+1); simp at this; rw[show k+1+j=k+(j+1) by omega]; exact this) hrest
   refine ⟨σ',st',hK,fun w O α a Q hi hg hs hQ => ?_⟩
   have ho:ops[k]? = some o:=by have:=hk 0; simpa using this.symm
   have hmem:o∈ops:=List.mem_of_getElem? ho
   rw[List.length_cons,List.range'_succ,wpOps_cons]
   refine nq hE ho hstep hi hg hs _ Q (fun u w' α' he hi' hr => ?_)
   refine hw w' O α' _ Q hi' (hg.ext he) (vp (hs.ext he) (hd o hmem) hr) (fun a' w'' hp=>hQ a' w'' ?_)
   obtain ⟨α'',e1,e2,e3⟩:=hp
   exact ⟨α'',he.trans e1,e2,e3⟩
theorem xE {σ':aN}{x:Operand} (hx:∀ t,x = .tmp t→getS σ t=getS σ' t):opnd E σ x=opnd E σ' x:=by
 cases x<;>first | rfl | exact hx _ rfl
theorem fq {σ':aN}:∀ {xs:List Operand},(∀ x∈xs,opnd E σ x=opnd E σ' x)→args E σ xs=args E σ' xs
 | [],_=>rfl
 | x::xs,hx=>by simp only[args]; rw[hx x List.mem_cons_self,fq (fun y hy=>hx y (List.mem_cons_of_mem _ hy))]
theorem ic {σ':aN}{ps:List (Nat×Operand)} (hx:∀ x∈ps.map (·.2),opnd E σ x=opnd E σ' x):(ps.map fun p=>(p.1,opnd E σ p.2))=ps.map fun p=>(p.1,opnd E σ' p.2):=by
 apply List.map_congr_left
 intro p hp
 rw[hx p.2 (List.mem_map_of_mem hp)]
end
end Go.EM
namespace Go.EM
variable [Drawn]
theorem mq (acc:List Nat):∀ (es:List Edge) (s i:Nat),Nat.testBit (bitsOf acc es s) i=true →
   Nat.testBit s i=true∨∃ e∈es,Region.binds .any e=true∧(e.on=i∨Nat.testBit (acc.getD e.on 0) i=true)
 | [],s,i,h=>.inl h
 | e::es,s,i,h=>by
   simp only[bitsOf] at h
   rcases mq acc es _ i h with h1 | ⟨e',h1,h2,h3⟩
   · cases hb:Region.binds .any e with
     | false=>rw[hb] at h1; exact .inl h1
     | true =>
       rw[hb] at h1
       simp only[cond_true,Nat.testBit_or,Bool.or_eq_true] at h1
       rcases h1 with (h1 | h1) | h1
       · exact .inl h1
       · rw[Nat.testBit_two_pow] at h1
         exact .inr ⟨e,List.mem_cons_self,hb,.inl (by simpa using h1)⟩
       · exact .inr ⟨e,List.mem_cons_self,hb,.inr h1⟩
   · exact .inr ⟨e',List.mem_cons_of_mem _ h1,h2,h3⟩
theorem mr:∀ (os:List Oper) (acc:List Nat),(befL os acc).length=acc.length+os.length
 | [],acc=>by simp[befL]
 | o::os,acc=>by simp only[befL,mr os,List.length_append,List.length_cons,List.length_nil]; omega
theorem qa:∀ (os:List Oper) (acc:List Nat) (j:Nat),j<acc.length→(befL os acc)[j]? = acc[j]?
 | [],acc,j,h=>rfl
 | o::os,acc,j,h=>by
   simp only[befL]
   rw[qa os _ j (by simp; omega),List.getElem?_append_left h]
theorem wo:∀ (os:List Oper) (acc:List Nat) (j:Nat) (o:Oper),os[j]? = some o→∃ acc':List Nat,(befL os acc)[acc.length+j]? = some (bitsOf acc' o.after.toList 0) ∧
   ∀ k,k<acc.length+j→acc'[k]? = (befL os acc)[k]?
 | [],acc,j,o,h=>by simp at h
 | x::os,acc,0,o,h=>by
   simp at h; subst h
   refine ⟨acc,?_,fun k hk => ?_⟩
   · simp only[befL,Nat.add_zero]
     rw[qa os _ _ (by simp)]
     simp
   · simp only[befL]
     rw[qa os _ k (by simp; omega),List.getElem?_append_left (by omega)]
 | x::os,acc,j+1,o,h=>by
   obtain ⟨acc',h1,h2⟩:=wo os (acc++[bitsOf acc x.after.toList 0]) j o (by simpa using h)
   simp only[List.length_append,List.length_cons,List.length_nil] at h1 h2
   refine ⟨acc',?_,fun k hk => ?_⟩
   · simp only[befL]; rw[show acc.length+(j+1)=acc.length+(0+1)+j by omega]; exact h1
   · simp only[befL]; exact h2 k (by omega)
theorem ov {ops:List Oper}{L:Nat→Prop} (hb:∀ j o,ops[j]? = some o→∀ e∈o.after.toList,Region.binds .any e=true→e.on<j)
   (hL:∀ j o,ops[j]? = some o→L j→∀ e∈o.after.toList,Region.binds .any e=true→L e.on) :
   ∀ (j i:Nat),L j→Nat.testBit ((bef ops).getD j 0) i=true→L i:=by
 intro j
 induction j using Nat.strongRecOn with
 | _ j ih =>
   intro i hj ht
   unfold bef at ht
   cases ho:ops[j]? with
   | none =>
     have:(befL ops [])[j]? = none:=List.getElem?_eq_none (by
       rw[mr]
       rcases Nat.lt_or_ge j ops.length with h | h
       · rw[List.getElem?_eq_getElem h] at ho; cases ho
       · simpa using h)
     rw[List.getD_eq_getElem?_getD,this] at ht
     simp at ht
   | some o =>
     obtain ⟨acc',h1,h2⟩:=wo ops [] j o ho
     simp only[List.length_nil,Nat.zero_add] at h1 h2
     rw[List.getD_eq_getElem?_getD,h1] at ht
     simp only[Option.getD_some] at ht
     rcases mq acc' o.after.toList 0 i ht with h3 | ⟨e,e1,e2,e3⟩
     · simp at h3
     · have hlt:=hb j o ho e e1 e2
       have hLe:=hL j o ho hj e e1 e2
       rcases e3 with e3 | e3
       · rw[← e3]; exact hLe
       · refine ih e.on hlt i hLe ?_
         unfold bef
         rw[List.getD_eq_getElem?_getD,← h2 e.on hlt,← List.getD_eq_getElem?_getD]
         exact e3
section
variable {P:Program}{E:Env}{h:Hints}
structure DrawFacts (P:Program) (E:Env) (h:Hints) (ops:List Oper):Prop where
 back:∀ j o,ops[j]? = some o→∀ e∈o.after.toList,Region.binds .any e=true→e.on<j
 order:∀ i j x y,ops[i]? = some x→ops[j]? = some y→i<j→clash E h ops x y=true→Nat.testBit ((bef ops).getD j 0) i=true
 mixed:P.follows .mixedOrders=true
theorem abT:∀ (l:List Nat) (i:Nat),getN l i=l.getD i 0
 | [],_=>rfl
 | x::_,0=>rfl
 | _::l,n+1=>by simp only[getN,abT l n]; simp
theorem wn (acc:List Nat):∀ (es:List Edge) (s:Nat),aeA acc.length acc.reverse es s=bitsOf acc es s
 | [],s=>rfl
 | e::es,s=>by
   simp only[aeA,bitsOf]
   rw[wn acc es]
   congr 2
   cases h:Nat.ble (e.on+1) acc.length with
   | true =>
     have h:=Nat.le_of_ble_eq_true h
     simp only[cond_true,abT,List.getD_eq_getElem?_getD]
     rw[List.getElem?_reverse (by omega)]
     congr 3
     omega
   | false =>
     have:¬ e.on+1≤acc.length:=fun hh=>by rw[Nat.ble_eq_true_of_le hh] at h; cases h
     simp only[cond_false,List.getD_eq_getElem?_getD]
     rw[List.getElem?_eq_none (by omega)]
     rfl
theorem acx:∀ (os:List Oper) (acc:List Nat),befR os acc.length acc.reverse=befL os acc
 | [],acc=>by simp[befR,befL]
 | o::os,acc=>by
   simp only[befR,befL]
   rw[wn,← acx os]
   simp
theorem wq:∀ (os:List Oper) (k:Nat),acy os k=true→∀ j o,os[j]? = some o→∀ e∈o.after.toList,Region.binds .any e=true→e.on<k+j
 | [],k,_,j,o,ho=>by simp at ho
 | x::os,k,h,0,o,ho=>by
   simp only[acy,Bool.and_eq_true,List.all_eq_true] at h
   simp at ho; subst ho
   intro e he hb
   have:=h.1 e he
   rw[hb] at this
   have:=Nat.le_of_ble_eq_true (by simpa using this)
   omega
 | x::os,k,h,j+1,o,ho=>by
   simp only[acy,Bool.and_eq_true] at h
   intro e he hb
   have:=wq os (k+1) h.2 j o (by simpa using ho) e he hb
   omega
theorem jH:∀ (l:List Nat) (d:Nat),d∈l→Nat.testBit (mR l) d=true
 | t::l,d,h=>by
   simp only[mR,Nat.testBit_or,Bool.or_eq_true]
   rcases List.mem_cons.1 h with rfl | h
   · left; simp
   · right; exact jH l d h
theorem afe {a b d:Nat} (ha:Nat.testBit a d=true) (hb:Nat.testBit b d=true):Nat.beq (a &&& b) 0=false:=by
 cases h:Nat.beq (a &&& b) 0 with
 | false=>rfl
 | true =>
   have:=Nat.eq_of_beq_eq_true h
   have h2:Nat.testBit (a &&& b) d=true:=by rw[Nat.testBit_and,ha,hb]; rfl
   rw[this] at h2
   simp at h2
theorem aj6 {b:Bool}{x y n:Nat} (hx:x≤n) (hy:y≤n):cond b x y≤n:=by cases b<;>assumption
theorem afa (o:Oper):cls E h o≤2:=by
 unfold cls
 repeat' split
 all_goals repeat (first | omega | (refine aj6 ?_ ?_) | split)
theorem uj {ops:List Oper}{x y:Oper} (hc:clash E h ops x y=true):meets (dstM x) (mR (looks ops x)) (cls E h x) (dstM y) (mR (looks ops y)) (cls E h y)=true:=by
 unfold clash at hc
 unfold meets
 simp only[Bool.or_eq_true] at hc ⊢
 rcases hc with (hc | hc) | hc
 · left; left
   split at hc
   · rename_i d hd
     simp only[Bool.or_eq_true,List.contains_iff_mem,beq_iff_eq] at hc
     have hx:Nat.testBit (dstM x) d=true:=by simp[dstM,hd]
     have hy:Nat.testBit (mR (looks ops y) ||| dstM y) d=true:=by
       rw[Nat.testBit_or,Bool.or_eq_true]
       rcases hc with hc | hc
       · exact .inl (jH _ _ hc)
       · exact .inr (by simp[dstM,hc])
     rw[afe hx hy]; rfl
   · cases hc
 · left; right
   split at hc
   · rename_i d hd
     rw[List.contains_iff_mem] at hc
     have hy:Nat.testBit (dstM y) d=true:=by simp[dstM,hd]
     rw[afe hy (jH _ _ hc)]; rfl
   · cases hc
 · right
   have h1:=afa (E:=E) (h:=h) x
   have h2:=afa (E:=E) (h:=h) y
   generalize cls E h x=a at *
   generalize cls E h y=b at *
   match a,b,h1,h2 with
   | 0,b,_,_=>simp at hc
   | 1,0,_,_=>simp at hc
   | 1,1,_,_=>simp at hc
   | 1,2,_,_=>rfl
   | 2,0,_,_=>simp at hc
   | 2,1,_,_=>rfl
   | 2,2,_,_=>rfl
theorem wB {ops:List Oper}{dy ly cy b:Nat}:∀ (xs:List Oper) (k:Nat),ahead E h ops dy ly cy b xs k=true→∀ i x,xs[i]? = some x→meets (dstM x) (mR (looks ops x)) (cls E h x) dy ly cy=true→Nat.testBit b (k+i)=true
 | [],k,_,i,x,hx=>by simp at hx
 | z::xs,k,hh,0,x,hx=>by
   simp only[ahead,Bool.and_eq_true,Bool.or_eq_true] at hh
   simp at hx; subst hx
   intro hm
   rcases hh.1 with h1 | h1
   · simpa using h1
   · rw[hm] at h1; cases h1
 | z::xs,k,hh,i+1,x,hx=>by
   simp only[ahead,Bool.and_eq_true] at hh
   intro hm
   have:=wB xs (k+1) hh.2 i x (by simpa using hx) hm
   rw[show k+(i+1)=k+1+i by omega]; exact this
theorem oa {ops:List Oper}:∀ (ys:List Oper) (bs:List Nat) (k:Nat),jL E h ops ys bs k=true→∀ j y,ys[j]? = some y →
   ∃ b,bs[j]? = some b∧ahead E h ops (dstM y) (mR (looks ops y)) (cls E h y) b (ops.take (k+j)) 0=true
 | [],bs,k,_,j,y,hy=>by simp at hy
 | z::ys,[],k,hh,j,y,hy=>by simp[jL] at hh
 | z::ys,b::bs,k,hh,0,y,hy=>by
   simp only[jL,Bool.and_eq_true] at hh
   simp at hy; subst hy
   exact ⟨b,rfl,hh.1⟩
 | z::ys,b::bs,k,hh,j+1,y,hy=>by
   simp only[jL,Bool.and_eq_true] at hh
   obtain ⟨b',h1,h2⟩:=oa ys bs (k+1) hh.2 j y (by simpa using hy)
   exact ⟨b',by simpa using h1,by rw[show k+(j+1)=k+1+j by omega]; exact h2⟩
theorem rQ {ops:Array Oper} (hd:mh P E h ops=true):DrawFacts P E h ops.toList:=by
 unfold mh at hd
 simp only[Bool.and_eq_true] at hd
 obtain ⟨⟨h1,h2⟩,h3⟩:=hd
 have hbef:befR ops.toList 0 []=bef ops.toList:=acx ops.toList []
 rw[hbef] at h2
 refine ⟨fun j o ho e he hb=>by have:=wq _ 0 h1 j o ho e he hb; omega,fun i j x y hx hy hij hc => ?_,h3⟩
 obtain ⟨b,hb,ha⟩:=oa _ _ 0 h2 j y hy
 rw[Nat.zero_add] at ha
 have:=wB _ 0 ha i x (by rw[List.getElem?_take_of_lt hij]; exact hx) (uj hc)
 rw[List.getD_eq_getElem?_getD,hb]
 simpa using this
def abv (ops:List Oper) (o:Oper) (σ σ':aN):Prop:=∀ t∈looks ops o,getS σ t=getS σ' t
theorem adY {ops:List Oper}{o:Oper}{σ σ':aN} (hl:abv ops o σ σ'):∀ x∈o.op.operands.toList,opnd E σ x=opnd E σ' x:=by
 intro x hx
 refine xE (fun t ht=>hl t ?_)
 subst ht
 unfold looks
 refine List.mem_append_left _ (List.mem_filterMap.2 ⟨_,hx,rfl⟩)
theorem fy {ops:List Oper}{o:Oper}{σ σ':aN} (hl:abv ops o σ σ'):cd ops σ o=cd ops σ' o:=by
 unfold cd
 split
 · rfl
 · rename_i j want hg
   have:guardOf ops j σ=guardOf ops j σ':=by
     unfold guardOf
     split
     · rename_i d hd
       refine hl d ?_
       unfold looks
       refine List.mem_append_right _ ?_
       rw[hg]
       simp[hd]
     · rfl
   rw[this]
theorem lH {σ σ':aN}{x:Option Operand} (h:∀ y,x=some y→opnd E σ y=opnd E σ' y):x.map (opnd E σ)=x.map (opnd E σ'):=by
 cases x with
 | none=>rfl
 | some y=>simp[h y rfl]
theorem abi {o:Oper}{σ σ':aN} (hx:∀ x∈o.op.operands.toList,opnd E σ x=opnd E σ' x):opP P E σ o=opP P E σ' o:=by
 obtain ⟨d,op,ty,pos,af,g⟩:=o
 cases op<;>simp only[opP,Op.operands] at hx ⊢
 case call c =>
   obtain ⟨cal,as,tys⟩:=c
   simp only[Call.operands] at hx ⊢
   have ha:args E σ as.toList=args E σ' as.toList:=fq (fun x hx'=>hx x (by simp[hx']))
   cases cal with
   | value f=>cases f<;>simp only[ha]
   | invoke r m=>rfl
   | builtin b =>
     cases b<;>simp only[ha]
     split
     · rename_i x t h1 h2
       rw[hx x (by
         have:as = #[x]:=by apply Array.ext'; simpa using h1
         rw[this]; simp)]
     · rfl
 case build t parts =>
   rw[ic (E:=E) (σ:=σ) (σ':=σ') (fun x hx'=>hx x (by simpa using hx'))]
 case buildSlice t l parts =>
   rw[ic (E:=E) (σ:=σ) (σ':=σ') (fun x hx'=>hx x (by simpa using hx'))]
 case makeFunc fn f c =>
   rw[fq (E:=E) (σ:=σ) (σ':=σ') (xs:=f.toList) (fun x hx'=>hx x (by simp at hx' ⊢; exact .inl hx')),
     fq (E:=E) (σ:=σ) (σ':=σ') (xs:=c.toList) (fun x hx'=>hx x (by simp at hx' ⊢; exact .inr hx'))]
 case slice t x lo hi mx =>
   rw[hx x (by simp),lH (E:=E) (σ:=σ) (σ':=σ') (x:=lo) (fun y hy=>hx y (by simp[hy])),lH (E:=E) (σ:=σ) (σ':=σ') (x:=hi) (fun y hy=>hx y (by simp[hy])),
     lH (E:=E) (σ:=σ) (σ':=σ') (x:=mx) (fun y hy=>hx y (by simp[hy]))]
 all_goals first
   | rfl
   | (simp at hx; simp[hx]; done)
theorem abg {o:Oper}{σ σ':aN}{st:aq} (hx:∀ x∈o.op.operands.toList,opnd E σ x=opnd E σ' x):opS P E σ st o=opS P E σ' st o:=by
 obtain ⟨d,op,ty,pos,af,g⟩:=o
 cases op<;>simp only[opS,Op.operands] at hx ⊢
 case call c =>
   obtain ⟨cal,as,tys⟩:=c
   simp only[Call.operands] at hx ⊢
   have ha:args E σ as.toList=args E σ' as.toList:=fq (fun x hx'=>hx x (by simp[hx']))
   cases cal with
   | value f =>
     cases f with
     | func f=>simp only[ha]
     | tmp t=>simp only[ha,hx (.tmp t) (by simp)]
     | const v=>simp only[ha,hx (.const v) (by simp)]
     | global g=>simp only[ha,hx (.global g) (by simp)]
   | invoke r m=>rfl
   | builtin b =>
     cases b<;>simp only[ha]
     split
     · rename_i x y h1
       have e:as = #[x,y]:=by apply Array.ext'; simpa using h1
       rw[hx x (by rw[e]; simp),hx y (by rw[e]; simp)]
     · rfl
 case buildSlice t l parts =>
   rw[ic (E:=E) (σ:=σ) (σ':=σ') (fun x hx'=>hx x (by simpa using hx'))]
 all_goals first
   | rfl
   | (simp at hx; simp[hx]; done)
theorem re {o:Oper}{σ:aN}{st st':aq}{v:AVal} (hc:cls E h o=1) (hs:opS P E σ st o=some (v,st')):st'=st:=by
 obtain ⟨d,op,ty,pos,af,g⟩:=o
 by_cases hcall:∃ c,op = .call c
 · obtain ⟨⟨cal,as,tys⟩,rfl⟩:=hcall
   cases cal with
   | value f =>
     cases f with
     | func f =>
       simp only[cls] at hc
       cases hq:memN f E.quiet with
       | true =>
         simp only[opS,hq,cond_true] at hs
         exact (lu hs).2
       | false =>
       simp only[opS,il,hq,cond_false] at hs
       rw[hq] at hc
       cases hp:aK E.pure f with
       | some F=>rw[hp] at hc; cases hc
       | none =>
         rw[hp] at hc hs
         cases hm:memN f E.same with
         | true=>rw[hm] at hc; cases hc
         | false =>
           rw[hm] at hc
           simp only[cond_false] at hc
           cases hx:aK E.ext f with
           | some F=>rw[hx] at hc; cases hc
           | none =>
           rw[hx] at hc
           cases hl:aK E.look f with
           | none=>rw[hl] at hc; cases hc
           | some F =>
             rw[hl] at hs
             simp only[Option.map_eq_some_iff,Prod.mk.injEq] at hs
             obtain ⟨_,_,_,e⟩:=hs
             exact e.symm
     | _=>simp only[cls] at hc; cases hc
   | invoke r m=>simp only[opS] at hs; cases hs
   | builtin b => cases b <;> simp only [opS] at hs <;> first
       | (cases hs; done)
       | (simp only[cls] at hc; cases hc; done)
       | (split at hs
          · simp only[Option.map_eq_some_iff,Prod.mk.injEq] at hs
            obtain ⟨_,_,_,e⟩:=hs
            exact e.symm
          · cases hs)
 · cases op <;> first
     | exact absurd ⟨_,rfl⟩ hcall
     | (simp only[cls] at hc; cases hc; done)
     | (simp only[opS,Option.map_eq_some_iff,Prod.mk.injEq] at hs
        obtain ⟨_,_,_,e⟩:=hs
        exact e.symm)
     | (exfalso; simp only [cls] at hc; split at hc <;> first
         | (cases hc; done)
         | (cases hm:memN _ h.own<;>rw[hm] at hc<;>cases hc))
theorem iW {R:Type}{ops:List Oper}{K:aN→aq→Option R}{r:R}:∀ (os:List Oper) (σ:aN) (st:aq),bl P E h ops os σ st K=some r →
   ∃ (σs:Nat→aN) (sts:Nat→aq) (vals:Nat→AVal),σs 0=σ∧sts 0=st ∧
     (∀ i o,os[i]? = some o→StepA P E h ops o (σs i) (sts i) (vals i) (sts (i+1))∧σs (i+1)=jB o.dst (vals i) (σs i))∧K (σs os.length) (sts os.length)=some r
 | [],σ,st,hh=>⟨fun _=>σ,fun _=>st,fun _=>.any,rfl,rfl,fun i o ho=>by simp at ho,hh⟩
 | o::os,σ,st,hh=>by
   obtain ⟨v,st1,hs,hr⟩:=j8 hh
   obtain ⟨σs,sts,vals,h0,h1,h2,h3⟩:=iW os _ _ hr
   refine ⟨fun | 0=>σ | i+1=>σs i,fun | 0=>st | i+1=>sts i,fun | 0=>v | i+1=>vals i,rfl,rfl,fun i x hx => ?_,h3⟩
   cases i with
   | zero =>
     simp at hx; subst hx
     simp only[h0,h1]
     exact ⟨hs,trivial⟩
   | succ i=>exact h2 i x (by simpa using hx)
def cq (ops:List Oper) (vals:Nat→AVal) (σ:aN) (L:Nat→Bool):Nat→aN
 | 0=>σ
 | k+1=>cond (L k) (jB ((ops[k]?).bind (·.dst)) (vals k) (cq ops vals σ L k)) (cq ops vals σ L k)
def cJ (E:Env) (h:Hints) (ops:List Oper) (sts:Nat→aq) (L:Nat→Bool):Nat→aq
 | 0=>sts 0
 | k+1=>cond (L k&&decide (1<((ops[k]?).map (cls E h)).getD 0)) (sts (k+1)) (cJ E h ops sts L k)
theorem fk {d:Option Nat}{v:AVal}{σ:aN}{t:Nat}:getS (jB d v σ) t=if d=some t then v else getS σ t:=by
 cases d with
 | none=>simp[jB]
 | some k =>
   simp only[jB,getS,Option.some.injEq]
   by_cases hk:k=t
   · subst hk; rw[Nat.beq_refl]; simp
   · have : Nat.beq k t = false := by
       cases hb:Nat.beq k t with
       | false=>rfl
       | true=>exact absurd (Nat.eq_of_beq_eq_true hb) hk
     rw[this]; simp[hk]
section
variable {ops:List Oper}{vals:Nat→AVal}{σ:aN}{sts:Nat→aq}{L L':Nat→Bool}
theorem gb {t:Nat}:∀ k,(∀ j,j<k→(ops[j]?).bind (·.dst)=some t→L j=L' j)→getS (cq ops vals σ L k) t=getS (cq ops vals σ L' k) t
 | 0,_=>rfl
 | k+1,hL=>by
   have ih:=gb k (fun j hj=>hL j (by omega))
   simp only[cq]
   by_cases hd:(ops[k]?).bind (·.dst)=some t
   · rw[hL k (by omega) hd]
     cases L' k
     · exact ih
     · simp only[cond_true]; rw[fk,fk,if_pos hd,if_pos hd]
   · have e : ∀ (b : Bool) (s : aN), getS (cond b (jB ((ops[k]?).bind (·.dst)) (vals k) s) s) t = getS s t := by
       intro b s; cases b
       · rfl
       · simp only[cond_true]; rw[fk,if_neg hd]
     rw[e,e,ih]
theorem gE {t i:Nat}:∀ k,i≤k→(∀ j,i≤j→j<k→(ops[j]?).bind (·.dst)=some t→L j=false)→getS (cq ops vals σ L k) t=getS (cq ops vals σ L i) t
 | 0, hi, _ => by have : i = 0 := by omega
                  subst this; rfl
 | k+1,hi,hL=>by
   by_cases he:i=k+1
   · subst he; rfl
   · have ih:=gE k (by omega) (fun j h1 h2=>hL j h1 (by omega))
     rw[← ih]
     simp only[cq]
     by_cases hd:(ops[k]?).bind (·.dst)=some t
     · rw[hL k (by omega) (by omega) hd]; rfl
     · cases L k
       · rfl
       · simp only[cond_true]; rw[fk,if_neg hd]
theorem dL:∀ k,(∀ j,j<k→1<((ops[j]?).map (cls E h)).getD 0→L j=L' j)→cJ E h ops sts L k=cJ E h ops sts L' k
 | 0,_=>rfl
 | k+1,hL=>by
   have ih:=dL k (fun j hj=>hL j (by omega))
   simp only[cJ]
   by_cases hd:1<((ops[k]?).map (cls E h)).getD 0
   · rw[hL k (by omega) hd,ih]
   · simp[hd,ih]
theorem gD {i:Nat}:∀ k,i≤k→(∀ j,i≤j→j<k→1<((ops[j]?).map (cls E h)).getD 0→L j=false)→cJ E h ops sts L k=cJ E h ops sts L i
 | 0, hi, _ => by have : i = 0 := by omega
                  subst this; rfl
 | k+1,hi,hL=>by
   by_cases he:i=k+1
   · subst he; rfl
   · have ih:=gD k (by omega) (fun j h1 h2=>hL j h1 (by omega))
     rw[← ih]
     simp only[cJ]
     by_cases hd:1<((ops[k]?).map (cls E h)).getD 0
     · rw[hL k (by omega) (by omega) hd]; simp
     · simp[hd]
theorem nu {n:Nat}{σs:Nat→aN} (h0:σs 0=σ) (hstep:∀ i o,ops[i]? = some o→σs (i+1)=jB o.dst (vals i) (σs i)):∀ k,k≤ops.length→cq ops vals σ (fun _=>true) k=σs k
 | 0,_=>h0.symm
 | k+1,hk=>by
   simp only[cq,cond_true]
   rw[nu (n:=n) h0 hstep k (by omega),hstep k ops[k] (List.getElem?_eq_getElem (by omega)),List.getElem?_eq_getElem (by omega)]
   rfl
theorem np (hstep:∀ i o,ops[i]? = some o→cls E h o≤1→sts (i+1)=sts i):∀ k,k≤ops.length→cJ E h ops sts (fun _=>true) k=sts k
 | 0,_=>rfl
 | k+1,hk=>by
   simp only[cJ,Bool.true_and]
   have ho:ops[k]? = some ops[k]:=List.getElem?_eq_getElem (by omega)
   rw[np hstep k (by omega),ho]
   simp only[Option.map_some,Option.getD_some]
   by_cases hd:1<cls E h ops[k]
   · simp[hd]
   · simp only[hd,decide_false,cond_false]
     exact (hstep k _ ho (by omega)).symm
end
set_option maxHeartbeats 1000000 in
theorem xT (hE:EnvOk P E) {R:Type}{ops:List Oper}{N:Nat} (hf:DrawFacts P E h ops) (hd:∀ o∈ops,∀ t,o.dst=some t→t<N) {K:aN→aq→Option R}{r:R}{σ:aN}{st:aq}
   (hh:bl P E h ops ops σ st K=some r) :
   ∃ σ' st', K σ' st' = some r ∧ ∀ (w : World) (O : Nat → Prop) (α : AM) (a : Act) (Q : Exit → Act → World → Prop), Inv w O α st → b7 E.glob w O α → SlotRep w O α σ N a →
       (∀ a' w',Post w O α σ' st' N a' w'→Q .normal a' w')→wpAny P .any ops.toArray Q ops.length (Array.replicate ops.length false) a w:=by
 obtain ⟨σs,sts,vals,h0,h1,h2,h3⟩:=iW ops σ st hh
 refine ⟨σs ops.length,sts ops.length,h3,fun w O α a Q hi hg hs hQ => ?_⟩
 -- what the steps do
 have stay:∀ i o,ops[i]? = some o→cls E h o≤1→sts (i+1)=sts i:=by
   intro i o ho hc
   rcases (h2 i o ho).1 with ⟨_,⟨_,_,e⟩ | ⟨hc0,e⟩⟩ | ⟨_,_,e⟩
   · exact e
   · exact re (E:=E) (h:=h) (o:=o) (by omega) e
   · exact e
 have all1:=nu (n:=0) (ops:=ops) (vals:=vals) h0 (fun i o ho=>(h2 i o ho).2)
 have all2:=np (ops:=ops) (E:=E) (h:=h) (sts:=sts) stay
 -- the invariant
 have main : ∀ (fuel : Nat) (listed : Array Bool) (a : Act) (w' : World) (α' : AM), listed.size = ops.length →
     (∀ j o,ops[j]? = some o→listed.getD j false=true→∀ e∈o.after.toList,Region.binds .any e=true→listed.getD e.on false=true) →
     ((List.range ops.length).filter (fun i => !listed.getD i false)).length≤fuel →
     Ext w α w' α'→Inv w' O α' (cJ E h ops sts (fun i=>listed.getD i false) ops.length)→SlotRep w' O α' (cq ops vals σ (fun i=>listed.getD i false) ops.length) N a →
     wpAny P .any ops.toArray Q fuel listed a w':=by
   intro fuel
   induction fuel with
   | zero =>
     intro listed a w' α' hsz hcl hcount he hi' hs'
     have hall:∀ i,i<ops.length→listed.getD i false=true:=by
       intro i hi0
       cases hb:listed.getD i false with
       | true=>rfl
       | false =>
         have:i∈(List.range ops.length).filter (fun i => !listed.getD i false):=List.mem_filter.2 ⟨List.mem_range.2 hi0,by simp[hb]⟩
         have:=List.length_pos_of_mem this
         omega
     have e1:cq ops vals σ (fun i=>listed.getD i false) ops.length=cq ops vals σ (fun _=>true) ops.length:=by
       have:∀ k,k≤ops.length→cq ops vals σ (fun i=>listed.getD i false) k=cq ops vals σ (fun _=>true) k:=by
         intro k
         induction k with
         | zero=>intro _; rfl
         | succ k ih=>intro hk; simp only[cq]; rw[ih (by omega),hall k (by omega)]
       exact this _ (Nat.le_refl _)
     have e2:cJ E h ops sts (fun i=>listed.getD i false) ops.length=cJ E h ops sts (fun _=>true) ops.length:=dL _ (fun j hj _=>hall j hj)
     rw[e1,all1 _ (Nat.le_refl _)] at hs'
     rw[e2,all2 _ (Nat.le_refl _)] at hi'
     refine ⟨?_,hQ a w' ⟨α',he,hi',hs'⟩⟩
     unfold Region.ready
     rw[List.filter_eq_nil_iff]
     intro i hi0
     simp only[List.size_toArray,List.mem_range] at hi0
     have:=hall i hi0
     rw[Array.getD_eq_getD_getElem?,Array.getElem?_eq_getElem (by omega)] at this
     rw[Array.getD_eq_getD_getElem?,Array.getElem?_eq_getElem (by omega)]
     simp only[Option.getD_some] at this ⊢
     simp[this]
   | succ fuel ih =>
     intro listed a w' α' hsz hcl hcount he hi' hs'
     refine ⟨fun hready => ?_,fun i hir => ?_⟩
     · -- none is ready: all are listed
       have hall:∀ i,i<ops.length→listed.getD i false=true:=by
         intro i
         induction i using Nat.strongRecOn with
         | _ i ihi =>
           intro hi0
           cases hb:listed.getD i false with
           | true=>rfl
           | false =>
             exfalso
             have:i∈Region.ready .any ops.toArray listed:=by
               rw[mem_ready]
               refine ⟨?_,ops[i],by simp[hi0],fun e he hbd => ?_⟩
               · rw[Array.getD_eq_getD_getElem?,Array.getElem?_eq_getElem (by omega)] at hb ⊢
                 simpa using hb
               · have hlt:=hf.back i ops[i] (List.getElem?_eq_getElem hi0) e (by simpa using he) hbd
                 exact ihi e.on hlt (by omega)
             rw[hready] at this
             cases this
       have e1:cq ops vals σ (fun i=>listed.getD i false) ops.length=cq ops vals σ (fun _=>true) ops.length:=by
         have:∀ k,k≤ops.length→cq ops vals σ (fun i=>listed.getD i false) k=cq ops vals σ (fun _=>true) k:=by
           intro k
           induction k with
           | zero=>intro _; rfl
           | succ k ih=>intro hk; simp only[cq]; rw[ih (by omega),hall k (by omega)]
         exact this _ (Nat.le_refl _)
       have e2:cJ E h ops sts (fun i=>listed.getD i false) ops.length=cJ E h ops sts (fun _=>true) ops.length:=dL _ (fun j hj _=>hall j hj)
       rw[e1,all1 _ (Nat.le_refl _)] at hs'
       rw[e2,all2 _ (Nat.le_refl _)] at hi'
       exact hQ a w' ⟨α',he,hi',hs'⟩
     · rw[mem_ready] at hir
       obtain ⟨hli,o,ho',hedges⟩:=hir
       have ho:ops[i]? = some o:=by simpa using ho'
       have hilt:i<ops.length:=by
         rcases Nat.lt_or_ge i ops.length with h | h
         · exact h
         · rw[List.getElem?_eq_none h] at ho; cases ho
       have hLi:listed.getD i false=false:=by
         rw[Array.getD_eq_getD_getElem?,Array.getElem?_eq_getElem (by omega)] at hli ⊢
         simpa using hli
       have hL':∀ j,(listed.setIfInBounds i true).getD j false=if j=i then true else listed.getD j false:=by
         intro j
         by_cases hj:j=i
         · subst hj
           rw[if_pos rfl,Array.getD_eq_getD_getElem?,Array.getElem?_setIfInBounds_self_of_lt (by omega)]
           rfl
         · rw[if_neg hj,getD_set_ne false (Ne.symm hj)]
       -- what clashes with it
       have F1:∀ j x,ops[j]? = some x→j<i→clash E h ops x o=true→listed.getD j false=true:=by
         intro j x hx hj hc
         have ht:=hf.order j i x o hx ho hj hc
         have:=ov (ops:=ops) (L:=fun k=>listed.getD k false=true∨k=i) hf.back (by
           intro k y hy hk e he hb
           rcases hk with hk | rfl
           · exact .inl (hcl k y hy hk e he hb)
           · rw[ho] at hy
             cases hy
             exact .inl (hedges e (by simpa using he) hb)) i j (.inr rfl) ht
         rcases this with h | h
         · exact h
         · omega
       have F2:∀ j x,ops[j]? = some x→i<j→listed.getD j false=true→clash E h ops o x=false:=by
         intro j x hx hj hlj
         cases hc:clash E h ops o x with
         | false=>rfl
         | true =>
           have ht:=hf.order i j o x ho hx hj hc
           have:=ov (ops:=ops) (L:=fun k=>listed.getD k false=true) hf.back hcl j i hlj ht
           rw[hLi] at this; cases this
       -- its slots
       have hlook:abv ops o (cq ops vals σ (fun i=>listed.getD i false) ops.length) (σs i):=by
         intro t ht
         rw[gE (i:=i) ops.length (by omega) (fun j h1 h2 hdj=>by
           by_cases hji:j=i
           · rw[hji]; exact hLi
           · cases hx:ops[j]? with
             | none=>rw[hx] at hdj; cases hdj
             | some x =>
               cases hlj:listed.getD j false with
               | false=>rfl
               | true =>
                 have:=F2 j x hx (by omega) hlj
                 rw[hx] at hdj
                 simp only[Option.bind_some] at hdj
                 simp only[clash,hdj,Bool.or_eq_false_iff] at this
                 have h3:=this.1.2
                 rw[List.contains_eq_mem] at h3
                 simp[ht] at h3)]
         rw[gb (L':=fun _=>true) i (fun j hj hdj=>by
           cases hx:ops[j]? with
           | none=>rw[hx] at hdj; cases hdj
           | some x =>
             rw[hx] at hdj
             simp only[Option.bind_some] at hdj
             refine F1 j x hx hj ?_
             simp only[clash,hdj,Bool.or_eq_true]
             exact .inl (.inl (.inl (by rw[List.contains_eq_mem]; simpa using ht))))]
         rw[all1 i (by omega)]
       have hstore:cls E h o≠0→cJ E h ops sts (fun i=>listed.getD i false) ops.length=sts i:=by
         intro hc0
         rw[gD (i:=i) ops.length (by omega) (fun j h1 h2 hw=>by
           by_cases hji:j=i
           · rw[hji]; exact hLi
           · cases hx:ops[j]? with
             | none=>rw[hx] at hw; simp at hw
             | some x =>
               cases hlj:listed.getD j false with
               | false=>rfl
               | true =>
                 have:=F2 j x hx (by omega) hlj
                 rw[hx] at hw
                 simp only[Option.map_some,Option.getD_some] at hw
                 simp only[clash,Bool.or_eq_false_iff] at this
                 have h3:=this.2
                 exfalso
                 revert h3
                 split<;>simp_all)]
         rw[dL (L':=fun _=>true) i (fun j hj hw=>by
           cases hx:ops[j]? with
           | none=>rw[hx] at hw; simp at hw
           | some x =>
             rw[hx] at hw
             simp only[Option.map_some,Option.getD_some] at hw
             refine F1 j x hx hj ?_
             simp only[clash,Bool.or_eq_true]
             right
             split<;>simp_all)]
         exact all2 i (by omega)
       -- the store behind it
       have hW':1<cls E h o→cJ E h ops sts (fun i_1=>(listed.setIfInBounds i true).getD i_1 false) ops.length=sts (i+1):=by
         intro hw
         rw[gD (i:=i+1) ops.length (by omega) (fun j h1 h2 hwj=>by
           rw[hL' j,if_neg (by omega)]
           cases hx:ops[j]? with
           | none=>rw[hx] at hwj; simp at hwj
           | some x =>
             cases hlj:listed.getD j false with
             | false=>rfl
             | true =>
               have:=F2 j x hx (by omega) hlj
               rw[hx] at hwj
               simp only[Option.map_some,Option.getD_some] at hwj
               simp only[clash,Bool.or_eq_false_iff] at this
               have h3:=this.2
               exfalso
               revert h3
               split<;>simp_all<;>omega)]
         simp only[cJ,hL',if_true,Bool.true_and,ho,Option.map_some,Option.getD_some,hw,decide_true,cond_true]
       have hN':cls E h o≤1→cJ E h ops sts (fun i_1=>(listed.setIfInBounds i true).getD i_1 false) ops.length=cJ E h ops sts (fun i=>listed.getD i false) ops.length:=by
         intro hw
         refine dL _ (fun j hj hwj => ?_)
         rw[hL' j]
         by_cases hji:j=i
         · subst hji
           rw[ho] at hwj
           simp only[Option.map_some,Option.getD_some] at hwj
           omega
         · rw[if_neg hji]
       -- the step itself
       have hstep : StepA P E h ops o (cq ops vals σ (fun i => listed.getD i false) ops.length) (cJ E h ops sts (fun i => listed.getD i false) ops.length) (vals i)
           (cJ E h ops sts (fun i_1=>(listed.setIfInBounds i true).getD i_1 false) ops.length):=by
         have hopn:=adY (E:=E) hlook
         rcases (h2 i o ho).1 with ⟨hw,⟨hc,hp,_⟩ | ⟨hc,hp⟩⟩ | ⟨hw,hv,hst⟩
         · refine .inl ⟨by rw[fy hlook]; exact hw,.inl ⟨hc,by rw[abi hopn]; exact hp,hN' (by omega)⟩⟩
         · refine .inl ⟨by rw[fy hlook]; exact hw,.inr ⟨hc,?_⟩⟩
           rw[abg hopn,hstore hc,hp]
           by_cases hc1:1<cls E h o
           · rw[hW' hc1]
           · rw[hN' (by omega),hstore hc,stay i o ho (by omega)]
         · refine .inr ⟨by rw[fy hlook]; exact hw,hv,?_⟩
           by_cases hc1:1<cls E h o
           · rw[hW' hc1,hstore (by omega),hst]
           · exact hN' (by omega)
       refine nq hE ho hstep hi' (hg.ext he) hs' _ Q (fun u w2 α2 he2 hi2 hr2 => ?_)
       refine ih _ _ w2 α2 (by simpa using hsz) ?_ ?_ (he.trans he2) hi2 ?_
       · intro j x hx hlj e hee hb
         rw[hL' j] at hlj
         rw[hL' e.on]
         by_cases hji:j=i
         · subst hji
           rw[ho] at hx
           cases hx
           have:=hedges e (by simpa using hee) hb
           split
           · rfl
           · exact this
         · rw[if_neg hji] at hlj
           have:=hcl j x hx hlj e hee hb
           split
           · rfl
           · exact this
       · have e1 : (List.range ops.length).filter (fun j => !(listed.setIfInBounds i true).getD j false) = ((List.range ops.length).filter (fun j => !listed.getD j false)).filter (fun j => decide (j ≠ i)) := by
           rw[List.filter_filter]
           apply List.filter_congr
           intro j _
           rw[hL' j]
           by_cases hji:j=i
           · simp[hji]
           · simp[hji]
         rw[e1]
         have:(((List.range ops.length).filter (fun j => !listed.getD j false)).filter (fun j=>decide (j≠i))).length<((List.range ops.length).filter (fun j => !listed.getD j false)).length:=by
           rw[List.length_filter_lt_length_iff_exists]
           exact ⟨i,List.mem_filter.2 ⟨List.mem_range.2 hilt,by rw[hLi]; rfl⟩,by simp⟩
         omega
       · have hp:=vp (hs'.ext he2) (hd o (List.mem_of_getElem? ho)) hr2
         refine ⟨fun t => ?_,hp.defers,hp.size⟩
         have:=hp.slot t
         rw[fk] at this
         by_cases hdt:o.dst=some t
         · rw[if_pos hdt] at this
           rw[gE (i:=i+1) ops.length (by omega) (fun j h1 h2 hdj=>by
             rw[hL' j,if_neg (by omega)]
             cases hx:ops[j]? with
             | none=>rw[hx] at hdj; cases hdj
             | some x =>
               cases hlj:listed.getD j false with
               | false=>rfl
               | true =>
                 have:=F2 j x hx (by omega) hlj
                 rw[hx] at hdj
                 simp only[Option.bind_some] at hdj
                 simp only[clash,hdt,hdj,Bool.or_eq_false_iff] at this
                 have h3:=this.1.1.2
                 simp at h3)]
           simp only[cq,hL',if_true,cond_true,ho,Option.bind_some]
           rw[fk,if_pos hdt]
           exact this
         · rw[if_neg hdt] at this
           rw[gb (L':=fun i=>listed.getD i false) ops.length (fun j hj hdj=>by
             rw[hL' j]
             by_cases hji:j=i
             · subst hji
               rw[ho] at hdj
               exact absurd hdj hdt
             · rw[if_neg hji])]
           exact this
 refine main ops.length (Array.replicate ops.length false) a w α (by simp) ?_ ?_ (Ext.refl w α) ?_ ?_
 · intro j o ho hlj
   exfalso
   rw[Array.getD_eq_getD_getElem?] at hlj
   cases hx:(Array.replicate ops.length false)[j]? with
   | none=>rw[hx] at hlj; cases hlj
   | some b =>
     rw[hx] at hlj
     have:=Array.getElem?_eq_some_iff.1 hx
     obtain ⟨h1,h2⟩:=this
     simp at h2
     subst h2
     cases hlj
 · exact Nat.le_trans (List.length_filter_le _ _) (by simp)
 · have : cJ E h ops sts (fun i => (Array.replicate ops.length false).getD i false) ops.length = sts 0 := by
     have e:=gD (E:=E) (h:=h) (ops:=ops) (sts:=sts) (L:=fun i=>(Array.replicate ops.length false).getD i false) (i:=0) ops.length (by omega) (fun j _ hj _=>by
       rw[Array.getD_eq_getD_getElem?,Array.getElem?_eq_getElem (by simpa using hj)]; simp)
     rw[e]; rfl
   rw[this,h1]
   exact hi
 · refine ⟨fun t => ?_,hs.defers,hs.size⟩
   have e := gE (ops := ops) (vals := vals) (σ := σ) (L := fun i => (Array.replicate ops.length false).getD i false) (t := t) (i := 0) ops.length (by omega) (fun j _ hj _ => by
       rw[Array.getD_eq_getD_getElem?,Array.getElem?_eq_getElem (by simpa using hj)]; simp)
   rw[e]
   exact hs.slot t
end
end Go.EM
namespace Go.EM
variable [Drawn]
def AExit.conc:AExit→Exit
 | .normal=>.normal
 | .exit id=>.exit id
 | .ret=>.ret
section
variable {P:Program}{E:Env}{h:Hints}{w w':World}{O:Nat→Prop}{α α':AM}{st:aq}{σ:aN}{N:Nat}{a:Act}
def Runs (P:Program) (E:Env) (N:Nat) (c:Code) (σ:aN) (st:aq) (e:AExit) (σ':aN) (st':aq):Prop :=
 ∀ (w:World) (O:Nat→Prop) (α:AM) (a:Act) (Q:Exit→Act→World→Prop),Inv w O α st→b7 E.glob w O α→SlotRep w O α σ N a →
   (∀ a' w',Post w O α σ' st' N a' w'→Q e.conc a' w')→c.wp P Q a w
theorem Post.trans {σ1 σ2:aN}{st1 st2:aq}{a1 a2:Act}{w1 w2:World}{α1:AM} (h1:Ext w α w1 α1) (h2:Post w1 O α1 σ2 st2 N a2 w2):Post w O α σ2 st2 N a2 w2:=by
 obtain ⟨α2,e1,e2,e3⟩:=h2
 exact ⟨α2,h1.trans e1,e2,e3⟩
theorem jt {σ':aN} (hs:SlotRep w O α σ N a) (hw:∀ t,getS σ' t=getS σ t∨getS σ' t = .any):SlotRep w O α σ' N a:=by
 refine ⟨fun t => ?_,hs.defers,hs.size⟩
 rcases hw t with e | e
 · rw[e]; exact hs.slot t
 · rw[e]; simp[Rep]
theorem rI {σ:aN}:∀ (keep:List Nat) (j:Nat),getL (ff keep σ) j=(match keep[j]? with | some k=>getS σ k | none=>.any)
 | [],j=>by simp[ff,getL]
 | k::ks,0=>by simp[ff,getL]
 | k::ks,j+1=>by simp only[ff,getL,List.getElem?_cons_succ]; exact rI ks j
theorem lz {σ:aN} (keep:List Nat):∀ t,getS (dA keep 0 (ff keep σ)) t=getS σ t∨getS (dA keep 0 (ff keep σ)) t = .any:=by
 have gen:∀ (ks:List Nat) (j:Nat),(∀ i,ks[i]? = keep[j+i]?)→∀ t,getS (dA ks j (ff keep σ)) t=getS σ t∨getS (dA ks j (ff keep σ)) t = .any:=by
   intro ks
   induction ks with
   | nil=>intro j _ t; right; rfl
   | cons k ks ih =>
     intro j hk t
     simp only[dA,getS]
     cases hb:Nat.beq k t with
     | true =>
       left
       have hkt:=Nat.eq_of_beq_eq_true hb
       subst hkt
       simp only[cond_true]
       rw[rI]
       have:=hk 0
       simp only[List.getElem?_cons_zero,Nat.add_zero] at this
       rw[← this]
     | false =>
       simp only[cond_false]
       exact ih (j+1) (fun i=>by have:=hk (i+1); simp at this; rw[show j+1+i=j+(i+1) by omega]; exact this) t
 exact gen keep 0 (fun i=>by simp)
theorem ja {n id:Nat}{ops:Array Oper}{dr:Bool} (hd:ct n (.region id ops dr)=true):∀ o∈ops.toList,∀ t,o.dst=some t→t<n:=by
 intro o ho t ht
 simp only[ct,List.all_eq_true] at hd
 have:=hd o ho
 rw[ht] at this
 exact Nat.le_of_ble_eq_true this
theorem xL {R:Type}{f:List AVal→aq→Option (Live R)}{l:List AVal}{st:aq}{r:R} (hh:mS f l st=some r):∃ n,gS f n l st=some r:=by
 unfold mS at hh
 split at hh
 · rename_i he
   exact ⟨_,hh⟩
 · cases hh
theorem fQ (hE:EnvOk P E):∀ (c:Code) (R:Type) (σ:aN) (st:aq) (K:AExit→aN→aq→Option R) (r:R),ct N c=true→D P E h c R σ st K=some r →
   ∃ e σ' st',K e σ' st'=some r∧Runs P E N c σ st e σ' st'
 | .skip,R,σ,st,K,r,hd,hh=>⟨.normal,σ,st,hh,fun w O α a Q hi hg hs hQ=>wp_skip (hQ a w ⟨α,Ext.refl w α,hi,hs⟩)⟩
 | .region id ops false,R,σ,st,K,r,hd,hh=>by
   simp only[D,Bool.false_and,cond_false,iV] at hh
   rw[Option.bind_eq_some_iff] at hh
   obtain ⟨⟨σ0,st0⟩,hf0,hh⟩:=hh
   obtain ⟨σ',st',hK,hw⟩:=iX (N:=N) hE (ja hd) ops.toList 0 σ0 st0 (fun j=>by simp) hh
   refine ⟨.normal,σ',st',hK,fun w O α a Q hi hg hs hQ=>wp_region ?_⟩
   obtain ⟨α0,e0,i0,s0⟩:=tQ _ σ st α hi hs hf0
   have:=hw w O α0 a Q i0 (hg.ext e0) s0 (fun a' w' hp=>hQ a' w' (Post.trans (σ1:=σ) (st1:=st) (a1:=a) e0 hp))
   rw[← List.range_eq_range'] at this
   simpa using this
 | .region id ops true,R,σ,st,K,r,hd,hh=>by
   simp only[D,Bool.true_and,iV] at hh
   rw[Option.bind_eq_some_iff] at hh
   obtain ⟨⟨σ0,st0⟩,hf0,hh⟩:=hh
   cases hdr:mh P E h ops with
   | false=>rw[hdr] at hh; simp at hh
   | true =>
     rw[hdr] at hh
     simp only[Bool.not_true,cond_false] at hh
     have hf:=rQ hdr
     obtain ⟨σ',st',hK,hw⟩:=xT (N:=N) hE hf (ja hd) hh
     refine ⟨.normal,σ',st',hK,fun w O α a Q hi hg hs hQ=>wp_region_any hf.mixed ?_⟩
     have hq:=Quiet.drew w
     obtain ⟨α0,e0,i0,s0⟩:=tQ _ σ st α hi hs hf0
     have:=hw w.drew O α0 a Q (hq.inv i0) ((hg.ext e0).ext (hq.ext α0)) (s0.ext (hq.ext α0)) (fun a' w' hp=>hQ a' w' (Post.trans (σ1:=σ) (st1:=st) (a1:=a) (e0.trans (hq.ext α0)) hp))
     simpa using this
 | .seq x y,R,σ,st,K,r,hd,hh=>by
   simp only[ct,Bool.and_eq_true] at hd
   simp only[D] at hh
   split at hh
   · rename_i keep _
     simp only[Option.bind_eq_some_iff] at hh
     obtain ⟨lv,hx,hy⟩:=hh
     obtain ⟨e,σ1,st1,hK,hr1⟩:=fQ hE x (Live R) σ st _ lv hd.1 hx
     cases e with
     | normal =>
       simp only[Option.some.injEq] at hK
       subst hK
       simp only[mT] at hy
       obtain ⟨e2,σ2,st2,hK2,hr2⟩:=fQ hE y R _ _ K r hd.2 hy
       refine ⟨e2,σ2,st2,hK2,fun w O α a Q hi hg hs hQ=>wp_seq ?_⟩
       refine hr1 w O α a _ hi hg hs (fun a1 w1 hp => ?_)
       obtain ⟨α1,e1,e3,e4⟩:=hp
       show y.wp P Q a1 w1
       exact hr2 w1 O α1 a1 Q e3 (hg.ext e1) (jt e4 (lz keep)) (fun a2 w2 hp2=>hQ a2 w2 (Post.trans (σ1:=σ1) (st1:=st1) (a1:=a1) e1 hp2))
     | exit id =>
       simp only[Option.map_eq_some_iff] at hK
       obtain ⟨r',hK',rfl⟩:=hK
       simp only[mT,Option.some.injEq] at hy
       subst hy
       exact ⟨.exit id,σ1,st1,hK',fun w O α a Q hi hg hs hQ=>wp_seq (hr1 w O α a _ hi hg hs hQ)⟩
     | ret =>
       simp only[Option.map_eq_some_iff] at hK
       obtain ⟨r',hK',rfl⟩:=hK
       simp only[mT,Option.some.injEq] at hy
       subst hy
       exact ⟨.ret,σ1,st1,hK',fun w O α a Q hi hg hs hQ=>wp_seq (hr1 w O α a _ hi hg hs hQ)⟩
   · obtain ⟨e,σ1,st1,hK,hr1⟩:=fQ hE x R σ st _ r hd.1 hh
     cases e with
     | normal =>
       obtain ⟨e2,σ2,st2,hK2,hr2⟩:=fQ hE y R σ1 st1 K r hd.2 hK
       refine ⟨e2,σ2,st2,hK2,fun w O α a Q hi hg hs hQ=>wp_seq ?_⟩
       refine hr1 w O α a _ hi hg hs (fun a1 w1 hp => ?_)
       obtain ⟨α1,e1,e3,e4⟩:=hp
       show y.wp P Q a1 w1
       exact hr2 w1 O α1 a1 Q e3 (hg.ext e1) e4 (fun a2 w2 hp2=>hQ a2 w2 (Post.trans (σ1:=σ1) (st1:=st1) (a1:=a1) e1 hp2))
     | exit id=>exact ⟨.exit id,σ1,st1,hK,fun w O α a Q hi hg hs hQ=>wp_seq (hr1 w O α a _ hi hg hs hQ)⟩
     | ret=>exact ⟨.ret,σ1,st1,hK,fun w O α a Q hi hg hs hQ=>wp_seq (hr1 w O α a _ hi hg hs hQ)⟩
 | .cond c x y,R,σ,st,K,r,hd,hh=>by
   simp only[ct,Bool.and_eq_true] at hd
   simp only[D] at hh
   unfold aj7 at hh
   split at hh
   · rename_i t ht
     cases t with
     | true =>
       simp only[cond_true] at hh
       obtain ⟨e,σ1,st1,hK,hr1⟩:=fQ hE x R σ st K r hd.1 hh
       refine ⟨e,σ1,st1,hK,fun w O α a Q hi hg hs hQ => ?_⟩
       have:=fE hs hg c
       rw[ht] at this
       simp only[Rep] at this
       exact wp_cond_true this (hr1 w O α a Q hi hg hs hQ)
     | false =>
       simp only[cond_false] at hh
       obtain ⟨e,σ1,st1,hK,hr1⟩:=fQ hE y R σ st K r hd.2 hh
       refine ⟨e,σ1,st1,hK,fun w O α a Q hi hg hs hQ => ?_⟩
       have:=fE hs hg c
       rw[ht] at this
       simp only[Rep] at this
       exact wp_cond_false this (hr1 w O α a Q hi hg hs hQ)
   · cases hh
 | .block id x,R,σ,st,K,r,hd,hh=>by
   simp only[ct] at hd
   simp only[D] at hh
   obtain ⟨e,σ1,st1,hK,hr1⟩:=fQ hE x R σ st _ r hd hh
   cases e with
   | normal=>exact ⟨.normal,σ1,st1,hK,fun w O α a Q hi hg hs hQ=>wp_block (hr1 w O α a _ hi hg hs hQ)⟩
   | ret=>exact ⟨.ret,σ1,st1,hK,fun w O α a Q hi hg hs hQ=>wp_block (hr1 w O α a _ hi hg hs hQ)⟩
   | exit i =>
     simp only[] at hK
     cases hb:Nat.beq i id with
     | true =>
       rw[hb] at hK
       have hid:=Nat.eq_of_beq_eq_true hb
       refine ⟨.normal,σ1,st1,hK,fun w O α a Q hi hg hs hQ=>wp_block (hr1 w O α a _ hi hg hs (fun a' w' hp => ?_))⟩
       show (if i=id then Q .normal a' w' else Q (.exit i) a' w')
       rw[if_pos hid]
       exact hQ a' w' hp
     | false =>
       rw[hb] at hK
       have hid:¬ i=id:=fun e=>by subst e; rw[Nat.beq_refl] at hb; cases hb
       refine ⟨.exit i,σ1,st1,hK,fun w O α a Q hi hg hs hQ=>wp_block (hr1 w O α a _ hi hg hs (fun a' w' hp => ?_))⟩
       show (if i=id then Q .normal a' w' else Q (.exit i) a' w')
       rw[if_neg hid]
       exact hQ a' w' hp
 | .loop x,R,σ,st,K,r,hd,hh=>by
   simp only[ct] at hd
   simp only[D] at hh
   split at hh
   · rename_i keep _
     obtain ⟨n,hn⟩:=xL hh
     clear hh
     -- n rounds
     have key : ∀ (n : Nat) (l : List AVal) (st : aq), gS (fun live st' => D P E h x (Live R) (dA keep 0 live) st' (fun e σ'' st'' => match e with
         | .normal=>some (.inl (ff keep σ'',st''))
         | e=>(K e σ'' st'').map .inr)) n l st=some r →
         ∃ e σ' st',K e σ' st'=some r∧∀ (w:World) (O:Nat→Prop) (α:AM) (a:Act) (Q:Exit→Act→World→Prop),Inv w O α st→b7 E.glob w O α→SlotRep w O α (dA keep 0 l) N a →
           (∀ a' w',Post w O α σ' st' N a' w'→Q e.conc a' w')→∀ (b:Frame) (k:List Item) (cs:List Frame),∃ e a' w',Q e a' w'∧Arrives P (lone (b.at a (.code x :: .inLoop x::k)) cs w) b k cs e a' w':=by
       intro n
       induction n with
       | zero=>intro l st hn; simp[gS] at hn
       | succ n ih =>
         intro l st hn
         simp only[gS,Option.bind_eq_some_iff] at hn
         obtain ⟨lv,hx,hy⟩:=hn
         obtain ⟨e,σ1,st1,hK,hr1⟩:=fQ hE x (Live R) _ _ _ lv hd hx
         have other : e ≠ .normal → ∀ r', K e σ1 st1 = some r' → lv = .inr r' → ∃ e σ' st', K e σ' st' = some r ∧
             ∀ (w:World) (O:Nat→Prop) (α:AM) (a:Act) (Q:Exit→Act→World→Prop),Inv w O α st→b7 E.glob w O α→SlotRep w O α (dA keep 0 l) N a →
               (∀ a' w',Post w O α σ' st' N a' w'→Q e.conc a' w')→∀ (b:Frame) (k:List Item) (cs:List Frame),∃ e a' w',Q e a' w'∧Arrives P (lone (b.at a (.code x :: .inLoop x::k)) cs w) b k cs e a' w':=by
           intro hne r' hK' hl
           subst hl
           simp only[mT,Option.some.injEq] at hy
           subst hy
           refine ⟨e,σ1,st1,hK',fun w O α a Q hi hg hs hQ b k cs => ?_⟩
           obtain ⟨e2,a2,w2,hq2,harr⟩:=hr1 w O α a (fun e' a' w'=>e'=e.conc∧Q e' a' w') hi hg hs (fun a2 w2 hp=>⟨rfl,hQ a2 w2 hp⟩) b (.inLoop x::k) cs
           obtain ⟨rfl,hq2⟩:=hq2
           have hne':e.conc ≠ .normal:=by cases e<;>first | exact absurd rfl hne | (intro hh; cases hh)
           exact ⟨_,a2,w2,hq2,.pass (x:=.inLoop x) rfl (fun _ _=>.inl hne') harr⟩
         cases e with
         | normal =>
           simp only[Option.some.injEq] at hK
           subst hK
           simp only[mT] at hy
           obtain ⟨e2,σ2,st2,hK2,hr2⟩:=ih _ _ hy
           refine ⟨e2,σ2,st2,hK2,fun w O α a Q hi hg hs hQ b k cs => ?_⟩
           obtain ⟨e',a1,w1,⟨rfl,hp⟩,harr⟩:=hr1 w O α a (fun e' a' w'=>e' = .normal∧Post w O α σ1 st1 N a' w') hi hg hs (fun a1 w1 hp=>⟨rfl,hp⟩) b (.inLoop x::k) cs
           have hp':=hp
           obtain ⟨α1,e1,e3,e4⟩:=hp
           obtain ⟨e5,a2,w2,hq2,harr2⟩:=hr2 w1 O α1 a1 Q e3 (hg.ext e1) (jt e4 (lz keep)) (fun a2 w2 hp2=>hQ a2 w2 (Post.trans (σ1:=σ1) (st1:=st1) (a1:=a1) e1 hp2)) b k cs
           exact ⟨e5,a2,w2,hq2,.of_steps (Steps.trans harr (.one step_inLoop)) harr2⟩
         | exit id =>
           simp only[Option.map_eq_some_iff] at hK
           obtain ⟨r',hK',hl⟩:=hK
           exact other (by simp) r' hK' hl.symm
         | ret =>
           simp only[Option.map_eq_some_iff] at hK
           obtain ⟨r',hK',hl⟩:=hK
           exact other (by simp) r' hK' hl.symm
     obtain ⟨e,σ',st',hK,hr⟩:=key n _ _ hn
     refine ⟨e,σ',st',hK,fun w O α a Q hi hg hs hQ b k cs => ?_⟩
     obtain ⟨e5,a2,w2,hq2,harr2⟩:=hr w O α a Q hi hg (jt hs (lz keep)) hQ b k cs
     exact ⟨e5,a2,w2,hq2,.of_steps (.one step_loop) harr2⟩
   · cases hh
 | .exit id,R,σ,st,K,r,hd,hh=>⟨.exit id,σ,st,hh,fun w O α a Q hi hg hs hQ=>wp_exit (hQ a w ⟨α,Ext.refl w α,hi,hs⟩)⟩
 | .ret,R,σ,st,K,r,hd,hh=>⟨.ret,σ,st,hh,fun w O α a Q hi hg hs hQ=>wp_ret (hQ a w ⟨α,Ext.refl w α,hi,hs⟩)⟩
 | .rangeFunc ..,R,σ,st,K,r,hd,hh=>by simp[D] at hh
 | .scope ..,R,σ,st,K,r,hd,hh=>by simp[D] at hh
 | .label ..,R,σ,st,K,r,hd,hh=>by simp[D] at hh
 | .goto ..,R,σ,st,K,r,hd,hh=>by simp[D] at hh
 | .refuse ..,R,σ,st,K,r,hd,hh=>by simp[D] at hh
theorem qZ {vs:List Value}:∀ (n j:Nat) (xs:List AVal),RepL w O α xs vs→∀ t,Rep w O α (getS (dA (List.range' j n) j xs) t) ((vs.toArray).getD t undef)
 | 0,j,xs,hx,t=>by simp[dA,getS,Rep]
 | n+1,j,xs,hx,t=>by
   simp only[List.range'_succ,dA,getS]
   cases hb:Nat.beq j t with
   | true =>
     have:=Nat.eq_of_beq_eq_true hb
     subst this
     simp only[cond_true]
     have gen:∀ (xs:List AVal) (vs:List Value) (j:Nat),RepL w O α xs vs→Rep w O α (getL xs j) (vs.getD j undef):=by
       intro xs
       induction xs with
       | nil=>intro vs j h; simp[getL,Rep]
       | cons x xs ih =>
         intro vs j h
         simp only[RepL] at h
         obtain ⟨v,us,rfl,h1,h2⟩:=h
         cases j with
         | zero=>simpa [getL] using h1
         | succ j=>simpa [getL] using ih us j h2
     have:=gen xs vs j hx
     rw[List.getD_eq_getElem?_getD] at this
     rw[Array.getD_eq_getD_getElem?]
     simpa using this
   | false =>
     simp only[cond_false]
     exact qZ n (j+1) xs hx t
theorem o3 (hi:Inv w O α st) (hs:SlotRep w O α σ N a):∀ (rs:List ResultVar) (l:List AVal),resL P σ st rs=some l →
   ∃ vs:List Value,(rs.mapM fun
     | .tmp t=>pure (a.tmps.getD t undef)
     | .cell b t=>do loadVar t (← asAddr (a.tmps.getD b undef)):Sem (List Value)).run P w = .ok vs w∧RepL w O α l vs
 | [],l,h=>by simp only[resL,Option.some.injEq] at h; subst h; exact ⟨[],by simp,by simp[RepL]⟩
 | .tmp t::rs,l,h=>by
   simp only[resL,Option.map_eq_some_iff] at h
   obtain ⟨l',h1,rfl⟩:=h
   obtain ⟨vs,g1,g2⟩:=o3 hi hs rs l' h1
   refine ⟨a.tmps.getD t undef::vs,?_,by simp only[RepL]; exact ⟨_,_,rfl,hs.slot t,g2⟩⟩
   rw[List.mapM_cons,Sem.run_bind,Sem.run_pure,Result.andThen_ok,Sem.run_bind,g1]
   rfl
 | .cell b t::rs,l,h=>by
   simp only[resL,Option.bind_eq_some_iff,Option.map_eq_some_iff] at h
   obtain ⟨v,hv,l',h1,rfl⟩:=h
   obtain ⟨vs,g1,g2⟩:=o3 hi hs rs l' h1
   obtain ⟨u,k1,k2⟩:=lj (P:=P) hi hv (hs.slot b)
   have k3:(do loadVar t (← asAddr (a.tmps.getD b undef)):Sem Value).run P w = .ok u w:=by
     simp only[Instr.loadAt] at k1
     rw[Sem.run_bind] at k1 ⊢
     generalize a.tmps.getD b undef=q at k1 ⊢
     unfold Instr.sureAddr at k1
     unfold asAddr
     split at k1
     · exact k1
     · simp[Result.andThen] at k1
   refine ⟨u::vs,?_,by simp only[RepL]; exact ⟨_,_,rfl,k2,g2⟩⟩
   rw[List.mapM_cons,Sem.run_bind,k3,Result.andThen_ok,Sem.run_bind,g1]
   rfl
theorem adL (hi:Inv w O α st) (hs:SlotRep w O α σ N a) {fn:Func}{v:AVal} (h:resV P σ st fn.results.toList=some v) :
   ∃ u,(results fn a.tmps).run P w = .ok u w∧Rep w O α v u:=by
 have hL:∀ l,resL P σ st fn.results.toList=some l→(match l with | [v]=>v | l=>.tup l)=v→∃ u,(results fn a.tmps).run P w = .ok u w∧Rep w O α v u:=by
   intro l hl hv
   obtain ⟨vs,g1,g2⟩:=o3 (P:=P) hi hs fn.results.toList l hl
   have hlen:=bU g2
   refine ⟨if h:vs.toArray.size=1 then vs.toArray[0] else .tuple vs.toArray,?_,?_⟩
   · unfold results
     rw[Sem.run_bind]
     have : (fn.results.mapM fun
         | .tmp t=>pure (a.tmps.getD t undef)
         | .cell b t=>do loadVar t (← asAddr (a.tmps.getD b undef)):Sem (Array Value)).run P w = .ok vs.toArray w:=by
       rw[Array.mapM_eq_mapM_toList,Sem.run_map,g1]
       rfl
     exact (congrArg (fun q=>Result.andThen q (fun a w'=>Sem.run P (pure (if h:a.size=1 then a[0] else Value.tuple a)) w')) this).trans rfl
   · cases l with
     | nil =>
       simp only[List.length_nil] at hlen
       have:vs=[]:=List.eq_nil_of_length_eq_zero hlen
       subst this
       simp only[] at hv
       subst hv
       simp only[Rep]
       exact ⟨[],by simp,by simp[RepL]⟩
     | cons x l =>
       cases l with
       | nil =>
         simp only[] at hv
         subst hv
         simp only[RepL] at g2
         obtain ⟨u,us,rfl,h1,rfl⟩:=g2
         simpa using h1
       | cons y l =>
         simp only[] at hv
         subst hv
         simp only[List.length_cons] at hlen
         rw[dif_neg (by simp; omega)]
         simp only[Rep]
         exact ⟨vs,rfl,g2⟩
 unfold resV at h
 split at h
 · rename_i t ht
   refine hL [getS σ t] (by rw[ht]; simp[resL]) ?_
   simpa using h
 · simp only[Option.map_eq_some_iff] at h
   obtain ⟨l,h1,h2⟩:=h
   exact hL l h1 h2
theorem ak (hE:EnvOk P E) {f:Nat}{fn:Func} (hf:P.funcs[f]? = some fn) (hb0:fn.body.isNone=false) (hn:(fn.name == "runtime.NumGoroutine")=false):bL P E.glob f (runF P E h fn):=by
 cases hb:fn.body with
 | none=>rw[hb] at hb0; cases hb0
 | some c =>
   refine ⟨⟨fn,hf,by rw[hb]; rfl,hn⟩,fun xs st r st' hh w O α vs hi hg hv => ?_⟩
   unfold runF at hh
   rw[hb] at hh
   cases h1:Nat.beq xs.length (fn.params.size+fn.nfree) with
   | false=>rw[h1] at hh; simp at hh
   | true =>
     rw[h1] at hh
     simp only[cond_true,Option.getD_some] at hh
     cases h2:ct fn.ntmps c&&Nat.ble (fn.params.size+fn.nfree) fn.ntmps with
     | false=>rw[h2] at hh; simp at hh
     | true =>
       rw[h2] at hh
       simp only[cond_true] at hh
       simp only[Bool.and_eq_true] at h2
       obtain ⟨h2,h3⟩:=h2
       have hlen:=Nat.eq_of_beq_eq_true h1
       have hle:=Nat.le_of_ble_eq_true h3
       have hvl:=bU hv
       obtain ⟨e,σ',st1,hK,hr⟩:=fQ (N:=fn.ntmps) hE c _ _ st _ (r,st') h2 hh
       have hslots:SlotRep w O α (dA (List.range (fn.params.size+fn.nfree)) 0 xs) fn.ntmps { tmps:=vs.toArray++Array.replicate (fn.ntmps-vs.toArray.size) undef,defers:=[] }:=by
         refine ⟨fun t => ?_,rfl,by simp; omega⟩
         have:=qZ (w:=w) (O:=O) (α:=α) (fn.params.size+fn.nfree) 0 xs hv t
         rw[← List.range_eq_range'] at this
         have e1:(vs.toArray++Array.replicate (fn.ntmps-vs.toArray.size) undef).getD t undef=vs.toArray.getD t undef:=by
           rw[Array.getD_eq_getD_getElem?,Array.getD_eq_getD_getElem?,Array.getElem?_append]
           split
           · rfl
           · rename_i hge
             rw[Array.getElem?_eq_none (by omega:vs.toArray.size≤t)]
             rw[Array.getElem?_replicate]
             split<;>rfl
         rw[e1]
         exact this
       refine calls_of_wp hf hb ?_
       refine hr w O α _ _ hi hg hslots (fun a' w' hp => ?_)
       obtain ⟨α',e1,e2,e3⟩:=hp
       have fin : ∀ v, resV P σ' st1 fn.results.toList = some v → (v, st1) = (r, st') → a'.defers = [] ∧ ∃ u, (results fn a'.tmps).run P w' = .ok u w' ∧
           ∃ v α',Ending.returned u = .returned v∧Ext w α w' α'∧Inv w' O α' st'∧Rep w' O α' r v:=by
         intro v hv' hpair
         simp only[Prod.mk.injEq] at hpair
         obtain ⟨rfl,rfl⟩:=hpair
         obtain ⟨u,k1,k2⟩:=adL (P:=P) e2 e3 (fn:=fn) hv'
         exact ⟨e3.defers,u,k1,u,α',rfl,e1,e2,k2⟩
       cases e with
       | normal =>
         simp only[Option.map_eq_some_iff] at hK
         obtain ⟨v,hv',hpair⟩:=hK
         exact fin v hv' hpair
       | ret =>
         simp only[Option.map_eq_some_iff] at hK
         obtain ⟨v,hv',hpair⟩:=hK
         exact fin v hv' hpair
       | exit id=>cases hK
theorem ai {G:List (Nat×AVal)}{f:Nat}{F:SFn} (hF:bL P G f F):aB P G f (aH F):=by
 refine ⟨hF.1,fun xs r hr hc w O vs hb hg hv => ?_⟩
 simp only[aH,Option.bind_eq_some_iff] at hr
 obtain ⟨⟨x,st'⟩,h1,h2⟩:=hr
 refine (hF.2 xs [] x st' h1 w O [] vs (Inv.nil w O hb) hg hv).mono ?_
 rintro e w' ⟨v,α',rfl,he,hi,hx⟩
 obtain ⟨g1,g2⟩:=ie hi x r v h2 hx
 have hq:Quiet w w':=⟨he.os,he.tape,he.output,he.size,fun b hb=>he.old b hb (fun ⟨r,ri,e,_⟩=>by simp at e),he.dr⟩
 exact ⟨v,rfl,hq,g1,g2⟩
end
theorem an {P:Program}{G:List (Nat×AVal)}:∀ (f:Nat) (F:PFn),aK ([]:List (Nat×PFn)) f=some F→ExtP P G f F:=fun _ _ h=>by cases h
theorem ae {P:Program}{G:List (Nat×AVal)}:∀ (f:Nat) (F:PFn),aK ([]:List (Nat×PFn)) f=some F→aB P G f F:=fun _ _ h=>by cases h
theorem aj {P:Program}{G:List (Nat×AVal)}{l:List (Nat×PFn)}{k:Nat}{K:PFn} (hK:aB P G k K) (h:∀ f F,aK l f=some F→aB P G f F):∀ f F,aK ((k,K)::l) f=some F→aB P G f F:=by
 intro f F hf
 simp only[aK] at hf
 cases hb:Nat.beq k f with
 | true=>rw[hb] at hf; cases hf; obtain rfl:=Nat.eq_of_beq_eq_true hb; exact hK
 | false=>rw[hb] at hf; exact h f F hf
theorem ap {P:Program}{G:List (Nat×AVal)}:∀ (f:Nat) (F:SFn),aK ([]:List (Nat×SFn)) f=some F→bL P G f F:=fun _ _ h=>by cases h
theorem bv {P:Program}{G:List (Nat×AVal)}{l:List (Nat×SFn)}{k:Nat}{K:SFn} (hK:bL P G k K) (h:∀ f F,aK l f=some F→bL P G f F):∀ f F,aK ((k,K)::l) f=some F→bL P G f F:=by
 intro f F hf
 simp only[aK] at hf
 cases hb:Nat.beq k f with
 | true=>rw[hb] at hf; cases hf; obtain rfl:=Nat.eq_of_beq_eq_true hb; exact hK
 | false=>rw[hb] at hf; exact h f F hf
instance Drawn.off:Drawn:=⟨False⟩
end Go.EM
namespace Go.EM
theorem nT {R:Type}{f g:List AVal→aq→Option R} (h:∀ l s r,f l s=some r→g l s=some r) {x:Live R}{r:R} (hx:mT f x=some r):mT g x=some r:=by
 cases x with
 | inl p=>exact h _ _ _ hx
 | inr q=>exact hx
theorem nP {R:Type}{f:List AVal→aq→Option (Live R)}:∀ (n:Nat) (l:List AVal) (st:aq) (r:R),gS f n l st=some r→gS f (n+1) l st=some r
 | 0,_,_,_,h=>by cases h
 | n+1,l,st,r,h=>by
   simp only[gS] at h ⊢
   cases hf:f l st with
   | none=>rw[hf] at h; cases h
   | some x =>
     rw[hf] at h
     simp only[Option.bind_some] at h ⊢
     exact nT (fun l s r=>nP n l s r) h
theorem vI {R:Type}{f:List AVal→aq→Option (Live R)}{n m:Nat} (hnm:n≤m) {l:List AVal}{st:aq}{r:R} (h:gS f n l st=some r):gS f m l st=some r:=by
 induction hnm with
 | refl=>exact h
 | step _ ih=>exact nP _ _ _ _ ih
theorem lP {R:Type}{f:List AVal→aq→Option (Live R)}{l:List AVal}{st:aq}{r:R}:mS f l st=some r↔∃ n,gS f n l st=some r:=by
 unfold mS
 split
 · rename_i h
   have hc:=h.choose_spec
   obtain ⟨r',hr'⟩:=hc
   constructor
   · intro e; exact ⟨_,e⟩
   · rintro ⟨n,hn⟩
     have h1:=vI (Nat.le_max_left n h.choose) hn
     have h2:=vI (Nat.le_max_right n h.choose) hr'
     rw[h1] at h2
     rw[hr']; exact h2.symm
 · rename_i h
   constructor
   · intro e; cases e
   · rintro ⟨n,hn⟩; exact absurd ⟨n,r,hn⟩ h
theorem pp {R:Type} (f:List AVal→aq→Option (Live R)) (l:List AVal) (st:aq):mS f l st=(f l st).bind (mT (mS f)):=by
 apply Option.ext
 intro r
 rw[lP]
 constructor
 · rintro ⟨n,hn⟩
   cases n with
   | zero=>cases hn
   | succ n =>
     simp only[gS] at hn
     cases hf:f l st with
     | none=>rw[hf] at hn; cases hn
     | some x =>
       rw[hf] at hn
       simp only[Option.bind_some] at hn ⊢
       exact nT (fun l s r h=>lP.2 ⟨n,h⟩) hn
 · intro h
   cases hf:f l st with
   | none=>rw[hf] at h; cases h
   | some x =>
     rw[hf] at h
     simp only[Option.bind_some] at h
     cases x with
     | inr q=>exact ⟨1,by simp only[gS,hf,Option.bind_some]; exact h⟩
     | inl p =>
       obtain ⟨n,hn⟩:=lP.1 h
       exact ⟨n+1,by simp only[gS,hf,Option.bind_some]; exact hn⟩
theorem abu {R:Type}{f:List AVal→aq→Option (Live R)}{l l':List AVal}{st st':aq} (h:f l st=some (.inl (l',st'))):mS f l st=mS f l' st':=by
 rw[pp,h]; rfl
def mv (v:AVal):Option AVal:=some v
section
variable {P:Program}{t:Nat}{lit:Bool}{k:IntKind}{a b:Int}
theorem wrap_i64 {n:Int} (h1 : -9223372036854775808≤n) (h2:n≤9223372036854775807):IntKind.i64.wrap n=n:=by
 simp[IntKind.wrap,IntKind.bits,IntKind.signed]; omega
end
end Go.EM
namespace Go.EM
theorem hJ:∀ (xs ys:List AVal),aA (xs++ys)=(aA xs&&aA ys)
 | [],ys=>by simp[aA]
 | x::xs,ys=>by simp only[List.cons_append,aA,hJ xs ys,Bool.and_assoc]
section
variable {P:Program}{E:Env}{h:Hints}
def gh (E:Env) (h:Hints):Code→Bool
 | .skip=>true
 | .region id ops _=>(ops.toList.all fun o=>Nat.ble (cls E h o) 1)&&(aem h id).isEmpty
 | .seq a b=>gh E h a&&gh E h b&&(aK h.seqs (bb b)).isNone
 | .cond _ a b=>gh E h a&&gh E h b
 | .block _ b=>gh E h b
 | .exit _=>true
 | .ret=>true
 | _=>false
theorem nL {o:Oper}{σ:aN}{st st':aq}{v:AVal} (hc:cls E h o=1) (hs:opS P E σ st o=some (v,st')):st'=st:=by
 letI:Drawn:=⟨False⟩
 exact re hc hs
theorem gg {R:Type}{ops:List Oper}{K:aN→aq→Option R}{r:R}:∀ (os:List Oper) (σ:aN) (st:aq),(os.all fun o=>Nat.ble (cls E h o) 1)=true→bl P E h ops os σ st K=some r→∃ σ',K σ' st=some r
 | [],σ,st,_,hr=>⟨σ,hr⟩
 | o::os,σ,st,hc,hr=>by
   simp only[List.all_cons,Bool.and_eq_true,Nat.ble_eq] at hc
   unfold bl at hr
   cases hb:Nat.beq (cls E h o) 0 with
   | true =>
     rw[hb] at hr
     simp only[Option.bind_eq_some_iff] at hr
     obtain ⟨v,_,hr⟩:=hr
     split at hr
     · exact gg os _ st hc.2 hr
     · exact gg os _ st hc.2 hr
   | false =>
     have h1:cls E h o=1:=by
       have:cls E h o≠0:=fun e=>by rw[e] at hb; cases hb
       omega
     rw[hb] at hr
     simp only[Option.bind_eq_some_iff] at hr
     obtain ⟨p,hp,hr⟩:=hr
     have hst:p.2=st:=by
       split at hp
       · exact nL (P:=P) (σ:=σ) (v:=p.1) h1 hp
       · rename_i j want hg
         unfold lV at hp
         split at hp
         · rename_i b _
           cases want<;>cases b<;>simp only[cond_true,cond_false] at hp<;>first
             | exact nL (P:=P) (σ:=σ) (v:=p.1) h1 hp
             | exact (congrArg Prod.snd (Option.some.inj hp)).symm
         · exact (congrArg Prod.snd (Option.some.inj hp)).symm
         · cases hp
     rw[hst] at hr
     split at hr
     · exact gg os _ st hc.2 hr
     · exact gg os _ st hc.2 hr
theorem ajp:∀ (c:Code) {R:Type}{σ:aN}{st:aq}{K:AExit→aN→aq→Option R}{r:R},gh E h c=true→D P E h c R σ st K=some r→∃ e σ',K e σ' st=some r:=by
 intro c
 induction c with
 | skip=>intro R σ st K r _ hr; exact ⟨_,_,hr⟩
 | region id ops draw =>
   intro R σ st K r hc hr
   simp only[gh,Bool.and_eq_true,List.isEmpty_iff] at hc
   simp only[D,hc.2,frzA,Option.bind_some] at hr
   cases hd:(draw && !mh P E h ops) with
   | true=>rw[hd] at hr; cases hr
   | false =>
     rw[hd,cond_false,iV] at hr
     obtain ⟨σ',h'⟩:=gg _ _ _ hc.1 hr
     exact ⟨_,_,h'⟩
 | seq a b iha ihb =>
   intro R σ st K r hc hr
   simp only[gh,Bool.and_eq_true,Option.isNone_iff_eq_none] at hc
   simp only[D,hc.2] at hr
   obtain ⟨e,σ',h'⟩:=iha hc.1.1 hr
   cases e with
   | normal=>exact ihb hc.1.2 h'
   | exit i=>exact ⟨_,_,h'⟩
   | ret=>exact ⟨_,_,h'⟩
 | cond x a b iha ihb =>
   intro R σ st K r hc hr
   simp only[gh,Bool.and_eq_true] at hc
   simp only[D] at hr
   unfold aj7 at hr
   split at hr
   · rename_i t _
     cases t
     · exact ihb hc.2 hr
     · exact iha hc.1 hr
   · cases hr
 | block id b ih =>
   intro R σ st K r hc hr
   simp only[gh] at hc
   simp only[D] at hr
   obtain ⟨e,σ',h'⟩:=ih hc hr
   cases e with
   | normal=>exact ⟨_,_,h'⟩
   | ret=>exact ⟨_,_,h'⟩
   | exit i =>
     simp only at h'
     cases hb:Nat.beq i id<;>rw[hb] at h'<;>exact ⟨_,_,h'⟩
 | exit id=>intro R σ st K r _ hr; exact ⟨_,_,hr⟩
 | ret=>intro R σ st K r _ hr; exact ⟨_,_,hr⟩
 | _=>intro R σ st K r hc; first | (exfalso; cases hc; done) | (intro hr; cases hc)
def ae0 (E:Env) (h:Hints) (fn:Func):Bool:=(match fn.body with
 | some c=>gh E h c
 | none=>false)&&fn.results.all fun
 | .tmp _=>true
 | _=>false
theorem jx {fn:Func} (hq:ae0 E h fn=true) {xs:List AVal}{st:aq}{p:AVal×aq} (hr:runF P E h fn xs st=some p):p.2=st:=by
 unfold ae0 at hq
 rw[Bool.and_eq_true] at hq
 unfold runF at hr
 cases h1:Nat.beq xs.length (fn.params.size+fn.nfree) with
 | false=>rw[h1] at hr; cases hr
 | true =>
   rw[h1,cond_true] at hr
   cases h2:(ct fn.ntmps (fn.body.getD .skip)&&Nat.ble (fn.params.size+fn.nfree) fn.ntmps) with
   | false=>rw[h2] at hr; cases hr
   | true =>
     rw[h2,cond_true] at hr
     split at hr
     · rename_i c hb
       rw[hb] at hq
       obtain ⟨e,σ',h'⟩:=ajp c hq.1 hr
       cases e with
       | normal =>
         simp only[Option.map_eq_some_iff] at h'
         obtain ⟨_,_,e⟩:=h'
         rw[← e]
       | ret =>
         simp only[Option.map_eq_some_iff] at h'
         obtain ⟨_,_,e⟩:=h'
         rw[← e]
       | exit i=>cases h'
     · cases hr
def wD (E:Env) (l:List Nat):Prop:=∀ f,memN f l=true→∀ xs st p,il E f xs st=some p→p.2=st
def mG (E:Env):Prop:=wD E E.quiet
theorem lq:wD E []:=fun f hf=>by cases hf
theorem lr (hq:E.quiet=[]):mG E:=by
 unfold mG
 rw[hq]; exact lq
theorem jA {k:Nat}{l:List Nat}{F:SFn} (hF:∀ xs st p,F xs st=some p→p.2=st) (h1:aK E.pure k=none) (h2:aK E.look k=none) (h3:aK E.raw k=some F) (hl:wD E l):wD E (k::l):=fun f hf xs st p hp=>by
 simp only[memN] at hf
 cases e:Nat.beq f k with
 | true =>
   rw[Nat.eq_of_beq_eq_true e] at hp
   simp only[il,h1,h2,h3] at hp
   exact hF xs st p hp
 | false =>
   rw[e,cond_false] at hf
   exact hl f hf xs st p hp
end
end Go.EM
namespace Go.EM
end Go.EM
