import Derived.Test.YtljlahifmblbbaaT9
import Derived.Test.YtljlahifmblbbaaE19
import Derived.WalkKit
import Derived.ProofKit
import Derived.OpenShut
import Derived.ChangeMaps5
import Derived.Deep.DeepHandedRow
import Derived.Lib.LaidTab
import Derived.ChangeStays
set_option linter.unusedVariables false
set_option linter.unusedSimpArgs false
namespace Go.TY
open Go.EM
section
variable {Φ:Frame}{Γ:Ctx}{m m0:Mem}{st:Store}{P:Program}{E:Env}{ET:TEnv}{h:Hints}{H:TH}{σ:TS}{σA:Slots}
theorem jpFst_mk {S:Type}{y:S}:∀ {t:Ty}{x:t.V},jpFst t (jpMk t.triv x y)=x
  | .int _,_=>rfl
  | .bool,_=>rfl
  | .str,_=>rfl
  | .sl _,_=>rfl
  | .agg _,_=>rfl
  | .arr _ _,_=>rfl
  | .tup _,_=>rfl
  | .unit,_=>rfl
  | .cons _ _,_=>rfl
  | .nilsl,_=>rfl
  | .nilp,_=>rfl
  | .fn _,_=>rfl
  | .err,_=>rfl
  | .undef,_=>rfl
  | .any,_=>rfl
  | .own _,_=>rfl
  | .it _,_=>rfl
  | .mp _,_=>rfl
  | .bx _ _,_=>rfl
  | .op _,_=>rfl
  | .ptr _ _,_=>rfl
  | .ba _ _ _ _,_=>rfl
  | .vw _,_=>rfl
  | .rp _ _,_=>rfl
  | .orp _ _,_=>rfl
  | .cl _ _,_=>rfl
theorem jpSnd_mk {T S:Type}{x:T}{y:S}:∀ {b:Bool},jpSnd b (jpMk b x y)=y
  | true=>rfl
  | false=>rfl
theorem enterS_ok {Γ' : Ctx} {f : CF} {n : Nat} (hmv : Moved f (fun j => j < n) Γ Γ') (hs : SlotR Γ σ σA) {S : Type} {r : Option S} : ∀ {l : List (Nat × Ty)} {v : jpS S l}, (∀ q ∈ l, q.2.lows n = true ∧ q.2.isV = true) → enterS f r l σ = some v →
    r=some (restS l v)∧∀ k w,getT (leaveS l v) k=some w→(w.t.isV=true∧R Γ' w.t w.v false [getS σA k])∧∃ t,(k,t)∈l
  | [],v,hl,h=>by
    simp only[enterS] at h
    exact ⟨h,fun k w hw=>by cases hw⟩
  | (k,t)::l,v,hl,h=>by
    simp only[enterS,Option.bind_eq_some_iff,Option.map_eq_some_iff] at h
    obtain ⟨w,hw,x,hx,y,hy,rfl⟩:=h
    obtain ⟨h1,h2⟩:=enterS_ok hmv hs (fun q hq=>hl q (List.mem_cons_of_mem _ hq)) hy
    obtain ⟨ht1,ht2⟩:=hl (k,t) (List.mem_cons_self ..)
    simp only[leaveS,restS]
    rw[jpSnd_mk]
    refine ⟨h1,fun k' w' hw' => ?_⟩
    simp only[getT] at hw'
    cases hk:Nat.beq k k' with
    | true =>
      rw[hk,cond_true] at hw'
      rw[Nat.beq_eq] at hk
      subst hk
      cases hw'
      refine ⟨⟨ht2,?_⟩,t,List.mem_cons_self ..⟩
      simp only[jpFst_mk]
      exact coerceT_R hmv (fun i hi=>lows_lt ht1 hi) hx (hs k w hw).2
    | false =>
      rw[hk,cond_false] at hw'
      obtain ⟨g1,t',g2⟩:=h2 k' w' hw'
      exact ⟨g1,t',List.mem_cons_of_mem _ g2⟩
theorem getT_app {a b:TS}{k:Nat}{w:TV} (hg:getT (a++b) k=some w):getT a k=some w∨getT b k=some w:=by
  induction a with
  | nil=>exact .inr hg
  | cons p a ih =>
    obtain ⟨j,v⟩:=p
    simp only[List.cons_append,getT] at hg ⊢
    cases hk:Nat.beq j k with
    | true=>rw[hk] at hg; left; rw[cond_true] at hg ⊢; exact hg
    | false=>rw[hk,cond_false] at hg; rw[cond_false]; exact ih hg
theorem enter_ok {j : JP} {v : j.V} {Γ0' : Ctx} {σ0 : TS} {σA0 : Slots} {p : Nat → Bool} (hs : SlotR Γ σ σA) (hm : MemR Φ Γ m st) (hp : Pers m0 m) (hs0 : SlotR Γ0' σ0 σA0) (hsame : ∀ k, p k = true → getS σA k = getS σA0 k) (he : j.enter m0 σ m = some v) :
    ∃ Γ',SlotR Γ' (j.slots p σ0 v) σA∧MemR Φ Γ' (j.memo m0 v) st∧Pers m0 (j.memo m0 v)∧∀ k w,getT (j.slots p σ0 v) k=some w→p k=true∨∃ t,(k,t)∈j.keep:=by
  unfold JP.enter at he
  cases hc:(j.ok&&muInj (muOf j.keep σ) j.mem.length j.mem.length&&Nat.ble m0.length j.mem.length) with
  | false=>rw[hc] at he; cases he
  | true =>
    rw[hc,cond_true] at he
    simp only[Bool.and_eq_true,Nat.ble_eq] at hc
    obtain ⟨⟨c1,c2⟩,c3⟩:=hc
    unfold JP.ok at c1
    simp only[Bool.and_eq_true,List.all_eq_true] at c1
    obtain ⟨c1,c4⟩:=c1
    have hmv:=anew_moved (l:=muOf j.keep σ) (n:=j.mem.length) hm
    obtain ⟨h1,h2⟩:=enterS_ok hmv hs c1 he
    have h3:=enterM_ok hm hp (n:=j.mem.length) (by omega) c4 h1
    have hlen:(j.memo m0 v).length=j.mem.length:=leaveM_len
    refine ⟨anew Γ (muOf j.keep σ) m.length j.mem.length,?_,?_,?_,?_⟩
    · intro k w hw
      rcases getT_app hw with hw | hw
      · exact (h2 k w hw).1
      · obtain ⟨g1,g2⟩:=getT_filter (p:=fun q=>p q&&(match getT σ0 q with | some w=>w.t.still | none=>false)) hw
        rw[g1] at g2
        simp only[Bool.and_eq_true] at g2
        obtain ⟨k1,k2⟩:=hs0 k w g1
        refine ⟨k1,?_⟩
        rw[hsame k g2.1]
        exact R_moveS g2.2 k2
    · refine ⟨fun id hid => ?_,fun id hid => ?_,fun a b r n l n' l' ha hb => ?_,fun a r n l ha => ?_,hm.old,fun r g a n l hg ha => ?_⟩
      · rw[hlen] at hid
        have:=h3 id hid
        rw[Nat.zero_add] at this
        exact this
      · rw[hlen] at hid
        simp only[anew]
        rw[if_neg (by omega)]
      · simp only[anew] at ha hb
        split at ha
        · rename_i ha1
          split at ha
          · cases ha
          · split at hb
            · rename_i hb1
              split at hb
              · cases hb
              · exact muInj_ok c2 a b ha1 hb1 (hm.inj _ _ _ _ _ _ _ ha hb)
            · cases hb
        · cases ha
      · simp only[anew] at ha
        split at ha
        · split at ha
          · cases ha
          · exact hm.lt _ _ _ _ ha
        · cases ha
      · simp only[anew] at ha
        split at ha
        · split at ha
          · cases ha
          · exact hm.dis _ _ _ _ _ hg ha
        · cases ha
    · refine ⟨by rw[hlen]; exact c3,fun i hi e t w hw => ?_,fun i hi s q hw => ?_⟩
      · have:=(leaveM_pers (m0:=m0) (rs:=j.mem) (v:=restS j.keep v) (j:=0) (i:=i) (by omega)).1 e t w hw
        rw[Nat.zero_add] at this; exact this
      · have:=(leaveM_pers (m0:=m0) (rs:=j.mem) (v:=restS j.keep v) (j:=0) (i:=i) (by omega)).2 s q hw
        rw[Nat.zero_add] at this; exact this
    · intro k w hw
      rcases getT_app hw with hw | hw
      · exact .inr (h2 k w hw).2
      · obtain ⟨g1,g2⟩:=getT_filter (p:=fun q=>p q&&(match getT σ0 q with | some w=>w.t.still | none=>false)) hw
        simp only[Bool.and_eq_true] at g2
        exact .inl g2.1
theorem evalOps_app {R:Type}{ops:List Oper}{K:Slots→Store→Option R}:∀ {a b:List Oper}{σA:Slots}{st:Store},evalOps P E h ops (a++b) σA st K=evalOps P E h ops a σA st (fun σ st=>evalOps P E h ops b σ st K)
  | [],b,σA,st=>rfl
  | o::a,b,σA,st=>by
    rw[List.cons_append]
    conv=>lhs; unfold evalOps
    conv=>rhs; unfold evalOps
    simp only[evalOps_app (a:=a) (b:=b)]
theorem notDst_app {a b:List Oper}{k:Nat}:notDst (a++b) k=(notDst a k&&notDst b k):=by simp[notDst]
theorem cutT_ok (hE : EnvT E ET) {ops : List Oper} {X : Type} {K : TS → Mem → Option X} {x : X} : ∀ {cs : List (Nat × JP)} {os : List Oper} {σ : TS} {m : Mem} {σA : Slots} {st : Store} {Γ : Ctx}, SlotR Γ σ σA → MemR Φ Γ m st → cutT P E h ET H ops cs os σ m K = some x →
    Leads (Φ:=Φ) P E h ops os m σA st (fun σ' m'=>K σ' m'=some x)
  | [],os,σ,m,σA,st,Γ,hs,hm,hx=>opsT_ok hE hs hm hx
  | (n,j)::cs,os,σ,m,σA,st,Γ,hs,hm,hx=>by
    simp only[cutT,Option.bind_eq_some_iff] at hx
    obtain ⟨v,hv,hx⟩:=hx
    obtain ⟨σ1,m1,σA1,st1,Γ1,g1,g2,g3,g4,g5,g6⟩:=opsT_ok hE hs hm hv
    obtain ⟨Γ2,k1,k2,k3,k4⟩:=enter_ok g2 g3 g4 hs g5 g1
    obtain ⟨σ3,m3,σA3,st3,Γ3,e1,e2,e3,e4,e5,e6⟩:=cutT_ok hE k1 k2 hx
    refine ⟨σ3,m3,σA3,st3,Γ3,e1,e2,e3,k3.trans e4,fun k hk => ?_,fun R KA => ?_⟩
    · rw[← List.take_append_drop n os,notDst_app,Bool.and_eq_true] at hk
      rw[e5 k hk.2,g5 k hk.1]
    · rw[← List.take_append_drop n os,evalOps_app,g6]
      exact e6 R KA
theorem loopTn_ind {A X:Type}{f:A→Option (A⊕X)}{a:A}{x:X} (hx:loopT f a=some x):∃ n,loopTn f n a=some x:=by
  unfold loopT at hx
  split at hx
  · rename_i hh; exact ⟨_,hx⟩
  · cases hx
def Goes' (P:Program) (E:Env) (h:Hints) (c:Code) (m:Mem) (σA:Slots) (st:Store) (Q:AExit→TS→Mem→Prop):Prop :=
  ∃ e σ' m' σA' st' Γ',Q e σ' m'∧SlotR Γ' σ' σA'∧MemR Φ Γ' m' st'∧Pers m m'∧(∀ k,stays h c k=true→getS σA' k=getS σA k) ∧
    ∀ (R:Type) (K:AExit→Slots→Store→Option R),D P E h c R σA st K=K e σA' st'
theorem getS_plug {σA:Slots}:∀ {keep:List Nat}{k:Nat},memN k keep=true→∀ {l:List AVal}{j:Nat},(∀ i,getL l (j+i)=getL (pickK keep σA) i)→getS (plugK keep j l) k=getS σA k
  | a::keep,k,hk,l,j,hl=>by
    simp only[plugK,getS]
    have h0:=hl 0
    simp only[Nat.add_zero,pickK,getL] at h0
    cases ha:Nat.beq a k with
    | true=>rw[Nat.beq_eq] at ha; subst ha; simp only[cond_true]; exact h0
    | false =>
      simp only[cond_false]
      have hk':memN k keep=true:=by
        simp only[memN] at hk
        rw[Nat.beq_comm,ha] at hk
        exact hk
      refine getS_plug hk' (fun i => ?_)
      have:=hl (i+1)
      rw[show j+1+i=j+(i+1) by omega,this]
      rfl
where
  Nat.beq_comm {a b:Nat}:Nat.beq a b=Nat.beq b a:=by rw[Bool.eq_iff_iff,Nat.beq_eq,Nat.beq_eq]; exact eq_comm
theorem frzT_ok {σ' : TS} {m' : Mem} {Γ : Ctx} : ∀ (ks : List Nat) (σ : TS) (m : Mem) (σA : Slots) (st : Store), SlotR Γ σ σA → MemR Φ Γ m st → frzT ks σ m = some (σ', m') →
    ∃ σA' st',frzA ks σA st=some (σA',st')∧SlotR Γ σ' σA'∧MemR Φ Γ m' st'∧Pers m m'∧∀ k,memN k ks=false→getS σA' k=getS σA k
  | [],σ,m,σA,st,hs,hm,h=>by
    simp only[frzT] at h
    cases h
    exact ⟨σA,st,rfl,hs,hm,.refl _,fun _ _=>rfl⟩
  | k::ks,σ,m,σA,st,hs,hm,h=>by
    simp only[frzT] at h
    split at h
    · rename_i x hx
      split at h
      · rename_i p hp
        obtain ⟨w,m1⟩:=p
        obtain ⟨b,st1,q1,q2,q3,q4,q5⟩:=frzP_ok hm (hs k x hx).2 hp
        obtain ⟨σA',st',k1,k2,k3,k4,k5⟩:=frzT_ok ks ((k,w)::σ) m1 ((k,b)::σA) st1 (fun j y hj=>by
          simp only[getT] at hj
          simp only[getS]
          cases hk:Nat.beq k j with
          | true=>rw[hk] at hj; cases hj; exact ⟨q2,q3⟩
          | false=>rw[hk] at hj; exact hs j y hj) q4 h
        refine ⟨σA',st',?_,k2,k3,q5.trans k4,fun j hj => ?_⟩
        · simp only[frzA]
          rw[q1,Option.bind_some]
          exact k1
        · simp only[memN] at hj
          cases hb:Nat.beq j k with
          | true=>rw[hb] at hj; cases hj
          | false =>
            rw[hb,cond_false] at hj
            rw[k5 j hj]
            simp only[getS]
            have:Nat.beq k j=false:=by
              cases he:Nat.beq k j with
              | false=>rfl
              | true=>rw[Nat.beq_eq] at he; subst he; simp at hb
            rw[this,cond_false]
      · cases h
    · cases h
theorem DT_ok (hE : EnvT E ET) : ∀ (c : Code) {X : Type} {K : AExit → TS → Mem → Option X} {x : X} {σ : TS} {m : Mem} {σA : Slots} {st : Store} {Γ : Ctx}, SlotR Γ σ σA → MemR Φ Γ m st → DT P E h ET H c X σ m K = some x →
    Goes' (Φ:=Φ) P E h c m σA st (fun e σ' m'=>K e σ' m'=some x)
  | .skip,X,K,x,σ,m,σA,st,Γ,hs,hm,hx=>⟨.normal,σ,m,σA,st,Γ,hx,hs,hm,.refl m,fun _ _=>rfl,fun _ _=>rfl⟩
  | .region id ops draw,X,K,x,σ,m,σA,st,Γ,hs,hm,hx=>by
    simp only[DT] at hx
    split at hx
    · rename_i p hp
      obtain ⟨σ0,m0⟩:=p
      obtain ⟨σA0,st0,f1,f2,f3,f4,f5⟩:=frzT_ok _ σ m σA st hs hm hp
      cases hc:draw && !drawOk P E h ops with
      | true=>rw[hc] at hx; cases hx
      | false =>
        rw[hc,cond_false] at hx
        obtain ⟨σ1,m1,σA1,st1,Γ1,g1,g2,g3,g4,g5,g6⟩:=cutT_ok hE f2 f3 hx
        refine ⟨.normal,σ1,m1,σA1,st1,Γ1,g1,g2,g3,f4.trans g4,fun k hk => ?_,fun R KA => ?_⟩
        · simp only[stays,Bool.and_eq_true,Bool.not_eq_true'] at hk
          rw[g5 k hk.1,f5 k hk.2]
        · simp only[D]
          rw[f1,Option.bind_some,hc,cond_false,evalT_eq]
          exact g6 R _
    · cases hx
  | .seq a b,X,K,x,σ,m,σA,st,Γ,hs,hm,hx=>by
    simp only[DT] at hx
    cases hq:lookN h.seqs (firstRegion b) with
    | some _=>rw[hq] at hx; cases hx
    | none =>
      rw[hq] at hx
      simp only at hx
      have hD : ∀ (R : Type) (KA : AExit → Slots → Store → Option R), D P E h (.seq a b) R σA st KA = D P E h a R σA st (fun e σ' st' => match e with
          | .normal=>D P E h b R σ' st' KA
          | e=>KA e σ' st'):=by
        intro R KA
        simp only[D,hq]
        congr
      cases hj:lookN H.joins (firstRegion b) with
      | none =>
        rw[hj] at hx
        simp only at hx
        obtain ⟨e,σ1,m1,σA1,st1,Γ1,g1,g2,g3,g4,g5,g6⟩:=DT_ok hE a hs hm hx
        cases e with
        | normal =>
          simp only at g1
          obtain ⟨e,σ2,m2,σA2,st2,Γ2,k1,k2,k3,k4,k5,k6⟩:=DT_ok hE b g2 g3 g1
          refine ⟨e,σ2,m2,σA2,st2,Γ2,k1,k2,k3,g4.trans k4,fun k hk => ?_,fun R KA => ?_⟩
          · simp only[stays,Bool.and_eq_true] at hk
            rw[k5 k hk.1.2,g5 k hk.1.1]
          · rw[hD,g6]; exact k6 R KA
        | exit i =>
          refine ⟨.exit i,σ1,m1,σA1,st1,Γ1,g1,g2,g3,g4,fun k hk => ?_,fun R KA=>by rw[hD,g6]⟩
          simp only[stays,Bool.and_eq_true] at hk
          exact g5 k hk.1.1
        | ret =>
          refine ⟨.ret,σ1,m1,σA1,st1,Γ1,g1,g2,g3,g4,fun k hk => ?_,fun R KA=>by rw[hD,g6]⟩
          simp only[stays,Bool.and_eq_true] at hk
          exact g5 k hk.1.1
      | some j =>
        rw[hj] at hx
        simp only[Option.bind_eq_some_iff] at hx
        obtain ⟨y,hy,hx⟩:=hx
        obtain ⟨e,σ1,m1,σA1,st1,Γ1,g1,g2,g3,g4,g5,g6⟩:=DT_ok hE a hs hm hy
        cases e with
        | normal =>
          simp only[Option.map_eq_some_iff] at g1
          obtain ⟨v,hv,rfl⟩:=g1
          simp only[joinS] at hx
          obtain ⟨Γ2,q1,q2,q3,q4⟩:=enter_ok g2 g3 g4 hs g5 hv
          obtain ⟨e,σ2,m2,σA2,st2,Γ2,k1,k2,k3,k4,k5,k6⟩:=DT_ok hE b q1 q2 hx
          refine ⟨e,σ2,m2,σA2,st2,Γ2,k1,k2,k3,q3.trans k4,fun k hk => ?_,fun R KA => ?_⟩
          · simp only[stays,Bool.and_eq_true] at hk
            rw[k5 k hk.1.2,g5 k hk.1.1]
          · rw[hD,g6]; exact k6 R KA
        | exit i =>
          simp only[Option.map_eq_some_iff] at g1
          obtain ⟨z,hz,rfl⟩:=g1
          simp only[joinS] at hx
          cases hx
          refine ⟨.exit i,σ1,m1,σA1,st1,Γ1,hz,g2,g3,g4,fun k hk => ?_,fun R KA=>by rw[hD,g6]⟩
          simp only[stays,Bool.and_eq_true] at hk
          exact g5 k hk.1.1
        | ret =>
          simp only[Option.map_eq_some_iff] at g1
          obtain ⟨z,hz,rfl⟩:=g1
          simp only[joinS] at hx
          cases hx
          refine ⟨.ret,σ1,m1,σA1,st1,Γ1,hz,g2,g3,g4,fun k hk => ?_,fun R KA=>by rw[hD,g6]⟩
          simp only[stays,Bool.and_eq_true] at hk
          exact g5 k hk.1.1
  | .cond c a b,X,K,x,σ,m,σA,st,Γ,hs,hm,hx=>by
    simp only[DT] at hx
    split at hx
    · rename_i t hc
      have hcr:=(opndT_R hE hs hc).2
      simp only[R] at hcr
      have hcr:=(List.cons.inj hcr).1
      cases t with
      | true =>
        simp only[cond_true] at hx
        obtain ⟨e,σ1,m1,σA1,st1,Γ1,g1,g2,g3,g4,g5,g6⟩:=DT_ok hE a hs hm hx
        refine ⟨e,σ1,m1,σA1,st1,Γ1,g1,g2,g3,g4,fun k hk => ?_,fun R KA => ?_⟩
        · simp only[stays,Bool.and_eq_true] at hk
          exact g5 k hk.1
        · simp only[D,hcr]; exact g6 R KA
      | false =>
        simp only[cond_false] at hx
        obtain ⟨e,σ1,m1,σA1,st1,Γ1,g1,g2,g3,g4,g5,g6⟩:=DT_ok hE b hs hm hx
        refine ⟨e,σ1,m1,σA1,st1,Γ1,g1,g2,g3,g4,fun k hk => ?_,fun R KA => ?_⟩
        · simp only[stays,Bool.and_eq_true] at hk
          exact g5 k hk.2
        · simp only[D,hcr]; exact g6 R KA
    · cases hx
  | .block id b,X,K,x,σ,m,σA,st,Γ,hs,hm,hx=>by
    simp only[DT] at hx
    obtain ⟨e,σ1,m1,σA1,st1,Γ1,g1,g2,g3,g4,g5,g6⟩:=DT_ok hE b hs hm hx
    cases e with
    | normal=>exact ⟨.normal,σ1,m1,σA1,st1,Γ1,g1,g2,g3,g4,g5,fun R KA=>by simp only[D]; rw[g6]⟩
    | ret=>exact ⟨.ret,σ1,m1,σA1,st1,Γ1,g1,g2,g3,g4,g5,fun R KA=>by simp only[D]; rw[g6]⟩
    | exit i =>
      simp only at g1
      cases hi:Nat.beq i id with
      | true =>
        rw[hi,cond_true] at g1
        exact ⟨.normal,σ1,m1,σA1,st1,Γ1,g1,g2,g3,g4,g5,fun R KA=>by simp only[D]; rw[g6]; simp only[hi,cond_true]⟩
      | false =>
        rw[hi,cond_false] at g1
        exact ⟨.exit i,σ1,m1,σA1,st1,Γ1,g1,g2,g3,g4,g5,fun R KA=>by simp only[D]; rw[g6]; simp only[hi,cond_false]⟩
  | .loop b,X,K,x,σ,m,σA,st,Γ,hs,hm,hx=>by
    simp only[DT] at hx
    split at hx
    · rename_i keep j hk hj
      cases hall:j.keep.all fun p=>memN p.1 keep with
      | false=>rw[hall] at hx; cases hx
      | true =>
        rw[hall,cond_true,Option.bind_eq_some_iff] at hx
        obtain ⟨v0,hv0,hx⟩:=hx
        obtain ⟨n,hx⟩:=loopTn_ind hx
        have ih := @DT_ok hE b
        obtain ⟨Γ1,q1,q2,q3,q4⟩:=enter_ok (p:=fun k=>stays h b k&&memN k keep) hs hm (.refl m) hs (fun _ _=>rfl) hv0
        have main : ∀ (n : Nat) (v : j.V) (σA1 : Slots) (st1 : Store) (Γ1 : Ctx), SlotR Γ1 (j.slots (fun k => stays h b k && memN k keep) σ v) σA1 → MemR Φ Γ1 (j.memo m v) st1 → Pers m (j.memo m v) →
            (∀ k w,getT (j.slots (fun k=>stays h b k&&memN k keep) σ v) k=some w→(stays h b k&&memN k keep)=true∨∃ t,(k,t)∈j.keep) →
            (∀ k,(stays h b k&&memN k keep)=true→getS σA1 k=getS σA k) →
            loopTn (fun v=>DT P E h ET H b (j.V⊕X) (j.slots (fun k=>stays h b k&&memN k keep) σ v) (j.memo m v) (fun e σ' m'=>match e with
              | .normal=>(j.enter m σ' m').map .inl
              | e=>(K e σ' m').map .inr)) n v=some x →
            ∃ e σ' m' σA' st' Γ',K e σ' m'=some x∧SlotR Γ' σ' σA'∧MemR Φ Γ' m' st'∧Pers m m'∧(∀ k,(stays h b k&&memN k keep)=true→getS σA' k=getS σA k) ∧
              ∀ (R:Type) (KA:AExit→Slots→Store→Option R),loopA (fun live st'=>D P E h b (Live R) (plugK keep 0 live) st' (fun e σ'' st''=>match e with
                | .normal=>some (.inl (pickK keep σ'',st''))
                | e=>(KA e σ'' st'').map .inr)) (pickK keep σA1) st1=KA e σA' st':=by
          intro n
          induction n with
          | zero=>intro v σA1 st1 Γ1 _ _ _ _ _ hx; cases hx
          | succ n ihn =>
            intro v σA1 st1 Γ1 r1 r2 r3 r4 r5 hx
            simp only[loopTn,Option.bind_eq_some_iff] at hx
            obtain ⟨y,hy,hx⟩:=hx
            have hpl:∀ k,memN k keep=true→getS (plugK keep 0 (pickK keep σA1)) k=getS σA1 k:=fun k hk=>getS_plug hk (fun i=>by rw[Nat.zero_add])
            have r1':SlotR Γ1 (j.slots (fun k=>stays h b k&&memN k keep) σ v) (plugK keep 0 (pickK keep σA1)):=by
              intro k w hw
              have hkk:memN k keep=true:=by
                rcases r4 k w hw with h1 | ⟨t,h1⟩
                · rw[Bool.and_eq_true] at h1; exact h1.2
                · rw[List.all_eq_true] at hall; exact hall _ h1
              rw[hpl k hkk]
              exact r1 k w hw
            obtain ⟨e,σ2,m2,σA2,st2,Γ2,g1,g2,g3,g4,g5,g6⟩:=ih r1' r2 hy
            have hsame:∀ k,(stays h b k&&memN k keep)=true→getS σA2 k=getS σA k:=by
              intro k hk
              have hk':=hk
              rw[Bool.and_eq_true] at hk
              rw[g5 k hk.1,hpl k hk.2,r5 k hk']
            cases e with
            | normal =>
              simp only[Option.map_eq_some_iff] at g1
              obtain ⟨v',hv',rfl⟩:=g1
              simp only[joinS] at hx
              obtain ⟨Γ3,s1,s2,s3,s4⟩:=enter_ok (p:=fun k=>stays h b k&&memN k keep) g2 g3 (r3.trans g4) hs hsame hv'
              obtain ⟨e,σ4,m4,σA4,st4,Γ4,t1,t2,t3,t4,t5,t6⟩:=ihn v' σA2 st2 Γ3 s1 s2 s3 s4 hsame hx
              refine ⟨e,σ4,m4,σA4,st4,Γ4,t1,t2,t3,t4,t5,fun R KA => ?_⟩
              rw[loopA_inl (l':=pickK keep σA2) (st':=st2)]
              · exact t6 R KA
              · rw[g6]
            | exit i =>
              simp only[Option.map_eq_some_iff] at g1
              obtain ⟨z,hz,rfl⟩:=g1
              simp only[joinS] at hx
              cases hx
              refine ⟨.exit i,σ2,m2,σA2,st2,Γ2,hz,g2,g3,r3.trans g4,hsame,fun R KA => ?_⟩
              rw[loopA_eq,g6]
              simp only
              cases KA (.exit i) σA2 st2<;>rfl
            | ret =>
              simp only[Option.map_eq_some_iff] at g1
              obtain ⟨z,hz,rfl⟩:=g1
              simp only[joinS] at hx
              cases hx
              refine ⟨.ret,σ2,m2,σA2,st2,Γ2,hz,g2,g3,r3.trans g4,hsame,fun R KA => ?_⟩
              rw[loopA_eq,g6]
              simp only
              cases KA .ret σA2 st2<;>rfl
        obtain ⟨e,σ4,m4,σA4,st4,Γ4,t1,t2,t3,t4,t5,t6⟩:=main n v0 σA st Γ1 q1 q2 q3 q4 (fun _ _=>rfl) hx
        refine ⟨e,σ4,m4,σA4,st4,Γ4,t1,t2,t3,t4,fun k hk' => ?_,fun R KA => ?_⟩
        · simp only[stays,hk] at hk'
          exact t5 k hk'
        · simp only[D,hk]
          exact t6 R KA
    · cases hx
  | .exit id,X,K,x,σ,m,σA,st,Γ,hs,hm,hx=>⟨.exit id,σ,m,σA,st,Γ,hx,hs,hm,.refl m,fun _ _=>rfl,fun _ _=>rfl⟩
  | .ret,X,K,x,σ,m,σA,st,Γ,hs,hm,hx=>⟨.ret,σ,m,σA,st,Γ,hx,hs,hm,.refl m,fun _ _=>rfl,fun _ _=>rfl⟩
  | .rangeFunc ..,X,K,x,σ,m,σA,st,Γ,hs,hm,hx=>by simp[DT] at hx
  | .scope ..,X,K,x,σ,m,σA,st,Γ,hs,hm,hx=>by simp[DT] at hx
  | .label ..,X,K,x,σ,m,σA,st,Γ,hs,hm,hx=>by simp[DT] at hx
  | .goto ..,X,K,x,σ,m,σA,st,Γ,hs,hm,hx=>by simp[DT] at hx
  | .refuse ..,X,K,x,σ,m,σA,st,Γ,hs,hm,hx=>by simp[DT] at hx
theorem paramS_R {Γ:Ctx}:∀ {t:Ty}{v:t.V}{as:List AVal}{n k:Nat},rowV t=true→R Γ t v false as→as.length=rowLen t∧(∀ w,getT (paramS t v n) k=some w→w.t.isV=true∧n≤k∧R Γ w.t w.v false [getL as (k-n)]∧k<n+rowLen t)
  | .cons t ts,v,as,n,k,hv,hr=>by
    simp only[rowV,Bool.and_eq_true] at hv
    simp only[R] at hr
    obtain ⟨l1,l2,rfl,h1,h2⟩:=hr
    obtain ⟨a,rfl⟩:=R_one hv.1 h1
    obtain ⟨g1,g2⟩:=paramS_R (n:=n+1) (k:=k) hv.2 h2
    refine ⟨by simp[rowLen,g1],fun w hw => ?_⟩
    simp only[paramS,getT] at hw
    cases hk:Nat.beq n k with
    | true =>
      rw[hk,cond_true] at hw
      rw[Nat.beq_eq] at hk
      subst hk
      cases hw
      exact ⟨hv.1,Nat.le_refl _,by rw[Nat.sub_self]; exact h1,by simp[rowLen]⟩
    | false =>
      rw[hk,cond_false] at hw
      obtain ⟨k1,k2,k3,k4⟩:=g2 w hw
      refine ⟨k1,by omega,?_,by simp[rowLen]; omega⟩
      rw[show k-n=(k-(n+1))+1 by omega]
      exact k3
  | .unit,v,as,n,k,hv,hr=>by
    simp only[R] at hr; subst hr
    exact ⟨rfl,fun w hw=>by cases hw⟩
  | .int _,_,_,_,_,hv,_=>by cases hv
  | .bool,_,_,_,_,hv,_=>by cases hv
  | .str,_,_,_,_,hv,_=>by cases hv
  | .sl _,_,_,_,_,hv,_=>by cases hv
  | .agg _,_,_,_,_,hv,_=>by cases hv
  | .arr _ _,_,_,_,_,hv,_=>by cases hv
  | .tup _,_,_,_,_,hv,_=>by cases hv
  | .nilsl,_,_,_,_,hv,_=>by cases hv
  | .nilp,_,_,_,_,hv,_=>by cases hv
  | .fn f,_,_,_,_,hv,_=>by cases hv
  | .err,_,_,_,_,hv,_=>by cases hv
  | .undef,_,_,_,_,hv,_=>by cases hv
  | .any,_,_,_,_,hv,_=>by cases hv
  | .own _,_,_,_,_,hv,_=>by cases hv
  | .it _,_,_,_,_,hv,_=>by cases hv
  | .mp _,_,_,_,_,hv,_=>by cases hv
  | .bx _ _,_,_,_,_,hv,_=>by cases hv
  | .op _,_,_,_,_,hv,_=>by cases hv
  | .ptr _ _,_,_,_,_,hv,_=>by cases hv
  | .ba _ _ _ _,_,_,_,_,hv,_=>by cases hv
  | .vw _,_,_,_,_,hv,_=>by cases hv
  | .rp _ _,_,_,_,_,hv,_=>by cases hv
  | .orp _ _,_,_,_,_,hv,_=>by cases hv
  | .cl _ _,_,_,_,_,hv,_=>by cases hv
theorem plug_range:∀ (n j:Nat) (as:List AVal) (k:Nat),j≤k→k<j+n→getS (plugK (List.range' j n) j as) k=getL as k
  | 0,j,as,k,h1,h2=>by omega
  | n+1,j,as,k,h1,h2=>by
    simp only[List.range'_succ,plugK,getS]
    cases hk:Nat.beq j k with
    | true=>rw[Nat.beq_eq] at hk; subst hk; rfl
    | false =>
      have:j≠k:=fun e=>by subst e; simp at hk
      simp only[cond_false]
      exact plug_range n (j+1) as k (by omega) (by omega)
theorem resT_R (hs:SlotR Γ σ σA) (hm:MemR Φ Γ m st):∀ {rs:List ResultVar}{l:List TV},resT P σ m rs=some l→∃ as,resL P σA st rs=some as∧ValsR Γ l as
  | [],l,h=>by simp only[resT] at h; cases h; exact ⟨[],rfl,trivial⟩
  | .tmp t::rs,l,h=>by
    simp only[resT,Option.bind_eq_some_iff,Option.map_eq_some_iff] at h
    obtain ⟨w,hw,ws,hws,rfl⟩:=h
    obtain ⟨as,h1,h2⟩:=resT_R hs hm hws
    exact ⟨_::as,by simp only[resL,h1,Option.map_some],hs t w hw,h2⟩
  | .cell a t::rs,l,h=>by
    simp only[resT,Option.bind_eq_some_iff] at h
    obtain ⟨w,hw,h⟩:=h
    split at h
    · rename_i x m' k hl
      rw[Option.map_eq_some_iff] at h
      obtain ⟨ws,hws,rfl⟩:=h
      obtain ⟨as,h1,h2⟩:=resT_R hs hm hws
      obtain ⟨g1,g2⟩:=hs a w hw
      have:=loadT_ok (P:=P) hm (t:=t) g1 g2 (TV×Unit) (fun w m' k=>some (w,())) (x,()) (by rw[hl]; rfl)
      obtain ⟨w',av,e1,e2,e3,e4⟩:=this
      cases e1
      exact ⟨av::as,by simp only[resL,e2,Option.bind_some,h1,Option.map_some],⟨e3,e4⟩,h2⟩
    · cases h
theorem endT_R (hs : SlotR Γ σ σA) (hm : MemR Φ Γ m st) {rs : List ResultVar} {res : Ty} {r : res.V} (hc : res.closed = true) (hv : res.isV = true) (h : endT P σ m rs res = some r) :
    ∃ a b,resV P σA st rs=some a∧packV st a=some b∧R Γ0 res r false [b]:=by
  unfold endT at h
  rw[Option.bind_eq_some_iff] at h
  obtain ⟨l,hl,h⟩:=h
  obtain ⟨as,h1,h2⟩:=resT_R (P:=P) hs hm hl
  have packOne:∀ {a:AVal}{l':List AVal},packL st [a]=some l'→∃ b,packV st a=some b∧l'=[b]:=by
    intro a l' hp
    simp only[packL,Option.bind_eq_some_iff,Option.map_eq_some_iff] at hp
    obtain ⟨x,hx,y,hy,rfl⟩:=hp
    cases hy
    exact ⟨x,hx,rfl⟩
  split at h
  · rename_i w
    match as,h2 with
    | [a],h2 =>
      obtain ⟨l',g1,g2⟩:=closeTo_R hm hc h h2.1.2
      obtain ⟨b,hb,rfl⟩:=packOne g1
      refine ⟨a,b,?_,hb,g2⟩
      unfold resV
      split
      · rename_i t
        simp only[resL,Option.map_some] at h1
        cases h1; rfl
      · rw[h1]; rfl
  · rename_i u hne
    have hcu:u.closed=true:=hc
    obtain ⟨l',g1,g2⟩:=closeL_R hm hcu h h2
    refine ⟨.tup as,.tup l',?_,by simp only[packV,g1,Option.map_some],⟨l',rfl,g2⟩⟩
    have hlen:=All2_len h2
    unfold resV
    split
    · rename_i t
      simp only[resL,Option.map_some] at h1
      cases h1
      match l,hlen with
      | [w],_=>exact absurd rfl (hne w)
    · rw[h1]
      match as,hlen with
      | [],_=>rfl
      | [a],hlen =>
        match l,hlen with
        | [w],_=>exact absurd rfl (hne w)
      | _::_::_,_=>rfl
  · cases h
theorem runY_ok (hE:EnvT E ET) {fn:Func}{ps res:Ty}{fnT:ps.V→Option res.V} (hrun:runY P E h ET H fn ps res=fnT) (hw:(ps.closed&&res.closed&&res.isV)=true):TOk (closeF (runF P E h fn)) ⟨ps,res,fnT⟩:=by
  simp only[Bool.and_eq_true] at hw
  refine ⟨hw.1.1,hw.1.2,hw.2,fun v r as hr hps => ?_⟩
  simp only at hr hps
  rw[← hrun] at hr
  unfold runY at hr
  cases hc:(Nat.beq (rowLen ps) (fn.params.size+fn.nfree)&&rowV ps&&ps.closed&&res.closed&&res.isV&&dstsIn fn.ntmps (fn.body.getD .skip)&&Nat.ble (fn.params.size+fn.nfree) fn.ntmps) with
  | false=>rw[hc] at hr; cases hr
  | true =>
    rw[hc,cond_true] at hr
    simp only[Bool.and_eq_true,Nat.beq_eq] at hc
    obtain ⟨⟨⟨⟨⟨⟨c1,c2⟩,c3⟩,c4⟩,c5⟩,c6⟩,c7⟩:=hc
    split at hr
    · rename_i c hb
      have hlen:=(paramS_R (n:=0) (k:=0) c2 hps).1
      have hslot:SlotR Γ0 (paramS ps v 0) (plugK (List.range (fn.params.size+fn.nfree)) 0 as):=by
        intro k w hw
        obtain ⟨g1,g2,g3,g4⟩:=(paramS_R (n:=0) (k:=k) c2 hps).2 w hw
        refine ⟨g1,?_⟩
        rw[List.range_eq_range',plug_range _ _ _ _ (by omega) (by omega)]
        rw[Nat.sub_zero] at g3
        exact g3
      have hmem:MemR (fun _=>none) Γ0 [] []:=⟨(fun id hid=>by simp at hid),(fun _ _=>rfl),(fun i j r n l n' l' h=>by cases h),(fun i r n l h=>by cases h),(fun r g h=>by cases h),(fun r g i n l h=>by cases h)⟩
      obtain ⟨e,σ1,m1,σA1,st1,Γ1,g1,g2,g3,g4,g5,g6⟩:=DT_ok hE c hslot hmem hr
      have hend:endT P σ1 m1 fn.results.toList res=some r∧(e = .normal∨e = .ret):=by
        cases e with
        | normal=>exact ⟨g1,.inl rfl⟩
        | ret=>exact ⟨g1,.inr rfl⟩
        | exit i=>cases g1
      obtain ⟨a,b,k1,k2,k3⟩:=endT_R g2 g3 c4 c5 hend.1
      refine ⟨b,?_,k3⟩
      have hrf:runF P E h fn as []=some (a,st1):=by
        unfold runF
        have:Nat.beq as.length (fn.params.size+fn.nfree)=true:=by rw[Nat.beq_eq]; omega
        rw[hb] at c6
        simp only[Option.getD_some] at c6
        rw[this,hb]
        simp only[cond_true,Option.getD_some,c6,c7,Bool.and_self]
        rw[g6]
        rcases hend.2 with rfl | rfl<;>simp only[k1,Option.map_some]
      simp only[closeF,hrf,Option.bind_some,k2]
    · cases hr
end
end Go.TY
set_option linter.unusedVariables false
set_option linter.unusedSimpArgs false
namespace Go.TY
open Go.EM
section
variable {Φ:Frame}{Γ:Ctx}{m m0:Mem}{st:Store}{P:Program}{E:Env}{ET:TEnv}{h:Hints}{H:TH}{σ:TS}{σA:Slots}
theorem backV_R {l:List TV}{as:List AVal}{res:Ty}{r:res.V}{rs:List ResultVar} (hb:backV l res=some r) (hr:ValsR Γ l as) (hl:resL P σA st rs=some as):∃ a,resV P σA st rs=some a∧R Γ res r false [a]:=by
  unfold backV at hb
  split at hb
  · rename_i w
    match as,hr with
    | [a],hr =>
      refine ⟨a,?_,coerceN_R hb hr.1.2⟩
      unfold resV
      split
      · rename_i t
        simp only[resL,Option.map_some] at hl
        cases hl; rfl
      · rw[hl]; rfl
  · rename_i u hne
    have g2:=coerceL_R hb hr
    refine ⟨.tup as,?_,⟨as,rfl,g2⟩⟩
    have hlen:=All2_len hr
    unfold resV
    split
    · rename_i t
      simp only[resL,Option.map_some] at hl
      cases hl
      match l,hlen with
      | [w],_=>exact absurd rfl (hne w)
    · rw[hl]
      match as,hlen with
      | [],_=>rfl
      | [a],hlen =>
        match l,hlen with
        | [w],_=>exact absurd rfl (hne w)
      | _::_::_,_=>rfl
  · cases hb
theorem ptyAt_R:∀ {t:Ty}{v:t.V}{n k i:Nat},ptyAt t k=some (.bx i 0)→∃ w,getT (paramS t v n) (n+k)=some ⟨.bx i 0,w⟩
  | .cons t ts,v,n,0,i,h=>by
    simp only[ptyAt,Option.some.injEq] at h
    subst h
    exact ⟨v.1,by simp[paramS,getT]⟩
  | .cons t ts,v,n,k+1,i,h=>by
    simp only[ptyAt] at h
    obtain ⟨w,hw⟩:=ptyAt_R (v:=v.2) (n:=n+1) h
    refine ⟨w,?_⟩
    simp only[paramS,getT]
    have:Nat.beq n (n+(k+1))=false:=by
      cases hb:Nat.beq n (n+(k+1)) with
      | false=>rfl
      | true=>rw[Nat.beq_eq] at hb; omega
    rw[this,cond_false,show n+(k+1)=n+1+k by omega]
    exact hw
  | .unit,v,n,k,i,h=>by cases h
  | .int _,_,_,_,_,h=>by cases h
  | .bool,_,_,_,_,h=>by cases h
  | .str,_,_,_,_,h=>by cases h
  | .sl _,_,_,_,_,h=>by cases h
  | .agg _,_,_,_,_,h=>by cases h
  | .arr _ _,_,_,_,_,h=>by cases h
  | .tup _,_,_,_,_,h=>by cases h
  | .nilsl,_,_,_,_,h=>by cases h
  | .nilp,_,_,_,_,h=>by cases h
  | .fn f,_,_,_,_,h=>by cases h
  | .err,_,_,_,_,h=>by cases h
  | .undef,_,_,_,_,h=>by cases h
  | .any,_,_,_,_,h=>by cases h
  | .own _,_,_,_,_,h=>by cases h
  | .it _,_,_,_,_,h=>by cases h
  | .mp _,_,_,_,_,h=>by cases h
  | .bx _ _,_,_,_,_,h=>by cases h
  | .op _,_,_,_,_,h=>by cases h
  | .ptr _ _,_,_,_,_,h=>by cases h
  | .ba _ _ _ _,_,_,_,_,h=>by cases h
  | .vw _,_,_,_,_,h=>by cases h
  | .rp _ _,_,_,_,_,h=>by cases h
  | .orp _ _,_,_,_,_,h=>by cases h
  | .cl _ _,_,_,_,_,h=>by cases h
theorem bsOk_at {c:Code}{ps:Ty}:∀ {bs:List (Nat×Nat)},bsOk h c ps bs=true→∀ {k j:Nat},(k,j)∈bs→stays h c k=true∧ptyAt ps k=some (.bx j 0)
  | [],_,k,j,hm=>by cases hm
  | (k',j')::bs,hb,k,j,hm=>by
    simp only[bsOk,Bool.and_eq_true] at hb
    obtain ⟨⟨h1,h2⟩,h3⟩:=hb
    rcases List.mem_cons.1 hm with e | e
    · cases e
      refine ⟨h1,?_⟩
      split at h2
      · rename_i i o hp
        rw[Bool.and_eq_true,Nat.beq_eq,Nat.beq_eq] at h2
        rw[hp,h2.1,h2.2]
      · cases h2
    · exact bsOk_at h3 e
theorem hasBox_at:∀ {bs:List (Nat×Nat)}{j:Nat},hasBox bs j=true→∃ k,(k,j)∈bs
  | [],j,hb=>by cases hb
  | (k,i)::bs,j,hb=>by
    simp only[hasBox,Bool.or_eq_true,Nat.beq_eq] at hb
    rcases hb with e | e
    · subst e; exact ⟨k,List.mem_cons_self ..⟩
    · obtain ⟨k',hk⟩:=hasBox_at e; exact ⟨k',List.mem_cons_of_mem _ hk⟩
theorem boxesT_at:∀ {bs:List (Nat×Nat)},boxesT σ bs=true→∀ {k j:Nat},(k,j)∈bs→∃ w,getT σ k=some ⟨.bx j 0,w⟩
  | [],_,k,j,hm=>by cases hm
  | (k',j')::bs,hb,k,j,hm=>by
    simp only[boxesT,Bool.and_eq_true] at hb
    obtain ⟨h2,h3⟩:=hb
    rcases List.mem_cons.1 hm with e | e
    · cases e
      unfold pointsT at h2
      split at h2
      · rename_i w hw
        split at h2
        · rename_i i o ht
          rw[Bool.and_eq_true,Nat.beq_eq,Nat.beq_eq] at h2
          obtain ⟨t,v⟩:=w
          simp only at ht
          subst ht
          rw[h2.1,h2.2] at hw
          exact ⟨v,hw⟩
        · cases h2
      · cases h2
    · exact boxesT_at h3 e
theorem boxesIn_at {bs:List (Nat×Nat)}{m0 m1:Mem}:∀ {rs os:List RS}{v:jpM rs}{w:jpM os}{j a b:Nat},boxesIn bs rs os j=true→∀ i,boxAt rs i=true→hasBox bs (j+i)=true∧∃ e t x e' t' x',getM (leaveM m0 rs v a) i = .box e t x∧getM (leaveM m1 os w b) i = .box e' t' x'∧t.size=t'.size
  | [],_,v,w,j,a,b,hb,i,hi=>by cases hi
  | .box e t::rs,.box e' u::os,v,w,j,a,b,hb,0,hi=>by
    simp only[boxesIn,Bool.and_eq_true,Nat.beq_eq] at hb
    exact ⟨hb.1.2,e,t,v.1,e',u,w.1,rfl,rfl,hb.1.1⟩
  | .box e t::rs,.same::os,v,w,j,a,b,hb,0,hi=>by simp[boxesIn] at hb
  | .box e t::rs,.iter::os,v,w,j,a,b,hb,0,hi=>by simp[boxesIn] at hb
  | .box e t::rs,.map _ _::os,v,w,j,a,b,hb,0,hi=>by simp[boxesIn] at hb
  | .box e t::rs,.gone::os,v,w,j,a,b,hb,0,hi=>by simp[boxesIn] at hb
  | .box e t::rs,.row _ _ _::os,v,w,j,a,b,hb,0,hi=>by simp[boxesIn] at hb
  | .same::rs,os,v,w,j,a,b,hb,0,hi=>by cases hi
  | .iter::rs,os,v,w,j,a,b,hb,0,hi=>by cases hi
  | .map _ _::rs,os,v,w,j,a,b,hb,0,hi=>by cases hi
  | .gone::rs,os,v,w,j,a,b,hb,0,hi=>by cases hi
  | .row _ _ _::rs,os,v,w,j,a,b,hb,0,hi=>by cases hi
  | g::rs,[],v,w,j,a,b,hb,i+1,hi=>by cases g<;>simp[boxesIn] at hb
  | g::rs,g'::os,v,w,j,a,b,hb,i+1,hi=>by
    have e:j+(i+1)=j+1+i:=by omega
    rw[e]
    have hb':boxesIn bs rs os (j+1)=true:=by
      cases g<;>simp only[boxesIn,Bool.and_eq_true] at hb<;>first | exact hb | exact hb.2
    have hi':boxAt rs i=true:=by cases g<;>exact hi
    cases g<;>cases g'<;>(simp only[leaveM,getM]; exact boxesIn_at hb' i hi')
theorem rawY_ok (hE:EnvT E ET) {bs:List (Nat×Nat)}{fn:Func}{ps res:Ty}{ins outs:List RS}{fnT:ps.V→jpM ins→Option (res.V×jpM outs)} (hrun:rawY P E h ET H bs fn ps ins res outs=fnT):TRawOk (runF P E h fn) ⟨ps,ins,res,outs,fnT,false⟩:=by
  refine TRawOk.ofBox rfl fun Φ Γ st pv v as r w hmem hps hr => ?_
  simp only at hr hps hmem
  rw[← hrun] at hr
  unfold rawY at hr
  cases hc:(Nat.beq (rowLen ps) (fn.params.size+fn.nfree)&&rowV ps&&(res.free||res.lows ins.length)&&res.isV&&insOk ins&&rawOk ins.length ins&&rawOk ins.length outs&&Nat.beq outs.length ins.length&&dstsIn fn.ntmps (fn.body.getD .skip)&&Nat.ble (fn.params.size+fn.nfree) fn.ntmps) with
  | false=>rw[hc] at hr; cases hr
  | true =>
    rw[hc,cond_true] at hr
    simp only[Bool.and_eq_true,Nat.beq_eq] at hc
    obtain ⟨⟨⟨⟨⟨⟨⟨⟨⟨c1,c2⟩,c3⟩,c4⟩,c5⟩,c6⟩,c7⟩,c8⟩,c9⟩,c10⟩:=hc
    split at hr
    · rename_i c hb
      cases hd:(bsOk h c ps bs&&boxesIn bs ins outs 0) with
      | false=>rw[hd] at hr; cases hr
      | true =>
        rw[hd,cond_true] at hr
        rw[Bool.and_eq_true] at hd
        obtain ⟨d1,d2⟩:=hd
        have hlen:=(paramS_R (n:=0) (k:=0) c2 hps).1
        have hslot:SlotR Γ (paramS ps pv 0) (plugK (List.range (fn.params.size+fn.nfree)) 0 as):=by
          intro k w hw
          obtain ⟨g1,g2,g3,g4⟩:=(paramS_R (n:=0) (k:=k) c2 hps).2 w hw
          refine ⟨g1,?_⟩
          rw[List.range_eq_range',plug_range _ _ _ _ (by omega) (by omega)]
          rw[Nat.sub_zero] at g3
          exact g3
        obtain ⟨e,σ1,m1,σA1,st1,Γ1,g1,g2,g3,g4,g5,g6⟩:=DT_ok hE c hslot hmem hr
        have hend:endRaw P bs σ1 m1 fn.results.toList res outs=some (r,w)∧(e = .normal∨e = .ret):=by
          cases e with
          | normal=>exact ⟨g1,.inl rfl⟩
          | ret=>exact ⟨g1,.inr rfl⟩
          | exit i=>cases g1
        obtain ⟨he,hee⟩:=hend
        unfold endRaw at he
        cases hbt:boxesT σ1 bs with
        | false=>rw[hbt] at he; cases he
        | true =>
          rw[hbt,cond_true] at he
          simp only[Option.bind_eq_some_iff,Option.map_eq_some_iff] at he
          obtain ⟨l,hl,r',hr',w',hw',hrw⟩:=he
          cases hrw
          obtain ⟨as',q1,q2⟩:=resT_R (P:=P) g2 g3 hl
          obtain ⟨a,q3,q4⟩:=backV_R hr' q2 q1
          have hregs:=enterM_ok g3 (.refl m1) (l:=[]) (n:=ins.length) (rs:=outs) (j:=0) (by omega) (rawOk_below c7) hw'
          have hregs:∀ i,i<ins.length→RegR (anew Γ1 [] m1.length ins.length) st1 i (getM (leaveM [] outs w 0) i):=fun i hi=>by
            have:=hregs i (by omega)
            rw[Nat.zero_add] at this
            rw[leaveM_raw (m1:=m1) c7]; exact this
          have hmv:=anew_moved (l:=[]) (n:=ins.length) g3
          have hle:ins.length≤m1.length:=by
            have:=g4.len
            rw[leaveM_len] at this
            exact this
          have hat:∀ j,j<ins.length→anew Γ1 [] m1.length ins.length j=Γ1 j:=fun j hj=>by
            have e:muF [] j=j:=rfl
            unfold anew
            rw[if_pos hj,e,if_neg (by omega)]
          have hno:∀ j,¬ j<ins.length→anew Γ1 [] m1.length ins.length j=none:=fun j hj=>by
            unfold anew
            rw[if_neg hj]
          have hΓ:∀ j y,anew Γ1 [] m1.length ins.length j=some y→j<ins.length∧Γ1 j=some y:=fun j y hy=>by
            by_cases hj:j<ins.length
            · exact ⟨hj,by rw[← hat j hj]; exact hy⟩
            · rw[hno j hj] at hy; cases hy
          refine ⟨a,st1,anew Γ1 [] m1.length ins.length,?_,?_,⟨?_,?_,?_,?_,g3.old,?_⟩,?_⟩
          · unfold runF
            have:Nat.beq as.length (fn.params.size+fn.nfree)=true:=by rw[Nat.beq_eq]; omega
            rw[hb] at c9
            simp only[Option.getD_some] at c9
            rw[this,hb]
            simp only[cond_true,Option.getD_some,c9,c10,Bool.and_self]
            rw[g6]
            rcases hee with rfl | rfl<;>simp only[q3,Option.map_some]
          · cases hf:res.free with
            | true=>exact free_R hf q4
            | false =>
              rw[hf,Bool.false_or] at c3
              exact R_ext (fun j y hj hy=>by rw[hat j (lows_lt c3 hj)]; exact hy) q4
          · intro id hid
            rw[leaveM_len] at hid
            exact hregs id (by rw[← c8]; exact hid)
          · intro id hid
            rw[leaveM_len] at hid
            exact hno id (by rw[← c8]; exact Nat.not_lt.2 hid)
          · intro i j r n l n' l' hi hj
            exact g3.inj _ _ _ _ _ _ _ (hΓ _ _ hi).2 (hΓ _ _ hj).2
          · intro i r n l hi
            exact g3.lt _ _ _ _ (hΓ _ _ hi).2
          · intro r g i n l hg hi
            exact g3.dis _ _ _ _ _ hg (hΓ _ _ hi).2
          · intro j y hbx hy
            obtain ⟨b1,e1,t1,x1,e2,t2,x2,b2,b3,b4⟩:=boxesIn_at (m0:=[]) (m1:=[]) (v:=v) (w:=w) (a:=0) (b:=0) d2 j hbx
            rw[Nat.zero_add] at b1
            obtain ⟨k,hk⟩:=hasBox_at b1
            obtain ⟨s1,s2⟩:=bsOk_at d1 hk
            obtain ⟨u1,hu1⟩:=ptyAt_R (v:=pv) (n:=0) s2
            rw[Nat.zero_add] at hu1
            obtain ⟨u2,hu2⟩:=boxesT_at hbt hk
            have f1:=(hslot k _ hu1).2
            have f2:=(g2 k _ hu2).2
            rw[g5 k s1] at f2
            simp only[R] at f1 f2
            obtain ⟨r1,n1,f3,f4⟩:=f1
            obtain ⟨r2,n2,f5,f6⟩:=f2
            rw[f4] at f6
            cases f6
            have h1:=hmem.at j
            rw[b2] at h1
            obtain ⟨_,_,_,r3,_,h2,_⟩:=h1
            have hj:j<ins.length:=by
              rcases Nat.lt_or_ge j ins.length with h' | h'
              · exact h'
              · have:=hmem.out j (by rw[leaveM_len]; exact h')
                rw[this] at f3; cases f3
            have h3:=hregs j hj
            rw[b3] at h3
            obtain ⟨_,_,_,r4,_,h4,_⟩:=h3
            rw[hat j hj] at h4 ⊢
            rw[f3] at hy h2
            rw[f5] at h4
            rw[f5,← hy]
            cases h2
            cases h4
            rw[b4]
    · cases hr
end
end Go.TY
set_option linter.unusedVariables false
set_option linter.unusedSimpArgs false
namespace Go.TY
open Go.EM
section
variable {P:Program}{E:Env}{ET:TEnv}{h:Hints}{H:TH}
end
end Go.TY
set_option linter.unusedVariables false
set_option linter.unusedSimpArgs false
namespace Go.TY
open Go.EM
def PairsOk (l:List (Nat×PFn)) (lt:List (Nat×TFn)):Prop:=∀ f tf,lookN lt f=some tf→∃ F,lookN l f=some F∧TOk F tf
theorem pairs_nil {l:List (Nat×PFn)}:PairsOk l []:=fun f tf h=>by cases h
theorem pairs_cons {l:List (Nat×PFn)}{lt:List (Nat×TFn)}{k:Nat}{F:PFn}{tf:TFn} (h:TOk F tf) (hl:PairsOk l lt):PairsOk ((k,F)::l) ((k,tf)::lt):=fun f tf' hf=>by
  simp only[lookN] at hf ⊢
  cases hk:Nat.beq k f with
  | true=>rw[hk,cond_true] at hf; cases hf; exact ⟨F,rfl,h⟩
  | false=>rw[hk,cond_false] at hf; exact hl f tf' hf
def LooksOk (pl l:List (Nat×PFn)) (lt:List (Nat×TFn)):Prop:=∀ f tf,lookN lt f=some tf→lookN pl f=none∧∃ F,lookN l f=some F∧TOk F tf
theorem looks_nil {pl l:List (Nat×PFn)}:LooksOk pl l []:=fun f tf h=>by cases h
def GlobsOk (l:List (Nat×AVal)) (lt:List (Nat×TV)):Prop:=∀ g w,lookN lt g=some w→w.t.isV=true∧w.t.still=true∧R Γ0 w.t w.v false [(lookN l g).getD .any]
theorem globs_nil {l:List (Nat×AVal)}:GlobsOk l []:=fun f tf h=>by cases h
def RawsOk (pl ll:List (Nat×PFn)) (l:List (Nat×SFn)) (lt:List (Nat×TRaw)):Prop:=∀ f tr,lookN lt f=some tr→lookN pl f=none∧lookN ll f=none∧∃ F,lookN l f=some F∧TRawOk F tr
theorem raws_nil {pl ll:List (Nat×PFn)}{l:List (Nat×SFn)}:RawsOk pl ll l []:=fun f tr h=>by cases h
theorem raws_cons {pl ll:List (Nat×PFn)}{l:List (Nat×SFn)}{lt:List (Nat×TRaw)}{k:Nat}{F:SFn}{tr:TRaw} (h:TRawOk F tr) (h1:lookN pl k=none) (h2:lookN ll k=none) (hl:RawsOk pl ll l lt):RawsOk pl ll ((k,F)::l) ((k,tr)::lt):=fun f tr' hf=>by
  simp only[lookN] at hf ⊢
  cases e:Nat.beq k f with
  | true =>
    rw[e,cond_true] at hf
    cases hf
    rw[← Nat.eq_of_beq_eq_true e]
    exact ⟨h1,h2,F,rfl,h⟩
  | false =>
    rw[e,cond_false] at hf
    exact hl f tr' hf
def PureOk (E:Env) (lt:List (Nat×TFn)):Prop:=∀ f tf,lookN lt f=some tf→∃ F,(lookN E.pure f=some F∨lookN E.pure f=none∧memN f E.same=false∧lookN E.ext f=some F)∧TOk F tf
theorem pure_of {E:Env}{lt:List (Nat×TFn)} (h:PairsOk E.pure lt):PureOk E lt:=fun f tf hf=>by
  obtain ⟨F,h1,h2⟩:=h f tf hf
  exact ⟨F,.inl h1,h2⟩
def NewsOk (pl ll:List (Nat×PFn)) (l:List (Nat×SFn)) (lt:List (Nat×TNew)):Prop:=∀ f tr,lookN lt f=some tr→lookN pl f=none∧lookN ll f=none∧∃ F,lookN l f=some F∧TNewOk F tr
theorem news_nil {pl ll:List (Nat×PFn)}{l:List (Nat×SFn)}:NewsOk pl ll l []:=fun f tr h=>by cases h
def DeepsOk (pl ll:List (Nat×PFn)) (l:List (Nat×SFn)) (lt:List (Nat×TDeep)):Prop:=∀ f tr,lookN lt f=some tr→lookN pl f=none∧lookN ll f=none∧∃ F,lookN l f=some F∧TDeepOk F tr
theorem deeps_nil {pl ll:List (Nat×PFn)}{l:List (Nat×SFn)}:DeepsOk pl ll l []:=fun f tr h=>by cases h
theorem deeps_cons {pl ll:List (Nat×PFn)}{l:List (Nat×SFn)}{lt:List (Nat×TDeep)}{k:Nat}{F:SFn}{tr:TDeep} (h:TDeepOk F tr) (h1:lookN pl k=none) (h2:lookN ll k=none) (h3:lookN l k=some F) (hl:DeepsOk pl ll l lt):DeepsOk pl ll l ((k,tr)::lt):=fun f tr' hf=>by
  simp only[lookN] at hf
  cases e:Nat.beq k f with
  | true =>
    rw[e,cond_true] at hf
    cases hf
    rw[← Nat.eq_of_beq_eq_true e]
    exact ⟨h1,h2,F,h3,h⟩
  | false =>
    rw[e,cond_false] at hf
    exact hl f tr' hf
theorem raws_more {pl ll:List (Nat×PFn)}{l:List (Nat×SFn)}{lt:List (Nat×TRaw)}{k:Nat}{F:SFn} (hl:RawsOk pl ll l lt) (hk:lookN lt k=none):RawsOk pl ll ((k,F)::l) lt:=fun f tr hf=>by
  obtain ⟨h1,h2,F',h3,h4⟩:=hl f tr hf
  refine ⟨h1,h2,F',?_,h4⟩
  simp only[lookN]
  cases e:Nat.beq k f with
  | true =>
    rw[Nat.eq_of_beq_eq_true e,hf] at hk; cases hk
  | false=>exact h3
theorem EnvT.ofX {E:Env}{ET:TEnv} (h1:PureOk E ET.pure) (h2:LooksOk E.pure E.look ET.look) (h4:RawsOk E.pure E.look E.raw ET.raw) (h3:GlobsOk E.glob ET.glob) (h5:NewsOk E.pure E.look E.raw ET.fresh:=by exact news_nil) (h6:QuietOk E:=by exact quietOk_nil rfl) (h7:DeepsOk E.pure E.look E.raw ET.deep:=by exact deeps_nil):EnvT E ET:=⟨h1,h2,h4,h5,h3,h6,h7⟩
theorem EnvT.of {E:Env}{ET:TEnv} (h1:PairsOk E.pure ET.pure) (h2:LooksOk E.pure E.look ET.look) (h3:GlobsOk E.glob ET.glob) (h4:ET.raw=[]:=by rfl) (h5:ET.fresh=[]:=by rfl) (h6:QuietOk E:=by exact quietOk_nil rfl) (h7:ET.deep=[]:=by rfl):EnvT E ET:=⟨pure_of h1,h2,(fun f tr h=>by rw[h4] at h; cases h),(fun f tr h=>by rw[h5] at h; cases h),h3,h6,(fun f tr h=>by rw[h7] at h; cases h)⟩
section
variable {A X:Type}
theorem loopTn_succ {f:A→Option (A⊕X)}:∀ (n:Nat) (a:A) (x:X),loopTn f n a=some x→loopTn f (n+1) a=some x
  | 0,_,_,h=>by cases h
  | n+1,a,x,h=>by
    simp only[loopTn,Option.bind_eq_some_iff] at h ⊢
    obtain ⟨y,hy,h⟩:=h
    refine ⟨y,hy,?_⟩
    cases y with
    | inl b=>exact loopTn_succ n b x h
    | inr z=>exact h
theorem loopTn_le {f:A→Option (A⊕X)}{n m:Nat} (hnm:n≤m) {a:A}{x:X} (h:loopTn f n a=some x):loopTn f m a=some x:=by
  induction hnm with
  | refl=>exact h
  | step _ ih=>exact loopTn_succ _ _ _ ih
theorem loopT_iff {f:A→Option (A⊕X)}{a:A}{x:X}:loopT f a=some x↔∃ n,loopTn f n a=some x:=by
  unfold loopT
  split
  · rename_i h
    obtain ⟨x',hx'⟩:=h.choose_spec
    constructor
    · intro e; exact ⟨_,e⟩
    · rintro ⟨n,hn⟩
      have h1:=loopTn_le (Nat.le_max_left n h.choose) hn
      have h2:=loopTn_le (Nat.le_max_right n h.choose) hx'
      rw[h1] at h2
      rw[hx']; exact h2.symm
  · rename_i h
    constructor
    · intro e; cases e
    · rintro ⟨n,hn⟩; exact absurd ⟨n,x,hn⟩ h
theorem loopT_eq (f:A→Option (A⊕X)) (a:A):loopT f a=(f a).bind (joinS (loopT f)):=by
  apply Option.ext
  intro x
  rw[loopT_iff]
  constructor
  · rintro ⟨n,hn⟩
    cases n with
    | zero=>cases hn
    | succ n =>
      simp only[loopTn,Option.bind_eq_some_iff] at hn ⊢
      obtain ⟨y,hy,h⟩:=hn
      refine ⟨y,hy,?_⟩
      cases y with
      | inl b=>exact loopT_iff.2 ⟨n,h⟩
      | inr z=>exact h
  · intro h
    simp only[Option.bind_eq_some_iff] at h
    obtain ⟨y,hy,h⟩:=h
    cases y with
    | inl b =>
      obtain ⟨n,hn⟩:=loopT_iff.1 h
      exact ⟨n+1,by simp only[loopTn,hy,Option.bind_some]; exact hn⟩
    | inr z=>exact ⟨1,by simp only[loopTn,hy,Option.bind_some]; exact h⟩
theorem loopT_inl {f:A→Option (A⊕X)}{a b:A} (h:f a=some (.inl b)):loopT f a=loopT f b:=by rw[loopT_eq,h]; rfl
theorem loopT_inr {f:A→Option (A⊕X)}{a:A}{x:X} (h:f a=some (.inr x)):loopT f a=some x:=by rw[loopT_eq,h]; rfl
@[simp] theorem joinS_inl {f:A→Option X}{a:A}:joinS f (.inl a)=f a:=rfl
@[simp] theorem joinS_inr {f:A→Option X}{x:X}:joinS f (.inr x)=some x:=rfl
end
@[simp] theorem cond_dec {A:Type}{p:Prop} [Decidable p] {x y:A}:cond (decide p) x y=if p then x else y:=by by_cases h:p<;>simp[h]
@[simp] theorem cond_ndec {A:Type}{p:Prop} [Decidable p] {x y:A}:cond (!decide p) x y=if p then y else x:=by by_cases h:p<;>simp[h]
end Go.TY
set_option linter.unusedVariables false
namespace Go.TY
open Go.EM
end Go.TY
set_option linter.unusedVariables false
set_option linter.unusedSimpArgs false
namespace Go.TY
open Go.EM
def Ty.wf:Ty→Bool
  | .int _=>true
  | .bool=>true
  | .str=>true
  | .unit=>true
  | .sl t=>t.wf&&t.isV
  | .agg t=>t.wf
  | .arr _ t=>t.wf
  | .tup t=>t.wf
  | .cons t ts=>t.isV&&t.wf&&ts.wf
  | _=>false
end Go.TY
set_option linter.unusedVariables false
set_option linter.unusedSimpArgs false
namespace Go.TY
open Go.EM
end Go.TY
set_option linter.unusedVariables false
set_option linter.unusedSimpArgs false
namespace Go.TY
open Go.EM Go.RowKit
abbrev O0:Nat→Prop:=fun _=>False
mutual
def flatD:DataW Unit→Option (List AVal)
  | .lit (.int k z)=>some [.int k z]
  | .lit (.bool b)=>some [.bool b]
  | .lit (.string s)=>some [.str s]
  | .agg ps=>flatDs ps
  | _=>none
def flatDs:List (DataW Unit)→Option (List AVal)
  | []=>some []
  | d::ds=>(flatD d).bind fun a=>(flatDs ds).bind fun b=>some (a++b)
end
def tileF (P:Program):Nat→List Field→Option Nat
  | o,[]=>some o
  | o,f::fs=>if f.offset=o then tileF P (o+P.cellsOf f.type) fs else none
section
variable {P:Program}{w:World}{enc:TypeId×Value→Unit}{base:Nat}{sp:Nat→Bool}{held:Bool}
end
theorem globOk_nil {w:World}:GlobOk [] w O0 []:=fun g v h=>by cases h
section
variable {H:Type}{enc:TypeId×Value→H}{P:Program}
theorem quiet_frozen {w w':World} (h:Quiet w w') {b off:Nat} (hb:b<w.heap.size):w'.frozen? ⟨b,off,none⟩=w.frozen? ⟨b,off,none⟩:=by
  unfold World.frozen?
  simp only[h.old b hb]
theorem quiet_kept {w w':World} (h:Quiet w w') (may:MemPlace→Prop):w.keptBut w' may:=by
  refine ⟨h.os,h.output,?_⟩
  intro i hi
  rw[h.old i hi]
  cases w.heap[i]? with
  | none=>trivial
  | some o=>cases o<;>simp
theorem post_quiet {fn : Func} {s : ChangeSpec} {apart fresh handsOn again : Bool} {W W' : World} {args : Array Value} {v : Value} {ds : List (DataW H)} {before : List MemPlace}
    (hv:s.vars=[]) (hW:DataW.Whole enc P fn.params.toList s.vars apart W args.toList ds [] before)
    (hres:∀ (b:Nat) (sp:Nat→Bool) (hd:Bool),DataW.TrodAll enc P W' b sp hd fn.resultTypes.toList (v.resultList fn.resultTypes.size) (s.fn H ds).results [])
    (hargs:∀ sp:Nat→Bool,(∀ p∈before,sp p.block=true)→DataW.TrodAll enc P W' 0 sp true fn.params.toList args.toList (s.fn H ds).args before)
    (hvars:(s.fn H ds).vars=[]) (hq:Quiet W W')
    (hok:∀ (j:Nat) (t:TypeId) (r:Value),fn.resultTypes[j]? = some t→(v.resultList fn.resultTypes.size)[j]? = some r→Value.okWide P W' .any 0 t r) :
    s.post enc P fn apart fresh handsOn again W args v W':=by
  have lt:=hW.lt
  have hb:∀ p∈before,(fun b=>decide (b<W.heap.size)) p.block=true:=fun p hp=>decide_eq_true (lt p hp)
  have hV:∀ sp:Nat→Bool,DataW.TrodVars enc P W' sp s.vars (s.fn H ds).vars []:=fun sp=>by rw[hv,hvars]; exact rfl
  obtain ⟨p,q,hA,hV0,he,hz,hn⟩:=id hW
  refine ⟨ds,[],before,[],before,[],hW,?_,?_,?_,?_,?_⟩
  · simpa using hres _ _ _
  · simpa using hargs _ hb
  · simpa using hV _
  · exact World.keptBut_mono (fun p hp=>⟨hp,Or.inr (Or.inl hp)⟩) (quiet_kept hq _)
  · intro _
    refine ⟨hok,(s.fn H ds).results++(s.fn H ds).args,[],before,⟨before,[],?_,?_,(List.append_nil _).symm,?_,hn⟩,fun p hp _=>hp⟩
    · have:=ChangeShapes.trodAll_append (hargs _ (fun _ _=>rfl)) (hres 0 (fun _=>true) true)
      simpa using this
    · have:=hV (fun _=>true); rw[hvars] at this; exact this
    · intro b off hp
      have hlt:b<W.heap.size:=lt _ hp
      rw[quiet_frozen hq hlt]
      exact hz b off hp
end
end Go.TY
set_option linter.unusedVariables false
set_option linter.unusedSimpArgs false
namespace Go.TY
open Go.EM Go.RowKit
def tyRow (f:TypeId→Option Ty):List Field→Option Ty
  | []=>some .unit
  | fd::l=>(f fd.type).bind fun t=>(tyRow f l).map fun ts=>.cons t ts
def tyOf (P:Program):Nat→TypeId→Option Ty
  | 0,_=>none
  | n+1,t=>match P.underlying t with
    | some .bool=>some .bool
    | some (.int k)=>some (.int k)
    | some .string=>some .str
    | some (.slice e)=>(tyOf P n e).bind fun u=>cond (Nat.beq u.size (P.cellsOf e) && !(Nat.beq u.size 0)&&u.isV) (some (.sl u)) none
    | some (.struct fs)=>cond (decide (tileF P 0 fs.toList=some (P.cellsOf t))) ((tyRow (tyOf P n) fs.toList).map .agg) none
    | some (.array m e)=>(tyOf P n e).bind fun u=>cond (Nat.beq (m*P.cellsOf e) (P.cellsOf t)) (some (.arr m u)) none
    | _=>none
def tysOf (P:Program) (n:Nat):List TypeId→Option Ty
  | []=>some .unit
  | t::l=>(tyOf P n t).bind fun u=>(tysOf P n l).map fun us=>.cons u us
def okV:(t:Ty)→t.V→Prop
  | .int k,n=>k.min≤n∧n≤k.max
  | .str,s=>s.length≤maxLen
  | .sl t,l=>l.length≤maxLen∧∀ x∈l,okV t x
  | .arr n t,l=>l.length=n∧∀ x∈l,okV t x
  | .agg t,v=>okV t v
  | .cons t ts,v=>okV t v.1∧okV ts v.2
  | _,_=>True
def lenV:(t:Ty)→t.V→Nat
  | .str,s=>s.length
  | .sl t,l=>l.length+(l.map (lenV t)).sum
  | .arr _ t,l=>(l.map (lenV t)).sum
  | .agg t,v=>lenV t v
  | .cons t ts,v=>lenV t v.1+lenV ts v.2
  | _,_=>0
structure Bulk {H:Type} (B:DataW H→Nat) (BA:List (DataW H)→Nat):Prop where
  str:∀ b,b.length+1≤B (.lit (.string b))
  lit:∀ l,1≤B (.lit l)
  nil:1≤B .nil
  slice:∀ e s,BA e+1≤B (.slice e s)
  agg:∀ p,BA p+1≤B (.agg p)
  acons:∀ d r,B d+BA r≤BA (d::r)
def ReadsV {H:Type} (w:World) (u:Ty) (d:DataW H) (cs:List Value):Prop :=
  ∃ (v:u.V) (as:List AVal),R Γ0 u v true as∧All2 (fun a c=>Rep w O0 [] a c) as cs∧(∀ c∈cs,c.oneCell'=true)∧okV u v∧∀ B BA,Bulk (H:=H) B BA→lenV u v+1≤B d
def ReadsL {H:Type} (w:World) (u:Ty) (ds:List (DataW H)) (cs:List Value):Prop :=
  ∃ (v:u.V) (as:List AVal),R Γ0 u v true as∧All2 (fun a c=>Rep w O0 [] a c) as cs∧(∀ c∈cs,c.oneCell'=true)∧okV u v∧∀ B BA,Bulk (H:=H) B BA→lenV u v≤BA ds
theorem All2_RepL {w:World}:∀ {as:List AVal}{cs:List Value},All2 (fun a c=>Rep w O0 [] a c) as cs→RepL w O0 [] as cs
  | [],[],_=>rfl
  | a::as,c::cs,h=>⟨c,cs,rfl,h.1,All2_RepL h.2⟩
  | [],_::_,h=>h.elim
  | _::_,[],h=>h.elim
theorem All2_length {A B:Type}{p:A→B→Prop}:∀ {l:List A}{m:List B},All2 p l m→l.length=m.length
  | [],[],_=>rfl
  | _::l,_::m,h=>by simp[All2_length h.2]
  | [],_::_,h=>h.elim
  | _::_,[],h=>h.elim
section
variable {P:Program}{w:World}{H:Type}{enc:TypeId×Value→H}{base:Nat}{sp:Nat→Bool}{held:Bool}
theorem cond_some {A:Type}{b:Bool}{x:Option A}{y:A} (h:cond b x none=some y):b=true∧x=some y:=by
  cases b with
  | true=>exact ⟨rfl,h⟩
  | false=>cases h
theorem tyOf_isV:∀ {n:Nat}{t:TypeId}{u:Ty},tyOf P n t=some u→u.isV=true
  | 0,t,u,h=>by cases h
  | n+1,t,u,h=>by
    unfold tyOf at h
    split at h
    · cases h; rfl
    · cases h; rfl
    · cases h; rfl
    · rw[Option.bind_eq_some_iff] at h
      obtain ⟨v,_,h⟩:=h
      have:=(cond_some h).2
      cases this; rfl
    · have:=(cond_some h).2
      rw[Option.map_eq_some_iff] at this
      obtain ⟨_,_,rfl⟩:=this; rfl
    · rw[Option.bind_eq_some_iff] at h
      obtain ⟨v,_,h⟩:=h
      have:=(cond_some h).2
      cases this; rfl
    · cases h
theorem cell_plain {a:Addr}{v:Value} (h:w.cell? a=some v):a.spot=none∧w.cell? ⟨a.block,a.off,none⟩=some v:=by
  obtain ⟨b,o,sp⟩:=a
  cases sp with
  | none=>exact ⟨rfl,h⟩
  | some z =>
    unfold World.cell? at h
    split at h
    · simp at h
    · cases h
theorem add_block {a:Addr}{k:Nat}:(a.add k).block=a.block∧(a.add k).off=a.off+k:=by
  unfold Addr.add
  split
  · rename_i h; subst h; exact ⟨rfl,rfl⟩
  · exact ⟨rfl,rfl⟩
theorem fields_R {r : TypeId → List Value → Option (DataW H × List MemPlace)} {f : TypeId → Option Ty} (ih : ∀ t cs x u, r t cs = some x → f t = some u → ReadsV w u x.1 cs) {cs : List Value} :
    ∀ (fs:List Field) (o e:Nat) (xs:List (DataW H×List MemPlace)) (us:Ty),tileF P o fs=some e→e≤cs.length→(fs.mapM fun f=>r f.type ((cs.drop f.offset).take (P.cellsOf f.type)))=some xs →
      tyRow f fs=some us→o≤e∧ReadsL w us (xs.map (·.1)) ((cs.drop o).take (e-o))
  | [],o,e,xs,us,h,he,hm,hu=>by
    simp only[tileF,Option.some.injEq] at h
    simp only[tyRow,Option.some.injEq] at hu
    subst h; subst hu
    exact ⟨Nat.le_refl _,(),[],rfl,by simp[All2],by simp,trivial,fun B BA hB=>Nat.zero_le _⟩
  | fd::fs,o,e,xs,us,h,he,hm,hu=>by
    simp only[tileF] at h
    split at h
    · rename_i ho
      subst ho
      rw[List.mapM_cons] at hm
      simp only[Option.pure_def,Option.bind_eq_bind,Option.bind_eq_some_iff,Option.some.injEq] at hm
      obtain ⟨x,hx,ys,hy,rfl⟩:=hm
      simp only[tyRow,Option.bind_eq_some_iff,Option.map_eq_some_iff] at hu
      obtain ⟨u,hu1,us',hu2,rfl⟩:=hu
      obtain ⟨h1,v2,as2,r1,r2,r3,r4,r5⟩:=fields_R ih fs _ e ys us' h he hy hu2
      obtain ⟨v1,as1,q1,q2,q3,q4,q5⟩:=ih _ _ _ _ hx hu1
      refine ⟨by omega,(v1,v2),as1++as2,?_,?_,?_,?_,?_⟩
      · simp only[R]; exact ⟨as1,as2,rfl,q1,r1⟩
      rotate_left 3
      · intro B BA hB
        have k1:=q5 B BA hB
        have k2:=r5 B BA hB
        have k3:=hB.acons x.1 (ys.map (·.1))
        simp only[lenV,List.map_cons]
        omega
      all_goals
        have e1:(cs.drop fd.offset).take (e-fd.offset)=(cs.drop fd.offset).take (P.cellsOf fd.type)++(cs.drop (fd.offset+P.cellsOf fd.type)).take (e-(fd.offset+P.cellsOf fd.type)):=by
          rw[← List.drop_drop,← List.take_add]
          congr 1; omega
      · rw[e1]; exact All2_app q2 r2
      · rw[e1]
        intro c hc
        rcases List.mem_append.1 hc with h | h
        · exact q3 c h
        · exact r3 c h
      · exact ⟨q4,r4⟩
    · cases h
theorem elems_R {r : List Value → Option (DataW H × List MemPlace)} {u : Ty} (ih : ∀ cs x, r cs = some x → ReadsV w u x.1 cs) {cs : List Value} {c : Nat} :
    ∀ (m i:Nat) (xs:List (DataW H×List MemPlace)),(i+m)*c≤cs.length→((List.range' i m).mapM fun i=>r ((cs.drop (i*c)).take c))=some xs →
      ∃ (vs:List u.V) (ls:List (List AVal)),vs.length=m∧All2 (fun x l=>R Γ0 u x true l) vs ls∧All2 (fun a c=>Rep w O0 [] a c) ls.flatten ((cs.drop (i*c)).take (m*c))∧(∀ y∈(cs.drop (i*c)).take (m*c),y.oneCell'=true)∧(∀ x∈vs,okV u x)∧∀ B BA,Bulk (H:=H) B BA→(vs.map (lenV u)).sum≤BA (xs.map (·.1))
  | 0,i,xs,he,hm=>by
    refine ⟨[],[],rfl,by simp[All2],?_,?_,(fun x hx=>by cases hx),fun B BA hB=>Nat.zero_le _⟩
    · simp[All2]
    · simp
  | m+1,i,xs,he,hm=>by
    rw[List.range'_succ,List.mapM_cons] at hm
    simp only[Option.pure_def,Option.bind_eq_bind,Option.bind_eq_some_iff,Option.some.injEq] at hm
    obtain ⟨x,hx,ys,hy,rfl⟩:=hm
    have e0:(i+1+m)*c=(i+(m+1))*c:=by rw[Nat.add_assoc,Nat.add_comm 1 m]
    obtain ⟨vs,ls,g1,g2,g3,g4,g5,g6⟩:=elems_R ih m (i+1) ys (by rw[e0]; exact he) hy
    obtain ⟨v1,as1,q1,q2,q3,q4,q5⟩:=ih _ _ hx
    have e1:(cs.drop (i*c)).take ((m+1)*c)=(cs.drop (i*c)).take c++(cs.drop ((i+1)*c)).take (m*c):=by
      rw[Nat.succ_mul,Nat.succ_mul,← List.drop_drop,← List.take_add,Nat.add_comm]
    refine ⟨v1::vs,as1::ls,by simp[g1],⟨q1,g2⟩,?_,?_,?_,?_⟩
    · rw[e1,List.flatten_cons]; exact All2_app q2 g3
    · rw[e1]
      intro y hy
      rcases List.mem_append.1 hy with h | h
      · exact q3 y h
      · exact g4 y h
    · intro y hy
      rcases List.mem_cons.1 hy with rfl | h
      · exact q4
      · exact g5 y h
    · intro B BA hB
      have k1:=q5 B BA hB
      have k2:=g6 B BA hB
      have k3:=hB.acons x.1 (ys.map (·.1))
      simp only[List.map_cons,List.sum_cons]
      omega
theorem one_R {u:Ty} (hu:u.isV=true) {d:DataW H}{cs:List Value} (h:ReadsV w u d cs):∃ (v:u.V) (a:AVal) (y:Value),R Γ0 u v false [a]∧Rep w O0 [] a y∧y.cells.toList=cs∧a.cells.length=cs.length∧a.cells.length=u.size∧(u.isAgg=true→y = .agg cs.toArray)∧(u.isAgg=false→cs=[y])∧okV u v∧∀ B BA,Bulk (H:=H) B BA→lenV u v+1≤B d:=by
  obtain ⟨v,as,h1,h2,h3,h4,h5⟩:=h
  have hl:=R_len h1
  have hl2:=All2_length h2
  obtain ⟨a,e1,e2,e3,e4⟩:=R_ofCells hu h1
  cases hg:u.isAgg with
  | true =>
    refine ⟨v,a,.agg cs.toArray,e2,?_,rfl,by rw[e1]; exact hl2,by rw[e1]; exact hl,(fun _=>rfl),(fun h=>by cases h),h4,h5⟩
    rw[e3 hg]
    simp only[Rep]
    exact ⟨cs,rfl,All2_RepL h2⟩
  | false =>
    have:=e4 hg
    subst this
    match cs,h2 with
    | [c],h2 =>
      have hc:=h3 c (List.mem_cons_self ..)
      refine ⟨v,a,c,e2,h2.1,?_,by rw[e1]; rfl,by rw[e1]; exact hl,(fun h=>by cases h),(fun _=>rfl),h4,h5⟩
      cases c<;>first | rfl | (cases hc)
theorem rows_R {r : List Value → Option (DataW H × List MemPlace)} {u : Ty} (hu : u.isV = true) {a : Addr} {c : Nat} (hc : u.size = c) (hc0 : c ≠ 0) (ih : ∀ cs x, r cs = some x → ReadsV w u x.1 cs) :
    ∀ (es:List (DataW H×List MemPlace)) (i:Nat),(∀ k,k<es.length→(w.cells? base (a.add ((i+k)*c)) c).bind r=es[k]?) →
      ∃ (vs:List u.V) (as:List AVal),vs.length=es.length∧All2 (fun x a=>R Γ0 u x false [a]) vs as∧(es.length=0∨i≠0∨a.spot=none)∧RepRow w O0 [] c a.block (a.off+i*c) as∧(∀ x∈vs,okV u x)∧∀ B BA,Bulk (H:=H) B BA→vs.length+(vs.map (lenV u)).sum≤BA (es.map (·.1))
  | [],i,hm=>⟨[],[],rfl,by simp[All2],.inl rfl,by simp only[RepRow],(fun x hx=>by cases hx),fun B BA hB=>Nat.zero_le _⟩
  | x::es,i,hm=>by
    have hx0:=hm 0 (by simp)
    rw[Nat.add_zero,List.getElem?_cons_zero,Option.bind_eq_some_iff] at hx0
    obtain ⟨cs,hcs,hx⟩:=hx0
    obtain ⟨vs,as,g1,g2,g3,g4,g5,g6⟩:=rows_R hu hc hc0 ih es (i+1) (fun k hk=>by
      have:=hm (k+1) (by simp; omega)
      rw[show i+1+k=i+(k+1) by omega,this]; simp)
    obtain ⟨k1,k2,k3⟩:=World.cells?_some hcs
    have hrd:=ih _ _ hx
    have hone:∀ y∈cs,y.oneCell'=true:=by obtain ⟨_,_,_,_,h3,_⟩:=hrd; exact h3
    obtain ⟨v,b,y,q1,q2,q3,q4,q5,q6,_,q7,q8⟩:=one_R hu hrd
    have hsp:i≠0∨a.spot=none:=by
      by_cases hi:i=0
      · right
        have h0:=k3 0 (by omega)
        have hlt:0<cs.length:=by omega
        rw[List.getElem?_eq_getElem hlt] at h0
        have:=(cell_plain h0).1
        subst hi
        simpa [Addr.add] using this
      · exact .inl hi
    refine ⟨v::vs,b::as,by simp[g1],⟨q1,g2⟩,.inr hsp,?_,?_,?_⟩
    · simp only[RepRow]
      refine ⟨⟨y,q2,by rw[q5,hc],?_,?_,?_⟩,?_⟩
      · have:=congrArg List.length q3
        simp at this; omega
      · intro j hj
        have h0:=k3 j hj
        have hlt:j<cs.length:=by omega
        rw[List.getElem?_eq_getElem hlt] at h0
        have h2:=(cell_plain h0).2
        have e1:((a.add (i*c)).add j).block=a.block:=by rw[add_block.1,add_block.1]
        have e2:((a.add (i*c)).add j).off=a.off+i*c+j:=by rw[add_block.2,add_block.2]
        rw[e1,e2] at h2
        rw[h2,← Array.getElem?_toList,q3,List.getElem?_eq_getElem hlt]
      · intro z hz
        refine hone z ?_
        rw[← q3]; simpa using hz
      · have e:a.off+i*c+c=a.off+(i+1)*c:=by rw[Nat.succ_mul,Nat.add_assoc]
        rw[e]; exact g4
    · intro z hz
      rcases List.mem_cons.1 hz with rfl | h
      · exact q7
      · exact g5 z h
    · intro B BA hB
      have k1:=q8 B BA hB
      have k2:=g6 B BA hB
      have k3:=hB.acons x.1 (es.map (·.1))
      simp only[List.map_cons,List.sum_cons,List.length_cons]
      omega
theorem trod_R:∀ (fuel n:Nat) (t:TypeId) (cs:List Value) (x:DataW H×List MemPlace) (u:Ty),DataW.trod enc P w base sp held fuel t cs=some x→tyOf P n t=some u→ReadsV w u x.1 cs
  | 0,n,t,cs,x,u,h,hu=>by simp[DataW.trod] at h
  | fuel+1,0,t,cs,x,u,h,hu=>by simp[tyOf] at hu
  | fuel+1,n+1,t,cs,x,u,h,hu=>by
    unfold tyOf at hu
    split at hu
    · rename_i ht
      cases hu
      obtain ⟨b,rfl,rfl⟩:=DataW.trod_bool ht h
      exact ⟨b,[.bool b],rfl,⟨by simp only[Rep],trivial⟩,by simp[Value.oneCell'],trivial,fun B BA hB=>hB.lit _⟩
    · rename_i k ht
      cases hu
      obtain ⟨z,rfl,rfl,hwf⟩:=DataW.trod_int ht h
      refine ⟨z,[.int k z],rfl,⟨by simp only[Rep],trivial⟩,by simp[Value.oneCell'],?_,fun B BA hB=>hB.lit _⟩
      simp only[Lit.wf,Bool.and_eq_true,decide_eq_true_eq] at hwf
      exact hwf
    · rename_i ht
      cases hu
      obtain ⟨s,rfl,rfl,hs⟩:=DataW.trod_string ht h
      refine ⟨s.data.toList,[.str s.data.toList],rfl,⟨by simp only[Rep],trivial⟩,by simp[Value.oneCell'],?_,fun B BA hB=>hB.str _⟩
      show s.data.toList.length≤maxLen
      rw[Array.length_toList]
      exact hs
    · rename_i e ht
      rw[Option.bind_eq_some_iff] at hu
      obtain ⟨ue,hue,hu⟩:=hu
      obtain ⟨hck,hu⟩:=cond_some hu
      cases hu
      simp only[Bool.and_eq_true,Nat.beq_eq,Bool.not_eq_true'] at hck
      obtain ⟨⟨c1,c2⟩,c3⟩:=hck
      have c2:ue.size≠0:=fun e=>by rw[e] at c2; cases c2
      rcases DataW.trod_slice ht h with ⟨rfl,rfl⟩ | ⟨a,len,cap,elems,rest,n',hn',rfl,rfl,g1,g2,g3,g4,g5,_⟩
      · exact ⟨([]:List ue.V),[.nil],by simp[R],⟨by simp only[Rep],trivial⟩,by simp[Value.oneCell'],by exact ⟨Nat.zero_le _,fun x hx=>by cases hx⟩,fun B BA hB=>hB.nil⟩
      · obtain rfl:fuel=n':=by omega
        obtain ⟨vs,as,q1,q2,q3,q4,q5,q6⟩:=rows_R (w:=w) (base:=base) (r:=DataW.trod enc P w base sp held fuel e) (a:=a) c3 c1 (by omega) (fun cs x h=>trod_R fuel n e cs x ue h hue) elems 0 (fun k hk=>by
          have:=g5 k (by omega)
          rw[Nat.zero_add,this])
        rw[g4] at q1 q3
        have hl:as.length=len:=by rw[← All2_length q2,q1]
        refine ⟨vs,[.tree false (P.cellsOf e) as],?_,⟨?_,trivial⟩,by simp[Value.oneCell'],?_,?_⟩
        · simp only[R]
          exact .inr ⟨false,P.cellsOf e,as,rfl,.inr c1.symm,q2⟩
        · simp only[Rep]
          refine ⟨some a,cap,by rw[hl],by omega,(fun h=>by cases h),?_⟩
          by_cases h0:as=[]
          · exact .inl h0
          · right
            have hlen:len≠0:=fun e=>h0 (List.eq_nil_of_length_eq_zero (by omega))
            have hsp:a.spot=none:=by
              rcases q3 with h | h | h
              · exact absurd h hlen
              · exact absurd rfl h
              · exact h
            refine ⟨by omega,a.block,a.off,by cases a; simp only at hsp; rw[hsp],fun h=>h,?_,?_⟩
            · rintro ⟨r,ri,h,_⟩; simp at h
            · rw[Nat.zero_mul,Nat.add_zero] at q4; exact q4
        · exact ⟨by rw[q1]; omega,q5⟩
        · intro B BA hB
          have k1:=q6 B BA hB
          have k2:=hB.slice (elems.map (·.1)) (rest.map (·.1))
          simp only[lenV]
          omega
    · rename_i fs ht
      obtain ⟨hck,hu⟩:=cond_some hu
      rw[decide_eq_true_eq] at hck
      rw[Option.map_eq_some_iff] at hu
      obtain ⟨us,hus,rfl⟩:=hu
      unfold DataW.trod at h
      rw[ht] at h
      simp only at h
      split at h
      · rename_i hc
        rw[Option.map_eq_some_iff] at h
        obtain ⟨xs,hm,rfl⟩:=h
        have:=(fields_R (w:=w) (fun t cs x u h hu=>trod_R fuel n t cs x u h hu) fs.toList 0 _ xs us hck (by omega) hm hus).2
        rw[← hc] at this
        simp only[List.drop_zero,Nat.sub_zero,List.take_length] at this
        obtain ⟨v,as,h1,h2,h3,h4,h5⟩:=this
        exact ⟨v,as,by simp only[R]; exact h1,h2,h3,h4,fun B BA hB=>Nat.le_trans (Nat.succ_le_succ (h5 B BA hB)) (hB.agg _)⟩
      · cases h
    · rename_i m e ht
      rw[Option.bind_eq_some_iff] at hu
      obtain ⟨ue,hue,hu⟩:=hu
      obtain ⟨hck,hu⟩:=cond_some hu
      cases hu
      rw[Nat.beq_eq] at hck
      unfold DataW.trod at h
      rw[ht] at h
      simp only at h
      split at h
      · rename_i hc
        rw[Option.map_eq_some_iff] at h
        obtain ⟨xs,hm,rfl⟩:=h
        rw[List.range_eq_range'] at hm
        obtain ⟨vs,ls,q1,q2,q3,q4,q5,q6⟩:=elems_R (w:=w) (c:=P.cellsOf e) (fun cs x h=>trod_R fuel n e cs x ue h hue) m 0 xs (by rw[Nat.zero_add]; omega) hm
        rw[hck,← hc] at q3 q4
        simp only[Nat.zero_mul,List.drop_zero,List.take_length] at q3 q4
        refine ⟨vs,ls.flatten,?_,q3,q4,⟨q1,q5⟩,fun B BA hB=>Nat.le_trans (Nat.succ_le_succ (q6 B BA hB)) (hB.agg _)⟩
        simp only[R]
        exact ⟨q1,ls,rfl,q2⟩
      · cases h
    · cases hu
theorem arg_R {n : Nat} {t : TypeId} {u : Ty} {v : Value} {d : DataW H} {ps : List MemPlace} {r : Reach} {b0 : Nat} (hu : tyOf P n t = some u) (hval : Value.okWide P w r b0 t v) (h : DataW.Trod enc P w base sp held t v d ps) :
    ∃ (x:u.V) (a:AVal),R Γ0 u x false [a]∧Rep w O0 [] a v∧okV u x∧∀ B BA,Bulk (H:=H) B BA→lenV u x+1≤B d:=by
  obtain ⟨fuel,h⟩:=h
  have hR:=trod_R fuel n t _ _ u h hu
  obtain ⟨x,a,y,h1,h2,h3,h4,h5,h6,h8,h7⟩:=one_R (tyOf_isV hu) hR
  refine ⟨x,a,h1,?_,h7⟩
  have key:(v.cells = #[v]∧u.isAgg=false)∨(∃ cs,v = .agg cs∧u.isAgg=true):=by
    cases n with
    | zero=>cases hu
    | succ n =>
      unfold tyOf at hu
      split at hu
      · rename_i ht
        cases hu
        simp only[Value.okWide,Cell.okWide,ht] at hval
        left
        cases v<;>simp_all [Cell.ok,Value.cells,Ty.isAgg]
      · rename_i k ht
        cases hu
        simp only[Value.okWide,Cell.okWide,ht] at hval
        left
        cases v<;>simp_all [Cell.ok,Value.cells,Ty.isAgg]
      · rename_i ht
        cases hu
        simp only[Value.okWide,Cell.okWide,ht] at hval
        left
        cases v<;>simp_all [Cell.ok,Value.cells,Ty.isAgg]
      · rename_i e ht
        rw[Option.bind_eq_some_iff] at hu
        obtain ⟨ue,hue,hu⟩:=hu
        have hu:=(cond_some hu).2
        cases hu
        simp only[Value.okWide,Cell.okWide,ht] at hval
        left
        cases v<;>simp_all [Cell.ok,Value.cells,Ty.isAgg]
      · rename_i fs ht
        have hu:=(cond_some hu).2
        rw[Option.map_eq_some_iff] at hu
        obtain ⟨us,hus,rfl⟩:=hu
        simp only[Value.okWide,ht] at hval
        obtain ⟨cs,rfl,_⟩:=hval
        exact .inr ⟨cs,rfl,rfl⟩
      · rename_i m e ht
        rw[Option.bind_eq_some_iff] at hu
        obtain ⟨ue,hue,hu⟩:=hu
        have hu:=(cond_some hu).2
        cases hu
        simp only[Value.okWide,ht] at hval
        obtain ⟨cs,rfl,_⟩:=hval
        exact .inr ⟨cs,rfl,rfl⟩
      · cases hu
  have hyv:y=v:=by
    rcases key with ⟨k1,k2⟩ | ⟨cs,rfl,k2⟩
    · have:=h8 k2
      rw[k1] at this
      simpa using this.symm
    · rw[h6 k2]
      simp[Value.cells]
  rw[← hyv]; exact h2
theorem args_R {n : Nat} {r : Reach} {b0 : Nat} : ∀ {ts : List TypeId} {u : Ty} {vs : List Value} {ds : List (DataW H)} {ps : List MemPlace}, tysOf P n ts = some u → (∀ (j : Nat) t v, ts[j]? = some t → vs[j]? = some v → Value.okWide P w r b0 t v) → DataW.TrodAll enc P w base sp held ts vs ds ps →
    ∃ (x:u.V) (as:List AVal),R Γ0 u x false as∧RepL w O0 [] as vs∧okV u x∧∀ B BA,Bulk (H:=H) B BA→lenV u x≤BA ds
  | [],u,vs,ds,ps,hu,hval,h=>by
    obtain ⟨rfl,rfl,rfl⟩:=ChangeShapes.trodAll_nil h
    simp only[tysOf,Option.some.injEq] at hu
    subst hu
    exact ⟨(),[],rfl,rfl,trivial,fun B BA hB=>Nat.zero_le _⟩
  | t::ts,u,vs,ds,ps,hu,hval,h=>by
    obtain ⟨v0,vs0,d0,ds0,p0,q0,rfl,rfl,rfl,h0,r0⟩:=ChangeShapes.trodAll_cons h
    simp only[tysOf,Option.bind_eq_some_iff,Option.map_eq_some_iff] at hu
    obtain ⟨u0,hu0,us,hus,rfl⟩:=hu
    obtain ⟨x,a,h1,h2,h3,h4⟩:=arg_R hu0 (hval 0 t v0 rfl rfl) h0
    obtain ⟨xs,as,g1,g2,g3,g4⟩:=args_R hus (fun j t v ht hv=>hval (j+1) t v (by simpa using ht) (by simpa using hv)) r0
    exact ⟨(x,xs),a::as,by simp only[R]; exact ⟨[a],as,rfl,h1,g1⟩,⟨v0,vs0,rfl,h2,g2⟩,⟨h3,g3⟩,fun B BA hB=>by
      have k1:=h4 B BA hB
      have k2:=g4 B BA hB
      have k3:=hB.acons d0 ds0
      simp only[lenV]
      omega⟩
def sizedB (P:Program):Bool:=(List.range P.types.size).all fun t=>match P.underlying t with
  | some (.slice e) => !(Nat.beq (P.cellsOf e) 0)
  | _=>true
theorem sized_at (h:sizedB P=true) {t e:TypeId} (ht:t<P.types.size) (hs:P.underlying t=some (.slice e)):0<P.cellsOf e:=by
  unfold sizedB at h
  rw[List.all_eq_true] at h
  have:=h t (List.mem_range.2 ht)
  rw[hs] at this
  simp only[Bool.not_eq_true'] at this
  rcases Nat.eq_zero_or_pos (P.cellsOf e) with h0 | h0
  · rw[h0] at this; cases this
  · exact h0
theorem quiet_same {w':World} (h:Quiet w w') {p:MemPlace} (hp:p.block<w.heap.size):w.sameAt w' p:=by
  cases p with
  | cell b off =>
    simp only[MemPlace.block] at hp
    simp only[World.sameAt,World.cell?,h.old b hp]
  | map b =>
    simp only[MemPlace.block] at hp
    exact h.old b hp
theorem trodAll_stays {w' : World} (hl : laidOutB P = true) (hm : mapsRowed P = true) (hz : sizedB P = true) (h : Quiet w w') : ∀ {ts : List TypeId} {vs : List Value} {ds : List (DataW H)} {ps : List MemPlace}, (∀ t ∈ ts, t < P.types.size) → (∀ p ∈ ps, p.block < w.heap.size) → (∀ p ∈ ps, sp p.block = true) →
    DataW.TrodAll enc P w base (fun _=>true) true ts vs ds ps→DataW.TrodAll enc P w' base sp true ts vs ds ps
  | [],vs,ds,ps,ht,hp,hs,hA=>by
    obtain ⟨rfl,rfl,rfl⟩:=ChangeShapes.trodAll_nil hA
    exact ChangeShapes.trodAll_mk0
  | t::ts,vs,ds,ps,ht,hp,hs,hA=>by
    obtain ⟨v0,vs0,d0,ds0,p0,q0,rfl,rfl,rfl,⟨fuel,h0⟩,r0⟩:=ChangeShapes.trodAll_cons hA
    refine ⟨p0,q0,⟨fuel,?_⟩,trodAll_stays hl hm hz h (fun t ht'=>ht t (List.mem_cons_of_mem _ ht')) (fun p hp'=>hp p (List.mem_append_right _ hp')) (fun p hp'=>hs p (List.mem_append_right _ hp')) r0,rfl⟩
    exact DataW.trod_stays (kids_rows hl hm) (fun ht hs=>sized_at hz ht hs) (fun h=>by cases h) (ht t (List.mem_cons_self ..)) h0
      (fun p hp'=>quiet_same h (hp p (List.mem_append_left _ hp'))) (fun p hp'=>hs p (List.mem_append_left _ hp'))
theorem trodAll_dlen:∀ {ts:List TypeId}{vs:List Value}{ds:List (DataW H)}{ps:List MemPlace},DataW.TrodAll enc P w base sp held ts vs ds ps→ds.length=ts.length
  | [],vs,ds,ps,h=>by obtain ⟨rfl,rfl,rfl⟩:=ChangeShapes.trodAll_nil h; rfl
  | t::ts,vs,ds,ps,h=>by
    obtain ⟨v0,vs0,d0,ds0,p0,q0,rfl,rfl,rfl,h0,r0⟩:=ChangeShapes.trodAll_cons h
    simp[trodAll_dlen r0]
theorem law_dataB {f : Nat} {fn : Func} {G : List (Nat × AVal)} {F : PFn} {ps : Ty} {fnT : ps.V → Option Bool} {s : ChangeSpec} {n : Nat} {tB : TypeId} {apart fresh handsOn again : Bool} (hF : SoundP P G f F) (hT : TOk F ⟨ps, .bool, fnT⟩) (hps : tysOf P n fn.params.toList = some ps) (hc : ps.closed = true)
    (hr:fn.resultTypes = #[tB]) (hB:P.underlying tB=some .bool) (hv:s.vars=[]) (hs:∀ ds:List (DataW H),ds.length=fn.params.toList.length→s.fn H ds={ results:=[.lit (.bool true)],args:=ds })
    (hl:laidOutB P=true) (hm:mapsRowed P=true) (hz:sizedB P=true) (hpt:∀ t∈fn.params.toList,t<P.types.size)
    {W:World}{b0:Nat}{args:Array Value}{ds gs:List (DataW H)}{before:List MemPlace} (hG:GlobOk G W O0 [])
    (hval:∀ (j:Nat) t v,fn.params[j]? = some t→args[j]? = some v→Value.okWide P W .any b0 t v) (hW:DataW.Whole enc P fn.params.toList s.vars apart W args.toList ds gs before)
    (hlaw:∀ v:ps.V,okV ps v→(∀ B BA,Bulk (H:=H) B BA→lenV ps v≤BA ds)→gs=[]→fnT v=some true) :
    Calls P f args W fun e W'=>∃ v,e = .returned v∧s.post enc P fn apart fresh handsOn again W args v W':=by
  obtain ⟨p,q,hA,hV,he,hzz,hn⟩:=id hW
  rw[hv] at hV
  obtain ⟨rfl,rfl⟩:=ChangeShapes.trodVars_none hV
  rw[List.append_nil] at he
  subst he
  have lt:=hW.lt
  obtain ⟨x,as,h1,h2,h3,h6⟩:=args_R hps (fun j t v ht hv=>hval j t v (by rw[← Array.getElem?_toList]; exact ht) (by rw[← Array.getElem?_toList]; exact hv)) hA
  obtain ⟨r,h4,h5⟩:=hT.run x true as (hlaw x h3 h6 rfl) h1
  have h5:=R_bool h5
  subst h5
  have hsd:=hs ds (trodAll_dlen hA)
  refine (hF.2 _ _ h4 (R_closed hc h1) W O0 _ (fun b h=>h.elim) hG h2).mono fun e W' ⟨v,g1,g2,g3,_⟩ => ?_
  simp only[Rep] at g3
  subst g3
  refine ⟨_,g1,post_quiet hv hW ?_ ?_ ?_ g2 ?_⟩
  · intro b sp hd
    rw[hsd,hr]
    exact trodAll_cons_mk (shut_bool hB _) ChangeShapes.trodAll_mk0
  · intro sp hsp
    rw[hsd]
    exact trodAll_stays hl hm hz g2 hpt lt hsp hA
  · rw[hsd]
  · exact ok_one hr rfl (okWide_bool_mk hB _)
theorem law_data {f : Nat} {fn : Func} {G : List (Nat × AVal)} {F : PFn} {ps : Ty} {fnT : ps.V → Option Bool} {s : ChangeSpec} {n : Nat} {tB : TypeId} {apart fresh handsOn again : Bool} (hF : SoundP P G f F) (hT : TOk F ⟨ps, .bool, fnT⟩) (hps : tysOf P n fn.params.toList = some ps) (hc : ps.closed = true)
    (hr:fn.resultTypes = #[tB]) (hB:P.underlying tB=some .bool) (hv:s.vars=[]) (hs:∀ ds:List (DataW H),ds.length=fn.params.toList.length→s.fn H ds={ results:=[.lit (.bool true)],args:=ds })
    (hl:laidOutB P=true) (hm:mapsRowed P=true) (hz:sizedB P=true) (hpt:∀ t∈fn.params.toList,t<P.types.size)
    {W:World}{b0:Nat}{args:Array Value}{ds gs:List (DataW H)}{before:List MemPlace} (hG:GlobOk G W O0 [])
    (hval:∀ (j:Nat) t v,fn.params[j]? = some t→args[j]? = some v→Value.okWide P W .any b0 t v) (hW:DataW.Whole enc P fn.params.toList s.vars apart W args.toList ds gs before)
    (hlaw:∀ v:ps.V,okV ps v→fnT v=some true) :
    Calls P f args W fun e W'=>∃ v,e = .returned v∧s.post enc P fn apart fresh handsOn again W args v W' :=
  law_dataB hF hT hps hc hr hB hv hs hl hm hz hpt hG hval hW fun v h _ _=>hlaw v h
end
end Go.TY
