import Derived.Test.YtnbgkhdcidbkaaaGreatDoorT9
import Derived.Test.YtnbgkhdcidbkaaaGreatDoorE19
import Derived.WalkKit
import Derived.ProofKit
import Derived.OpenShut
import Derived.ChangeMaps5
import Derived.Deep.DeepHandedRow
import Derived.Lib.LaidTab
import Derived.ChangeStays
set_option linter.unusedVariables false
set_option linter.unusedSimpArgs false
namespace Go.TY
open Go.EM
section
variable {Φ:Frame}{Γ:Ctx}{m m0:Mem}{st:aq}{P:Program}{E:Env}{ET:TEnv}{h:Hints}{H:TH}{σ:TS}{σA:aN}
theorem aed {S:Type}{y:S}:∀ {t:Ty}{x:t.V},aqx t (jpMk t.triv x y)=x
 | .int _,_=>rfl
 | .bool,_=>rfl
 | .str,_=>rfl
 | .sl _,_=>rfl
 | .agg _,_=>rfl
 | .arr _ _,_=>rfl
 | .tup _,_=>rfl
 | .unit,_=>rfl
 | .cons _ _,_=>rfl
 | .nilsl,_=>rfl
 | .nilp,_=>rfl
 | .fn _,_=>rfl
 | .err,_=>rfl
 | .undef,_=>rfl
 | .any,_=>rfl
 | .own _,_=>rfl
 | .it _,_=>rfl
 | .mp _,_=>rfl
 | .bx _ _,_=>rfl
 | .op _,_=>rfl
 | .ptr _ _,_=>rfl
 | .ba _ _ _ _,_=>rfl
 | .vw _,_=>rfl
 | .rp _ _,_=>rfl
 | .orp _ _,_=>rfl
 | .cl _ _,_=>rfl
theorem aec {T S:Type}{x:T}{y:S}:∀ {b:Bool},ajG b (jpMk b x y)=y
 | true=>rfl
 | false=>rfl
theorem rO {Γ':Ctx}{f:CF}{n:Nat} (hmv:Moved f (fun j=>j<n) Γ Γ') (hs:co Γ σ σA) {S:Type}{r:Option S}:∀ {l:List (Nat×Ty)}{v:jpS S l},(∀ q∈l,q.2.lows n=true∧q.2.isV=true)→rP f r l σ=some v →
   r=some (xq l v)∧∀ k w,getT (vK l v) k=some w→(w.t.isV=true∧R Γ' w.t w.v false [getS σA k])∧∃ t,(k,t)∈l
 | [],v,hl,h=>by
   simp only[rP] at h
   exact ⟨h,fun k w hw=>by cases hw⟩
 | (k,t)::l,v,hl,h=>by
   simp only[rP,Option.bind_eq_some_iff,Option.map_eq_some_iff] at h
   obtain ⟨w,hw,x,hx,y,hy,rfl⟩:=h
   obtain ⟨h1,h2⟩:=rO hmv hs (fun q hq=>hl q (List.mem_cons_of_mem _ hq)) hy
   obtain ⟨ht1,ht2⟩:=hl (k,t) (List.mem_cons_self ..)
   simp only[vK,xq]
   rw[aec]
   refine ⟨h1,fun k' w' hw' => ?_⟩
   simp only[getT] at hw'
   cases hk:Nat.beq k k' with
   | true =>
     rw[hk,cond_true] at hw'
     rw[Nat.beq_eq] at hk
     subst hk
     cases hw'
     refine ⟨⟨ht2,?_⟩,t,List.mem_cons_self ..⟩
     simp only[aed]
     exact eD hmv (fun i hi=>cU ht1 hi) hx (hs k w hw).2
   | false =>
     rw[hk,cond_false] at hw'
     obtain ⟨g1,t',g2⟩:=h2 k' w' hw'
     exact ⟨g1,t',List.mem_cons_of_mem _ g2⟩
theorem vV {a b:TS}{k:Nat}{w:TV} (hg:getT (a++b) k=some w):getT a k=some w∨getT b k=some w:=by
 induction a with
 | nil=>exact .inr hg
 | cons p a ih =>
   obtain ⟨j,v⟩:=p
   simp only[List.cons_append,getT] at hg ⊢
   cases hk:Nat.beq j k with
   | true=>rw[hk] at hg; left; rw[cond_true] at hg ⊢; exact hg
   | false=>rw[hk,cond_false] at hg; rw[cond_false]; exact ih hg
theorem kC {j:JP}{v:j.V}{Γ0':Ctx}{σ0:TS}{σA0:aN}{p:Nat→Bool} (hs:co Γ σ σA) (hm:MemR Φ Γ m st) (hp:Pers m0 m) (hs0:co Γ0' σ0 σA0) (hsame:∀ k,p k=true→getS σA k=getS σA0 k) (he:j.enter m0 σ m=some v) :
   ∃ Γ',co Γ' (j.slots p σ0 v) σA∧MemR Φ Γ' (j.memo m0 v) st∧Pers m0 (j.memo m0 v)∧∀ k w,getT (j.slots p σ0 v) k=some w→p k=true∨∃ t,(k,t)∈j.keep:=by
 unfold JP.enter at he
 cases hc:(j.ok&&abs (muOf j.keep σ) j.mem.length j.mem.length&&Nat.ble m0.length j.mem.length) with
 | false=>rw[hc] at he; cases he
 | true =>
   rw[hc,cond_true] at he
   simp only[Bool.and_eq_true,Nat.ble_eq] at hc
   obtain ⟨⟨c1,c2⟩,c3⟩:=hc
   unfold JP.ok at c1
   simp only[Bool.and_eq_true,List.all_eq_true] at c1
   obtain ⟨c1,c4⟩:=c1
   have hmv:=gN (l:=muOf j.keep σ) (n:=j.mem.length) hm
   obtain ⟨h1,h2⟩:=rO hmv hs c1 he
   have h3:=iY hm hp (n:=j.mem.length) (by omega) c4 h1
   have hlen:(j.memo m0 v).length=j.mem.length:=bE
   refine ⟨anew Γ (muOf j.keep σ) m.length j.mem.length,?_,?_,?_,?_⟩
   · intro k w hw
     rcases vV hw with hw | hw
     · exact (h2 k w hw).1
     · obtain ⟨g1,g2⟩:=eA (p:=fun q=>p q&&(match getT σ0 q with | some w=>w.t.still | none=>false)) hw
       rw[g1] at g2
       simp only[Bool.and_eq_true] at g2
       obtain ⟨k1,k2⟩:=hs0 k w g1
       refine ⟨k1,?_⟩
       rw[hsame k g2.1]
       exact dn g2.2 k2
   · refine ⟨fun id hid => ?_,fun id hid => ?_,fun a b r n l n' l' ha hb => ?_,fun a r n l ha => ?_,hm.old,fun r g a n l hg ha => ?_⟩
     · rw[hlen] at hid
       have:=h3 id hid
       rw[Nat.zero_add] at this
       exact this
     · rw[hlen] at hid
       simp only[anew]
       rw[if_neg (by omega)]
     · simp only[anew] at ha hb
       split at ha
       · rename_i ha1
         split at ha
         · cases ha
         · split at hb
           · rename_i hb1
             split at hb
             · cases hb
             · exact vF c2 a b ha1 hb1 (hm.inj _ _ _ _ _ _ _ ha hb)
           · cases hb
       · cases ha
     · simp only[anew] at ha
       split at ha
       · split at ha
         · cases ha
         · exact hm.lt _ _ _ _ ha
       · cases ha
     · simp only[anew] at ha
       split at ha
       · split at ha
         · cases ha
         · exact hm.dis _ _ _ _ _ hg ha
       · cases ha
   · refine ⟨by rw[hlen]; exact c3,fun i hi e t w hw => ?_,fun i hi s q hw => ?_⟩
     · have:=(ii (m0:=m0) (rs:=j.mem) (v:=xq j.keep v) (j:=0) (i:=i) (by omega)).1 e t w hw
       rw[Nat.zero_add] at this; exact this
     · have:=(ii (m0:=m0) (rs:=j.mem) (v:=xq j.keep v) (j:=0) (i:=i) (by omega)).2 s q hw
       rw[Nat.zero_add] at this; exact this
   · intro k w hw
     rcases vV hw with hw | hw
     · exact .inr (h2 k w hw).2
     · obtain ⟨g1,g2⟩:=eA (p:=fun q=>p q&&(match getT σ0 q with | some w=>w.t.still | none=>false)) hw
       simp only[Bool.and_eq_true] at g2
       exact .inl g2.1
theorem mf {R:Type}{ops:List Oper}{K:aN→aq→Option R}:∀ {a b:List Oper}{σA:aN}{st:aq},bl P E h ops (a++b) σA st K=bl P E h ops a σA st (fun σ st=>bl P E h ops b σ st K)
 | [],b,σA,st=>rfl
 | o::a,b,σA,st=>by
   rw[List.cons_append]
   conv=>lhs; unfold bl
   conv=>rhs; unfold bl
   simp only[mf (a:=a) (b:=b)]
theorem xF {a b:List Oper}{k:Nat}:j4 (a++b) k=(j4 a k&&j4 b k):=by simp[j4]
theorem acf (hE:EnvT E ET) {ops:List Oper}{X:Type}{K:TS→Mem→Option X}{x:X}:∀ {cs:List (Nat×JP)}{os:List Oper}{σ:TS}{m:Mem}{σA:aN}{st:aq}{Γ:Ctx},co Γ σ σA→MemR Φ Γ m st→cutT P E h ET H ops cs os σ m K=some x →
   aqU (Φ:=Φ) P E h ops os m σA st (fun σ' m'=>K σ' m'=some x)
 | [],os,σ,m,σA,st,Γ,hs,hm,hx=>tz hE hs hm hx
 | (n,j)::cs,os,σ,m,σA,st,Γ,hs,hm,hx=>by
   simp only[cutT,Option.bind_eq_some_iff] at hx
   obtain ⟨v,hv,hx⟩:=hx
   obtain ⟨σ1,m1,σA1,st1,Γ1,g1,g2,g3,g4,g5,g6⟩:=tz hE hs hm hv
   obtain ⟨Γ2,k1,k2,k3,k4⟩:=kC g2 g3 g4 hs g5 g1
   obtain ⟨σ3,m3,σA3,st3,Γ3,e1,e2,e3,e4,e5,e6⟩:=acf hE k1 k2 hx
   refine ⟨σ3,m3,σA3,st3,Γ3,e1,e2,e3,k3.trans e4,fun k hk => ?_,fun R KA => ?_⟩
   · rw[← List.take_append_drop n os,xF,Bool.and_eq_true] at hk
     rw[e5 k hk.2,g5 k hk.1]
   · rw[← List.take_append_drop n os,mf,g6]
     exact e6 R KA
theorem xK {A X:Type}{f:A→Option (A⊕X)}{a:A}{x:X} (hx:aJ f a=some x):∃ n,ew f n a=some x:=by
 unfold aJ at hx
 split at hx
 · rename_i hh; exact ⟨_,hx⟩
 · cases hx
def asE (P:Program) (E:Env) (h:Hints) (c:Code) (m:Mem) (σA:aN) (st:aq) (Q:AExit→TS→Mem→Prop):Prop :=
 ∃ e σ' m' σA' st' Γ',Q e σ' m'∧co Γ' σ' σA'∧MemR Φ Γ' m' st'∧Pers m m'∧(∀ k,stays h c k=true→getS σA' k=getS σA k) ∧
   ∀ (R:Type) (K:AExit→aN→aq→Option R),D P E h c R σA st K=K e σA' st'
theorem rG {σA:aN}:∀ {keep:List Nat}{k:Nat},memN k keep=true→∀ {l:List AVal}{j:Nat},(∀ i,getL l (j+i)=getL (ff keep σA) i)→getS (dA keep j l) k=getS σA k
 | a::keep,k,hk,l,j,hl=>by
   simp only[dA,getS]
   have h0:=hl 0
   simp only[Nat.add_zero,ff,getL] at h0
   cases ha:Nat.beq a k with
   | true=>rw[Nat.beq_eq] at ha; subst ha; simp only[cond_true]; exact h0
   | false =>
     simp only[cond_false]
     have hk':memN k keep=true:=by
       simp only[memN] at hk
       rw[Nat.beq_comm,ha] at hk
       exact hk
     refine rG hk' (fun i => ?_)
     have:=hl (i+1)
     rw[show j+1+i=j+(i+1) by omega,this]
     rfl
where
 Nat.beq_comm {a b:Nat}:Nat.beq a b=Nat.beq b a:=by rw[Bool.eq_iff_iff,Nat.beq_eq,Nat.beq_eq]; exact eq_comm
theorem abU {σ':TS}{m':Mem}{Γ:Ctx}:∀ (ks:List Nat) (σ:TS) (m:Mem) (σA:aN) (st:aq),co Γ σ σA→MemR Φ Γ m st→frzT ks σ m=some (σ',m') →
   ∃ σA' st',frzA ks σA st=some (σA',st')∧co Γ σ' σA'∧MemR Φ Γ m' st'∧Pers m m'∧∀ k,memN k ks=false→getS σA' k=getS σA k
 | [],σ,m,σA,st,hs,hm,h=>by
   simp only[frzT] at h
   cases h
   exact ⟨σA,st,rfl,hs,hm,.refl _,fun _ _=>rfl⟩
 | k::ks,σ,m,σA,st,hs,hm,h=>by
   simp only[frzT] at h
   split at h
   · rename_i x hx
     split at h
     · rename_i p hp
       obtain ⟨w,m1⟩:=p
       obtain ⟨b,st1,q1,q2,q3,q4,q5⟩:=ajV hm (hs k x hx).2 hp
       obtain ⟨σA',st',k1,k2,k3,k4,k5⟩:=abU ks ((k,w)::σ) m1 ((k,b)::σA) st1 (fun j y hj=>by
         simp only[getT] at hj
         simp only[getS]
         cases hk:Nat.beq k j with
         | true=>rw[hk] at hj; cases hj; exact ⟨q2,q3⟩
         | false=>rw[hk] at hj; exact hs j y hj) q4 h
       refine ⟨σA',st',?_,k2,k3,q5.trans k4,fun j hj => ?_⟩
       · simp only[frzA]
         rw[q1,Option.bind_some]
         exact k1
       · simp only[memN] at hj
         cases hb:Nat.beq j k with
         | true=>rw[hb] at hj; cases hj
         | false =>
           rw[hb,cond_false] at hj
           rw[k5 j hj]
           simp only[getS]
           have:Nat.beq k j=false:=by
             cases he:Nat.beq k j with
             | false=>rfl
             | true=>rw[Nat.beq_eq] at he; subst he; simp at hb
           rw[this,cond_false]
     · cases h
   · cases h
theorem kr (hE:EnvT E ET):∀ (c:Code) {X:Type}{K:AExit→TS→Mem→Option X}{x:X}{σ:TS}{m:Mem}{σA:aN}{st:aq}{Γ:Ctx},co Γ σ σA→MemR Φ Γ m st→DT P E h ET H c X σ m K=some x →
   asE (Φ:=Φ) P E h c m σA st (fun e σ' m'=>K e σ' m'=some x)
 | .skip,X,K,x,σ,m,σA,st,Γ,hs,hm,hx=>⟨.normal,σ,m,σA,st,Γ,hx,hs,hm,.refl m,fun _ _=>rfl,fun _ _=>rfl⟩
 | .region id ops draw,X,K,x,σ,m,σA,st,Γ,hs,hm,hx=>by
   simp only[DT] at hx
   split at hx
   · rename_i p hp
     obtain ⟨σ0,m0⟩:=p
     obtain ⟨σA0,st0,f1,f2,f3,f4,f5⟩:=abU _ σ m σA st hs hm hp
     cases hc:draw && !mh P E h ops with
     | true=>rw[hc] at hx; cases hx
     | false =>
       rw[hc,cond_false] at hx
       obtain ⟨σ1,m1,σA1,st1,Γ1,g1,g2,g3,g4,g5,g6⟩:=acf hE f2 f3 hx
       refine ⟨.normal,σ1,m1,σA1,st1,Γ1,g1,g2,g3,f4.trans g4,fun k hk => ?_,fun R KA => ?_⟩
       · simp only[stays,Bool.and_eq_true,Bool.not_eq_true'] at hk
         rw[g5 k hk.1,f5 k hk.2]
       · simp only[D]
         rw[f1,Option.bind_some,hc,cond_false,iV]
         exact g6 R _
   · cases hx
 | .seq a b,X,K,x,σ,m,σA,st,Γ,hs,hm,hx=>by
   simp only[DT] at hx
   cases hq:aK h.seqs (bb b) with
   | some _=>rw[hq] at hx; cases hx
   | none =>
     rw[hq] at hx
     simp only at hx
     have hD : ∀ (R : Type) (KA : AExit → aN → aq → Option R), D P E h (.seq a b) R σA st KA = D P E h a R σA st (fun e σ' st' => match e with
         | .normal=>D P E h b R σ' st' KA
         | e=>KA e σ' st'):=by
       intro R KA
       simp only[D,hq]
       congr
     cases hj:aK H.joins (bb b) with
     | none =>
       rw[hj] at hx
       simp only at hx
       obtain ⟨e,σ1,m1,σA1,st1,Γ1,g1,g2,g3,g4,g5,g6⟩:=kr hE a hs hm hx
       cases e with
       | normal =>
         simp only at g1
         obtain ⟨e,σ2,m2,σA2,st2,Γ2,k1,k2,k3,k4,k5,k6⟩:=kr hE b g2 g3 g1
         refine ⟨e,σ2,m2,σA2,st2,Γ2,k1,k2,k3,g4.trans k4,fun k hk => ?_,fun R KA => ?_⟩
         · simp only[stays,Bool.and_eq_true] at hk
           rw[k5 k hk.1.2,g5 k hk.1.1]
         · rw[hD,g6]; exact k6 R KA
       | exit i =>
         refine ⟨.exit i,σ1,m1,σA1,st1,Γ1,g1,g2,g3,g4,fun k hk => ?_,fun R KA=>by rw[hD,g6]⟩
         simp only[stays,Bool.and_eq_true] at hk
         exact g5 k hk.1.1
       | ret =>
         refine ⟨.ret,σ1,m1,σA1,st1,Γ1,g1,g2,g3,g4,fun k hk => ?_,fun R KA=>by rw[hD,g6]⟩
         simp only[stays,Bool.and_eq_true] at hk
         exact g5 k hk.1.1
     | some j =>
       rw[hj] at hx
       simp only[Option.bind_eq_some_iff] at hx
       obtain ⟨y,hy,hx⟩:=hx
       obtain ⟨e,σ1,m1,σA1,st1,Γ1,g1,g2,g3,g4,g5,g6⟩:=kr hE a hs hm hy
       cases e with
       | normal =>
         simp only[Option.map_eq_some_iff] at g1
         obtain ⟨v,hv,rfl⟩:=g1
         simp only[be] at hx
         obtain ⟨Γ2,q1,q2,q3,q4⟩:=kC g2 g3 g4 hs g5 hv
         obtain ⟨e,σ2,m2,σA2,st2,Γ2,k1,k2,k3,k4,k5,k6⟩:=kr hE b q1 q2 hx
         refine ⟨e,σ2,m2,σA2,st2,Γ2,k1,k2,k3,q3.trans k4,fun k hk => ?_,fun R KA => ?_⟩
         · simp only[stays,Bool.and_eq_true] at hk
           rw[k5 k hk.1.2,g5 k hk.1.1]
         · rw[hD,g6]; exact k6 R KA
       | exit i =>
         simp only[Option.map_eq_some_iff] at g1
         obtain ⟨z,hz,rfl⟩:=g1
         simp only[be] at hx
         cases hx
         refine ⟨.exit i,σ1,m1,σA1,st1,Γ1,hz,g2,g3,g4,fun k hk => ?_,fun R KA=>by rw[hD,g6]⟩
         simp only[stays,Bool.and_eq_true] at hk
         exact g5 k hk.1.1
       | ret =>
         simp only[Option.map_eq_some_iff] at g1
         obtain ⟨z,hz,rfl⟩:=g1
         simp only[be] at hx
         cases hx
         refine ⟨.ret,σ1,m1,σA1,st1,Γ1,hz,g2,g3,g4,fun k hk => ?_,fun R KA=>by rw[hD,g6]⟩
         simp only[stays,Bool.and_eq_true] at hk
         exact g5 k hk.1.1
 | .cond c a b,X,K,x,σ,m,σA,st,Γ,hs,hm,hx=>by
   simp only[DT] at hx
   split at hx
   · rename_i t hc
     have hcr:=(aI hE hs hc).2
     simp only[R] at hcr
     have hcr:=(List.cons.inj hcr).1
     cases t with
     | true =>
       simp only[cond_true] at hx
       obtain ⟨e,σ1,m1,σA1,st1,Γ1,g1,g2,g3,g4,g5,g6⟩:=kr hE a hs hm hx
       refine ⟨e,σ1,m1,σA1,st1,Γ1,g1,g2,g3,g4,fun k hk => ?_,fun R KA => ?_⟩
       · simp only[stays,Bool.and_eq_true] at hk
         exact g5 k hk.1
       · simp only[D,hcr]; exact g6 R KA
     | false =>
       simp only[cond_false] at hx
       obtain ⟨e,σ1,m1,σA1,st1,Γ1,g1,g2,g3,g4,g5,g6⟩:=kr hE b hs hm hx
       refine ⟨e,σ1,m1,σA1,st1,Γ1,g1,g2,g3,g4,fun k hk => ?_,fun R KA => ?_⟩
       · simp only[stays,Bool.and_eq_true] at hk
         exact g5 k hk.2
       · simp only[D,hcr]; exact g6 R KA
   · cases hx
 | .block id b,X,K,x,σ,m,σA,st,Γ,hs,hm,hx=>by
   simp only[DT] at hx
   obtain ⟨e,σ1,m1,σA1,st1,Γ1,g1,g2,g3,g4,g5,g6⟩:=kr hE b hs hm hx
   cases e with
   | normal=>exact ⟨.normal,σ1,m1,σA1,st1,Γ1,g1,g2,g3,g4,g5,fun R KA=>by simp only[D]; rw[g6]⟩
   | ret=>exact ⟨.ret,σ1,m1,σA1,st1,Γ1,g1,g2,g3,g4,g5,fun R KA=>by simp only[D]; rw[g6]⟩
   | exit i =>
     simp only at g1
     cases hi:Nat.beq i id with
     | true =>
       rw[hi,cond_true] at g1
       exact ⟨.normal,σ1,m1,σA1,st1,Γ1,g1,g2,g3,g4,g5,fun R KA=>by simp only[D]; rw[g6]; simp only[hi,cond_true]⟩
     | false =>
       rw[hi,cond_false] at g1
       exact ⟨.exit i,σ1,m1,σA1,st1,Γ1,g1,g2,g3,g4,g5,fun R KA=>by simp only[D]; rw[g6]; simp only[hi,cond_false]⟩
 | .loop b,X,K,x,σ,m,σA,st,Γ,hs,hm,hx=>by
   simp only[DT] at hx
   split at hx
   · rename_i keep j hk hj
     cases hall:j.keep.all fun p=>memN p.1 keep with
     | false=>rw[hall] at hx; cases hx
     | true =>
       rw[hall,cond_true,Option.bind_eq_some_iff] at hx
       obtain ⟨v0,hv0,hx⟩:=hx
       obtain ⟨n,hx⟩:=xK hx
       have ih := @kr hE b
       obtain ⟨Γ1,q1,q2,q3,q4⟩:=kC (p:=fun k=>stays h b k&&memN k keep) hs hm (.refl m) hs (fun _ _=>rfl) hv0
       have main : ∀ (n : Nat) (v : j.V) (σA1 : aN) (st1 : aq) (Γ1 : Ctx), co Γ1 (j.slots (fun k => stays h b k && memN k keep) σ v) σA1 → MemR Φ Γ1 (j.memo m v) st1 → Pers m (j.memo m v) →
           (∀ k w,getT (j.slots (fun k=>stays h b k&&memN k keep) σ v) k=some w→(stays h b k&&memN k keep)=true∨∃ t,(k,t)∈j.keep) →
           (∀ k,(stays h b k&&memN k keep)=true→getS σA1 k=getS σA k) →
           ew (fun v=>DT P E h ET H b (j.V⊕X) (j.slots (fun k=>stays h b k&&memN k keep) σ v) (j.memo m v) (fun e σ' m'=>match e with
             | .normal=>(j.enter m σ' m').map .inl
             | e=>(K e σ' m').map .inr)) n v=some x →
           ∃ e σ' m' σA' st' Γ',K e σ' m'=some x∧co Γ' σ' σA'∧MemR Φ Γ' m' st'∧Pers m m'∧(∀ k,(stays h b k&&memN k keep)=true→getS σA' k=getS σA k) ∧
             ∀ (R:Type) (KA:AExit→aN→aq→Option R),mS (fun live st'=>D P E h b (Live R) (dA keep 0 live) st' (fun e σ'' st''=>match e with
               | .normal=>some (.inl (ff keep σ'',st''))
               | e=>(KA e σ'' st'').map .inr)) (ff keep σA1) st1=KA e σA' st':=by
         intro n
         induction n with
         | zero=>intro v σA1 st1 Γ1 _ _ _ _ _ hx; cases hx
         | succ n ihn =>
           intro v σA1 st1 Γ1 r1 r2 r3 r4 r5 hx
           simp only[ew,Option.bind_eq_some_iff] at hx
           obtain ⟨y,hy,hx⟩:=hx
           have hpl:∀ k,memN k keep=true→getS (dA keep 0 (ff keep σA1)) k=getS σA1 k:=fun k hk=>rG hk (fun i=>by rw[Nat.zero_add])
           have r1':co Γ1 (j.slots (fun k=>stays h b k&&memN k keep) σ v) (dA keep 0 (ff keep σA1)):=by
             intro k w hw
             have hkk:memN k keep=true:=by
               rcases r4 k w hw with h1 | ⟨t,h1⟩
               · rw[Bool.and_eq_true] at h1; exact h1.2
               · rw[List.all_eq_true] at hall; exact hall _ h1
             rw[hpl k hkk]
             exact r1 k w hw
           obtain ⟨e,σ2,m2,σA2,st2,Γ2,g1,g2,g3,g4,g5,g6⟩:=ih r1' r2 hy
           have hsame:∀ k,(stays h b k&&memN k keep)=true→getS σA2 k=getS σA k:=by
             intro k hk
             have hk':=hk
             rw[Bool.and_eq_true] at hk
             rw[g5 k hk.1,hpl k hk.2,r5 k hk']
           cases e with
           | normal =>
             simp only[Option.map_eq_some_iff] at g1
             obtain ⟨v',hv',rfl⟩:=g1
             simp only[be] at hx
             obtain ⟨Γ3,s1,s2,s3,s4⟩:=kC (p:=fun k=>stays h b k&&memN k keep) g2 g3 (r3.trans g4) hs hsame hv'
             obtain ⟨e,σ4,m4,σA4,st4,Γ4,t1,t2,t3,t4,t5,t6⟩:=ihn v' σA2 st2 Γ3 s1 s2 s3 s4 hsame hx
             refine ⟨e,σ4,m4,σA4,st4,Γ4,t1,t2,t3,t4,t5,fun R KA => ?_⟩
             rw[abu (l':=ff keep σA2) (st':=st2)]
             · exact t6 R KA
             · rw[g6]
           | exit i =>
             simp only[Option.map_eq_some_iff] at g1
             obtain ⟨z,hz,rfl⟩:=g1
             simp only[be] at hx
             cases hx
             refine ⟨.exit i,σ2,m2,σA2,st2,Γ2,hz,g2,g3,r3.trans g4,hsame,fun R KA => ?_⟩
             rw[pp,g6]
             simp only
             cases KA (.exit i) σA2 st2<;>rfl
           | ret =>
             simp only[Option.map_eq_some_iff] at g1
             obtain ⟨z,hz,rfl⟩:=g1
             simp only[be] at hx
             cases hx
             refine ⟨.ret,σ2,m2,σA2,st2,Γ2,hz,g2,g3,r3.trans g4,hsame,fun R KA => ?_⟩
             rw[pp,g6]
             simp only
             cases KA .ret σA2 st2<;>rfl
       obtain ⟨e,σ4,m4,σA4,st4,Γ4,t1,t2,t3,t4,t5,t6⟩:=main n v0 σA st Γ1 q1 q2 q3 q4 (fun _ _=>rfl) hx
       refine ⟨e,σ4,m4,σA4,st4,Γ4,t1,t2,t3,t4,fun k hk' => ?_,fun R KA => ?_⟩
       · simp only[stays,hk] at hk'
         exact t5 k hk'
       · simp only[D,hk]
         exact t6 R KA
   · cases hx
 | .exit id,X,K,x,σ,m,σA,st,Γ,hs,hm,hx=>⟨.exit id,σ,m,σA,st,Γ,hx,hs,hm,.refl m,fun _ _=>rfl,fun _ _=>rfl⟩
 | .ret,X,K,x,σ,m,σA,st,Γ,hs,hm,hx=>⟨.ret,σ,m,σA,st,Γ,hx,hs,hm,.refl m,fun _ _=>rfl,fun _ _=>rfl⟩
 | .rangeFunc ..,X,K,x,σ,m,σA,st,Γ,hs,hm,hx=>by simp[DT] at hx
 | .scope ..,X,K,x,σ,m,σA,st,Γ,hs,hm,hx=>by simp[DT] at hx
 | .label ..,X,K,x,σ,m,σA,st,Γ,hs,hm,hx=>by simp[DT] at hx
 | .goto ..,X,K,x,σ,m,σA,st,Γ,hs,hm,hx=>by simp[DT] at hx
 | .refuse ..,X,K,x,σ,m,σA,st,Γ,hs,hm,hx=>by simp[DT] at hx
theorem d6 {Γ:Ctx}:∀ {t:Ty}{v:t.V}{as:List AVal}{n k:Nat},rowV t=true→R Γ t v false as→as.length=rowLen t∧(∀ w,getT (eO t v n) k=some w→w.t.isV=true∧n≤k∧R Γ w.t w.v false [getL as (k-n)]∧k<n+rowLen t)
 | .cons t ts,v,as,n,k,hv,hr=>by
   simp only[rowV,Bool.and_eq_true] at hv
   simp only[R] at hr
   obtain ⟨l1,l2,rfl,h1,h2⟩:=hr
   obtain ⟨a,rfl⟩:=eL hv.1 h1
   obtain ⟨g1,g2⟩:=d6 (n:=n+1) (k:=k) hv.2 h2
   refine ⟨by simp[rowLen,g1],fun w hw => ?_⟩
   simp only[eO,getT] at hw
   cases hk:Nat.beq n k with
   | true =>
     rw[hk,cond_true] at hw
     rw[Nat.beq_eq] at hk
     subst hk
     cases hw
     exact ⟨hv.1,Nat.le_refl _,by rw[Nat.sub_self]; exact h1,by simp[rowLen]⟩
   | false =>
     rw[hk,cond_false] at hw
     obtain ⟨k1,k2,k3,k4⟩:=g2 w hw
     refine ⟨k1,by omega,?_,by simp[rowLen]; omega⟩
     rw[show k-n=(k-(n+1))+1 by omega]
     exact k3
 | .unit,v,as,n,k,hv,hr=>by
   simp only[R] at hr; subst hr
   exact ⟨rfl,fun w hw=>by cases hw⟩
 | .int _,_,_,_,_,hv,_=>by cases hv
 | .bool,_,_,_,_,hv,_=>by cases hv
 | .str,_,_,_,_,hv,_=>by cases hv
 | .sl _,_,_,_,_,hv,_=>by cases hv
 | .agg _,_,_,_,_,hv,_=>by cases hv
 | .arr _ _,_,_,_,_,hv,_=>by cases hv
 | .tup _,_,_,_,_,hv,_=>by cases hv
 | .nilsl,_,_,_,_,hv,_=>by cases hv
 | .nilp,_,_,_,_,hv,_=>by cases hv
 | .fn f,_,_,_,_,hv,_=>by cases hv
 | .err,_,_,_,_,hv,_=>by cases hv
 | .undef,_,_,_,_,hv,_=>by cases hv
 | .any,_,_,_,_,hv,_=>by cases hv
 | .own _,_,_,_,_,hv,_=>by cases hv
 | .it _,_,_,_,_,hv,_=>by cases hv
 | .mp _,_,_,_,_,hv,_=>by cases hv
 | .bx _ _,_,_,_,_,hv,_=>by cases hv
 | .op _,_,_,_,_,hv,_=>by cases hv
 | .ptr _ _,_,_,_,_,hv,_=>by cases hv
 | .ba _ _ _ _,_,_,_,_,hv,_=>by cases hv
 | .vw _,_,_,_,_,hv,_=>by cases hv
 | .rp _ _,_,_,_,_,hv,_=>by cases hv
 | .orp _ _,_,_,_,_,hv,_=>by cases hv
 | .cl _ _,_,_,_,_,hv,_=>by cases hv
theorem fe:∀ (n j:Nat) (as:List AVal) (k:Nat),j≤k→k<j+n→getS (dA (List.range' j n) j as) k=getL as k
 | 0,j,as,k,h1,h2=>by omega
 | n+1,j,as,k,h1,h2=>by
   simp only[List.range'_succ,dA,getS]
   cases hk:Nat.beq j k with
   | true=>rw[Nat.beq_eq] at hk; subst hk; rfl
   | false =>
     have:j≠k:=fun e=>by subst e; simp at hk
     simp only[cond_false]
     exact fe n (j+1) as k (by omega) (by omega)
theorem j0 (hs:co Γ σ σA) (hm:MemR Φ Γ m st):∀ {rs:List ResultVar}{l:List TV},resT P σ m rs=some l→∃ as,resL P σA st rs=some as∧ip Γ l as
 | [],l,h=>by simp only[resT] at h; cases h; exact ⟨[],rfl,trivial⟩
 | .tmp t::rs,l,h=>by
   simp only[resT,Option.bind_eq_some_iff,Option.map_eq_some_iff] at h
   obtain ⟨w,hw,ws,hws,rfl⟩:=h
   obtain ⟨as,h1,h2⟩:=j0 hs hm hws
   exact ⟨_::as,by simp only[resL,h1,Option.map_some],hs t w hw,h2⟩
 | .cell a t::rs,l,h=>by
   simp only[resT,Option.bind_eq_some_iff] at h
   obtain ⟨w,hw,h⟩:=h
   split at h
   · rename_i x m' k hl
     rw[Option.map_eq_some_iff] at h
     obtain ⟨ws,hws,rfl⟩:=h
     obtain ⟨as,h1,h2⟩:=j0 hs hm hws
     obtain ⟨g1,g2⟩:=hs a w hw
     have:=gL (P:=P) hm (t:=t) g1 g2 (TV×Unit) (fun w m' k=>some (w,())) (x,()) (by rw[hl]; rfl)
     obtain ⟨w',av,e1,e2,e3,e4⟩:=this
     cases e1
     exact ⟨av::as,by simp only[resL,e2,Option.bind_some,h1,Option.map_some],⟨e3,e4⟩,h2⟩
   · cases h
theorem aqF (hs:co Γ σ σA) (hm:MemR Φ Γ m st) {rs:List ResultVar}{res:Ty}{r:res.V} (hc:res.closed=true) (hv:res.isV=true) (h:endT P σ m rs res=some r) :
   ∃ a b,resV P σA st rs=some a∧cj st a=some b∧R Γ0 res r false [b]:=by
 unfold endT at h
 rw[Option.bind_eq_some_iff] at h
 obtain ⟨l,hl,h⟩:=h
 obtain ⟨as,h1,h2⟩:=j0 (P:=P) hs hm hl
 have packOne:∀ {a:AVal}{l':List AVal},cz st [a]=some l'→∃ b,cj st a=some b∧l'=[b]:=by
   intro a l' hp
   simp only[cz,Option.bind_eq_some_iff,Option.map_eq_some_iff] at hp
   obtain ⟨x,hx,y,hy,rfl⟩:=hp
   cases hy
   exact ⟨x,hx,rfl⟩
 split at h
 · rename_i w
   match as,h2 with
   | [a],h2 =>
     obtain ⟨l',g1,g2⟩:=sd hm hc h h2.1.2
     obtain ⟨b,hb,rfl⟩:=packOne g1
     refine ⟨a,b,?_,hb,g2⟩
     unfold resV
     split
     · rename_i t
       simp only[resL,Option.map_some] at h1
       cases h1; rfl
     · rw[h1]; rfl
 · rename_i u hne
   have hcu:u.closed=true:=hc
   obtain ⟨l',g1,g2⟩:=pW hm hcu h h2
   refine ⟨.tup as,.tup l',?_,by simp only[cj,g1,Option.map_some],⟨l',rfl,g2⟩⟩
   have hlen:=aU h2
   unfold resV
   split
   · rename_i t
     simp only[resL,Option.map_some] at h1
     cases h1
     match l,hlen with
     | [w],_=>exact absurd rfl (hne w)
   · rw[h1]
     match as,hlen with
     | [],_=>rfl
     | [a],hlen =>
       match l,hlen with
       | [w],_=>exact absurd rfl (hne w)
     | _::_::_,_=>rfl
 · cases h
theorem aC (hE:EnvT E ET) {fn:Func}{ps res:Ty}{fnT:ps.V→Option res.V} (hrun:runY P E h ET H fn ps res=fnT) (hw:(ps.closed&&res.closed&&res.isV)=true):TOk (aH (runF P E h fn)) ⟨ps,res,fnT⟩:=by
 simp only[Bool.and_eq_true] at hw
 refine ⟨hw.1.1,hw.1.2,hw.2,fun v r as hr hps => ?_⟩
 simp only at hr hps
 rw[← hrun] at hr
 unfold runY at hr
 cases hc:(Nat.beq (rowLen ps) (fn.params.size+fn.nfree)&&rowV ps&&ps.closed&&res.closed&&res.isV&&ct fn.ntmps (fn.body.getD .skip)&&Nat.ble (fn.params.size+fn.nfree) fn.ntmps) with
 | false=>rw[hc] at hr; cases hr
 | true =>
   rw[hc,cond_true] at hr
   simp only[Bool.and_eq_true,Nat.beq_eq] at hc
   obtain ⟨⟨⟨⟨⟨⟨c1,c2⟩,c3⟩,c4⟩,c5⟩,c6⟩,c7⟩:=hc
   split at hr
   · rename_i c hb
     have hlen:=(d6 (n:=0) (k:=0) c2 hps).1
     have hslot:co Γ0 (eO ps v 0) (dA (List.range (fn.params.size+fn.nfree)) 0 as):=by
       intro k w hw
       obtain ⟨g1,g2,g3,g4⟩:=(d6 (n:=0) (k:=k) c2 hps).2 w hw
       refine ⟨g1,?_⟩
       rw[List.range_eq_range',fe _ _ _ _ (by omega) (by omega)]
       rw[Nat.sub_zero] at g3
       exact g3
     have hmem:MemR (fun _=>none) Γ0 [] []:=⟨(fun id hid=>by simp at hid),(fun _ _=>rfl),(fun i j r n l n' l' h=>by cases h),(fun i r n l h=>by cases h),(fun r g h=>by cases h),(fun r g i n l h=>by cases h)⟩
     obtain ⟨e,σ1,m1,σA1,st1,Γ1,g1,g2,g3,g4,g5,g6⟩:=kr hE c hslot hmem hr
     have hend:endT P σ1 m1 fn.results.toList res=some r∧(e = .normal∨e = .ret):=by
       cases e with
       | normal=>exact ⟨g1,.inl rfl⟩
       | ret=>exact ⟨g1,.inr rfl⟩
       | exit i=>cases g1
     obtain ⟨a,b,k1,k2,k3⟩:=aqF g2 g3 c4 c5 hend.1
     refine ⟨b,?_,k3⟩
     have hrf:runF P E h fn as []=some (a,st1):=by
       unfold runF
       have:Nat.beq as.length (fn.params.size+fn.nfree)=true:=by rw[Nat.beq_eq]; omega
       rw[hb] at c6
       simp only[Option.getD_some] at c6
       rw[this,hb]
       simp only[cond_true,Option.getD_some,c6,c7,Bool.and_self]
       rw[g6]
       rcases hend.2 with rfl | rfl<;>simp only[k1,Option.map_some]
     simp only[aH,hrf,Option.bind_some,k2]
   · cases hr
end
end Go.TY
namespace Go.TY
open Go.EM
section
variable {Φ:Frame}{Γ:Ctx}{m m0:Mem}{st:aq}{P:Program}{E:Env}{ET:TEnv}{h:Hints}{H:TH}{σ:TS}{σA:aN}
theorem akc {l:List TV}{as:List AVal}{res:Ty}{r:res.V}{rs:List ResultVar} (hb:akd l res=some r) (hr:ip Γ l as) (hl:resL P σA st rs=some as):∃ a,resV P σA st rs=some a∧R Γ res r false [a]:=by
 unfold akd at hb
 split at hb
 · rename_i w
   match as,hr with
   | [a],hr =>
     refine ⟨a,?_,bX hb hr.1.2⟩
     unfold resV
     split
     · rename_i t
       simp only[resL,Option.map_some] at hl
       cases hl; rfl
     · rw[hl]; rfl
 · rename_i u hne
   have g2:=dR hb hr
   refine ⟨.tup as,?_,⟨as,rfl,g2⟩⟩
   have hlen:=aU hr
   unfold resV
   split
   · rename_i t
     simp only[resL,Option.map_some] at hl
     cases hl
     match l,hlen with
     | [w],_=>exact absurd rfl (hne w)
   · rw[hl]
     match as,hlen with
     | [],_=>rfl
     | [a],hlen =>
       match l,hlen with
       | [w],_=>exact absurd rfl (hne w)
     | _::_::_,_=>rfl
 · cases hb
theorem aa5:∀ {t:Ty}{v:t.V}{n k i:Nat},xA t k=some (.bx i 0)→∃ w,getT (eO t v n) (n+k)=some ⟨.bx i 0,w⟩
 | .cons t ts,v,n,0,i,h=>by
   simp only[xA,Option.some.injEq] at h
   subst h
   exact ⟨v.1,by simp[eO,getT]⟩
 | .cons t ts,v,n,k+1,i,h=>by
   simp only[xA] at h
   obtain ⟨w,hw⟩:=aa5 (v:=v.2) (n:=n+1) h
   refine ⟨w,?_⟩
   simp only[eO,getT]
   have:Nat.beq n (n+(k+1))=false:=by
     cases hb:Nat.beq n (n+(k+1)) with
     | false=>rfl
     | true=>rw[Nat.beq_eq] at hb; omega
   rw[this,cond_false,show n+(k+1)=n+1+k by omega]
   exact hw
 | .unit,v,n,k,i,h=>by cases h
 | .int _,_,_,_,_,h=>by cases h
 | .bool,_,_,_,_,h=>by cases h
 | .str,_,_,_,_,h=>by cases h
 | .sl _,_,_,_,_,h=>by cases h
 | .agg _,_,_,_,_,h=>by cases h
 | .arr _ _,_,_,_,_,h=>by cases h
 | .tup _,_,_,_,_,h=>by cases h
 | .nilsl,_,_,_,_,h=>by cases h
 | .nilp,_,_,_,_,h=>by cases h
 | .fn f,_,_,_,_,h=>by cases h
 | .err,_,_,_,_,h=>by cases h
 | .undef,_,_,_,_,h=>by cases h
 | .any,_,_,_,_,h=>by cases h
 | .own _,_,_,_,_,h=>by cases h
 | .it _,_,_,_,_,h=>by cases h
 | .mp _,_,_,_,_,h=>by cases h
 | .bx _ _,_,_,_,_,h=>by cases h
 | .op _,_,_,_,_,h=>by cases h
 | .ptr _ _,_,_,_,_,h=>by cases h
 | .ba _ _ _ _,_,_,_,_,h=>by cases h
 | .vw _,_,_,_,_,h=>by cases h
 | .rp _ _,_,_,_,_,h=>by cases h
 | .orp _ _,_,_,_,_,h=>by cases h
 | .cl _ _,_,_,_,_,h=>by cases h
theorem acw {c:Code}{ps:Ty}:∀ {bs:List (Nat×Nat)},bsOk h c ps bs=true→∀ {k j:Nat},(k,j)∈bs→stays h c k=true∧xA ps k=some (.bx j 0)
 | [],_,k,j,hm=>by cases hm
 | (k',j')::bs,hb,k,j,hm=>by
   simp only[bsOk,Bool.and_eq_true] at hb
   obtain ⟨⟨h1,h2⟩,h3⟩:=hb
   rcases List.mem_cons.1 hm with e | e
   · cases e
     refine ⟨h1,?_⟩
     split at h2
     · rename_i i o hp
       rw[Bool.and_eq_true,Nat.beq_eq,Nat.beq_eq] at h2
       rw[hp,h2.1,h2.2]
     · cases h2
   · exact acw h3 e
theorem rC:∀ {bs:List (Nat×Nat)}{j:Nat},rD bs j=true→∃ k,(k,j)∈bs
 | [],j,hb=>by cases hb
 | (k,i)::bs,j,hb=>by
   simp only[rD,Bool.or_eq_true,Nat.beq_eq] at hb
   rcases hb with e | e
   · subst e; exact ⟨k,List.mem_cons_self ..⟩
   · obtain ⟨k',hk⟩:=rC e; exact ⟨k',List.mem_cons_of_mem _ hk⟩
theorem si:∀ {bs:List (Nat×Nat)},sj σ bs=true→∀ {k j:Nat},(k,j)∈bs→∃ w,getT σ k=some ⟨.bx j 0,w⟩
 | [],_,k,j,hm=>by cases hm
 | (k',j')::bs,hb,k,j,hm=>by
   simp only[sj,Bool.and_eq_true] at hb
   obtain ⟨h2,h3⟩:=hb
   rcases List.mem_cons.1 hm with e | e
   · cases e
     unfold aa8 at h2
     split at h2
     · rename_i w hw
       split at h2
       · rename_i i o ht
         rw[Bool.and_eq_true,Nat.beq_eq,Nat.beq_eq] at h2
         obtain ⟨t,v⟩:=w
         simp only at ht
         subst ht
         rw[h2.1,h2.2] at hw
         exact ⟨v,hw⟩
       · cases h2
     · cases h2
   · exact si h3 e
theorem ou {bs:List (Nat×Nat)}{m0 m1:Mem}:∀ {rs os:List RS}{v:jpM rs}{w:jpM os}{j a b:Nat},di bs rs os j=true→∀ i,uo rs i=true→rD bs (j+i)=true∧∃ e t x e' t' x',getM (aL m0 rs v a) i = .box e t x∧getM (aL m1 os w b) i = .box e' t' x'∧t.size=t'.size
 | [],_,v,w,j,a,b,hb,i,hi=>by cases hi
 | .box e t::rs,.box e' u::os,v,w,j,a,b,hb,0,hi=>by
   simp only[di,Bool.and_eq_true,Nat.beq_eq] at hb
   exact ⟨hb.1.2,e,t,v.1,e',u,w.1,rfl,rfl,hb.1.1⟩
 | .box e t::rs,.same::os,v,w,j,a,b,hb,0,hi=>by simp[di] at hb
 | .box e t::rs,.iter::os,v,w,j,a,b,hb,0,hi=>by simp[di] at hb
 | .box e t::rs,.map _ _::os,v,w,j,a,b,hb,0,hi=>by simp[di] at hb
 | .box e t::rs,.gone::os,v,w,j,a,b,hb,0,hi=>by simp[di] at hb
 | .box e t::rs,.row _ _ _::os,v,w,j,a,b,hb,0,hi=>by simp[di] at hb
 | .same::rs,os,v,w,j,a,b,hb,0,hi=>by cases hi
 | .iter::rs,os,v,w,j,a,b,hb,0,hi=>by cases hi
 | .map _ _::rs,os,v,w,j,a,b,hb,0,hi=>by cases hi
 | .gone::rs,os,v,w,j,a,b,hb,0,hi=>by cases hi
 | .row _ _ _::rs,os,v,w,j,a,b,hb,0,hi=>by cases hi
 | g::rs,[],v,w,j,a,b,hb,i+1,hi=>by cases g<;>simp[di] at hb
 | g::rs,g'::os,v,w,j,a,b,hb,i+1,hi=>by
   have e:j+(i+1)=j+1+i:=by omega
   rw[e]
   have hb':di bs rs os (j+1)=true:=by
     cases g<;>simp only[di,Bool.and_eq_true] at hb<;>first | exact hb | exact hb.2
   have hi':uo rs i=true:=by cases g<;>exact hi
   cases g<;>cases g'<;>(simp only[aL,getM]; exact ou hb' i hi')
theorem o6 (hE:EnvT E ET) {bs:List (Nat×Nat)}{fn:Func}{ps res:Ty}{ins outs:List RS}{fnT:ps.V→jpM ins→Option (res.V×jpM outs)} (hrun:rawY P E h ET H bs fn ps ins res outs=fnT):TRawOk (runF P E h fn) ⟨ps,ins,res,outs,fnT,false⟩:=by
 refine TRawOk.ofBox rfl fun Φ Γ st pv v as r w hmem hps hr => ?_
 simp only at hr hps hmem
 rw[← hrun] at hr
 unfold rawY at hr
 cases hc:(Nat.beq (rowLen ps) (fn.params.size+fn.nfree)&&rowV ps&&(res.free||res.lows ins.length)&&res.isV&&pE ins&&d5 ins.length ins&&d5 ins.length outs&&Nat.beq outs.length ins.length&&ct fn.ntmps (fn.body.getD .skip)&&Nat.ble (fn.params.size+fn.nfree) fn.ntmps) with
 | false=>rw[hc] at hr; cases hr
 | true =>
   rw[hc,cond_true] at hr
   simp only[Bool.and_eq_true,Nat.beq_eq] at hc
   obtain ⟨⟨⟨⟨⟨⟨⟨⟨⟨c1,c2⟩,c3⟩,c4⟩,c5⟩,c6⟩,c7⟩,c8⟩,c9⟩,c10⟩:=hc
   split at hr
   · rename_i c hb
     cases hd:(bsOk h c ps bs&&di bs ins outs 0) with
     | false=>rw[hd] at hr; cases hr
     | true =>
       rw[hd,cond_true] at hr
       rw[Bool.and_eq_true] at hd
       obtain ⟨d1,d2⟩:=hd
       have hlen:=(d6 (n:=0) (k:=0) c2 hps).1
       have hslot:co Γ (eO ps pv 0) (dA (List.range (fn.params.size+fn.nfree)) 0 as):=by
         intro k w hw
         obtain ⟨g1,g2,g3,g4⟩:=(d6 (n:=0) (k:=k) c2 hps).2 w hw
         refine ⟨g1,?_⟩
         rw[List.range_eq_range',fe _ _ _ _ (by omega) (by omega)]
         rw[Nat.sub_zero] at g3
         exact g3
       obtain ⟨e,σ1,m1,σA1,st1,Γ1,g1,g2,g3,g4,g5,g6⟩:=kr hE c hslot hmem hr
       have hend:we P bs σ1 m1 fn.results.toList res outs=some (r,w)∧(e = .normal∨e = .ret):=by
         cases e with
         | normal=>exact ⟨g1,.inl rfl⟩
         | ret=>exact ⟨g1,.inr rfl⟩
         | exit i=>cases g1
       obtain ⟨he,hee⟩:=hend
       unfold we at he
       cases hbt:sj σ1 bs with
       | false=>rw[hbt] at he; cases he
       | true =>
         rw[hbt,cond_true] at he
         simp only[Option.bind_eq_some_iff,Option.map_eq_some_iff] at he
         obtain ⟨l,hl,r',hr',w',hw',hrw⟩:=he
         cases hrw
         obtain ⟨as',q1,q2⟩:=j0 (P:=P) g2 g3 hl
         obtain ⟨a,q3,q4⟩:=akc hr' q2 q1
         have hregs:=iY g3 (.refl m1) (l:=[]) (n:=ins.length) (rs:=outs) (j:=0) (by omega) (ep c7) hw'
         have hregs:∀ i,i<ins.length→RegR (anew Γ1 [] m1.length ins.length) st1 i (getM (aL [] outs w 0) i):=fun i hi=>by
           have:=hregs i (by omega)
           rw[Nat.zero_add] at this
           rw[fj (m1:=m1) c7]; exact this
         have hmv:=gN (l:=[]) (n:=ins.length) g3
         have hle:ins.length≤m1.length:=by
           have:=g4.len
           rw[bE] at this
           exact this
         have hat:∀ j,j<ins.length→anew Γ1 [] m1.length ins.length j=Γ1 j:=fun j hj=>by
           have e:muF [] j=j:=rfl
           unfold anew
           rw[if_pos hj,e,if_neg (by omega)]
         have hno:∀ j,¬ j<ins.length→anew Γ1 [] m1.length ins.length j=none:=fun j hj=>by
           unfold anew
           rw[if_neg hj]
         have hΓ:∀ j y,anew Γ1 [] m1.length ins.length j=some y→j<ins.length∧Γ1 j=some y:=fun j y hy=>by
           by_cases hj:j<ins.length
           · exact ⟨hj,by rw[← hat j hj]; exact hy⟩
           · rw[hno j hj] at hy; cases hy
         refine ⟨a,st1,anew Γ1 [] m1.length ins.length,?_,?_,⟨?_,?_,?_,?_,g3.old,?_⟩,?_⟩
         · unfold runF
           have:Nat.beq as.length (fn.params.size+fn.nfree)=true:=by rw[Nat.beq_eq]; omega
           rw[hb] at c9
           simp only[Option.getD_some] at c9
           rw[this,hb]
           simp only[cond_true,Option.getD_some,c9,c10,Bool.and_self]
           rw[g6]
           rcases hee with rfl | rfl<;>simp only[q3,Option.map_some]
         · cases hf:res.free with
           | true=>exact rJ hf q4
           | false =>
             rw[hf,Bool.false_or] at c3
             exact bG (fun j y hj hy=>by rw[hat j (cU c3 hj)]; exact hy) q4
         · intro id hid
           rw[bE] at hid
           exact hregs id (by rw[← c8]; exact hid)
         · intro id hid
           rw[bE] at hid
           exact hno id (by rw[← c8]; exact Nat.not_lt.2 hid)
         · intro i j r n l n' l' hi hj
           exact g3.inj _ _ _ _ _ _ _ (hΓ _ _ hi).2 (hΓ _ _ hj).2
         · intro i r n l hi
           exact g3.lt _ _ _ _ (hΓ _ _ hi).2
         · intro r g i n l hg hi
           exact g3.dis _ _ _ _ _ hg (hΓ _ _ hi).2
         · intro j y hbx hy
           obtain ⟨b1,e1,t1,x1,e2,t2,x2,b2,b3,b4⟩:=ou (m0:=[]) (m1:=[]) (v:=v) (w:=w) (a:=0) (b:=0) d2 j hbx
           rw[Nat.zero_add] at b1
           obtain ⟨k,hk⟩:=rC b1
           obtain ⟨s1,s2⟩:=acw d1 hk
           obtain ⟨u1,hu1⟩:=aa5 (v:=pv) (n:=0) s2
           rw[Nat.zero_add] at hu1
           obtain ⟨u2,hu2⟩:=si hbt hk
           have f1:=(hslot k _ hu1).2
           have f2:=(g2 k _ hu2).2
           rw[g5 k s1] at f2
           simp only[R] at f1 f2
           obtain ⟨r1,n1,f3,f4⟩:=f1
           obtain ⟨r2,n2,f5,f6⟩:=f2
           rw[f4] at f6
           cases f6
           have h1:=hmem.at j
           rw[b2] at h1
           obtain ⟨_,_,_,r3,_,h2,_⟩:=h1
           have hj:j<ins.length:=by
             rcases Nat.lt_or_ge j ins.length with h' | h'
             · exact h'
             · have:=hmem.out j (by rw[bE]; exact h')
               rw[this] at f3; cases f3
           have h3:=hregs j hj
           rw[b3] at h3
           obtain ⟨_,_,_,r4,_,h4,_⟩:=h3
           rw[hat j hj] at h4 ⊢
           rw[f3] at hy h2
           rw[f5] at h4
           rw[f5,← hy]
           cases h2
           cases h4
           rw[b4]
   · cases hr
end
end Go.TY
namespace Go.TY
open Go.EM
section
variable {P:Program}{E:Env}{ET:TEnv}{h:Hints}{H:TH}
theorem abr (hE:EnvT E ET) {fn:Func}{ps:Ty}{A:Type}{ok:Bool}{fin:TS→Mem→Option A}{pv:ps.V}{v:A}{as:List AVal}{st:aq}{Γ:Ctx} (hps:R Γ ps pv false as) (hr:newG P E h ET H fn ps ok fin pv=some v) :
   ok=true∧∃ σ1 m1 σA1 st1 Γ1,fin σ1 m1=some v∧co Γ1 σ1 σA1∧MemR (fun r=>st[r]?) Γ1 m1 st1∧∀ av,resV P σA1 st1 fn.results.toList=some av→runF P E h fn as st=some (av,st1):=by
 unfold newG at hr
 cases hc:(Nat.beq (rowLen ps) (fn.params.size+fn.nfree)&&rowV ps&&ps.closed&&ok&&ct fn.ntmps (fn.body.getD .skip)&&Nat.ble (fn.params.size+fn.nfree) fn.ntmps) with
 | false=>rw[hc] at hr; cases hr
 | true =>
   rw[hc,cond_true] at hr
   simp only[Bool.and_eq_true,Nat.beq_eq] at hc
   obtain ⟨⟨⟨⟨⟨c1,c2⟩,c3⟩,c4⟩,c6⟩,c7⟩:=hc
   refine ⟨c4,?_⟩
   split at hr
   · rename_i c hb
     have hps:R Γ0 ps pv false as:=aP c3 hps
     have hlen:=(d6 (n:=0) (k:=0) c2 hps).1
     have hslot:co Γ0 (eO ps pv 0) (dA (List.range (fn.params.size+fn.nfree)) 0 as):=by
       intro k w hw
       obtain ⟨g1,g2,g3,g4⟩:=(d6 (n:=0) (k:=k) c2 hps).2 w hw
       refine ⟨g1,?_⟩
       rw[List.range_eq_range',fe _ _ _ _ (by omega) (by omega)]
       rw[Nat.sub_zero] at g3
       exact g3
     have hmem:MemR (fun r=>st[r]?) Γ0 [] st:=⟨(fun id hid=>by simp at hid),(fun _ _=>rfl),(fun i j r n l n' l' h=>by cases h),(fun i r n l h=>by cases h),(fun r g h=>h),(fun r g i n l h h2=>by cases h2)⟩
     obtain ⟨x,σ1,m1,σA1,st1,Γ1,g1,g2,g3,g4,g5,g6⟩:=kr hE c hslot hmem hr
     have hend:fin σ1 m1=some v∧(x = .normal∨x = .ret):=by
       cases x with
       | normal=>exact ⟨g1,.inl rfl⟩
       | ret=>exact ⟨g1,.inr rfl⟩
       | exit i=>cases g1
     obtain ⟨he,hee⟩:=hend
     refine ⟨σ1,m1,σA1,st1,Γ1,he,g2,g3,fun av hv => ?_⟩
     unfold runF
     have hl2:Nat.beq as.length (fn.params.size+fn.nfree)=true:=by rw[Nat.beq_eq]; omega
     rw[hb] at c6
     simp only[Option.getD_some] at c6
     rw[hl2,hb]
     simp only[cond_true,Option.getD_some,c6,c7,Bool.and_self]
     rw[g6]
     rcases hee with rfl | rfl<;>simp only[hv,Option.map_some]
   · cases hr
theorem iF {σA:aN}{st:aq}{rs:List ResultVar}{a:AVal} (h:resL P σA st rs=some [a]):resV P σA st rs=some a:=by
 unfold resV
 split
 · simp only[resL,Option.map_some,Option.some.injEq,List.cons.injEq,and_true] at h
   rw[h]
 · rw[h]; rfl
theorem abj {Φ:Frame}{Γ:Ctx}{m:Mem}{st st1:aq} (g3:MemR (fun r=>st[r]?) Γ m st1):∀ q,q<st.length→st1[q]? = st[q]? := fun q hq=>by
 have:=g3.old q _ (List.getElem?_eq_getElem hq)
 rw[this,List.getElem?_eq_getElem hq]
theorem ae3 {Γ:Ctx}{m:Mem}{st st1:aq} (g3:MemR (fun r=>st[r]?) Γ m st1) {j r n l:Nat} (h:Γ j=some (.inr (r,n,l))):st.length≤r:=by
 rcases Nat.lt_or_ge r st.length with h' | h'
 · exact absurd h (g3.dis r _ j _ _ (List.getElem?_eq_getElem h'))
 · exact h'
theorem ad2 (hE:EnvT E ET) {fn:Func}{ps k u:Ty}{e:Nat}{fnT:ps.V→Option (List (k.V×u.V))} (hrun:aqu P E h ET H fn ps k u=fnT):TNewOk (runF P E h fn) ⟨ps,e,.sl (.cons k u),fnT,false,true,false⟩:=by
 refine ⟨(fun h=>by cases h),(fun _ h=>by cases h),fun _ _ st pv v as Γ hps hr => ?_,fun _ _ h=>by cases h⟩
 simp only at hr hps
 rw[← hrun] at hr
 obtain ⟨hok,σ1,m1,σA1,st1,Γ1,he,g2,g3,g4⟩:=abr (st:=st) hE hps hr
 rw[Bool.and_eq_true] at hok
 unfold ae7 at he
 split at he
 · rename_i j _ hl
   obtain ⟨as',q1,q2⟩:=j0 (P:=P) g2 g3 hl
   split at he
   · rename_i k' u' xs hg
     obtain ⟨ee,hxx⟩:=aV he
     cases ee
     subst hxx
     have hreg:=g3.at j
     rw[hg] at hreg
     obtain ⟨_,_,_,_,r,es,h5,h6,h7⟩:=hreg
     match as',q2 with
     | [a],q2 =>
       have q3:=q2.1.2
       simp only[R] at q3
       obtain ⟨r',s1,s2⟩:=q3
       rw[h5] at s1
       cases s1
       cases s2
       exact ⟨r,es,st1,g4 _ (iF q1),abj (Φ:=fun r=>st[r]?) g3,ae3 g3 h5,h6,aG (p:=fun (p:k.V×u.V) (e:AVal×AVal)=>R Γ1 k p.1 false [e.1]∧R Γ1 u p.2 false [e.2]) (fun x a hx=>⟨aP hok.1 hx.1,aP hok.2 hx.2⟩) h7⟩
   · cases he
 · cases he
theorem ad1 (hE:EnvT E ET) {fn:Func}{ps u rs:Ty}{e:Nat}{fnT:ps.V→Option (List u.V×rs.V)} (hrun:aqt P E h ET H fn ps e u rs=fnT):TNewOk (runF P E h fn) ⟨ps,e,.cons (.sl u) rs,fnT,false,false,true⟩:=by
 refine ⟨fun _ st pv v as Γ hps hr => ?_,(fun h=>by cases h),(fun h=>by cases h),fun h=>by cases h⟩
 simp only at hr hps
 rw[← hrun] at hr
 obtain ⟨hok,σ1,m1,σA1,st1,Γ1,he,g2,g3,g4⟩:=abr (st:=st) hE hps hr
 rw[Bool.and_eq_true] at hok
 unfold ab7 at he
 split at he
 · rename_i w x l hl
   obtain ⟨as',q1,q2⟩:=j0 (P:=P) g2 g3 hl
   match as',q2 with
   | a::b::bs,q2 =>
     have hv:resV P σA1 st1 fn.results.toList=some (.tup (a::b::bs)):=by
       unfold resV
       split
       · rename_i tt hrs
         rw[hrs] at q1
         simp[resL] at q1
       · rw[q1]; rfl
     cases hy:aS rs (x::l) with
     | none=>rw[hy] at he; cases he
     | some y =>
       rw[hy] at he
       simp only[Option.bind_some] at he
       have hb:R Γ0 rs y false (b::bs):=aP hok.2 (dR hy q2.2)
       have hw:=q2.1.2
       split at he
       · rename_i w' hww
         cases he
         simp only[R] at hw
         cases hw
         exact ⟨b::bs,st1,abj (Φ:=fun r=>st[r]?) g3,hb,.inl ⟨rfl,g4 _ hv⟩⟩
       · rename_i j o w' hww
         have hreg:=g3.at j
         split at he
         · rename_i e' t' v' hg
           rw[hg] at hreg
           obtain ⟨_,_,_,r,c,r1,r2,r3⟩:=hreg
           cases hk:(Nat.beq o 0&&Nat.beq e e'&&Nat.beq u.size t'.size) with
           | false=>rw[hk] at he; cases he
           | true =>
             rw[hk,cond_true] at he
             simp only[Bool.and_eq_true,Nat.beq_eq] at hk
             obtain ⟨⟨k1,k2⟩,k3⟩:=hk
             rw[Option.map_eq_some_iff] at he
             obtain ⟨z,hz,hv2⟩:=he
             subst hv2
             simp only[R] at hw
             obtain ⟨r',n',s1,s2⟩:=hw
             rw[r1] at s1
             cases s1
             cases s2
             refine ⟨b::bs,st1,abj (Φ:=fun r=>st[r]?) g3,hb,.inr ⟨z,r,c,rfl,?_,ae3 g3 r1,by rw[k2,k3]; exact r2,aP hok.1 (bX hz r3)⟩⟩
             rw[k1] at hv; exact g4 _ hv
         · cases he
       · cases he
 · cases he
end
end Go.TY
namespace Go.TY
open Go.EM
def mH (l:List (Nat×PFn)) (lt:List (Nat×TFn)):Prop:=∀ f tf,aK lt f=some tf→∃ F,aK l f=some F∧TOk F tf
theorem al {l:List (Nat×PFn)}:mH l []:=fun f tf h=>by cases h
theorem ah {l:List (Nat×PFn)}{lt:List (Nat×TFn)}{k:Nat}{F:PFn}{tf:TFn} (h:TOk F tf) (hl:mH l lt):mH ((k,F)::l) ((k,tf)::lt):=fun f tf' hf=>by
 simp only[aK] at hf ⊢
 cases hk:Nat.beq k f with
 | true=>rw[hk,cond_true] at hf; cases hf; exact ⟨F,rfl,h⟩
 | false=>rw[hk,cond_false] at hf; exact hl f tf' hf
def mI (pl l:List (Nat×PFn)) (lt:List (Nat×TFn)):Prop:=∀ f tf,aK lt f=some tf→aK pl f=none∧∃ F,aK l f=some F∧TOk F tf
theorem am {pl l:List (Nat×PFn)}:mI pl l []:=fun f tf h=>by cases h
theorem jI {pl l:List (Nat×PFn)}{lt:List (Nat×TFn)}{k:Nat}{F:PFn}{tf:TFn} (h:TOk F tf) (hn:aK pl k=none) (hl:mI pl l lt):mI pl ((k,F)::l) ((k,tf)::lt):=fun f tf' hf=>by
 simp only[aK] at hf ⊢
 cases hk:Nat.beq k f with
 | true=>rw[hk,cond_true] at hf; cases hf; rw[Nat.beq_eq] at hk; subst hk; exact ⟨hn,F,rfl,h⟩
 | false=>rw[hk,cond_false] at hf; exact hl f tf' hf
def jW (l:List (Nat×AVal)) (lt:List (Nat×TV)):Prop:=∀ g w,aK lt g=some w→w.t.isV=true∧w.t.still=true∧R Γ0 w.t w.v false [(aK l g).getD .any]
theorem abQ {l:List (Nat×AVal)}:jW l []:=fun f tf h=>by cases h
theorem ob {l:List (Nat×AVal)}{lt:List (Nat×TV)}{k:Nat}{a:AVal}{w:TV} (h1:w.t.isV=true) (h2:w.t.still=true) (h:R Γ0 w.t w.v false [a]) (hl:jW l lt):jW ((k,a)::l) ((k,w)::lt):=fun f tf' hf=>by
 simp only[aK] at hf ⊢
 cases hk:Nat.beq k f with
 | true=>rw[hk,cond_true] at hf; cases hf; exact ⟨h1,h2,h⟩
 | false=>rw[hk,cond_false] at hf; simp only[cond_false]; exact hl f tf' hf
def oF (pl ll:List (Nat×PFn)) (l:List (Nat×SFn)) (lt:List (Nat×TRaw)):Prop:=∀ f tr,aK lt f=some tr→aK pl f=none∧aK ll f=none∧∃ F,aK l f=some F∧TRawOk F tr
theorem au {pl ll:List (Nat×PFn)}{l:List (Nat×SFn)}:oF pl ll l []:=fun f tr h=>by cases h
theorem ci {pl ll:List (Nat×PFn)}{l:List (Nat×SFn)}{lt:List (Nat×TRaw)}{k:Nat}{F:SFn}{tr:TRaw} (h:TRawOk F tr) (h1:aK pl k=none) (h2:aK ll k=none) (hl:oF pl ll l lt):oF pl ll ((k,F)::l) ((k,tr)::lt):=fun f tr' hf=>by
 simp only[aK] at hf ⊢
 cases e:Nat.beq k f with
 | true =>
   rw[e,cond_true] at hf
   cases hf
   rw[← Nat.eq_of_beq_eq_true e]
   exact ⟨h1,h2,F,rfl,h⟩
 | false =>
   rw[e,cond_false] at hf
   exact hl f tr' hf
def afh (E:Env) (lt:List (Nat×TFn)):Prop:=∀ f tf,aK lt f=some tf→∃ F,(aK E.pure f=some F∨aK E.pure f=none∧memN f E.same=false∧aK E.ext f=some F)∧TOk F tf
theorem az {E:Env}{lt:List (Nat×TFn)} (h:mH E.pure lt):afh E lt:=fun f tf hf=>by
 obtain ⟨F,h1,h2⟩:=h f tf hf
 exact ⟨F,.inl h1,h2⟩
def wE (pl ll:List (Nat×PFn)) (l:List (Nat×SFn)) (lt:List (Nat×TNew)):Prop:=∀ f tr,aK lt f=some tr→aK pl f=none∧aK ll f=none∧∃ F,aK l f=some F∧TNewOk F tr
theorem ar {pl ll:List (Nat×PFn)}{l:List (Nat×SFn)}:wE pl ll l []:=fun f tr h=>by cases h
theorem iN {pl ll:List (Nat×PFn)}{l:List (Nat×SFn)}{lt:List (Nat×TNew)}{k:Nat}{F:SFn}{tr:TNew} (h:TNewOk F tr) (h1:aK pl k=none) (h2:aK ll k=none) (h3:aK l k=some F) (hl:wE pl ll l lt):wE pl ll l ((k,tr)::lt):=fun f tr' hf=>by
 simp only[aK] at hf
 cases e:Nat.beq k f with
 | true =>
   rw[e,cond_true] at hf
   cases hf
   rw[← Nat.eq_of_beq_eq_true e]
   exact ⟨h1,h2,F,h3,h⟩
 | false =>
   rw[e,cond_false] at hf
   exact hl f tr' hf
theorem iG {pl ll:List (Nat×PFn)}{l:List (Nat×SFn)}{lt:List (Nat×TRaw)}{k:Nat}{F:SFn} (hl:oF pl ll l lt) (hk:aK lt k=none):oF pl ll ((k,F)::l) lt:=fun f tr hf=>by
 obtain ⟨h1,h2,F',h3,h4⟩:=hl f tr hf
 refine ⟨h1,h2,F',?_,h4⟩
 simp only[aK]
 cases e:Nat.beq k f with
 | true =>
   rw[Nat.eq_of_beq_eq_true e,hf] at hk; cases hk
 | false=>exact h3
theorem EnvT.ofX {E:Env}{ET:TEnv} (h1:afh E ET.pure) (h2:mI E.pure E.look ET.look) (h4:oF E.pure E.look E.raw ET.raw) (h3:jW E.glob ET.glob) (h5:wE E.pure E.look E.raw ET.fresh:=by exact ar) (h6:mG E:=by exact lr rfl):EnvT E ET:=⟨h1,h2,h4,h5,h3,h6⟩
theorem EnvT.of {E:Env}{ET:TEnv} (h1:mH E.pure ET.pure) (h2:mI E.pure E.look ET.look) (h3:jW E.glob ET.glob) (h4:ET.raw=[]:=by rfl) (h5:ET.fresh=[]:=by rfl) (h6:mG E:=by exact lr rfl):EnvT E ET:=⟨az h1,h2,(fun f tr h=>by rw[h4] at h; cases h),(fun f tr h=>by rw[h5] at h; cases h),h3,h6⟩
theorem ww {k:IntKind}:∀ (xs:List Int),∃ ls:List (List AVal),xs.map (AVal.int k)=ls.flatten∧All2 (fun x c=>R Γ0 (.int k) x true c) xs ls
 | []=>⟨[],rfl,trivial⟩
 | x::xs=>by
   obtain ⟨ls,h1,h2⟩:=ww (k:=k) xs
   exact ⟨[.int k x]::ls,by simp[h1],rfl,h2⟩
theorem abR {k:IntKind}{xs:List Int}{n:Nat} (hn:xs.length=n):R Γ0 (.rp (.arr n (.int k)) 0) xs false [.rptr (xs.map (AVal.int k))]:=by
 obtain ⟨ls,h1,h2⟩:=ww (k:=k) xs
 exact ⟨.agg (xs.map (AVal.int k)),[],⟨_,rfl,hn,ls,h1,h2⟩,fun _=>rfl,by simp[AVal.cells]⟩
theorem so {k k':IntKind}:∀ (xs:List (Int×Int×Unit)),∃ ls:List (List AVal),(xs.flatMap fun p=>[AVal.int k p.1,AVal.int k' p.2.1])=ls.flatten∧All2 (fun x c=>R Γ0 (.agg (.cons (.int k) (.cons (.int k') .unit))) x true c) xs ls
 | []=>⟨[],rfl,trivial⟩
 | x::xs=>by
   obtain ⟨ls,h1,h2⟩:=so (k:=k) (k':=k') xs
   exact ⟨[.int k x.1,.int k' x.2.1]::ls,by simp[h1],⟨[_],[_],rfl,rfl,[_],[],rfl,rfl,rfl⟩,h2⟩
theorem xO {k k':IntKind}{xs:List (Int×Int×Unit)}{n:Nat} (hn:xs.length=n):R Γ0 (.rp (.arr n (.agg (.cons (.int k) (.cons (.int k') .unit)))) 0) xs false [.rptr (xs.flatMap fun p=>[AVal.int k p.1,AVal.int k' p.2.1])]:=by
 obtain ⟨ls,h1,h2⟩:=so (k:=k) (k':=k') xs
 exact ⟨.agg _,[],⟨_,rfl,hn,ls,h1,h2⟩,fun _=>rfl,by simp[AVal.cells]⟩
section
variable {A X:Type}
theorem lN {f:A→Option (A⊕X)}:∀ (n:Nat) (a:A) (x:X),ew f n a=some x→ew f (n+1) a=some x
 | 0,_,_,h=>by cases h
 | n+1,a,x,h=>by
   simp only[ew,Option.bind_eq_some_iff] at h ⊢
   obtain ⟨y,hy,h⟩:=h
   refine ⟨y,hy,?_⟩
   cases y with
   | inl b=>exact lN n b x h
   | inr z=>exact h
theorem rk {f:A→Option (A⊕X)}{n m:Nat} (hnm:n≤m) {a:A}{x:X} (h:ew f n a=some x):ew f m a=some x:=by
 induction hnm with
 | refl=>exact h
 | step _ ih=>exact lN _ _ _ ih
theorem lO {f:A→Option (A⊕X)}{a:A}{x:X}:aJ f a=some x↔∃ n,ew f n a=some x:=by
 unfold aJ
 split
 · rename_i h
   obtain ⟨x',hx'⟩:=h.choose_spec
   constructor
   · intro e; exact ⟨_,e⟩
   · rintro ⟨n,hn⟩
     have h1:=rk (Nat.le_max_left n h.choose) hn
     have h2:=rk (Nat.le_max_right n h.choose) hx'
     rw[h1] at h2
     rw[hx']; exact h2.symm
 · rename_i h
   constructor
   · intro e; cases e
   · rintro ⟨n,hn⟩; exact absurd ⟨n,x,hn⟩ h
theorem po (f:A→Option (A⊕X)) (a:A):aJ f a=(f a).bind (be (aJ f)):=by
 apply Option.ext
 intro x
 rw[lO]
 constructor
 · rintro ⟨n,hn⟩
   cases n with
   | zero=>cases hn
   | succ n =>
     simp only[ew,Option.bind_eq_some_iff] at hn ⊢
     obtain ⟨y,hy,h⟩:=hn
     refine ⟨y,hy,?_⟩
     cases y with
     | inl b=>exact lO.2 ⟨n,h⟩
     | inr z=>exact h
 · intro h
   simp only[Option.bind_eq_some_iff] at h
   obtain ⟨y,hy,h⟩:=h
   cases y with
   | inl b =>
     obtain ⟨n,hn⟩:=lO.1 h
     exact ⟨n+1,by simp only[ew,hy,Option.bind_some]; exact hn⟩
   | inr z=>exact ⟨1,by simp only[ew,hy,Option.bind_some]; exact h⟩
theorem aD {f:A→Option (A⊕X)}{a b:A} (h:f a=some (.inl b)):aJ f a=aJ f b:=by rw[po,h]; rfl
theorem aw {f:A→Option (A⊕X)}{a:A}{x:X} (h:f a=some (.inr x)):aJ f a=some x:=by rw[po,h]; rfl
@[simp] theorem aW {f:A→Option X}{a:A}:be f (.inl a)=f a:=rfl
@[simp] theorem db {f:A→Option X}{x:X}:be f (.inr x)=some x:=rfl
end
@[simp] theorem ac {A:Type}{p:Prop} [Decidable p] {x y:A}:cond (decide p) x y=if p then x else y:=by by_cases h:p<;>simp[h]
@[simp] theorem bT {A:Type}{p:Prop} [Decidable p] {x y:A}:cond (!decide p) x y=if p then y else x:=by by_cases h:p<;>simp[h]
theorem aeC {X:Type}{p q:Prop} [Decidable p] [Decidable q] {f:Bool×Unit→Option X}:((if p then some (.inl (decide q,())) else some (.inl (false,())):Option ((Bool×Unit)⊕X)).bind (be f))=f (decide (p∧q),()):=by
 by_cases hp:p<;>by_cases hq:q<;>simp[hp,hq]
theorem aee {A:Type}{p q:Prop} [Decidable p] [Decidable q] {x y:A}:(if p then (if q then x else y) else y)=if p∧q then x else y:=by
 by_cases hp:p<;>by_cases hq:q<;>simp[hp,hq]
theorem ajH {A:Type}{p q:Prop} [Decidable p] [Decidable q] {x y:A}:(if p then x else (if q then x else y))=if p∨q then x else y:=by
 by_cases hp:p<;>by_cases hq:q<;>simp[hp,hq]
theorem aF {A X:Type}{f:A→Option X}{a:A}:((some (.inl a):Option (A⊕X)).bind (be f))=f a:=rfl
theorem aY {A X:Type}{f:A→Option X}{x:X}:((some (.inr x):Option (A⊕X)).bind (be f))=some x:=rfl
theorem jM {A X:Type}{p:Prop} [Decidable p] {z:X}{a:A}{f:A→Option X}:(((if p then some (.inr z) else some (.inl a)):Option (A⊕X)).bind (be f))=if p then some z else f a:=by
 by_cases hp:p<;>simp[hp]
theorem wrap64 {n:Int} (h1 : -9223372036854775808≤n) (h2:n≤9223372036854775807):IntKind.wrap .i64 n=n:=by
 simp[IntKind.wrap,IntKind.bits,IntKind.signed]; omega
theorem ajd {n:Int} (h1:0≤n) (h2:n<18446744073709551616):IntKind.wrap .u64 n=n:=by
 simp[IntKind.wrap,IntKind.bits,IntKind.signed]; omega
theorem cr {n:Nat} (h:n<4294967296):dN n=some ():=by unfold dN; rw[if_pos (by simpa [most] using h)]
theorem bN {A:Type}{l:List A}{i:Nat}:atI l (i:Int)=l[i]? := by unfold atI; rw[if_pos (by omega)]; simp
theorem aX {A:Type}{l:List A}{i:Nat} (h:i<l.length):atI l (i:Int)=some l[i]:=by rw[bN,List.getElem?_eq_getElem h]
theorem adx {A:Type}{l:List A}{i j:Nat} (h:i≤j) (h2:j≤l.length):subI l (i:Int) (j:Int)=some ((l.take j).drop i):=by unfold subI; rw[if_pos (by omega)]; simp
theorem ga {A:Type}{l:List A}{i:Nat} (h2:i≤l.length):subI l (i:Int) (l.length:Int)=some (l.drop i):=by rw[adx h2 (Nat.le_refl _),List.take_of_length_le (Nat.le_refl _)]
theorem cg {n i:Nat} (h:i<n):inI n (i:Int)=some i:=by unfold inI; rw[if_pos (by omega)]; simp
theorem ajz {n:Nat} (h:n<4294967296):mkT (n:Int) (n:Int)=some ():=by unfold mkT; rw[if_pos ⟨rfl,by omega,by omega⟩]
end Go.TY
namespace Go.TY
open Go.EM
end Go.TY
namespace Go.TY
open Go.EM
def Ty.wf:Ty→Bool
 | .int _=>true
 | .bool=>true
 | .str=>true
 | .unit=>true
 | .sl t=>t.wf&&t.isV
 | .agg t=>t.wf
 | .arr _ t=>t.wf
 | .tup t=>t.wf
 | .cons t ts=>t.isV&&t.wf&&ts.wf
 | _=>false
theorem wG {A:Type}{p:A→AVal→Prop} (hp:∀ x y a,p x a→p y a→x=y):∀ {v v':List A}{as:List AVal},All2 p v as→All2 p v' as→v=v'
 | [],[],[],_,_=>rfl
 | x::v,y::v',a::as,h,h'=>by rw[hp x y a h.1 h'.1,wG hp h.2 h'.2]
 | [],_::_,[],_,h=>h.elim
 | _::_,[],[],h,_=>h.elim
 | [],_,_::_,h,_=>h.elim
 | _,[],_::_,_,h=>h.elim
 | _::_,_,[],h,_=>h.elim
theorem mJ {A:Type}{p:A→List AVal→Prop}{n:Nat} (hp:∀ x y l,p x l→p y l→x=y) (hn:∀ x l,p x l→l.length=n):∀ {v v':List A}{ls ls':List (List AVal)},v.length=v'.length→ls.flatten=ls'.flatten→All2 p v ls→All2 p v' ls'→v=v'
 | [],[],_,_,_,_,_,_=>rfl
 | [],_::_,_,_,h,_,_,_=>by simp at h
 | _::_,[],_,_,h,_,_,_=>by simp at h
 | x::v,y::v',l::ls,l'::ls',hl,hf,h,h'=>by
   have e1:=hn x l h.1
   have e2:=hn y l' h'.1
   rw[List.flatten_cons,List.flatten_cons] at hf
   have:=List.append_inj hf (by omega)
   obtain ⟨e3,e4⟩:=this
   subst e3
   rw[hp x y l h.1 h'.1,mJ hp hn (by simpa using hl) e4 h.2 h'.2]
 | _::_,_,[],_,_,_,h,_=>h.elim
 | _,_::_,_,[],_,_,_,h=>h.elim
theorem qe {Γ:Ctx}:∀ {t:Ty}{v v':t.V}{c:Bool}{l:List AVal},t.wf=true→R Γ t v c l→R Γ t v' c l→v=v'
 | .int k,v,v',c,l,hw,h,h'=>by simp only[R] at h h'; subst h; cases h'; rfl
 | .bool,v,v',c,l,hw,h,h'=>by simp only[R] at h h'; subst h; cases h'; rfl
 | .str,v,v',c,l,hw,h,h'=>by simp only[R] at h h'; subst h; cases h'; rfl
 | .unit,v,v',c,l,hw,h,h'=>rfl
 | .sl t,v,v',c,l,hw,h,h'=>by
   simp only[Ty.wf,Bool.and_eq_true] at hw
   simp only[R] at h h'
   rcases h with ⟨e,rfl⟩ | ⟨f,n,as,rfl,_,h⟩
   · rcases h' with ⟨e',_⟩ | ⟨_,_,_,h',_⟩
     · rw[e,e']
     · cases h'
   · rcases h' with ⟨_,h'⟩ | ⟨f',n',as',h1,_,h'⟩
     · cases h'
     · cases h1
       exact wG (p:=fun x a=>R Γ t x false [a]) (fun x y a hx hy=>qe (t:=t) hw.1 hx hy) h h'
 | .agg t,v,v',c,l,hw,h,h'=>by
   simp only[Ty.wf] at hw
   cases c with
   | true=>simp only[R] at h h'; exact qe (t:=t) hw h h'
   | false =>
     simp only[R] at h h'
     obtain ⟨cs,rfl,h⟩:=h
     obtain ⟨cs',e,h'⟩:=h'
     cases e
     exact qe (t:=t) hw h h'
 | .arr n t,v,v',c,l,hw,h,h'=>by
   simp only[Ty.wf] at hw
   cases c with
   | true =>
     simp only[R] at h h'
     obtain ⟨e1,ls,e2,h⟩:=h
     obtain ⟨e3,ls',e4,h'⟩:=h'
     exact mJ (p:=fun x c=>R Γ t x true c) (n:=t.size) (fun x y l hx hy=>qe (t:=t) hw hx hy) (fun x l hx=>dI hx) (by rw[e1,e3]) (e2.symm.trans e4) h h'
   | false =>
     simp only[R] at h h'
     obtain ⟨cs,rfl,e1,ls,e2,h⟩:=h
     obtain ⟨cs',e,e3,ls',e4,h'⟩:=h'
     cases e
     exact mJ (p:=fun x c=>R Γ t x true c) (n:=t.size) (fun x y l hx hy=>qe (t:=t) hw hx hy) (fun x l hx=>dI hx) (by rw[e1,e3]) (e2.symm.trans e4) h h'
 | .tup t,v,v',c,l,hw,h,h'=>by
   simp only[Ty.wf] at hw
   simp only[R] at h h'
   obtain ⟨as,rfl,h⟩:=h
   obtain ⟨as',e,h'⟩:=h'
   cases e
   exact qe (t:=t) hw h h'
 | .cons t ts,v,v',c,l,hw,h,h'=>by
   simp only[Ty.wf,Bool.and_eq_true] at hw
   simp only[R] at h h'
   obtain ⟨l1,l2,e,h1,h2⟩:=h
   obtain ⟨l1',l2',e',h1',h2'⟩:=h'
   have hlen:l1.length=l1'.length:=by
     cases c with
     | true=>rw[dI h1,dI h1']
     | false =>
       obtain ⟨a,rfl⟩:=eL hw.1.1 h1
       obtain ⟨a',rfl⟩:=eL hw.1.1 h1'
       rfl
   obtain ⟨g1,g2⟩:=List.append_inj (e.symm.trans e') hlen
   subst g1; subst g2
   exact Prod.ext (qe hw.1.2 h1 h1') (qe hw.2 h2 h2')
 | .nilsl,_,_,_,_,hw,_,_=>by cases hw
 | .nilp,_,_,_,_,hw,_,_=>by cases hw
 | .fn f,_,_,_,_,hw,_,_=>by cases hw
 | .err,_,_,_,_,hw,_,_=>by cases hw
 | .undef,_,_,_,_,hw,_,_=>by cases hw
 | .any,_,_,_,_,hw,_,_=>by cases hw
 | .own _,_,_,_,_,hw,_,_=>by cases hw
 | .it _,_,_,_,_,hw,_,_=>by cases hw
 | .mp _,_,_,_,_,hw,_,_=>by cases hw
 | .bx _ _,_,_,_,_,hw,_,_=>by cases hw
 | .op _,_,_,_,_,hw,_,_=>by cases hw
 | .ptr _ _,_,_,_,_,hw,_,_=>by cases hw
 | .ba _ _ _ _,_,_,_,_,hw,_,_=>by cases hw
 | .vw _,_,_,_,_,hw,_,_=>by cases hw
 | .rp _ _,_,_,_,_,hw,_,_=>by cases hw
 | .orp _ _,_,_,_,_,hw,_,_=>by cases hw
 | .cl _ _,_,_,_,_,hw,_,_=>by cases hw
def itT {A B:Type} (step:(A→Option B)→A→Option B):Nat→A→Option B
 | 0,_=>none
 | n+1,a=>step (itT step n) a
open Classical in
noncomputable def fixT {A B:Type} (step:(A→Option B)→A→Option B) (a:A):Option B :=
 if h:∃ n r,itT step n a=some r then itT step h.choose a else none
def itF (mk:PFn→PFn):Nat→PFn
 | 0=>fun _=>none
 | n+1=>mk (itF mk n)
open Classical in
noncomputable def fixF (mk:PFn→PFn) (tf:TFn):PFn:=fun as =>
 if h:∃ a n v r,R Γ0 tf.ps v false as∧tf.fn v=some r∧itF mk n as=some a∧R Γ0 tf.res r false [a] then some h.choose else none
theorem aaW {P:Program}{G:List (Nat×AVal)}{f:Nat}{mk:PFn→PFn}{tf:TFn} (h0:Goes P f) (hs:∀ F,aB P G f F→aB P G f (mk F)):aB P G f (fixF mk tf):=by
 have hn:∀ n,aB P G f (itF mk n):=by
   intro n
   induction n with
   | zero=>exact ⟨h0,fun xs r h=>by cases h⟩
   | succ n ih=>exact hs _ ih
 refine ⟨h0,fun xs r hr => ?_⟩
 unfold fixF at hr
 split at hr
 · rename_i h
   cases hr
   obtain ⟨n,v,r,h1,h2,h3,h4⟩:=h.choose_spec
   exact (hn n).2 xs _ h3
 · cases hr
theorem aql {mk:PFn→PFn}{ps res:Ty}{step:(ps.V→Option res.V)→ps.V→Option res.V} (hc:(ps.closed&&res.closed&&res.isV&&ps.wf)=true) (hs:∀ F rec,TOk F ⟨ps,res,rec⟩→TOk (mk F) ⟨ps,res,step rec⟩):TOk (fixF mk ⟨ps,res,fixT step⟩) ⟨ps,res,fixT step⟩:=by
 simp only[Bool.and_eq_true] at hc
 obtain ⟨⟨⟨c1,c2⟩,c3⟩,c4⟩:=hc
 have hn:∀ n,TOk (itF mk n) ⟨ps,res,itT step n⟩:=by
   intro n
   induction n with
   | zero=>exact ⟨c1,c2,c3,fun v r as h=>by cases h⟩
   | succ n ih=>exact hs _ _ ih
 refine ⟨c1,c2,c3,fun v r as hr hps => ?_⟩
 simp only at hr hps
 have hex:∃ a n v r,R Γ0 ps v false as∧fixT step v=some r∧itF mk n as=some a∧R Γ0 res r false [a]:=by
   have hr':=hr
   unfold fixT at hr'
   split at hr'
   · rename_i h
     obtain ⟨a,h1,h2⟩:=(hn h.choose).run v r as hr' hps
     exact ⟨a,_,v,r,hps,hr,h1,h2⟩
   · cases hr'
 have hF:fixF mk ⟨ps,res,fixT step⟩ as=some hex.choose:=by
   unfold fixF
   exact dif_pos hex
 obtain ⟨n,v',r',h1,h2,h3,h4⟩:=hex.choose_spec
 have e:v'=v:=qe c4 h1 hps
 subst e
 rw[hr] at h2
 cases h2
 exact ⟨_,hF,h4⟩
theorem aqD {A B:Type}{step:(A→Option B)→A→Option B}{a:A}{r:B} (h1:∀ n,itT step n a=none∨itT step n a=some r) (h2:∃ n,itT step n a=some r):fixT step a=some r:=by
 unfold fixT
 obtain ⟨n,hn⟩:=h2
 have h:∃ n r,itT step n a=some r:=⟨n,r,hn⟩
 rw[dif_pos h]
 rcases h1 h.choose with e | e
 · obtain ⟨r',hr'⟩:=h.choose_spec
   rw[e] at hr'; cases hr'
 · exact e
end Go.TY
namespace Go.TY
open Go.EM
end Go.TY
namespace Go.TY
open Go.EM Go.RowKit
abbrev O0:Nat→Prop:=fun _=>False
mutual
def mU:DataW Unit→Option (List AVal)
 | .lit (.int k z)=>some [.int k z]
 | .lit (.bool b)=>some [.bool b]
 | .lit (.string s)=>some [.str s]
 | .agg ps=>j6 ps
 | _=>none
def j6:List (DataW Unit)→Option (List AVal)
 | []=>some []
 | d::ds=>(mU d).bind fun a=>(j6 ds).bind fun b=>some (a++b)
end
def oQ (P:Program):Nat→List Field→Option Nat
 | o,[]=>some o
 | o,f::fs=>if f.offset=o then oQ P (o+P.cellsOf f.type) fs else none
def ru (P:Program):Nat→TypeId→Bool
 | 0,_=>false
 | n+1,t=>match P.underlying t with
   | some .bool=>true
   | some (.int _)=>true
   | some .string=>true
   | some (.struct fs)=>decide (oQ P 0 fs.toList=some (P.cellsOf t))&&fs.toList.all fun f=>ru P n f.type
   | some (.array m e)=>Nat.beq (m*P.cellsOf e) (P.cellsOf t)&&ru P n e
   | _=>false
section
variable {P:Program}{w:World}{enc:TypeId×Value→Unit}{base:Nat}{sp:Nat→Bool}{held:Bool}
theorem me {fuel n:Nat} (ih:∀ t cs (x:DataW Unit×List MemPlace) as,DataW.trod enc P w base sp held fuel t cs=some x→ru P n t=true→mU x.1=some as→All2 (fun a v=>Rep w O0 [] a v) as cs) {cs:List Value} :
   ∀ (fs:List Field) (o e:Nat) (xs:List (DataW Unit×List MemPlace)) (as:List AVal),oQ P o fs=some e→e≤cs.length→(fs.mapM fun f=>DataW.trod enc P w base sp held fuel f.type ((cs.drop f.offset).take (P.cellsOf f.type)))=some xs →
     (fs.all fun f=>ru P n f.type)=true→j6 (xs.map (·.1))=some as→o≤e∧All2 (fun a v=>Rep w O0 [] a v) as ((cs.drop o).take (e-o))
 | [],o,e,xs,as,h,he,hm,hl,hf=>by
   simp only[oQ,Option.some.injEq] at h
   simp only[List.mapM_nil,Option.pure_def,Option.some.injEq] at hm
   subst h; subst hm
   simp only[List.map_nil,j6,Option.some.injEq] at hf
   subst hf
   simp[All2]
 | f::fs,o,e,xs,as,h,he,hm,hl,hf=>by
   simp only[oQ] at h
   split at h
   · rename_i ho
     subst ho
     rw[List.mapM_cons] at hm
     simp only[Option.pure_def,Option.bind_eq_bind,Option.bind_eq_some_iff,Option.some.injEq] at hm
     obtain ⟨x,hx,ys,hy,rfl⟩:=hm
     simp only[List.all_cons,Bool.and_eq_true] at hl
     simp only[List.map_cons,j6,Option.bind_eq_some_iff,Option.some.injEq] at hf
     obtain ⟨a,ha,b,hb,rfl⟩:=hf
     obtain ⟨h1,h2⟩:=me ih fs _ e ys b h he hy hl.2 hb
     refine ⟨by omega,?_⟩
     have e1:(cs.drop f.offset).take (e-f.offset)=(cs.drop f.offset).take (P.cellsOf f.type)++(cs.drop (f.offset+P.cellsOf f.type)).take (e-(f.offset+P.cellsOf f.type)):=by
       rw[← List.drop_drop,← List.take_add]
       congr 1; omega
     rw[e1]
     exact ch (ih _ _ _ _ hx hl.1 ha) h2
   · cases h
theorem og {fuel:Nat}{e:TypeId} (ih:∀ cs (x:DataW Unit×List MemPlace) as,DataW.trod enc P w base sp held fuel e cs=some x→mU x.1=some as→All2 (fun a v=>Rep w O0 [] a v) as cs) {cs:List Value}{c:Nat} :
   ∀ (m i:Nat) (xs:List (DataW Unit×List MemPlace)) (as:List AVal),(i+m)*c≤cs.length→((List.range' i m).mapM fun i=>DataW.trod enc P w base sp held fuel e ((cs.drop (i*c)).take c))=some xs →
     j6 (xs.map (·.1))=some as→All2 (fun a v=>Rep w O0 [] a v) as ((cs.drop (i*c)).take (m*c))
 | 0,i,xs,as,he,hm,hf=>by
   simp only[List.range'_zero,List.mapM_nil,Option.pure_def,Option.some.injEq] at hm
   subst hm
   simp only[List.map_nil,j6,Option.some.injEq] at hf
   subst hf
   simp[All2]
 | m+1,i,xs,as,he,hm,hf=>by
   rw[List.range'_succ,List.mapM_cons] at hm
   simp only[Option.pure_def,Option.bind_eq_bind,Option.bind_eq_some_iff,Option.some.injEq] at hm
   obtain ⟨x,hx,ys,hy,rfl⟩:=hm
   simp only[List.map_cons,j6,Option.bind_eq_some_iff,Option.some.injEq] at hf
   obtain ⟨a,ha,b,hb,rfl⟩:=hf
   have e0:(i+1+m)*c=(i+(m+1))*c:=by rw[Nat.add_assoc,Nat.add_comm 1 m]
   have h2:=og ih m (i+1) ys b (by rw[e0]; exact he) hy hb
   have e1:(cs.drop (i*c)).take ((m+1)*c)=(cs.drop (i*c)).take c++(cs.drop ((i+1)*c)).take (m*c):=by
     rw[Nat.succ_mul,Nat.succ_mul,← List.drop_drop,← List.take_add,Nat.add_comm]
   rw[e1]
   exact ch (ih _ _ _ hx ha) h2
theorem kW:∀ (fuel n:Nat) (t:TypeId) (cs:List Value) (x:DataW Unit×List MemPlace) (as:List AVal),DataW.trod enc P w base sp held fuel t cs=some x→ru P n t=true→mU x.1=some as→All2 (fun a v=>Rep w O0 [] a v) as cs
 | 0,n,t,cs,x,as,h,hl,hf=>by simp[DataW.trod] at h
 | fuel+1,0,t,cs,x,as,h,hl,hf=>by simp[ru] at hl
 | fuel+1,n+1,t,cs,x,as,h,hl,hf=>by
   unfold ru at hl
   split at hl
   · rename_i hu
     obtain ⟨b,rfl,rfl⟩:=DataW.trod_bool hu h
     simp only[mU,Option.some.injEq] at hf; subst hf
     exact ⟨by simp only[Rep],trivial⟩
   · rename_i k hu
     obtain ⟨z,rfl,rfl,_⟩:=DataW.trod_int hu h
     simp only[mU,Option.some.injEq] at hf; subst hf
     exact ⟨by simp only[Rep],trivial⟩
   · rename_i hu
     obtain ⟨s,rfl,rfl,_⟩:=DataW.trod_string hu h
     simp only[mU,Option.some.injEq] at hf; subst hf
     exact ⟨by simp only[Rep],trivial⟩
   · rename_i fs hu
     simp only[Bool.and_eq_true,decide_eq_true_eq] at hl
     unfold DataW.trod at h
     rw[hu] at h
     simp only at h
     split at h
     · rename_i hc
       rw[Option.map_eq_some_iff] at h
       obtain ⟨xs,hm,rfl⟩:=h
       simp only[mU] at hf
       have:=(me (fun t cs x as h hl hf=>kW fuel n t cs x as h hl hf) fs.toList 0 _ xs as hl.1 (by omega) hm hl.2 hf).2
       simpa [← hc] using this
     · cases h
   · rename_i m e hu
     simp only[Bool.and_eq_true,Nat.beq_eq] at hl
     unfold DataW.trod at h
     rw[hu] at h
     simp only at h
     split at h
     · rename_i hc
       rw[Option.map_eq_some_iff] at h
       obtain ⟨xs,hm,rfl⟩:=h
       simp only[mU] at hf
       rw[List.range_eq_range'] at hm
       have:=og (c:=P.cellsOf e) (fun cs x as h hf=>kW fuel n e cs x as h hl.2 hf) m 0 xs as (by rw[Nat.zero_add]; omega) hm hf
       rw[hl.1,← hc] at this
       simpa using this
     · cases h
   · cases hl
end
theorem acM {A B:Type}{p:A→B→Prop}:∀ {l:List A}{m:List B}{i:Nat}{a:A},All2 p l m→l[i]? = some a→∃ b,m[i]? = some b∧p a b
 | [],_,i,a,_,h=>by simp at h
 | x::l,y::m,0,a,h,h'=>by simp at h'; subst h'; exact ⟨y,rfl,h.1⟩
 | x::l,y::m,i+1,a,h,h'=>by simpa using acM h.2 (by simpa using h')
 | _::_,[],_,_,h,_=>h.elim
theorem mem_row {w:World}{b:Nat}:∀ (as:List AVal) (off:Nat),(∀ i a,as[i]? = some a→∃ v,w.cell? ⟨b,off+i,none⟩=some v∧Rep w O0 [] a v)→bZ w O0 [] b off as
 | [],off,h=>by simp only[bZ]
 | a::as,off,h=>by
   simp only[bZ]
   refine ⟨?_,mem_row as (off+1) fun i a' ha => ?_⟩
   · simpa using h 0 a rfl
   · obtain ⟨v,h1,h2⟩:=h (i+1) a' (by simpa using ha)
     exact ⟨v,by rw[← h1]; congr 2; omega,h2⟩
theorem kj {A B:Type}{p:A→B→Prop}:∀ {l:List A}{m:List B},All2 p l m→l.length=m.length
 | [],[],_=>rfl
 | _::l,_::m,h=>by simp[kj h.2]
 | [],_::_,h=>h.elim
 | _::_,[],h=>h.elim
def asz:List AVal→Bool
 | [.any]=>false
 | _=>true
theorem aeb {P:Program}{w:World}:∀ {laid:List (String×DataW Unit)}{ps:List MemPlace},DataW.LaidVars P w laid ps→∀ nm d,(nm,d)∈laid→∀ g t n as,P.globalNamed nm=some g→(P.globals[g]?).map (·.type)=some t→ru P n t=true→mU d=some as→asz as=true →
   Rep w O0 [] (.rptr as) (.pointer (some ⟨g,0,none⟩))∧jn w O0 [] g (.rptr as)
 | [],_,h,nm,d,hm=>by cases hm
 | (nm',d')::laid,ps,h,nm,d,hm=>by
   obtain ⟨g',t',cs,fuel,p,q,hg',ht',hvar,hd,hrest,_⟩:=h
   intro g t n as hg ht hl hf hna
   rcases List.mem_cons.1 hm with e | hm
   · cases e
     obtain rfl:=Option.some.inj (hg.symm.trans hg')
     obtain rfl:=Option.some.inj (ht.symm.trans ht')
     have h2:=kW _ n _ _ _ _ hd hl hf
     refine ⟨?_,fun cs e => ?_⟩
     rotate_left
     · cases e
       refine ⟨fun e=>e,(fun ⟨r,ri,h,_⟩=>by simp at h),?_⟩
       have hl2:=kj h2
       simp only[World.var?,hg,Option.bind_some] at hvar
       split at hvar
       · rename_i c t' fr hh
         cases hvar
         exact ⟨_,_,_,hh,by rw[hl2]; simp,fun e=>by rw[e] at hna; cases hna⟩
       · cases hvar
     simp only[Rep]
     refine ⟨_,_,rfl,.inr ⟨fun e=>e,?_,mem_row as 0 fun i a ha => ?_⟩⟩
     · rintro ⟨r,ri,h,_⟩; simp at h
     · obtain ⟨v,h3,h4⟩:=acM h2 ha
       refine ⟨v,?_,h4⟩
       rw[World.var?_cell hg hvar,Nat.zero_add,← h3]; simp
   · exact aeb hrest nm d hm g t n as hg ht hl hf hna
theorem ud:∀ {zs:List Int}{k:IntKind},aA (zs.map (AVal.int k))=true
 | [],k=>rfl
 | z::zs,k=>by simp only[List.map_cons,aA,closed,Bool.true_and]; exact ud
theorem ako {w:World}:b7 [] w O0 []:=fun g v h=>by cases h
theorem ajS {G:List (Nat×AVal)}{w:World}{k:Nat}{a:AVal} (hc:closed a=true) (hr:Rep w O0 [] a (.pointer (some ⟨k,0,none⟩))∧jn w O0 [] k a) (h:b7 G w O0 []):b7 ((k,a)::G) w O0 []:=fun g v hv=>by
 simp only[aK] at hv
 cases e:Nat.beq k g with
 | true =>
   rw[e,cond_true] at hv
   cases hv
   rw[← Nat.eq_of_beq_eq_true e]
   exact ⟨hc,hr⟩
 | false=>rw[e,cond_false] at hv; exact h g v hv
section
variable {H:Type}{enc:TypeId×Value→H}{P:Program}
theorem qU {w w':World} (h:Quiet w w') {b off:Nat} (hb:b<w.heap.size):w'.frozen? ⟨b,off,none⟩=w.frozen? ⟨b,off,none⟩:=by
 unfold World.frozen?
 simp only[h.old b hb]
theorem xy {w w':World} (h:Quiet w w') (may:MemPlace→Prop):w.keptBut w' may:=by
 refine ⟨h.os,h.output,?_⟩
 intro i hi
 rw[h.old i hi]
 cases w.heap[i]? with
 | none=>trivial
 | some o=>cases o<;>simp
theorem xB {fn:Func}{s:ChangeSpec}{apart fresh handsOn again:Bool}{W W':World}{args:Array Value}{v:Value}{ds:List (DataW H)}{before:List MemPlace}
   (hv:s.vars=[]) (hW:DataW.Whole enc P fn.params.toList s.vars apart W args.toList ds [] before)
   (hres:∀ (b:Nat) (sp:Nat→Bool) (hd:Bool),DataW.TrodAll enc P W' b sp hd fn.resultTypes.toList (v.resultList fn.resultTypes.size) (s.fn H ds).results [])
   (hargs:∀ sp:Nat→Bool,(∀ p∈before,sp p.block=true)→DataW.TrodAll enc P W' 0 sp true fn.params.toList args.toList (s.fn H ds).args before)
   (hvars:(s.fn H ds).vars=[]) (hq:Quiet W W')
   (hok:∀ (j:Nat) (t:TypeId) (r:Value),fn.resultTypes[j]? = some t→(v.resultList fn.resultTypes.size)[j]? = some r→Value.okWide P W' .any 0 t r) :
   s.post enc P fn apart fresh handsOn again W args v W':=by
 have lt:=hW.lt
 have hb:∀ p∈before,(fun b=>decide (b<W.heap.size)) p.block=true:=fun p hp=>decide_eq_true (lt p hp)
 have hV:∀ sp:Nat→Bool,DataW.TrodVars enc P W' sp s.vars (s.fn H ds).vars []:=fun sp=>by rw[hv,hvars]; exact rfl
 obtain ⟨p,q,hA,hV0,he,hz,hn⟩:=id hW
 refine ⟨ds,[],before,[],before,[],hW,?_,?_,?_,?_,?_⟩
 · simpa using hres _ _ _
 · simpa using hargs _ hb
 · simpa using hV _
 · exact World.keptBut_mono (fun p hp=>⟨hp,Or.inr (Or.inl hp)⟩) (xy hq _)
 · intro _
   refine ⟨hok,(s.fn H ds).results++(s.fn H ds).args,[],before,⟨before,[],?_,?_,(List.append_nil _).symm,?_,hn⟩,fun p hp _=>hp⟩
   · have:=ChangeShapes.trodAll_append (hargs _ (fun _ _=>rfl)) (hres 0 (fun _=>true) true)
     simpa using this
   · have:=hV (fun _=>true); rw[hvars] at this; exact this
   · intro b off hp
     have hlt:b<W.heap.size:=lt _ hp
     rw[qU hq hlt]
     exact hz b off hp
end
end Go.TY
namespace Go.TY
open Go.EM Go.RowKit
def aar (f:TypeId→Option Ty):List Field→Option Ty
 | []=>some .unit
 | fd::l=>(f fd.type).bind fun t=>(aar f l).map fun ts=>.cons t ts
def tyOf (P:Program):Nat→TypeId→Option Ty
 | 0,_=>none
 | n+1,t=>match P.underlying t with
   | some .bool=>some .bool
   | some (.int k)=>some (.int k)
   | some .string=>some .str
   | some (.slice e)=>(tyOf P n e).bind fun u=>cond (Nat.beq u.size (P.cellsOf e) && !(Nat.beq u.size 0)&&u.isV) (some (.sl u)) none
   | some (.struct fs)=>cond (decide (oQ P 0 fs.toList=some (P.cellsOf t))) ((aar (tyOf P n) fs.toList).map .agg) none
   | some (.array m e)=>(tyOf P n e).bind fun u=>cond (Nat.beq (m*P.cellsOf e) (P.cellsOf t)) (some (.arr m u)) none
   | _=>none
def wX (P:Program) (n:Nat):List TypeId→Option Ty
 | []=>some .unit
 | t::l=>(tyOf P n t).bind fun u=>(wX P n l).map fun us=>.cons u us
def okV:(t:Ty)→t.V→Prop
 | .int k,n=>k.min≤n∧n≤k.max
 | .str,s=>s.length≤maxLen
 | .sl t,l=>l.length≤maxLen∧∀ x∈l,okV t x
 | .arr n t,l=>l.length=n∧∀ x∈l,okV t x
 | .agg t,v=>okV t v
 | .cons t ts,v=>okV t v.1∧okV ts v.2
 | _,_=>True
def lenV:(t:Ty)→t.V→Nat
 | .str,s=>s.length
 | .sl t,l=>l.length+(l.map (lenV t)).sum
 | .arr _ t,l=>(l.map (lenV t)).sum
 | .agg t,v=>lenV t v
 | .cons t ts,v=>lenV t v.1+lenV ts v.2
 | _,_=>0
structure Bulk {H:Type} (B:DataW H→Nat) (BA:List (DataW H)→Nat):Prop where
 str:∀ b,b.length+1≤B (.lit (.string b))
 lit:∀ l,1≤B (.lit l)
 nil:1≤B .nil
 slice:∀ e s,BA e+1≤B (.slice e s)
 agg:∀ p,BA p+1≤B (.agg p)
 acons:∀ d r,B d+BA r≤BA (d::r)
def sv {H:Type} (w:World) (u:Ty) (d:DataW H) (cs:List Value):Prop :=
 ∃ (v:u.V) (as:List AVal),R Γ0 u v true as∧All2 (fun a c=>Rep w O0 [] a c) as cs∧(∀ c∈cs,c.oneCell'=true)∧okV u v∧∀ B BA,Bulk (H:=H) B BA→lenV u v+1≤B d
def aqR {H:Type} (w:World) (u:Ty) (ds:List (DataW H)) (cs:List Value):Prop :=
 ∃ (v:u.V) (as:List AVal),R Γ0 u v true as∧All2 (fun a c=>Rep w O0 [] a c) as cs∧(∀ c∈cs,c.oneCell'=true)∧okV u v∧∀ B BA,Bulk (H:=H) B BA→lenV u v≤BA ds
theorem sy {w:World}:∀ {as:List AVal}{cs:List Value},All2 (fun a c=>Rep w O0 [] a c) as cs→RepL w O0 [] as cs
 | [],[],_=>rfl
 | a::as,c::cs,h=>⟨c,cs,rfl,h.1,sy h.2⟩
 | [],_::_,h=>h.elim
 | _::_,[],h=>h.elim
theorem iq {A B:Type}{p:A→B→Prop}:∀ {l:List A}{m:List B},All2 p l m→l.length=m.length
 | [],[],_=>rfl
 | _::l,_::m,h=>by simp[iq h.2]
 | [],_::_,h=>h.elim
 | _::_,[],h=>h.elim
section
variable {P:Program}{w:World}{H:Type}{enc:TypeId×Value→H}{base:Nat}{sp:Nat→Bool}{held:Bool}
theorem dg {A:Type}{b:Bool}{x:Option A}{y:A} (h:cond b x none=some y):b=true∧x=some y:=by
 cases b with
 | true=>exact ⟨rfl,h⟩
 | false=>cases h
theorem adv:∀ {n:Nat}{t:TypeId}{u:Ty},tyOf P n t=some u→u.isV=true
 | 0,t,u,h=>by cases h
 | n+1,t,u,h=>by
   unfold tyOf at h
   split at h
   · cases h; rfl
   · cases h; rfl
   · cases h; rfl
   · rw[Option.bind_eq_some_iff] at h
     obtain ⟨v,_,h⟩:=h
     have:=(dg h).2
     cases this; rfl
   · have:=(dg h).2
     rw[Option.map_eq_some_iff] at this
     obtain ⟨_,_,rfl⟩:=this; rfl
   · rw[Option.bind_eq_some_iff] at h
     obtain ⟨v,_,h⟩:=h
     have:=(dg h).2
     cases this; rfl
   · cases h
theorem oj {a:Addr}{v:Value} (h:w.cell? a=some v):a.spot=none∧w.cell? ⟨a.block,a.off,none⟩=some v:=by
 obtain ⟨b,o,sp⟩:=a
 cases sp with
 | none=>exact ⟨rfl,h⟩
 | some z =>
   unfold World.cell? at h
   split at h
   · simp at h
   · cases h
theorem add_block {a:Addr}{k:Nat}:(a.add k).block=a.block∧(a.add k).off=a.off+k:=by
 unfold Addr.add
 split
 · rename_i h; subst h; exact ⟨rfl,rfl⟩
 · exact ⟨rfl,rfl⟩
theorem wd {r:TypeId→List Value→Option (DataW H×List MemPlace)}{f:TypeId→Option Ty} (ih:∀ t cs x u,r t cs=some x→f t=some u→sv w u x.1 cs) {cs:List Value} :
   ∀ (fs:List Field) (o e:Nat) (xs:List (DataW H×List MemPlace)) (us:Ty),oQ P o fs=some e→e≤cs.length→(fs.mapM fun f=>r f.type ((cs.drop f.offset).take (P.cellsOf f.type)))=some xs →
     aar f fs=some us→o≤e∧aqR w us (xs.map (·.1)) ((cs.drop o).take (e-o))
 | [],o,e,xs,us,h,he,hm,hu=>by
   simp only[oQ,Option.some.injEq] at h
   simp only[aar,Option.some.injEq] at hu
   subst h; subst hu
   exact ⟨Nat.le_refl _,(),[],rfl,by simp[All2],by simp,trivial,fun B BA hB=>Nat.zero_le _⟩
 | fd::fs,o,e,xs,us,h,he,hm,hu=>by
   simp only[oQ] at h
   split at h
   · rename_i ho
     subst ho
     rw[List.mapM_cons] at hm
     simp only[Option.pure_def,Option.bind_eq_bind,Option.bind_eq_some_iff,Option.some.injEq] at hm
     obtain ⟨x,hx,ys,hy,rfl⟩:=hm
     simp only[aar,Option.bind_eq_some_iff,Option.map_eq_some_iff] at hu
     obtain ⟨u,hu1,us',hu2,rfl⟩:=hu
     obtain ⟨h1,v2,as2,r1,r2,r3,r4,r5⟩:=wd ih fs _ e ys us' h he hy hu2
     obtain ⟨v1,as1,q1,q2,q3,q4,q5⟩:=ih _ _ _ _ hx hu1
     refine ⟨by omega,(v1,v2),as1++as2,?_,?_,?_,?_,?_⟩
     · simp only[R]; exact ⟨as1,as2,rfl,q1,r1⟩
     rotate_left 3
     · intro B BA hB
       have k1:=q5 B BA hB
       have k2:=r5 B BA hB
       have k3:=hB.acons x.1 (ys.map (·.1))
       simp only[lenV,List.map_cons]
       omega
     all_goals
       have e1:(cs.drop fd.offset).take (e-fd.offset)=(cs.drop fd.offset).take (P.cellsOf fd.type)++(cs.drop (fd.offset+P.cellsOf fd.type)).take (e-(fd.offset+P.cellsOf fd.type)):=by
         rw[← List.drop_drop,← List.take_add]
         congr 1; omega
     · rw[e1]; exact ch q2 r2
     · rw[e1]
       intro c hc
       rcases List.mem_append.1 hc with h | h
       · exact q3 c h
       · exact r3 c h
     · exact ⟨q4,r4⟩
   · cases h
theorem ab8 {r:List Value→Option (DataW H×List MemPlace)}{u:Ty} (ih:∀ cs x,r cs=some x→sv w u x.1 cs) {cs:List Value}{c:Nat} :
   ∀ (m i:Nat) (xs:List (DataW H×List MemPlace)),(i+m)*c≤cs.length→((List.range' i m).mapM fun i=>r ((cs.drop (i*c)).take c))=some xs →
     ∃ (vs:List u.V) (ls:List (List AVal)),vs.length=m∧All2 (fun x l=>R Γ0 u x true l) vs ls∧All2 (fun a c=>Rep w O0 [] a c) ls.flatten ((cs.drop (i*c)).take (m*c))∧(∀ y∈(cs.drop (i*c)).take (m*c),y.oneCell'=true)∧(∀ x∈vs,okV u x)∧∀ B BA,Bulk (H:=H) B BA→(vs.map (lenV u)).sum≤BA (xs.map (·.1))
 | 0,i,xs,he,hm=>by
   refine ⟨[],[],rfl,by simp[All2],?_,?_,(fun x hx=>by cases hx),fun B BA hB=>Nat.zero_le _⟩
   · simp[All2]
   · simp
 | m+1,i,xs,he,hm=>by
   rw[List.range'_succ,List.mapM_cons] at hm
   simp only[Option.pure_def,Option.bind_eq_bind,Option.bind_eq_some_iff,Option.some.injEq] at hm
   obtain ⟨x,hx,ys,hy,rfl⟩:=hm
   have e0:(i+1+m)*c=(i+(m+1))*c:=by rw[Nat.add_assoc,Nat.add_comm 1 m]
   obtain ⟨vs,ls,g1,g2,g3,g4,g5,g6⟩:=ab8 ih m (i+1) ys (by rw[e0]; exact he) hy
   obtain ⟨v1,as1,q1,q2,q3,q4,q5⟩:=ih _ _ hx
   have e1:(cs.drop (i*c)).take ((m+1)*c)=(cs.drop (i*c)).take c++(cs.drop ((i+1)*c)).take (m*c):=by
     rw[Nat.succ_mul,Nat.succ_mul,← List.drop_drop,← List.take_add,Nat.add_comm]
   refine ⟨v1::vs,as1::ls,by simp[g1],⟨q1,g2⟩,?_,?_,?_,?_⟩
   · rw[e1,List.flatten_cons]; exact ch q2 g3
   · rw[e1]
     intro y hy
     rcases List.mem_append.1 hy with h | h
     · exact q3 y h
     · exact g4 y h
   · intro y hy
     rcases List.mem_cons.1 hy with rfl | h
     · exact q4
     · exact g5 y h
   · intro B BA hB
     have k1:=q5 B BA hB
     have k2:=g6 B BA hB
     have k3:=hB.acons x.1 (ys.map (·.1))
     simp only[List.map_cons,List.sum_cons]
     omega
theorem aqr {u:Ty} (hu:u.isV=true) {d:DataW H}{cs:List Value} (h:sv w u d cs):∃ (v:u.V) (a:AVal) (y:Value),R Γ0 u v false [a]∧Rep w O0 [] a y∧y.cells.toList=cs∧a.cells.length=cs.length∧a.cells.length=u.size∧(u.isAgg=true→y = .agg cs.toArray)∧(u.isAgg=false→cs=[y])∧okV u v∧∀ B BA,Bulk (H:=H) B BA→lenV u v+1≤B d:=by
 obtain ⟨v,as,h1,h2,h3,h4,h5⟩:=h
 have hl:=dI h1
 have hl2:=iq h2
 obtain ⟨a,e1,e2,e3,e4⟩:=gA hu h1
 cases hg:u.isAgg with
 | true =>
   refine ⟨v,a,.agg cs.toArray,e2,?_,rfl,by rw[e1]; exact hl2,by rw[e1]; exact hl,(fun _=>rfl),(fun h=>by cases h),h4,h5⟩
   rw[e3 hg]
   simp only[Rep]
   exact ⟨cs,rfl,sy h2⟩
 | false =>
   have:=e4 hg
   subst this
   match cs,h2 with
   | [c],h2 =>
     have hc:=h3 c (List.mem_cons_self ..)
     refine ⟨v,a,c,e2,h2.1,?_,by rw[e1]; rfl,by rw[e1]; exact hl,(fun h=>by cases h),(fun _=>rfl),h4,h5⟩
     cases c<;>first | rfl | (cases hc)
theorem aeY {r:List Value→Option (DataW H×List MemPlace)}{u:Ty} (hu:u.isV=true) {a:Addr}{c:Nat} (hc:u.size=c) (hc0:c≠0) (ih:∀ cs x,r cs=some x→sv w u x.1 cs) :
   ∀ (es:List (DataW H×List MemPlace)) (i:Nat),(∀ k,k<es.length→(w.cells? base (a.add ((i+k)*c)) c).bind r=es[k]?) →
     ∃ (vs:List u.V) (as:List AVal),vs.length=es.length∧All2 (fun x a=>R Γ0 u x false [a]) vs as∧(es.length=0∨i≠0∨a.spot=none)∧bg w O0 [] c a.block (a.off+i*c) as∧(∀ x∈vs,okV u x)∧∀ B BA,Bulk (H:=H) B BA→vs.length+(vs.map (lenV u)).sum≤BA (es.map (·.1))
 | [],i,hm=>⟨[],[],rfl,by simp[All2],.inl rfl,by simp only[bg],(fun x hx=>by cases hx),fun B BA hB=>Nat.zero_le _⟩
 | x::es,i,hm=>by
   have hx0:=hm 0 (by simp)
   rw[Nat.add_zero,List.getElem?_cons_zero,Option.bind_eq_some_iff] at hx0
   obtain ⟨cs,hcs,hx⟩:=hx0
   obtain ⟨vs,as,g1,g2,g3,g4,g5,g6⟩:=aeY hu hc hc0 ih es (i+1) (fun k hk=>by
     have:=hm (k+1) (by simp; omega)
     rw[show i+1+k=i+(k+1) by omega,this]; simp)
   obtain ⟨k1,k2,k3⟩:=World.cells?_some hcs
   have hrd:=ih _ _ hx
   have hone:∀ y∈cs,y.oneCell'=true:=by obtain ⟨_,_,_,_,h3,_⟩:=hrd; exact h3
   obtain ⟨v,b,y,q1,q2,q3,q4,q5,q6,_,q7,q8⟩:=aqr hu hrd
   have hsp:i≠0∨a.spot=none:=by
     by_cases hi:i=0
     · right
       have h0:=k3 0 (by omega)
       have hlt:0<cs.length:=by omega
       rw[List.getElem?_eq_getElem hlt] at h0
       have:=(oj h0).1
       subst hi
       simpa [Addr.add] using this
     · exact .inl hi
   refine ⟨v::vs,b::as,by simp[g1],⟨q1,g2⟩,.inr hsp,?_,?_,?_⟩
   · simp only[bg]
     refine ⟨⟨y,q2,by rw[q5,hc],?_,?_,?_⟩,?_⟩
     · have:=congrArg List.length q3
       simp at this; omega
     · intro j hj
       have h0:=k3 j hj
       have hlt:j<cs.length:=by omega
       rw[List.getElem?_eq_getElem hlt] at h0
       have h2:=(oj h0).2
       have e1:((a.add (i*c)).add j).block=a.block:=by rw[add_block.1,add_block.1]
       have e2:((a.add (i*c)).add j).off=a.off+i*c+j:=by rw[add_block.2,add_block.2]
       rw[e1,e2] at h2
       rw[h2,← Array.getElem?_toList,q3,List.getElem?_eq_getElem hlt]
     · intro z hz
       refine hone z ?_
       rw[← q3]; simpa using hz
     · have e:a.off+i*c+c=a.off+(i+1)*c:=by rw[Nat.succ_mul,Nat.add_assoc]
       rw[e]; exact g4
   · intro z hz
     rcases List.mem_cons.1 hz with rfl | h
     · exact q7
     · exact g5 z h
   · intro B BA hB
     have k1:=q8 B BA hB
     have k2:=g6 B BA hB
     have k3:=hB.acons x.1 (es.map (·.1))
     simp only[List.map_cons,List.sum_cons,List.length_cons]
     omega
theorem vm:∀ (fuel n:Nat) (t:TypeId) (cs:List Value) (x:DataW H×List MemPlace) (u:Ty),DataW.trod enc P w base sp held fuel t cs=some x→tyOf P n t=some u→sv w u x.1 cs
 | 0,n,t,cs,x,u,h,hu=>by simp[DataW.trod] at h
 | fuel+1,0,t,cs,x,u,h,hu=>by simp[tyOf] at hu
 | fuel+1,n+1,t,cs,x,u,h,hu=>by
   unfold tyOf at hu
   split at hu
   · rename_i ht
     cases hu
     obtain ⟨b,rfl,rfl⟩:=DataW.trod_bool ht h
     exact ⟨b,[.bool b],rfl,⟨by simp only[Rep],trivial⟩,by simp[Value.oneCell'],trivial,fun B BA hB=>hB.lit _⟩
   · rename_i k ht
     cases hu
     obtain ⟨z,rfl,rfl,hwf⟩:=DataW.trod_int ht h
     refine ⟨z,[.int k z],rfl,⟨by simp only[Rep],trivial⟩,by simp[Value.oneCell'],?_,fun B BA hB=>hB.lit _⟩
     simp only[Lit.wf,Bool.and_eq_true,decide_eq_true_eq] at hwf
     exact hwf
   · rename_i ht
     cases hu
     obtain ⟨s,rfl,rfl,hs⟩:=DataW.trod_string ht h
     refine ⟨s.data.toList,[.str s.data.toList],rfl,⟨by simp only[Rep],trivial⟩,by simp[Value.oneCell'],?_,fun B BA hB=>hB.str _⟩
     show s.data.toList.length≤maxLen
     rw[Array.length_toList]
     exact hs
   · rename_i e ht
     rw[Option.bind_eq_some_iff] at hu
     obtain ⟨ue,hue,hu⟩:=hu
     obtain ⟨hck,hu⟩:=dg hu
     cases hu
     simp only[Bool.and_eq_true,Nat.beq_eq,Bool.not_eq_true'] at hck
     obtain ⟨⟨c1,c2⟩,c3⟩:=hck
     have c2:ue.size≠0:=fun e=>by rw[e] at c2; cases c2
     rcases DataW.trod_slice ht h with ⟨rfl,rfl⟩ | ⟨a,len,cap,elems,rest,n',hn',rfl,rfl,g1,g2,g3,g4,g5,_⟩
     · exact ⟨([]:List ue.V),[.nil],by simp[R],⟨by simp only[Rep],trivial⟩,by simp[Value.oneCell'],by exact ⟨Nat.zero_le _,fun x hx=>by cases hx⟩,fun B BA hB=>hB.nil⟩
     · obtain rfl:fuel=n':=by omega
       obtain ⟨vs,as,q1,q2,q3,q4,q5,q6⟩:=aeY (w:=w) (base:=base) (r:=DataW.trod enc P w base sp held fuel e) (a:=a) c3 c1 (by omega) (fun cs x h=>vm fuel n e cs x ue h hue) elems 0 (fun k hk=>by
         have:=g5 k (by omega)
         rw[Nat.zero_add,this])
       rw[g4] at q1 q3
       have hl:as.length=len:=by rw[← iq q2,q1]
       refine ⟨vs,[.tree false (P.cellsOf e) as],?_,⟨?_,trivial⟩,by simp[Value.oneCell'],?_,?_⟩
       · simp only[R]
         exact .inr ⟨false,P.cellsOf e,as,rfl,.inr c1.symm,q2⟩
       · simp only[Rep]
         refine ⟨some a,cap,by rw[hl],by omega,(fun h=>by cases h),?_⟩
         by_cases h0:as=[]
         · exact .inl h0
         · right
           have hlen:len≠0:=fun e=>h0 (List.eq_nil_of_length_eq_zero (by omega))
           have hsp:a.spot=none:=by
             rcases q3 with h | h | h
             · exact absurd h hlen
             · exact absurd rfl h
             · exact h
           refine ⟨by omega,a.block,a.off,by cases a; simp only at hsp; rw[hsp],fun h=>h,?_,?_⟩
           · rintro ⟨r,ri,h,_⟩; simp at h
           · rw[Nat.zero_mul,Nat.add_zero] at q4; exact q4
       · exact ⟨by rw[q1]; omega,q5⟩
       · intro B BA hB
         have k1:=q6 B BA hB
         have k2:=hB.slice (elems.map (·.1)) (rest.map (·.1))
         simp only[lenV]
         omega
   · rename_i fs ht
     obtain ⟨hck,hu⟩:=dg hu
     rw[decide_eq_true_eq] at hck
     rw[Option.map_eq_some_iff] at hu
     obtain ⟨us,hus,rfl⟩:=hu
     unfold DataW.trod at h
     rw[ht] at h
     simp only at h
     split at h
     · rename_i hc
       rw[Option.map_eq_some_iff] at h
       obtain ⟨xs,hm,rfl⟩:=h
       have:=(wd (w:=w) (fun t cs x u h hu=>vm fuel n t cs x u h hu) fs.toList 0 _ xs us hck (by omega) hm hus).2
       rw[← hc] at this
       simp only[List.drop_zero,Nat.sub_zero,List.take_length] at this
       obtain ⟨v,as,h1,h2,h3,h4,h5⟩:=this
       exact ⟨v,as,by simp only[R]; exact h1,h2,h3,h4,fun B BA hB=>Nat.le_trans (Nat.succ_le_succ (h5 B BA hB)) (hB.agg _)⟩
     · cases h
   · rename_i m e ht
     rw[Option.bind_eq_some_iff] at hu
     obtain ⟨ue,hue,hu⟩:=hu
     obtain ⟨hck,hu⟩:=dg hu
     cases hu
     rw[Nat.beq_eq] at hck
     unfold DataW.trod at h
     rw[ht] at h
     simp only at h
     split at h
     · rename_i hc
       rw[Option.map_eq_some_iff] at h
       obtain ⟨xs,hm,rfl⟩:=h
       rw[List.range_eq_range'] at hm
       obtain ⟨vs,ls,q1,q2,q3,q4,q5,q6⟩:=ab8 (w:=w) (c:=P.cellsOf e) (fun cs x h=>vm fuel n e cs x ue h hue) m 0 xs (by rw[Nat.zero_add]; omega) hm
       rw[hck,← hc] at q3 q4
       simp only[Nat.zero_mul,List.drop_zero,List.take_length] at q3 q4
       refine ⟨vs,ls.flatten,?_,q3,q4,⟨q1,q5⟩,fun B BA hB=>Nat.le_trans (Nat.succ_le_succ (q6 B BA hB)) (hB.agg _)⟩
       simp only[R]
       exact ⟨q1,ls,rfl,q2⟩
     · cases h
   · cases hu
theorem asD {n:Nat}{t:TypeId}{u:Ty}{v:Value}{d:DataW H}{ps:List MemPlace}{r:Reach}{b0:Nat} (hu:tyOf P n t=some u) (hval:Value.okWide P w r b0 t v) (h:DataW.Trod enc P w base sp held t v d ps) :
   ∃ (x:u.V) (a:AVal),R Γ0 u x false [a]∧Rep w O0 [] a v∧okV u x∧∀ B BA,Bulk (H:=H) B BA→lenV u x+1≤B d:=by
 obtain ⟨fuel,h⟩:=h
 have hR:=vm fuel n t _ _ u h hu
 obtain ⟨x,a,y,h1,h2,h3,h4,h5,h6,h8,h7⟩:=aqr (adv hu) hR
 refine ⟨x,a,h1,?_,h7⟩
 have key:(v.cells = #[v]∧u.isAgg=false)∨(∃ cs,v = .agg cs∧u.isAgg=true):=by
   cases n with
   | zero=>cases hu
   | succ n =>
     unfold tyOf at hu
     split at hu
     · rename_i ht
       cases hu
       simp only[Value.okWide,Cell.okWide,ht] at hval
       left
       cases v<;>simp_all [Cell.ok,Value.cells,Ty.isAgg]
     · rename_i k ht
       cases hu
       simp only[Value.okWide,Cell.okWide,ht] at hval
       left
       cases v<;>simp_all [Cell.ok,Value.cells,Ty.isAgg]
     · rename_i ht
       cases hu
       simp only[Value.okWide,Cell.okWide,ht] at hval
       left
       cases v<;>simp_all [Cell.ok,Value.cells,Ty.isAgg]
     · rename_i e ht
       rw[Option.bind_eq_some_iff] at hu
       obtain ⟨ue,hue,hu⟩:=hu
       have hu:=(dg hu).2
       cases hu
       simp only[Value.okWide,Cell.okWide,ht] at hval
       left
       cases v<;>simp_all [Cell.ok,Value.cells,Ty.isAgg]
     · rename_i fs ht
       have hu:=(dg hu).2
       rw[Option.map_eq_some_iff] at hu
       obtain ⟨us,hus,rfl⟩:=hu
       simp only[Value.okWide,ht] at hval
       obtain ⟨cs,rfl,_⟩:=hval
       exact .inr ⟨cs,rfl,rfl⟩
     · rename_i m e ht
       rw[Option.bind_eq_some_iff] at hu
       obtain ⟨ue,hue,hu⟩:=hu
       have hu:=(dg hu).2
       cases hu
       simp only[Value.okWide,ht] at hval
       obtain ⟨cs,rfl,_⟩:=hval
       exact .inr ⟨cs,rfl,rfl⟩
     · cases hu
 have hyv:y=v:=by
   rcases key with ⟨k1,k2⟩ | ⟨cs,rfl,k2⟩
   · have:=h8 k2
     rw[k1] at this
     simpa using this.symm
   · rw[h6 k2]
     simp[Value.cells]
 rw[← hyv]; exact h2
theorem afd {n:Nat}{r:Reach}{b0:Nat}:∀ {ts:List TypeId}{u:Ty}{vs:List Value}{ds:List (DataW H)}{ps:List MemPlace},wX P n ts=some u→(∀ (j:Nat) t v,ts[j]? = some t→vs[j]? = some v→Value.okWide P w r b0 t v)→DataW.TrodAll enc P w base sp held ts vs ds ps →
   ∃ (x:u.V) (as:List AVal),R Γ0 u x false as∧RepL w O0 [] as vs∧okV u x∧∀ B BA,Bulk (H:=H) B BA→lenV u x≤BA ds
 | [],u,vs,ds,ps,hu,hval,h=>by
   obtain ⟨rfl,rfl,rfl⟩:=ChangeShapes.trodAll_nil h
   simp only[wX,Option.some.injEq] at hu
   subst hu
   exact ⟨(),[],rfl,rfl,trivial,fun B BA hB=>Nat.zero_le _⟩
 | t::ts,u,vs,ds,ps,hu,hval,h=>by
   obtain ⟨v0,vs0,d0,ds0,p0,q0,rfl,rfl,rfl,h0,r0⟩:=ChangeShapes.trodAll_cons h
   simp only[wX,Option.bind_eq_some_iff,Option.map_eq_some_iff] at hu
   obtain ⟨u0,hu0,us,hus,rfl⟩:=hu
   obtain ⟨x,a,h1,h2,h3,h4⟩:=asD hu0 (hval 0 t v0 rfl rfl) h0
   obtain ⟨xs,as,g1,g2,g3,g4⟩:=afd hus (fun j t v ht hv=>hval (j+1) t v (by simpa using ht) (by simpa using hv)) r0
   exact ⟨(x,xs),a::as,by simp only[R]; exact ⟨[a],as,rfl,h1,g1⟩,⟨v0,vs0,rfl,h2,g2⟩,⟨h3,g3⟩,fun B BA hB=>by
     have k1:=h4 B BA hB
     have k2:=g4 B BA hB
     have k3:=hB.acons d0 ds0
     simp only[lenV]
     omega⟩
def sizedB (P:Program):Bool:=(List.range P.types.size).all fun t=>match P.underlying t with
 | some (.slice e) => !(Nat.beq (P.cellsOf e) 0)
 | _=>true
theorem adC (h:sizedB P=true) {t e:TypeId} (ht:t<P.types.size) (hs:P.underlying t=some (.slice e)):0<P.cellsOf e:=by
 unfold sizedB at h
 rw[List.all_eq_true] at h
 have:=h t (List.mem_range.2 ht)
 rw[hs] at this
 simp only[Bool.not_eq_true'] at this
 rcases Nat.eq_zero_or_pos (P.cellsOf e) with h0 | h0
 · rw[h0] at this; cases this
 · exact h0
theorem xx {w':World} (h:Quiet w w') {p:MemPlace} (hp:p.block<w.heap.size):w.sameAt w' p:=by
 cases p with
 | cell b off =>
   simp only[MemPlace.block] at hp
   simp only[World.sameAt,World.cell?,h.old b hp]
 | map b =>
   simp only[MemPlace.block] at hp
   exact h.old b hp
theorem iy {w':World} (hl:laidOutB P=true) (hm:mapsRowed P=true) (hz:sizedB P=true) (h:Quiet w w'):∀ {ts:List TypeId}{vs:List Value}{ds:List (DataW H)}{ps:List MemPlace},(∀ t∈ts,t<P.types.size)→(∀ p∈ps,p.block<w.heap.size)→(∀ p∈ps,sp p.block=true) →
   DataW.TrodAll enc P w base (fun _=>true) true ts vs ds ps→DataW.TrodAll enc P w' base sp true ts vs ds ps
 | [],vs,ds,ps,ht,hp,hs,hA=>by
   obtain ⟨rfl,rfl,rfl⟩:=ChangeShapes.trodAll_nil hA
   exact ChangeShapes.trodAll_mk0
 | t::ts,vs,ds,ps,ht,hp,hs,hA=>by
   obtain ⟨v0,vs0,d0,ds0,p0,q0,rfl,rfl,rfl,⟨fuel,h0⟩,r0⟩:=ChangeShapes.trodAll_cons hA
   refine ⟨p0,q0,⟨fuel,?_⟩,iy hl hm hz h (fun t ht'=>ht t (List.mem_cons_of_mem _ ht')) (fun p hp'=>hp p (List.mem_append_right _ hp')) (fun p hp'=>hs p (List.mem_append_right _ hp')) r0,rfl⟩
   exact DataW.trod_stays (kids_rows hl hm) (fun ht hs=>adC hz ht hs) (fun h=>by cases h) (ht t (List.mem_cons_self ..)) h0
     (fun p hp'=>xx h (hp p (List.mem_append_left _ hp'))) (fun p hp'=>hs p (List.mem_append_left _ hp'))
theorem jX:∀ {ts:List TypeId}{vs:List Value}{ds:List (DataW H)}{ps:List MemPlace},DataW.TrodAll enc P w base sp held ts vs ds ps→ds.length=ts.length
 | [],vs,ds,ps,h=>by obtain ⟨rfl,rfl,rfl⟩:=ChangeShapes.trodAll_nil h; rfl
 | t::ts,vs,ds,ps,h=>by
   obtain ⟨v0,vs0,d0,ds0,p0,q0,rfl,rfl,rfl,h0,r0⟩:=ChangeShapes.trodAll_cons h
   simp[jX r0]
theorem abB {f:Nat}{fn:Func}{G:List (Nat×AVal)}{F:PFn}{ps:Ty}{fnT:ps.V→Option Bool}{s:ChangeSpec}{n:Nat}{tB:TypeId}{apart fresh handsOn again:Bool} (hF:aB P G f F) (hT:TOk F ⟨ps,.bool,fnT⟩) (hps:wX P n fn.params.toList=some ps) (hc:ps.closed=true)
   (hr:fn.resultTypes = #[tB]) (hB:P.underlying tB=some .bool) (hv:s.vars=[]) (hs:∀ ds:List (DataW H),ds.length=fn.params.toList.length→s.fn H ds={ results:=[.lit (.bool true)],args:=ds })
   (hl:laidOutB P=true) (hm:mapsRowed P=true) (hz:sizedB P=true) (hpt:∀ t∈fn.params.toList,t<P.types.size)
   {W:World}{b0:Nat}{args:Array Value}{ds gs:List (DataW H)}{before:List MemPlace} (hG:b7 G W O0 [])
   (hval:∀ (j:Nat) t v,fn.params[j]? = some t→args[j]? = some v→Value.okWide P W .any b0 t v) (hW:DataW.Whole enc P fn.params.toList s.vars apart W args.toList ds gs before)
   (hlaw:∀ v:ps.V,okV ps v→(∀ B BA,Bulk (H:=H) B BA→lenV ps v≤BA ds)→gs=[]→fnT v=some true) :
   Calls P f args W fun e W'=>∃ v,e = .returned v∧s.post enc P fn apart fresh handsOn again W args v W':=by
 obtain ⟨p,q,hA,hV,he,hzz,hn⟩:=id hW
 rw[hv] at hV
 obtain ⟨rfl,rfl⟩:=ChangeShapes.trodVars_none hV
 rw[List.append_nil] at he
 subst he
 have lt:=hW.lt
 obtain ⟨x,as,h1,h2,h3,h6⟩:=afd hps (fun j t v ht hv=>hval j t v (by rw[← Array.getElem?_toList]; exact ht) (by rw[← Array.getElem?_toList]; exact hv)) hA
 obtain ⟨r,h4,h5⟩:=hT.run x true as (hlaw x h3 h6 rfl) h1
 have h5:=aqS h5
 subst h5
 have hsd:=hs ds (jX hA)
 refine (hF.2 _ _ h4 (bq hc h1) W O0 _ (fun b h=>h.elim) hG h2).mono fun e W' ⟨v,g1,g2,g3,_⟩ => ?_
 simp only[Rep] at g3
 subst g3
 refine ⟨_,g1,xB hv hW ?_ ?_ ?_ g2 ?_⟩
 · intro b sp hd
   rw[hsd,hr]
   exact trodAll_cons_mk (shut_bool hB _) ChangeShapes.trodAll_mk0
 · intro sp hsp
   rw[hsd]
   exact iy hl hm hz g2 hpt lt hsp hA
 · rw[hsd]
 · exact ok_one hr rfl (okWide_bool_mk hB _)
theorem aqV {f:Nat}{fn:Func}{G:List (Nat×AVal)}{F:PFn}{ps:Ty}{fnT:ps.V→Option Bool}{s:ChangeSpec}{n:Nat}{tB:TypeId}{apart fresh handsOn again:Bool} (hF:aB P G f F) (hT:TOk F ⟨ps,.bool,fnT⟩) (hps:wX P n fn.params.toList=some ps) (hc:ps.closed=true)
   (hr:fn.resultTypes = #[tB]) (hB:P.underlying tB=some .bool) (hv:s.vars=[]) (hs:∀ ds:List (DataW H),ds.length=fn.params.toList.length→s.fn H ds={ results:=[.lit (.bool true)],args:=ds })
   (hl:laidOutB P=true) (hm:mapsRowed P=true) (hz:sizedB P=true) (hpt:∀ t∈fn.params.toList,t<P.types.size)
   {W:World}{b0:Nat}{args:Array Value}{ds gs:List (DataW H)}{before:List MemPlace} (hG:b7 G W O0 [])
   (hval:∀ (j:Nat) t v,fn.params[j]? = some t→args[j]? = some v→Value.okWide P W .any b0 t v) (hW:DataW.Whole enc P fn.params.toList s.vars apart W args.toList ds gs before)
   (hlaw:∀ v:ps.V,okV ps v→fnT v=some true) :
   Calls P f args W fun e W'=>∃ v,e = .returned v∧s.post enc P fn apart fresh handsOn again W args v W' :=
 abB hF hT hps hc hr hB hv hs hl hm hz hpt hG hval hW fun v h _ _=>hlaw v h
end
end Go.TY
