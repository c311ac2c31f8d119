import Derived.Test.YtljlahifmblbbaaT5
set_option linter.unusedVariables false
set_option linter.unusedSimpArgs false
namespace Go.TY
open Go.EM
structure Pers (m m':Mem):Prop where
  len:m.length≤m'.length
  cbox:∀ j,j<m.length→∀ e t v,getM m' j = .cbox e t v→getM m j = .cbox e t v
  iter:∀ j,j<m.length→∀ s p,getM m' j = .iter s p→∃ p0,getM m j = .iter s p0
theorem Pers.refl (m:Mem):Pers m m:=⟨Nat.le_refl _,fun _ _ _ _ _ h=>h,fun _ _ _ p h=>⟨p,h⟩⟩
theorem Pers.trans {m m' m'':Mem} (h:Pers m m') (k:Pers m' m''):Pers m m'' :=
  ⟨Nat.le_trans h.len k.len,fun j hj e t v he=>h.cbox j hj e t v (k.cbox j (Nat.lt_of_lt_of_le hj h.len) e t v he),fun j hj s p he=>by
    obtain ⟨p',h'⟩:=k.iter j (Nat.lt_of_lt_of_le hj h.len) s p he
    exact h.iter j hj s p' h'⟩
def OkM (Φ:Frame) (d:Option Nat) (Γ:Ctx) (m:Mem) (st:Store) (ares:Option (AVal×Store)) (res:OR):Prop :=
  ∀ (X:Type) (K:TV→Mem→Option Nat→Option X) (x:X),res.go K=some x→∃ w m' k a st' Γ',K w m' k=some x∧ares=some (a,st')∧(d=none∨(w.t.isV=true∧R Γ' w.t w.v false [a]))∧MemR Φ Γ' m' st' ∧
    (∀ j y,k≠some j→Γ j=some y→Γ' j=some y)∧Pers m m'
section
variable {Φ:Frame}{Γ:Ctx}{m:Mem}{st:Store}{P:Program}{d:Option Nat}
theorem OkM.no {ares:Option (AVal×Store)}:OkM Φ d Γ m st ares .no:=fun X K x h=>by cases h
theorem OkM.opt {A:Type}{y:Option A}{k:A→OR}{ares:Option (AVal×Store)} (h:∀ z,y=some z→OkM Φ d Γ m st ares (k z)):OkM Φ d Γ m st ares (.opt A y k):=fun X K x hx=>by
  simp only[OR.go,Option.bind_eq_some_iff] at hx
  obtain ⟨z,hz,hx⟩:=hx
  exact h z hz X K x hx
theorem OkM.br {b:Bool}{p q:OR}{ares:Option (AVal×Store)} (h1:b=true→OkM Φ d Γ m st ares p) (h2:b=false→OkM Φ d Γ m st ares q):OkM Φ d Γ m st ares (.br b p q):=fun X K x hx=>by
  simp only[OR.go] at hx
  cases b
  · exact h2 rfl X K x hx
  · exact h1 rfl X K x hx
theorem OkM.ofP (hm:MemR Φ Γ m st) {av:Option AVal}{res:OR} (h:OkP Γ m av res):OkM Φ d Γ m st (av.map fun v=>(v,st)) res:=fun X K x hx=>by
  obtain ⟨w,a,h1,h2,h3,h4⟩:=h X K x hx
  exact ⟨w,m,none,a,st,Γ,h1,by rw[h2]; rfl,.inr ⟨h3,h4⟩,hm,fun _ _ _ h=>h,.refl m⟩
theorem OkM.ok {w : TV} {m' : Mem} {k : Option Nat} {ares : Option (AVal × Store)} {a : AVal} {st' : Store} (Γ' : Ctx) (ha : ares = some (a, st')) (hr : d = none ∨ (w.t.isV = true ∧ R Γ' w.t w.v false [a])) (hm : MemR Φ Γ' m' st')
    (he:∀ j y,k≠some j→Γ j=some y→Γ' j=some y) (hp:Pers m m'):OkM Φ d Γ m st ares (.ok w m' k):=fun X K x hx=>⟨w,m',k,a,st',Γ',hx,ha,hr,hm,he,hp⟩
theorem getM_app_lt:∀ {m:Mem}{g:Reg}{i:Nat},i<m.length→getM (m++[g]) i=getM m i
  | _::m,g,0,_=>rfl
  | _::m,g,i+1,h=>getM_app_lt (m:=m) (by simpa using h)
  | [],g,i,h=>by simp at h
theorem getM_app_eq:∀ {m:Mem}{g:Reg},getM (m++[g]) m.length=g
  | [],g=>rfl
  | _::m,g=>getM_app_eq (m:=m)
theorem getM_set_eq:∀ {m:Mem}{i:Nat}{g:Reg},i<m.length→getM (setM m i g) i=g
  | _::m,0,g,_=>rfl
  | _::m,i+1,g,h=>getM_set_eq (m:=m) (by simpa using h)
  | [],i,g,h=>by simp at h
theorem getM_set_ne:∀ {m:Mem}{i j:Nat}{g:Reg},i≠j→getM (setM m i g) j=getM m j
  | [],i,j,g,_=>rfl
  | _::m,0,0,g,h=>absurd rfl h
  | _::m,0,j+1,g,h=>rfl
  | _::m,i+1,0,g,h=>rfl
  | _::m,i+1,j+1,g,h=>getM_set_ne (m:=m) (by omega)
theorem setM_len:∀ {m:Mem}{i:Nat}{g:Reg},(setM m i g).length=m.length
  | [],i,g=>rfl
  | _::m,0,g=>rfl
  | _::m,i+1,g=>by simp[setM,setM_len]
theorem RegR_ext {Γ Γ':Ctx}{st st':Store}{id:Nat}{g:Reg} (he:∀ j y,Γ j=some y→Γ' j=some y) (hs:∀ r n l,Γ id=some (.inr (r,n,l))→st'[r]? = st[r]?) (h:RegR Γ st id g):RegR Γ' st' id g:=by
  cases g with
  | box e t v =>
    obtain ⟨h1,h2,h3,r,a,h4,h5,h6⟩:=h
    exact ⟨h1,h2,h3,r,a,he _ _ h4,by rw[hs _ _ _ h4]; exact h5,R_ext (fun j x _ hx=>he j x hx) h6⟩
  | cbox e t v =>
    obtain ⟨h1,h0,h2,h3,r,a,h4,h5,h6⟩:=h
    exact ⟨h1,h0,h2,h3,r,a,he _ _ h4,by rw[hs _ _ _ h4]; exact h5,R_ext (fun j x _ hx=>he j x hx) h6⟩
  | row z e t xs =>
    obtain ⟨h1,h2,h3,h4,h5⟩:=h
    refine ⟨h1,h2,h3,h4,?_⟩
    rcases h5 with ⟨h5,h6⟩ | ⟨r,as,h5,h6,h7,h8⟩
    · obtain ⟨b,h6,h7⟩:=h6; exact .inl ⟨h5,b,he _ _ h6,h7⟩
    · exact .inr ⟨r,as,he _ _ h5,by rw[hs _ _ _ h5]; exact h6,Forall2_imp (p:=fun x a=>R Γ t x false [a]) (fun x a hx=>R_ext (fun j y _ hy=>he j y hy) hx) h7,h8⟩
  | iter s pos =>
    obtain ⟨r,h1,h2⟩:=h
    exact ⟨r,he _ _ h1,by rw[hs _ _ _ h1]; exact h2⟩
  | map k v xs =>
    obtain ⟨h1,h2,h3,h4,r,es,h5,h6,h7⟩:=h
    exact ⟨h1,h2,h3,h4,r,es,he _ _ h5,by rw[hs _ _ _ h5]; exact h6,Forall2_imp (p:=fun (p:k.V×v.V) (e:AVal×AVal)=>R Γ k p.1 false [e.1]∧R Γ v p.2 false [e.2]) (fun x a hx=>⟨R_ext (fun j y _ hy=>he j y hy) hx.1,R_ext (fun j y _ hy=>he j y hy) hx.2⟩) h7⟩
  | gone=>trivial
def more (Γ:Ctx) (n:Nat) (y:Bool⊕(Nat×Nat×Nat)):Ctx:=fun j=>if j=n then some y else Γ j
theorem more_ext (hm:MemR Φ Γ m st) {y:Bool⊕(Nat×Nat×Nat)}:∀ j x,Γ j=some x→more Γ m.length y j=some x:=by
  intro j x hx
  unfold more
  split
  · rename_i e
    rw[e,hm.out _ (Nat.le_refl _)] at hx; cases hx
  · exact hx
theorem more_at {n:Nat}{y:Bool⊕(Nat×Nat×Nat)}:more Γ n y n=some y:=by simp[more]
theorem MemR.more (hm:MemR Φ Γ m st) {g:Reg}{ag:AReg}{n l:Nat} (hg:RegR (more Γ m.length (.inr (st.length,n,l))) (st++[ag]) m.length g):MemR Φ (more Γ m.length (.inr (st.length,n,l))) (m++[g]) (st++[ag]) where
  reg id hid:=by
    rcases Nat.lt_or_ge id m.length with h | h
    · rw[getM_app_lt h]
      exact RegR_ext (more_ext hm) (fun r n l hr=>List.getElem?_append_left (hm.lt _ _ _ _ hr)) (hm.reg id h)
    · have e:id=m.length:=by simp at hid; omega
      subst e
      rw[getM_app_eq]; exact hg
  out id hid:=by
    simp at hid
    simp only[TY.more]
    rw[if_neg (by omega)]
    exact hm.out id (by omega)
  inj i j r n' l' n'' l'' hi hj:=by
    simp only[TY.more] at hi hj
    split at hi<;>split at hj
    · rename_i e1 e2; rw[e1,e2]
    · cases hi; have:=hm.lt _ _ _ _ hj; omega
    · cases hj; have:=hm.lt _ _ _ _ hi; omega
    · exact hm.inj _ _ _ _ _ _ _ hi hj
  lt i r n' l' hi:=by
    simp only[TY.more] at hi
    split at hi
    · cases hi; simp
    · have:=hm.lt _ _ _ _ hi; simp; omega
  old r g h:=by
    have h1:=hm.old r g h
    have h2:r<st.length:=by
      rcases Nat.lt_or_ge r st.length with h' | h'
      · exact h'
      · rw[List.getElem?_eq_none h'] at h1; cases h1
    rw[List.getElem?_append_left h2]; exact h1
  dis r g i n' l' h hi:=by
    simp only[TY.more] at hi
    split at hi
    · cases hi
      have h1:=hm.old _ g h
      rw[List.getElem?_eq_none (Nat.le_refl _)] at h1; cases h1
    · exact hm.dis r g i n' l' h hi
theorem MemR.moreNil (hm:MemR Φ Γ m st) {g:Reg}{b:Bool} (hg:RegR (TY.more Γ m.length (.inl b)) st m.length g):MemR Φ (TY.more Γ m.length (.inl b)) (m++[g]) st where
  reg id hid:=by
    rcases Nat.lt_or_ge id m.length with h | h
    · rw[getM_app_lt h]
      exact RegR_ext (more_ext hm) (fun r n l hr=>rfl) (hm.reg id h)
    · have e:id=m.length:=by simp at hid; omega
      subst e
      rw[getM_app_eq]; exact hg
  out id hid:=by
    simp at hid
    simp only[TY.more]
    rw[if_neg (by omega)]
    exact hm.out id (by omega)
  inj i j r n' l' n'' l'' hi hj:=by
    simp only[TY.more] at hi hj
    split at hi
    · cases hi
    · split at hj
      · cases hj
      · exact hm.inj _ _ _ _ _ _ _ hi hj
  lt i r n' l' hi:=by
    simp only[TY.more] at hi
    split at hi
    · cases hi
    · exact hm.lt _ _ _ _ hi
  old:=hm.old
  dis r g i n' l' h hi:=by
    simp only[TY.more] at hi
    split at hi
    · cases hi
    · exact hm.dis r g i n' l' h hi
theorem Pers.more {g:Reg}:Pers m (m++[g]) where
  len:=by simp
  cbox j hj e t v h:=by rw[getM_app_lt hj] at h; exact h
  iter j hj s p h:=by rw[getM_app_lt hj] at h; exact ⟨p,h⟩
theorem MemR.set (hm:MemR Φ Γ m st) {id:Nat}{g:Reg}{ag:AReg}{r n l:Nat} (hid:id<m.length) (hr:Γ id=some (.inr (r,n,l))) (hg:RegR Γ (st.set r ag) id g):MemR Φ Γ (setM m id g) (st.set r ag) where
  reg j hj:=by
    rw[setM_len] at hj
    by_cases e:id=j
    · subst e; rw[getM_set_eq hid]; exact hg
    · rw[getM_set_ne e]
      refine RegR_ext (fun _ _ h=>h) (fun r' n' l' hr' => ?_) (hm.reg j hj)
      have:r≠r':=fun e'=>e (hm.inj _ _ _ _ _ _ _ hr (e' ▸ hr'))
      rw[List.getElem?_set_ne this]
  out j hj:=hm.out j (by rw[setM_len] at hj; exact hj)
  inj:=hm.inj
  lt i r' n' l' hi:=by have:=hm.lt _ _ _ _ hi; simpa using this
  old r' g' h:=by
    have:r≠r':=fun e=>hm.dis r' g' id n l h (e ▸ hr)
    rw[List.getElem?_set_ne this]; exact hm.old r' g' h
  dis:=hm.dis
theorem Pers.set {id:Nat}{g:Reg} (h1:∀ e t v,g ≠ .cbox e t v) (h2:∀ s p,g = .iter s p→∃ p0,getM m id = .iter s p0):Pers m (setM m id g) where
  len:=by rw[setM_len]; exact Nat.le_refl _
  cbox j hj e t v h:=by
    by_cases e':id=j
    · subst e'; rw[getM_set_eq hj] at h; exact absurd h (h1 _ _ _)
    · rw[getM_set_ne e'] at h; exact h
  iter j hj s p h:=by
    by_cases e':id=j
    · subst e'; rw[getM_set_eq hj] at h; exact h2 s p h
    · rw[getM_set_ne e'] at h; exact ⟨p,h⟩
theorem pick_split {cs l:List AVal}{off k:Nat} (h:pickA cs off k true=some (.agg l)):∃ pre post,cs=pre++(l++post)∧pre.length=off∧l.length=k:=by
  unfold pickA at h
  simp only[cond_true] at h
  cases hb:Nat.ble (off+k) cs.length with
  | false=>rw[hb] at h; cases h
  | true =>
    rw[hb,cond_true] at h
    cases h
    rw[Nat.ble_eq] at hb
    refine ⟨cs.take off,(cs.drop off).drop k,?_,?_,?_⟩
    · rw[List.take_append_drop,List.take_append_drop]
    · rw[List.length_take]; omega
    · rw[List.length_take,List.length_drop]; omega
theorem elemT_ok {t:TypeId}{u:Ty}{v:u.V}{b:AVal}{off n len k:Nat} (hv:u.isV=true) (hb:R Γ u v false [b]):OkP Γ m (partA P t b.cells (off+k*n)) (elemT P t ⟨u,v⟩ off n len k m):=by
  unfold elemT
  split
  · rename_i len' w xs hp
    cases hc:(Nat.beq w.size n&&Nat.beq len len'&&partOk P t w) with
    | false=>exact .no
    | true =>
      simp only[Bool.and_eq_true,Nat.beq_eq] at hc
      obtain ⟨⟨hc1,hc2⟩,hc3⟩:=hc
      refine .opt fun z hz => ?_
      obtain ⟨aa,ha1,ha2⟩:=partTop_R (w0:=⟨u,v⟩) (R_cells hv hb) hp rfl
      simp only[R] at ha1
      obtain ⟨cs,ha3,hlen,ls,hls,hall⟩:=ha1
      cases ha3
      obtain ⟨pre,post,q1,q2,q3⟩:=pick_split ha2
      obtain ⟨a,g1,g2,g3⟩:=arr_part (P:=P) (off:=off) (pre:=pre) (post:=post) hc1 hc3 hall hz
      refine .ok g1 g2 ?_
      rw[q1,hls]
      exact g3 q2
  · exact .no
theorem loadT_ok (hm:MemR Φ Γ m st) {t:TypeId}{x:TV}{a:AVal} (hxv:x.t.isV=true) (hx:R Γ x.t x.v false [a]):OkP Γ m (aload P t a st) (loadT P t x m):=by
  unfold loadT
  split
  · rename_i u off v
    simp only[R] at hx; obtain ⟨b,rest,hb,_,hx⟩:=hx; cases hx
    cases hv:u.isV with
    | false=>exact .no
    | true =>
    refine .ofO fun w hw => ?_
    obtain ⟨h1,a,h2,h3⟩:=partP_R (w0:=⟨u,v⟩) (R_cells hv hb) hw
    refine ⟨h1,a,h2,?_⟩
    simp only[aload]
    exact partA_drop (partA_more (rest:=rest) h3)
  · rename_i u off v
    simp only[R] at hx
    cases hv:u.isV with
    | false=>exact .no
    | true =>
    refine .opt fun y hy => ?_
    rcases hx with ⟨e0,_⟩ | ⟨z,b,rest,e0,hb,_,hx⟩
    · rw[e0] at hy; cases hy
    rw[e0] at hy; cases hy
    cases hx
    refine .ofO fun w hw => ?_
    obtain ⟨h1,a,h2,h3⟩:=partP_R (w0:=⟨u,y⟩) (R_cells hv hb) hw
    refine ⟨h1,a,h2,?_⟩
    simp only[aload]
    exact partA_drop (partA_more (rest:=rest) h3)
  · rename_i id off n len k
    simp only[R] at hx; obtain ⟨r,n0,l0,hg,hx⟩:=hx; cases hx
    have hr:=hm.at id
    split
    · rename_i e u v hreg
      rw[hreg] at hr
      obtain ⟨k1,k2,k3,r',b,k4,k5,k6⟩:=hr
      rw[hg] at k4; cases k4
      have:=elemT_ok (P:=P) (m:=m) (t:=t) (off:=off) (n:=n) (len:=len) (k:=k) k1 k6
      simpa only[aload,cellsAt,k5,List.length_cons,List.length_nil,if_true,List.getElem?_cons_zero,Option.map_some] using this
    · rename_i e u v hreg
      rw[hreg] at hr
      obtain ⟨k1,k0,k2,k3,r',b,k4,k5,k6⟩:=hr
      rw[hg] at k4; cases k4
      have:=elemT_ok (P:=P) (m:=m) (t:=t) (off:=off) (n:=n) (len:=len) (k:=k) k1 k6
      simpa only[aload,cellsAt,k5,List.length_cons,List.length_nil,if_true,List.getElem?_cons_zero,Option.map_some] using this
    · exact .no
  · rename_i id off _
    simp only[R] at hx; obtain ⟨r,n,hg,hx⟩:=hx; cases hx
    have hr:=hm.at id
    split
    · rename_i e u v hreg
      rw[hreg] at hr
      obtain ⟨k1,k2,k3,r',b,k4,k5,k6⟩:=hr
      rw[hg] at k4; cases k4
      refine .ofO fun w hw => ?_
      obtain ⟨h1,a,h2,h3⟩:=partP_R (w0:=⟨u,v⟩) (R_cells k1 k6) hw
      exact ⟨h1,a,h2,by simp only[aload,cellsAt,k5,List.length_cons,List.length_nil,if_true,List.getElem?_cons_zero,Option.map_some,h3]⟩
    · rename_i e u v hreg
      rw[hreg] at hr
      obtain ⟨k1,k0,k2,k3,r',b,k4,k5,k6⟩:=hr
      rw[hg] at k4; cases k4
      refine .ofO fun w hw => ?_
      obtain ⟨h1,a,h2,h3⟩:=partP_R (w0:=⟨u,v⟩) (R_cells k1 k6) hw
      exact ⟨h1,a,h2,by simp only[aload,cellsAt,k5,List.length_cons,List.length_nil,if_true,List.getElem?_cons_zero,Option.map_some,h3]⟩
    · exact .no
  · rename_i id off i
    simp only[R] at hx; obtain ⟨r,n,len,hg,hx⟩:=hx; cases hx
    have hr:=hm.at id
    split
    · rename_i e u xs hreg
      rw[hreg] at hr
      obtain ⟨k1,k2,k3,k4,k5⟩:=hr
      refine .opt fun z hz=>.ofO fun w hw => ?_
      rcases k5 with ⟨rfl,k5⟩ | ⟨r',as,k5,k6,k7,k8⟩
      · simp at hz
      · rw[hg] at k5; cases k5
        obtain ⟨b,hb1,hb2⟩:=All2_get k7 hz
        obtain ⟨h1,a,h2,h3⟩:=partP_R (w0:=⟨u,z⟩) (R_cells k1 hb2) hw
        exact ⟨h1,a,h2,by simp only[aload,cellsAt,k6,All2_len k7,if_true,hb1,Option.map_some,h3]⟩
    · exact .no
  · exact .no
where
  partA_more {P:Program}{t:TypeId}{cs rest:List AVal}{off:Nat}{a:AVal} (h:partA P t cs off=some a):partA P t (cs++rest) off=some a:=by
    unfold partA at h ⊢
    split at h
    · rename_i n d hn hd
      try simp only[hn,hd]
      exact pickA_left (n:=n) (ag:=isAggD d) h
    · cases h
  partA_drop {P:Program}{t:TypeId}{cs:List AVal}{off:Nat}{a:AVal} (h:partA P t cs off=some a):partA P t (cs.drop off) 0=some a:=by
    unfold partA at h ⊢
    split at h
    · rename_i n d hn hd
      try simp only[hn,hd]
      cases hg:isAggD d with
      | true =>
        rw[hg,cond_true] at h
        cases hb:Nat.ble (off+n) cs.length with
        | true =>
          rw[hb,cond_true] at h
          rw[Nat.ble_eq] at hb
          have:Nat.ble (0+n) (cs.drop off).length=true:=by rw[Nat.ble_eq,List.length_drop]; omega
          rw[this,List.drop_zero]
          exact h
        | false=>rw[hb] at h; cases h
      | false =>
        rw[hg,cond_false] at h
        simp only[cond_false]
        rw[List.getElem?_drop,Nat.add_zero]; exact h
    · cases h
theorem loadC_ok {t:TypeId}{x:TV}{a:AVal} (hx:R Γ x.t x.v false [a]):OkP Γ m (aloadC P t a) (loadC P t x m):=by
  unfold loadC
  split
  · rename_i u off v
    simp only[R] at hx; obtain ⟨b,rest,hb,_,hx⟩:=hx; cases hx
    cases hv:u.isV with
    | false=>exact .no
    | true =>
    refine .ofO fun w hw => ?_
    obtain ⟨h1,a,h2,h3⟩:=partP_R (w0:=⟨u,v⟩) (R_cells hv hb) hw
    refine ⟨h1,a,h2,?_⟩
    simp only[aloadC]
    exact loadT_ok.partA_drop (loadT_ok.partA_more (rest:=rest) h3)
  · rename_i u off v
    simp only[R] at hx
    cases hv:u.isV with
    | false=>exact .no
    | true =>
    refine .opt fun y hy => ?_
    rcases hx with ⟨e0,_⟩ | ⟨z,b,rest,e0,hb,_,hx⟩
    · rw[e0] at hy; cases hy
    rw[e0] at hy; cases hy
    cases hx
    refine .ofO fun w hw => ?_
    obtain ⟨h1,a,h2,h3⟩:=partP_R (w0:=⟨u,y⟩) (R_cells hv hb) hw
    refine ⟨h1,a,h2,?_⟩
    simp only[aloadC]
    exact loadT_ok.partA_drop (loadT_ok.partA_more (rest:=rest) h3)
  · exact .no
theorem fitsT_row {t:TypeId}{u:Ty} (h:fitsT P t u=true):u.isV=true∧u.okRow=true∧u.size≠0:=by
  unfold fitsT at h
  split at h
  · simp only[Bool.and_eq_true,Nat.beq_eq,Bool.not_eq_true'] at h
    obtain ⟨⟨⟨⟨h1,h2⟩,h3⟩,h4⟩,h5⟩:=h
    exact ⟨h4,h3,by rw[← h1]; exact beq_ne h5⟩
  · cases h
theorem flat_set {t : Ty} {sz : Nat} (hs : t.size = sz) {y : t.V} {wc : List AVal} (hy : R Γ t y true wc) : ∀ {xs : List t.V} {ls : List (List AVal)} {i : Nat}, All2 (fun x c => R Γ t x true c) xs ls → i < xs.length →
    ∃ ls',All2 (fun x c=>R Γ t x true c) (xs.set i y) ls'∧ls'.flatten=ls.flatten.take (i*sz)++wc++ls.flatten.drop (i*sz+sz)∧i*sz+sz≤ls.flatten.length
  | x::xs,c::ls,0,h,_=>by
    have hl:=R_len h.1
    have e:c.length=sz:=by omega
    refine ⟨wc::ls,⟨hy,h.2⟩,?_,?_⟩
    · simp only[Nat.zero_mul,Nat.zero_add,List.take_zero,List.nil_append,List.flatten_cons]
      rw[← e,List.drop_left' rfl]
    · simp only[Nat.zero_mul,Nat.zero_add,List.flatten_cons,List.length_append]; omega
  | x::xs,c::ls,i+1,h,hi=>by
    obtain ⟨ls',h1,h2,h3⟩:=flat_set hs hy (i:=i) h.2 (by simpa using hi)
    have hl:=R_len h.1
    have e:c.length=sz:=by omega
    have e2:(i+1)*sz=c.length+i*sz:=by rw[Nat.succ_mul]; omega
    refine ⟨c::ls',⟨h.1,h1⟩,?_,?_⟩
    · rw[e2,List.flatten_cons,List.flatten_cons,h2,List.take_length_add_append,Nat.add_assoc,List.drop_length_add_append]
      simp only[List.append_assoc]
    · rw[e2]; simp only[List.flatten_cons,List.length_append]; omega
  | [],[],i,h,hi=>by simp at hi
theorem put_arr {pre post l wc : List AVal} {off a n : Nat} (hl : pre.length = off) (hw : wc.length = n) (hle : a + n ≤ l.length) :
    (pre++(l++post)).take off++(l.take a++wc++l.drop (a+n))++(pre++(l++post)).drop (off+(l.take a++wc++l.drop (a+n)).length)=(pre++(l++post)).take (off+a)++wc++(pre++(l++post)).drop (off+a+wc.length):=by
  have e1:(l.take a++wc++l.drop (a+n)).length=l.length:=by simp only[List.length_append,List.length_take,List.length_drop]; omega
  rw[e1]
  subst hl
  have e2:(l++post).drop l.length=post:=List.drop_left' rfl
  rw[List.take_left' rfl,List.drop_length_add_append,e2,List.take_length_add_append,Nat.add_assoc,List.drop_length_add_append,hw,List.take_append_of_le_length (by omega),List.drop_append_of_le_length (by omega)]
  simp only[List.append_assoc]
theorem putI_R {k:IntKind}{n:Int}:∀ {t:Ty}{v:t.V}{o:Nat}{w:t.V}{cs:List AVal},R Γ t v true cs→putI k t v o n=some w→o<cs.length∧R Γ t w true (cs.set o (.int k n))
  | .int k',v,o,w,cs,h,hp=>by
    simp only[R] at h
    subst h
    simp only[putI] at hp
    cases hc:(Nat.beq o 0&&kbeq k k') with
    | false=>rw[hc] at hp; cases hp
    | true =>
      rw[hc] at hp
      cases hp
      simp only[Bool.and_eq_true,Nat.beq_eq] at hc
      obtain ⟨rfl,hk⟩:=hc
      rw[kbeq_eq hk]
      exact ⟨by simp,by simp[R]⟩
  | .agg t,v,o,w,cs,h,hp=>by
    simp only[R] at h ⊢
    exact putI_R (t:=t) h hp
  | .cons t ts,v,o,w,cs,h,hp=>by
    simp only[R] at h
    obtain ⟨l1,l2,rfl,h1,h2⟩:=h
    have hl:=R_len h1
    simp only[putI] at hp
    cases hc:Nat.ble (o+1) t.size with
    | true =>
      rw[hc,cond_true,Option.map_eq_some_iff] at hp
      obtain ⟨x,hx,rfl⟩:=hp
      rw[Nat.ble_eq] at hc
      obtain ⟨g1,g2⟩:=putI_R (t:=t) h1 hx
      refine ⟨by rw[List.length_append]; omega,?_⟩
      simp only[R]
      exact ⟨l1.set o (.int k n),l2,by rw[List.set_append,if_pos g1],g2,h2⟩
    | false =>
      rw[hc,cond_false,Option.map_eq_some_iff] at hp
      obtain ⟨x,hx,rfl⟩:=hp
      have hc:¬ o+1≤t.size:=fun e=>by rw[← Nat.ble_eq,hc] at e; cases e
      obtain ⟨g1,g2⟩:=putI_R (t:=ts) h2 hx
      refine ⟨by rw[List.length_append]; omega,?_⟩
      simp only[R]
      exact ⟨l1,l2.set (o-t.size) (.int k n),by rw[List.set_append,if_neg (by omega),hl],h1,g2⟩
  | .bool,_,_,_,_,_,hp=>by cases hp
  | .str,_,_,_,_,_,hp=>by cases hp
  | .sl _,_,_,_,_,_,hp=>by cases hp
  | .arr _ _,_,_,_,_,_,hp=>by cases hp
  | .tup _,_,_,_,_,_,hp=>by cases hp
  | .unit,_,_,_,_,_,hp=>by cases hp
  | .nilsl,_,_,_,_,_,hp=>by cases hp
  | .nilp,_,_,_,_,_,hp=>by cases hp
  | .err,_,_,_,_,_,hp=>by cases hp
  | .fn _,_,_,_,_,_,hp=>by cases hp
  | .undef,_,_,_,_,_,hp=>by cases hp
  | .any,_,_,_,_,_,hp=>by cases hp
  | .own _,_,_,_,_,_,hp=>by cases hp
  | .it _,_,_,_,_,_,hp=>by cases hp
  | .mp _,_,_,_,_,_,hp=>by cases hp
  | .bx _ _,_,_,_,_,_,hp=>by cases hp
  | .op _,_,_,_,_,_,hp=>by cases hp
  | .ptr _ _,_,_,_,_,_,hp=>by cases hp
  | .vw _,_,_,_,_,_,hp=>by cases hp
  | .rp _ _,_,_,_,_,_,hp=>by cases hp
  | .orp _ _,_,_,_,_,_,hp=>by cases hp
  | .ba _ _ _ _,_,_,_,_,_,hp=>by cases hp
  | .cl _ _,_,_,_,_,_,hp=>by cases hp
theorem storeT_ok (hm:MemR Φ Γ m st) {t:TypeId}{x w:TV}{a b:AVal} (hx:R Γ x.t x.v false [a]) (hw:R Γ w.t w.v false [b]):OkM Φ none Γ m st ((astore P t a b st).map fun s=>(AVal.any,s)) (storeT P t x w m):=by
  unfold storeT
  cases hf:fitsT P t w.t with
  | false=>exact .no
  | true =>
    have hfit:=fits_R hf hw
    obtain ⟨f1,f2,f3⟩:=fitsT_row hf
    simp only[cond_true]
    split
    · rename_i id off _
      simp only[R] at hx; obtain ⟨r,n,hg,hx⟩:=hx; cases hx
      have hr:=hm.at id
      split
      · rename_i e u v hreg
        rw[hreg] at hr
        obtain ⟨k1,k2,k3,r',c,k4,k5,k6⟩:=hr
        rw[hg] at k4; cases k4
        split
        · rename_i y hy
          cases hc:(y.t.isV&&y.t.okRow&&Nat.beq y.t.size u.size) with
          | false=>exact .no
          | true =>
            simp only[Bool.and_eq_true,Nat.beq_eq] at hc
            obtain ⟨⟨c1,c2⟩,c3⟩:=hc
            obtain ⟨g1,g2,g3,g4,g5,g6⟩:=putTop_R (u:=⟨u,v⟩) k6 k1 k2 hw f1 hy
            refine .ok (a:=.any) (st':=st.set r (.row e u.size [putCells c off b])) Γ ?_ (.inl rfl) (hm.set (getM_lt hreg (by simp)) hg ?_) (fun _ _ _ h=>h) (.set (by intro _ _ _ h; cases h) (by intro _ _ h; cases h))
            · simp only[astore,cellsAt,k5,List.length_cons,List.length_nil,if_true,List.getElem?_cons_zero,Option.map_some,rowTy]
              rw[if_pos ⟨hfit,g5,by rcases g6 with h | h<;>simp[h]⟩]
              simp
            · refine ⟨c1,c2,by rw[c3]; exact k3,r,putCells c off b,by rw[c3]; exact hg,?_,g1⟩
              rw[List.getElem?_set_self (hm.lt _ _ _ _ hg),c3]
        · exact .no
      · exact .no
    · rename_i id off i
      simp only[R] at hx; obtain ⟨r,n,len,hg,hx⟩:=hx; cases hx
      have hr:=hm.at id
      split
      · rename_i e u xs hreg
        rw[hreg] at hr
        obtain ⟨k1,k2,k3,k4,k5⟩:=hr
        refine .opt fun z hz => ?_
        rcases k5 with ⟨rfl,k5⟩ | ⟨r',as,k5,k6,k7,k8⟩
        · simp at hz
        · rw[hg] at k5; cases k5
          obtain ⟨c,hb1,hb2⟩:=All2_get k7 hz
          split
          · rename_i y hy
            split
            · rename_i q hq
              obtain ⟨g1,g2,g3,g4,g5,g6⟩:=putTop_R (u:=⟨u,z⟩) hb2 k1 k3 hw f1 hy
              refine .ok (a:=.any) (st':=st.set r (.row e u.size (as.set i (putCells c off b)))) Γ ?_ (.inl rfl) (hm.set (getM_lt hreg (by simp)) hg ?_) (fun _ _ _ h=>h) (.set (by intro _ _ _ h; cases h) (by intro _ _ h; cases h))
              · simp only[astore,cellsAt,k6,All2_len k7,if_true,hb1,Option.map_some,rowTy]
                rw[if_pos ⟨hfit,g5,by rcases g6 with h | h<;>simp[h]⟩]
                rfl
              · refine ⟨k1,k2,k3,k4,.inr ⟨r,_,by rw[List.length_set]; exact hg,List.getElem?_set_self (hm.lt _ _ _ _ hg),?_,fun hz e=>k8 hz (by simpa using e)⟩⟩
                exact All2_set k7 (coerceN_R hq g1)
            · exact .no
          · exact .no
      · exact .no
    · rename_i id off n len k
      simp only[R] at hx; obtain ⟨r,n0,l0,hg,hx⟩:=hx; cases hx
      have hr:=hm.at id
      split
      · rename_i e u v hreg
        rw[hreg] at hr
        obtain ⟨k1,k2,k3,r',c,k4,k5,k6⟩:=hr
        rw[hg] at k4; cases k4
        split
        · rename_i len' u' xs hp
          split
          · rename_i y hy
            split
            · rename_i x hxx
              cases hc:(Nat.beq u'.size n&&Nat.beq len len'&&u'.okRow&&u'.isV&&Nat.beq w.t.size n&&isB w.t.isAgg u'.isAgg&&x.t.isV&&x.t.okRow&&Nat.beq x.t.size u.size) with
              | false=>exact .no
              | true =>
                simp only[Bool.and_eq_true,Nat.beq_eq] at hc
                obtain ⟨⟨⟨⟨⟨⟨⟨⟨c1,c2⟩,c3⟩,c4⟩,c5⟩,c6⟩,c7⟩,c8⟩,c9⟩:=hc
                have c6:=isB_eq c6
                refine .opt fun z hz => ?_
                have hi:=(List.getElem?_eq_some_iff.1 hz).1
                obtain ⟨aa,ha1,ha2⟩:=partTop_R (w0:=⟨u,v⟩) (R_cells k1 k6) hp rfl
                simp only[R] at ha1
                obtain ⟨cs,ha3,hlen,ls,hls,hall⟩:=ha1
                cases ha3
                obtain ⟨pre,post,q1,q2,q3⟩:=pick_split ha2
                have hyr:=coerceN_R hy hw
                have hbc:=R_cells c4 hyr
                have hbl:=R_len hbc
                obtain ⟨ls',s1,s2,s3⟩:=flat_set c1 hbc hall hi
                have hnew:R Γ (.arr len' u') (xs.set k y) false [.agg ls'.flatten]:=⟨_,rfl,by rw[List.length_set]; exact hlen,ls',rfl,s1⟩
                obtain ⟨g1,g2,g3,g4,g5,g6⟩:=putTop_R (u:=⟨u,v⟩) (w:=⟨.arr len' u',xs.set k y⟩) k6 k1 k2 hnew rfl hxx
                have hag:c.isAgg=true:=by rcases g6 with h | h<;>simp_all [AVal.isAgg]
                have hpc:putCells c off (.agg ls'.flatten)=putCells c (off+k*n) b:=by
                  cases c<;>first | (cases hag; done) | skip
                  rename_i cc
                  simp only[putCells]
                  congr 1
                  have q1':cc=pre++(cs++post):=q1
                  have:=put_arr (pre:=pre) (post:=post) (l:=cs) (wc:=b.cells) (off:=off) (a:=k*n) (n:=n) q2 (by omega) (by rw[hls]; exact s3)
                  rw[q1']
                  rw[hls] at this ⊢
                  simp only[AVal.cells,s2]
                  exact this
                have hle:off+k*n+b.cells.length≤c.cells.length:=by
                  rw[q1]; simp only[List.length_append]; rw[hls]; omega
                refine .ok (a:=.any) (st':=st.set r (.row e u.size [putCells c (off+k*n) b])) Γ ?_ (.inl rfl) (hm.set (getM_lt hreg (by simp)) hg ?_) (fun _ _ _ h=>h) (.set (by intro _ _ _ h; cases h) (by intro _ _ h; cases h))
                · simp only[astore,cellsAt,k5,List.length_cons,List.length_nil,if_true,List.getElem?_cons_zero,Option.map_some,rowTy]
                  rw[if_pos ⟨hfit,hle,.inl hag⟩]
                  simp
                · refine ⟨c7,c8,by rw[c9]; exact k3,r,putCells c (off+k*n) b,by rw[c9]; exact hg,?_,by rw[← hpc]; exact g1⟩
                  rw[List.getElem?_set_self (hm.lt _ _ _ _ hg),c9]
            · exact .no
          · exact .no
        · split
          · rename_i kk z
            cases hc:(Nat.beq n 1&&u.isAgg) with
            | false=>exact .no
            | true =>
              simp only[Bool.and_eq_true,Nat.beq_eq] at hc
              obtain ⟨c1,c2⟩:=hc
              refine .opt fun y hy => ?_
              simp only[R] at hw
              cases hw
              have hca:=R_agg k1 k6
              rw[c2] at hca
              cases c<;>try (cases hca; done)
              rename_i cs
              obtain ⟨q1,q2⟩:=putI_R (R_cells k1 k6) hy
              have q1:off+k*n<cs.length:=q1
              have hpc:putCells (.agg cs) (off+k*n) (.int kk z) = .agg (cs.set (off+k*n) (.int kk z)):=by
                simp only[putCells,AVal.cells,List.length_cons,List.length_nil]
                rw[List.set_eq_take_append_cons_drop,if_pos q1]
                simp
              refine .ok (a:=.any) (st':=st.set r (.row e u.size [putCells (.agg cs) (off+k*n) (.int kk z)])) Γ ?_ (.inl rfl) (hm.set (getM_lt hreg (by simp)) hg ?_) (fun _ _ _ h=>h) (.set (by intro _ _ _ h; cases h) (by intro _ _ h; cases h))
              · simp only[astore,cellsAt,k5,List.length_cons,List.length_nil,if_true,List.getElem?_cons_zero,Option.map_some,rowTy]
                rw[if_pos ⟨hfit,by simp only[AVal.cells,List.length_cons,List.length_nil]; omega,.inl rfl⟩]
                simp
              · refine ⟨k1,k2,k3,r,putCells (.agg cs) (off+k*n) (.int kk z),hg,?_,?_⟩
                · rw[List.getElem?_set_self (hm.lt _ _ _ _ hg)]
                · rw[hpc]
                  cases u<;>try (cases c2; done)
                  · exact ⟨_,rfl,q2⟩
                  · cases hy
          · exact .no
      · exact .no
    · exact .no
theorem boxT_ok (hm:MemR Φ Γ m st) {ro:Bool}{t:TypeId}{w:TV}{b:AVal} (hw:R Γ w.t w.v false [b]):OkM Φ d Γ m st (abox P t b st) (boxT P ro t w m):=by
  unfold boxT
  cases hf:(fitsT P t w.t&&(!ro||w.t.closed)) with
  | false=>exact .no
  | true =>
    rw[Bool.and_eq_true] at hf
    obtain ⟨hf,hc⟩:=hf
    have hfit:=fits_R hf hw
    obtain ⟨f1,f2,f3⟩:=fitsT_row hf
    have hl:=R_len (R_cells f1 hw)
    refine .ok (a:=.ptr st.length 1 0 0) (st':=st++[.row t b.cells.length [b]]) (more Γ m.length (.inr (st.length,w.t.size,1))) ?_ (.inr ⟨rfl,st.length,w.t.size,more_at,rfl⟩) (hm.more ?_) (fun j y _ h=>more_ext hm j y h) .more
    · simp only[abox,hfit,if_true]
    · rw[hl]
      have hat:(st++[AReg.row t w.t.size [b]])[st.length]? = some (.row t w.t.size [b]):=by simp
      cases ro with
      | false=>exact ⟨f1,f2,f3,st.length,b,more_at,hat,R_ext (fun j x _ hx=>more_ext hm j x hx) hw⟩
      | true=>exact ⟨f1,by simpa using hc,f2,f3,st.length,b,more_at,hat,R_ext (fun j x _ hx=>more_ext hm j x hx) hw⟩
theorem allocT_ok (hm:MemR Φ Γ m st) {ro:Bool}{t:TypeId}:OkM Φ d Γ m st (aalloc P t st) (allocT P ro t m):=by
  unfold allocT
  split
  · rename_i z hz
    obtain ⟨h1,a,h2,h3⟩:=zeroT_R (Γ:=Γ) hz
    have:=boxT_ok (d:=d) (P:=P) (ro:=ro) (t:=t) hm h3
    unfold aalloc
    rw[h2,Option.bind_some]
    exact this
  · exact .no
theorem rowsTo_ok : ∀ {rows : List (Nat × Ty)} {Γ : Ctx} {m : Mem}, rowsOkT rows = true → MemR Φ Γ m st →
    ∃ Γ',MemR Φ Γ' (m++rowsTo rows) st∧(∀ j y,Γ j=some y→Γ' j=some y)∧Pers m (m++rowsTo rows)∧(∀ j,m.length≤j→j<m.length+rows.length→Γ' j=some (.inl false))
  | [],Γ,m,h,hm=>⟨Γ,by simpa [rowsTo] using hm,fun _ _ h=>h,by simpa [rowsTo] using Pers.refl m,fun j h1 h2=>by simp at h2; omega⟩
  | (e,u)::l,Γ,m,h,hm=>by
    simp only[rowsOkT,Bool.and_eq_true,Bool.not_eq_true'] at h
    obtain ⟨⟨⟨⟨h1,h2⟩,h3⟩,h4⟩,h5⟩:=h
    have hm':=hm.moreNil (g:=.row true e u []) ⟨h1,h2,h3,(by intro e; rw[e] at h4; cases h4),.inl ⟨rfl,false,more_at,fun _=>rfl⟩⟩
    obtain ⟨Γ',k1,k2,k3,k4⟩:=rowsTo_ok h5 hm'
    have e2:m++rowsTo ((e,u)::l)=(m++[.row true e u []])++rowsTo l:=by simp[rowsTo]
    rw[e2]
    refine ⟨Γ',k1,fun j y hy=>k2 j y (more_ext hm j y hy),Pers.more.trans k3,fun j g1 g2 => ?_⟩
    by_cases hj:j=m.length
    · subst hj; exact k2 _ _ more_at
    · refine k4 j ?_ ?_
      · simp only[List.length_append,List.length_cons,List.length_nil]; omega
      · simp only[List.length_append,List.length_cons,List.length_nil] at g2 ⊢; omega
theorem newT_ok (hm:MemR Φ Γ m st) {t:TypeId}{u:Ty}{rows:List (Nat×Ty)}:OkM Φ d Γ m st (aalloc P t st) (newT P t u rows m):=by
  unfold newT
  split
  · rename_i z hz
    cases hr:rowsOkT rows with
    | false=>exact .no
    | true =>
      simp only[cond_true]
      split
      · rename_i x hx
        obtain ⟨h1,a,h2,h3⟩:=zeroT_R (Γ:=Γ) hz
        obtain ⟨Γ1,k1,k2,k3,k4⟩:=rowsTo_ok hr hm
        have hxr:R Γ1 u x false [a]:=coerceT_R (w:=z) (p:=fun _=>True) (Γ:=Γ) ⟨fun j _ y hy=>k2 j y hy,fun j _ hf=>by
          simp only[Bool.and_eq_true,Nat.ble_eq] at hf
          exact ⟨_,k4 j hf.1 (by omega)⟩⟩ (fun _ _=>trivial) hx h3
        have:=boxT_ok (d:=d) (P:=P) (ro:=false) (t:=t) (w:=⟨u,x⟩) k1 hxr
        unfold aalloc
        rw[h2,Option.bind_some]
        intro X K x hx
        obtain ⟨w,m',k,a',st',Γ',q1,q2,q3,q4,q5,q6⟩:=this X K x hx
        exact ⟨w,m',k,a',st',Γ',q1,q2,q3,q4,fun j y hk hy=>q5 j y hk (k2 j y hy),k3.trans q6⟩
      · exact .no
  · exact .no
end
end Go.TY
set_option linter.unusedVariables false
set_option linter.unusedSimpArgs false
namespace Go.TY
open Go.EM
section
variable {Φ:Frame}{Γ:Ctx}{m:Mem}{st:Store}{P:Program}{d:Option Nat}
theorem killT_R {j:Nat}{Γ':Ctx} (he:∀ i y,i≠j→Γ i=some y→Γ' i=some y):∀ {t:Ty}{v:t.V}{c:Bool}{l:List AVal},R Γ t v c l→(killT j t v).t.names j=false→R Γ' (killT j t v).t (killT j t v).v c l
  | .agg t,v,c,l,h,hn=>by
    simp only[killT] at hn ⊢
    cases c<;>simp only[R] at h ⊢
    · obtain ⟨cs,rfl,h⟩:=h
      exact ⟨cs,rfl,killT_R he (t:=t) h hn⟩
    · exact killT_R he (t:=t) h hn
  | .cons t ts,v,c,l,h,hn=>by
    simp only[killT,Ty.names,Bool.or_eq_false_iff] at hn ⊢
    simp only[R] at h ⊢
    obtain ⟨l1,l2,rfl,h1,h2⟩:=h
    exact ⟨l1,l2,rfl,killT_R he h1 hn.1,killT_R he h2 hn.2⟩
  | .own i,v,c,l,h,hn=>by
    simp only[killT] at hn ⊢
    cases hb:Nat.beq i j with
    | true =>
      simp only[cond_true,R] at h ⊢
      split at h
      · exact ⟨_,h,rfl⟩
      · rcases h with h | ⟨_,_,h⟩<;>exact ⟨_,h,rfl⟩
      · exact h.elim
    | false =>
      rw[hb,cond_false] at hn
      exact R_ext (t:=.own i) (fun k y hk hy=>he k y (fun e=>by rw[e] at hk; rw[hk] at hn; cases hn) hy) h
  | .ptr i off,v,c,l,h,hn=>by
    simp only[killT] at hn ⊢
    cases hb:Nat.beq i j with
    | true =>
      simp only[cond_true,R] at h ⊢
      obtain ⟨_,_,_,_,h⟩:=h
      exact ⟨_,h,rfl⟩
    | false =>
      rw[hb,cond_false] at hn
      exact R_ext (t:=.ptr i off) (fun k y hk hy=>he k y (fun e=>by rw[e] at hk; rw[hk] at hn; cases hn) hy) h
  | .ba i off en ln,v,c,l,h,hn=>by
    simp only[killT] at hn ⊢
    cases hb:Nat.beq i j with
    | true =>
      simp only[cond_true,R] at h ⊢
      obtain ⟨_,_,_,_,h⟩:=h
      exact ⟨_,h,rfl⟩
    | false =>
      rw[hb,cond_false] at hn
      exact R_ext (t:=.ba i off en ln) (fun k y hk hy=>he k y (fun e=>by rw[e] at hk; rw[hk] at hn; cases hn) hy) h
  | .vw i,v,c,l,h,hn=>by
    simp only[killT] at hn ⊢
    cases hb:Nat.beq i j with
    | true =>
      simp only[cond_true,R] at h ⊢
      obtain ⟨_,_,_,_,h⟩:=h
      exact ⟨_,h,rfl⟩
    | false =>
      rw[hb,cond_false] at hn
      exact R_ext (t:=.vw i) (fun k y hk hy=>he k y (fun e=>by rw[e] at hk; rw[hk] at hn; cases hn) hy) h
  | .int _,v,c,l,h,hn=>R_ext (t:=.int _) (fun k y hk=>by cases hk) h
  | .bool,v,c,l,h,hn=>R_ext (t:=.bool) (fun k y hk=>by cases hk) h
  | .str,v,c,l,h,hn=>R_ext (t:=.str) (fun k y hk=>by cases hk) h
  | .sl t,v,c,l,h,hn=>R_ext (t:=.sl t) (fun k y hk hy=>he k y (fun e=>by rw[e] at hk; simp only[killT] at hn; rw[hk] at hn; cases hn) hy) h
  | .arr n t,v,c,l,h,hn=>R_ext (t:=.arr n t) (fun k y hk hy=>he k y (fun e=>by rw[e] at hk; simp only[killT] at hn; rw[hk] at hn; cases hn) hy) h
  | .tup t,v,c,l,h,hn=>R_ext (t:=.tup t) (fun k y hk hy=>he k y (fun e=>by rw[e] at hk; simp only[killT] at hn; rw[hk] at hn; cases hn) hy) h
  | .unit,v,c,l,h,hn=>R_ext (t:=.unit) (fun k y hk=>by cases hk) h
  | .nilsl,v,c,l,h,hn=>R_ext (t:=.nilsl) (fun k y hk=>by cases hk) h
  | .nilp,v,c,l,h,hn=>R_ext (t:=.nilp) (fun k y hk=>by cases hk) h
  | .fn f,v,c,l,h,hn=>R_ext (t:=.fn f) (fun k y hk=>by cases hk) h
  | .err,v,c,l,h,hn=>R_ext (t:=.err) (fun k y hk=>by cases hk) h
  | .undef,v,c,l,h,hn=>R_ext (t:=.undef) (fun k y hk=>by cases hk) h
  | .any,v,c,l,h,hn=>R_ext (t:=.any) (fun k y hk=>by cases hk) h
  | .it i,v,c,l,h,hn=>R_ext (t:=.it i) (fun k y hk hy=>he k y (fun e=>by rw[e] at hk; simp only[killT] at hn; rw[hk] at hn; cases hn) hy) h
  | .mp i,v,c,l,h,hn=>R_ext (t:=.mp i) (fun k y hk hy=>he k y (fun e=>by rw[e] at hk; simp only[killT] at hn; rw[hk] at hn; cases hn) hy) h
  | .bx i o,v,c,l,h,hn=>R_ext (t:=.bx i o) (fun k y hk hy=>he k y (fun e=>by rw[e] at hk; simp only[killT] at hn; rw[hk] at hn; cases hn) hy) h
  | .op i,v,c,l,h,hn=>R_ext (t:=.op i) (fun k y hk hy=>he k y (fun e=>by rw[e] at hk; simp only[killT] at hn; rw[hk] at hn; cases hn) hy) h
  | .rp t o,v,c,l,h,hn=>R_ext (t:=.rp t o) (fun k y hk hy=>he k y (fun e=>by rw[e] at hk; simp only[killT] at hn; rw[hk] at hn; cases hn) hy) h
  | .orp t o,v,c,l,h,hn=>R_ext (t:=.orp t o) (fun k y hk hy=>he k y (fun e=>by rw[e] at hk; simp only[killT] at hn; rw[hk] at hn; cases hn) hy) h
  | .cl o t,v,c,l,h,hn=>R_ext (t:=.cl o t) (fun k y hk hy=>he k y (fun e=>by rw[e] at hk; simp only[killT] at hn; rw[hk] at hn; cases hn) hy) h
theorem killT_shape {j:Nat}:∀ {t:Ty}{v:t.V},(killT j t v).t.size=t.size∧(killT j t v).t.isV=t.isV∧(t.okRow=true→(killT j t v).t.okRow=true)
  | .agg t,v=>by
    obtain ⟨h1,h2,h3⟩:=killT_shape (j:=j) (t:=t) (v:=v)
    simp only[killT]
    refine ⟨h1,rfl,fun h => ?_⟩
    simp only[Ty.okRow,Bool.and_eq_true,Bool.not_eq_true'] at h ⊢
    exact ⟨by rw[h2]; exact h.1,h3 h.2⟩
  | .cons t ts,v=>by
    obtain ⟨h1,h2,h3⟩:=killT_shape (j:=j) (t:=t) (v:=v.1)
    obtain ⟨g1,g2,g3⟩:=killT_shape (j:=j) (t:=ts) (v:=v.2)
    simp only[killT]
    refine ⟨by simp only[Ty.size,h1,g1],rfl,fun h => ?_⟩
    simp only[Ty.okRow,Bool.and_eq_true] at h ⊢
    exact ⟨⟨by rw[h2]; exact h.1.1,h3 h.1.2⟩,g3 h.2⟩
  | .own i,v=>by
    simp only[killT]
    cases Nat.beq i j<;>exact ⟨rfl,rfl,fun _=>rfl⟩
  | .ptr i o,v=>by
    simp only[killT]
    cases Nat.beq i j<;>exact ⟨rfl,rfl,fun _=>rfl⟩
  | .ba i o en ln,v=>by
    simp only[killT]
    cases Nat.beq i j<;>exact ⟨rfl,rfl,fun _=>rfl⟩
  | .vw i,v=>by
    simp only[killT]
    cases Nat.beq i j<;>exact ⟨rfl,rfl,fun _=>rfl⟩
  | .int _,v=>⟨rfl,rfl,fun h=>h⟩
  | .bool,v=>⟨rfl,rfl,fun h=>h⟩
  | .str,v=>⟨rfl,rfl,fun h=>h⟩
  | .sl t,v=>⟨rfl,rfl,fun h=>h⟩
  | .arr _ t,v=>⟨rfl,rfl,fun h=>h⟩
  | .tup t,v=>⟨rfl,rfl,fun h=>h⟩
  | .unit,v=>⟨rfl,rfl,fun h=>h⟩
  | .nilsl,v=>⟨rfl,rfl,fun h=>h⟩
  | .nilp,v=>⟨rfl,rfl,fun h=>h⟩
  | .fn f,v=>⟨rfl,rfl,fun h=>h⟩
  | .err,v=>⟨rfl,rfl,fun h=>h⟩
  | .undef,v=>⟨rfl,rfl,fun h=>h⟩
  | .any,v=>⟨rfl,rfl,fun h=>h⟩
  | .it i,v=>⟨rfl,rfl,fun h=>h⟩
  | .mp i,v=>⟨rfl,rfl,fun h=>h⟩
  | .bx i o,v=>⟨rfl,rfl,fun h=>h⟩
  | .op i,v=>⟨rfl,rfl,fun h=>h⟩
  | .rp t o,v=>⟨rfl,rfl,fun h=>h⟩
  | .orp t o,v=>⟨rfl,rfl,fun h=>h⟩
  | .cl o t,v=>⟨rfl,rfl,fun h=>h⟩
theorem killG_R {j id:Nat}{Γ':Ctx}{st':Store}{g:Reg} (he:∀ i y,i≠j→Γ i=some y→Γ' i=some y) (hne:id≠j) (hs:∀ r n l,Γ id=some (.inr (r,n,l))→st'[r]? = st[r]?) (h:RegR Γ st id g):RegR Γ' st' id (killG j g):=by
  cases g with
  | box e t v =>
    obtain ⟨h1,h2,h3,r,a,h4,h5,h6⟩:=h
    simp only[killG]
    cases hn:t.names j with
    | false =>
      exact ⟨h1,h2,h3,r,a,he _ _ hne h4,by rw[hs _ _ _ h4]; exact h5,R_ext (fun k y hk hy=>he k y (fun e=>by rw[e] at hk; rw[hk] at hn; cases hn) hy) h6⟩
    | true =>
      simp only[cond_true]
      cases hk:(killT j t v).t.names j with
      | true=>trivial
      | false =>
        obtain ⟨k1,k2,k3⟩:=killT_shape (j:=j) (t:=t) (v:=v)
        refine ⟨by rw[k2]; exact h1,k3 h2,by rw[k1]; exact h3,r,a,by rw[k1]; exact he _ _ hne h4,by rw[hs _ _ _ h4,k1]; exact h5,killT_R he h6 hk⟩
  | cbox e t v =>
    obtain ⟨h1,h0,h2,h3,r,a,h4,h5,h6⟩:=h
    exact ⟨h1,h0,h2,h3,r,a,he _ _ hne h4,by rw[hs _ _ _ h4]; exact h5,R_move h0 h6⟩
  | row z e t xs =>
    simp only[killG]
    cases hn:t.names j with
    | true=>trivial
    | false =>
      obtain ⟨h1,h2,h3,h4,h5⟩:=h
      refine ⟨h1,h2,h3,h4,?_⟩
      rcases h5 with ⟨h5,h6⟩ | ⟨r,as,h5,h6,h7,h8⟩
      · obtain ⟨b,h6,h7⟩:=h6; exact .inl ⟨h5,b,he _ _ hne h6,h7⟩
      · exact .inr ⟨r,as,he _ _ hne h5,by rw[hs _ _ _ h5]; exact h6,Forall2_imp (p:=fun x a=>R Γ t x false [a]) (fun x a hx=>R_move h2 hx) h7,h8⟩
  | iter s pos =>
    obtain ⟨r,h1,h2⟩:=h
    exact ⟨r,he _ _ hne h1,by rw[hs _ _ _ h1]; exact h2⟩
  | map k v xs =>
    obtain ⟨h1,h2,h3,h4,r,es,h5,h6,h7⟩:=h
    exact ⟨h1,h2,h3,h4,r,es,he _ _ hne h5,by rw[hs _ _ _ h5]; exact h6,Forall2_imp (p:=fun (p:k.V×v.V) (e:AVal×AVal)=>R Γ k p.1 false [e.1]∧R Γ v p.2 false [e.2]) (fun x a hx=>⟨R_move h3 hx.1,R_move h4 hx.2⟩) h7⟩
  | gone=>trivial
theorem killM_at:∀ {m:Mem}{i j:Nat},i<m.length→getM (killM j m) i=killG j (getM m i)
  | _::m,0,j,_=>rfl
  | _::m,i+1,j,h=>killM_at (m:=m) (by simpa using h)
  | [],i,j,h=>by simp at h
theorem killM_len:∀ {m:Mem}{j:Nat},(killM j m).length=m.length
  | [],j=>rfl
  | _::m,j=>by simp[killM,killM_len]
def grown (Γ:Ctx) (id:Nat) (y:Nat×Nat×Nat):Ctx:=fun j=>if j=id then some (.inr y) else Γ j
theorem grown_ne {id:Nat}{y:Nat×Nat×Nat}:∀ i x,i≠id→Γ i=some x→grown Γ id y i=some x:=by
  intro i x hi hx
  simp only[grown,if_neg hi]; exact hx
theorem killG_kind {j:Nat}{g:Reg}:(∀ e t v,killG j g = .cbox e t v→g = .cbox e t v)∧(∀ s p,killG j g = .iter s p→g = .iter s p):=by
  cases g with
  | box e t v =>
    simp only[killG]
    cases t.names j with
    | false=>exact ⟨(fun _ _ _ h=>by cases h),(fun _ _ h=>by cases h)⟩
    | true =>
      simp only[cond_true]
      cases (killT j t v).t.names j with
      | false=>exact ⟨(fun _ _ _ h=>by cases h),(fun _ _ h=>by cases h)⟩
      | true=>exact ⟨(fun _ _ _ h=>by cases h),(fun _ _ h=>by cases h)⟩
  | cbox e t v=>exact ⟨(fun _ _ _ h=>h),(fun _ _ h=>by cases h)⟩
  | row z e t xs =>
    simp only[killG]
    cases t.names j with
    | false=>exact ⟨(fun _ _ _ h=>by cases h),(fun _ _ h=>by cases h)⟩
    | true=>exact ⟨(fun _ _ _ h=>by cases h),(fun _ _ h=>by cases h)⟩
  | iter s p=>exact ⟨(fun _ _ _ h=>by cases h),(fun _ _ h=>h)⟩
  | map k v xs=>exact ⟨(fun _ _ _ h=>by cases h),(fun _ _ h=>by cases h)⟩
  | gone=>exact ⟨(fun _ _ _ h=>by cases h),(fun _ _ h=>by cases h)⟩
theorem Pers.kill {id:Nat}{g:Reg} (h1:∀ e t v,g ≠ .cbox e t v) (h2:∀ s p,g ≠ .iter s p):Pers m (setM (killM id m) id g) where
  len:=by rw[setM_len,killM_len]; exact Nat.le_refl _
  cbox j hj e t v h:=by
    by_cases e':id=j
    · subst e'; rw[getM_set_eq (by rw[killM_len]; exact hj)] at h; exact absurd h (h1 _ _ _)
    · rw[getM_set_ne e',killM_at hj] at h; exact killG_kind.1 _ _ _ h
  iter j hj s p h:=by
    by_cases e':id=j
    · subst e'; rw[getM_set_eq (by rw[killM_len]; exact hj)] at h; exact absurd h (h2 _ _)
    · rw[getM_set_ne e',killM_at hj] at h; exact ⟨p,killG_kind.2 _ _ h⟩
theorem MemR.grow (hm : MemR Φ Γ m st) {id : Nat} {g : Reg} {r n l : Nat} {st' : Store} (hid : id < m.length) (hst : st.length ≤ st'.length)
    (hs:∀ i r' n' l',i≠id→Γ i=some (.inr (r',n',l'))→st'[r']? = st[r']?) (hr:r<st'.length) (hfr:∀ i r' n' l',i≠id→Γ i=some (.inr (r',n',l'))→r'≠r) (hg:RegR (grown Γ id (r,n,l)) st' id g) (hΦ:∀ r' g,Φ r'=some g→st'[r']? = some g) (hd:∀ g,Φ r≠some g):MemR Φ (grown Γ id (r,n,l)) (setM (killM id m) id g) st' where
  reg j hj:=by
    rw[setM_len,killM_len] at hj
    by_cases e:id=j
    · subst e; rw[getM_set_eq (by rw[killM_len]; exact hid)]; exact hg
    · rw[getM_set_ne e,killM_at hj]
      exact killG_R grown_ne (fun e'=>e e'.symm) (fun r' n' l' h=>hs j r' n' l' (fun e'=>e e'.symm) h) (hm.reg j hj)
  out j hj:=by
    rw[setM_len,killM_len] at hj
    simp only[grown]
    rw[if_neg (by omega)]
    exact hm.out j hj
  inj i j r' n' l' n'' l'' hi hj:=by
    simp only[grown] at hi hj
    split at hi<;>split at hj
    · rename_i e1 e2; rw[e1,e2]
    · rename_i e1 e2; cases hi; exact absurd rfl (hfr _ _ _ _ e2 hj)
    · rename_i e1 e2; cases hj; exact absurd rfl (hfr _ _ _ _ e1 hi)
    · exact hm.inj _ _ _ _ _ _ _ hi hj
  lt i r' n' l' hi:=by
    simp only[grown] at hi
    split at hi
    · cases hi; exact hr
    · have:=hm.lt _ _ _ _ hi; omega
  old:=hΦ
  dis r' g i n' l' h hi:=by
    simp only[grown] at hi
    split at hi
    · cases hi; exact hd g h
    · exact hm.dis r' g i n' l' h hi
theorem contT_R (hm:MemR Φ Γ m st) {u:Ty}{y:TV}{ys:List u.V}{b:AVal}{n:Nat} (hn:u.size=n) (h:contT m u y=some ys) (hy:R Γ y.t y.v false [b]):∃ bs,contents st n b=some bs∧All2 (fun x a=>R Γ u x false [a]) ys bs:=by
  unfold contT at h
  split at h
  · cases h; simp only[R] at hy; cases hy; exact ⟨[],rfl,trivial⟩
  · rename_i t xs
    obtain ⟨e,hx⟩:=castV_some h
    cases e
    subst hx
    simp only[R] at hy
    rcases hy with ⟨rfl,hy⟩ | ⟨f,n',as,hy,hn',h2⟩
    · cases hy; exact ⟨[],rfl,trivial⟩
    · cases hy
      refine ⟨as,?_,h2⟩
      simp only[contents]
      rw[if_pos]
      rcases hn' with rfl | hn'
      · right; rw[All2_len h2]; rfl
      · left; exact hn'.trans hn
  · rename_i id _
    split at h
    · rename_i e t xs hg
      obtain ⟨e',hx⟩:=castV_some h
      cases e'
      subst hx
      have hr:=hm.at id
      rw[hg] at hr
      obtain ⟨k1,k2,k3,k4,k5⟩:=hr
      simp only[R] at hy
      rcases k5 with ⟨rfl,k5⟩ | ⟨r,as,k5,k6,k7,k8⟩
      · obtain ⟨_,k5,_⟩:=k5
        rw[k5] at hy
        rcases hy with hy | ⟨_,n',hy⟩
        · cases hy; exact ⟨[],rfl,trivial⟩
        · cases hy; exact ⟨[],by simp[contents],trivial⟩
      · rw[k5] at hy; cases hy
        refine ⟨as,?_,k7⟩
        have hl:=All2_len k7
        simp only[contents,if_pos hn,EM.rowAt,k6,hl,and_self,if_true,Option.map_some,List.drop_zero]
        rw[List.take_of_length_le (by omega)]
    · cases h
  · split at h
    · cases h
      simp only[R] at hy; cases hy
      rename_i s _
      have hn1:n=1:=hn.symm
      refine ⟨s.map fun b=>.int .u8 b.toNat,by simp only[contents,if_pos hn1],?_⟩
      clear hn1
      induction s with
      | nil=>trivial
      | cons c s ih=>exact ⟨rfl,ih⟩
    · cases h
  · cases h
theorem roomT_some {n:Nat}{u:Unit} (h:roomT n=some u):n<most:=(ite_some' h).1
theorem elemInfo_some {t:TypeId}{n:Nat}{z:AVal} (h:elemInfo P t=some (n,z)):zeroOf P (elemTy P t)=some z∧n≠0:=by
  unfold elemInfo at h
  split at h
  · rename_i e hu
    split at h
    · rename_i i hi
      split at h
      · rename_i z' hz
        split at h
        · rename_i hc
          cases h
          refine ⟨?_,hc.1⟩
          have:elemTy P t=e:=by simp only[elemTy,hu]
          rw[this]
          simp only[zeroOf,hi,Option.bind_some,hz,Option.map_some]
        · cases h
      · cases h
    · cases h
  · cases h
theorem row_new (hm : MemR Φ Γ m st) {z : Bool} {e : Nat} {u : Ty} {xs : List u.V} {as : List AVal} (h1 : u.isV = true) (h2 : u.closed = true) (h3 : u.okRow = true) (h4 : u.size ≠ 0) (hr : All2 (fun x a => R Γ u x false [a]) xs as) (hz : z = true → xs ≠ []) :
    RegR (more Γ m.length (.inr (st.length,u.size,xs.length))) (st++[.row e u.size as]) m.length (.row z e u xs) :=
  ⟨h1,h2,h3,h4,.inr ⟨st.length,as,more_at,by simp,Forall2_imp (p:=fun x a=>R Γ u x false [a]) (fun x a hx=>R_move h2 hx) hr,hz⟩⟩
theorem fresh_ok (hm : MemR Φ Γ m st) {z : Bool} {e n : Nat} {u : Ty} {xs : List u.V} {as : List AVal} {ares : Option (AVal × Store)} (hn : u.size = n) (h1 : u.isV = true) (h2 : u.closed = true) (h3 : u.okRow = true) (h4 : u.size ≠ 0) (hr : All2 (fun x a => R Γ u x false [a]) xs as) (hz : z = true → xs ≠ [])
    (ha:ares=some (freshRow st e n as)):OkM Φ d Γ m st ares (.ok ⟨.own m.length,()⟩ (m++[.row z e u xs]) none):=by
  subst hn
  refine .ok (a:=.own st.length u.size xs.length 0 xs.length) (st':=st++[.row e u.size as]) (more Γ m.length (.inr (st.length,u.size,xs.length))) (by rw[ha,freshRow,All2_len hr]) (.inr ⟨rfl,by simp only[R,more_at]⟩) (hm.more (row_new hm h1 h2 h3 h4 hr hz)) (fun j y _ h=>more_ext hm j y h) .more
theorem isEmpty_len {A:Type}{l:List A}:l.isEmpty=true→l=[]:=by cases l<;>simp
theorem appendT_ok (hm:MemR Φ Γ m st) {ty:List (Nat×Ty)}{tys:List TypeId}{x y:TV}{a b:AVal} (hx:R Γ x.t x.v false [a]) (hy:R Γ y.t y.v false [b]):OkM Φ d Γ m st (aappendOp P tys a b st) (appendT P ty tys x y m):=by
  unfold appendT
  split
  · rename_i t u
    split
    · rename_i n z du et he hu hl
      cases hc:(!isIntD du&&Nat.beq et.size n&&et.isV&&et.closed&&et.okRow) with
      | false=>exact .no
      | true =>
        simp only[Bool.and_eq_true,Nat.beq_eq,Bool.not_eq_true'] at hc
        obtain ⟨⟨⟨⟨c0,c1⟩,c2⟩,c3⟩,c4⟩:=hc
        have hn0:=(elemInfo_some he).2
        have c5:et.size≠0:=by rw[c1]; exact hn0
        simp only[cond_true]
        split
        · rename_i ys hys
          obtain ⟨bs,hb1,hb2⟩:=contT_R hm c1 hys hy
          have hbl:=All2_len hb2
          have hop:aappendOp P [t,u] a b st=aappend P t a bs st:=by
            unfold aappendOp
            simp only[he,hu]
            cases du<;>first | (cases c0; done) | (simp only[hb1,Option.bind_some])
          rw[hop]
          split
          · simp only[R] at hx; cases hx
            refine .opt fun _ hroom => ?_
            have hroom:=roomT_some hroom
            cases hem:bs.isEmpty with
            | true =>
              have hbs:=isEmpty_len hem
              have hys':ys=[]:=by cases ys with | nil=>rfl | cons _ _=>rw[hbs] at hbl; simp at hbl
              subst hys'
              refine .ok (a:=.nil) (st':=st) (more Γ m.length (.inl false)) (by simp only[aappend,he,hem,cond_true]) (.inr ⟨rfl,by simp only[R,more_at]; exact .inl trivial⟩) (hm.moreNil ⟨c2,c3,c4,c5,.inl ⟨rfl,false,more_at,fun _=>rfl⟩⟩) (fun j y _ h=>more_ext hm j y h) .more
            | false =>
              refine fresh_ok hm c1 c2 c3 c4 c5 hb2 (fun _ e=>by subst e; cases bs with | nil=>simp at hem | cons _ _=>exact hb2.elim) ?_
              simp only[aappend,he,hem,cond_false]
              rw[if_pos (by omega)]
          · rename_i id _
            split
            · rename_i zf e t' xs hg
              cases hcc:(Nat.beq e (elemTy P t)&&Nat.ble (id+1) m.length) with
              | false=>exact .no
              | true =>
                simp only[Bool.and_eq_true,Nat.beq_eq,Nat.ble_eq] at hcc
                obtain ⟨hce,hid⟩:=hcc
                subst hce
                simp only[cond_true]
                split
                · rename_i xs' hxs
                  obtain ⟨e',hxx⟩:=castV_some hxs
                  cases e'
                  subst hxx
                  refine .opt fun _ hroom => ?_
                  have hroom:=roomT_some hroom
                  have hr:=hm.at id
                  rw[hg] at hr
                  obtain ⟨k1,k2,k3,k4,k5⟩:=hr
                  have hp:Pers m (setM (killM id m) id (.row zf (elemTy P t) et (xs'++ys))):=.kill (by intro _ _ _ h; cases h) (by intro _ _ h; cases h)
                  simp only[R] at hx
                  rcases k5 with ⟨rfl,k5⟩ | ⟨r,as,k5,k6,k7,k8⟩
                  · obtain ⟨bz,k5,kz⟩:=k5
                    rw[k5] at hx
                    have haE:bs.isEmpty=true→aappend P t a bs st=some (a,st):=fun hem=>by
                      rcases hx with hx | ⟨_,n',hx⟩<;>cases hx<;>simp[aappend,he,hem]
                    have haN:bs.isEmpty=false→bs.length<most→aappend P t a bs st=some (freshRow st (elemTy P t) n bs):=fun hem hl=>by
                      rcases hx with hx | ⟨_,n',hx⟩<;>cases hx<;>simp[aappend,he,hem,hl]
                    cases hem:bs.isEmpty with
                    | true =>
                      have hbs:=isEmpty_len hem
                      have hys':ys=[]:=by cases ys with | nil=>rfl | cons _ _=>rw[hbs] at hbl; simp at hbl
                      subst hys'
                      have hk:MemR Φ Γ (setM (killM id m) id (.row zf (elemTy P t) et ([]++[]))) st:={
                        reg:=fun j hj=>by
                          rw[setM_len,killM_len] at hj
                          by_cases ej:id=j
                          · subst ej; rw[getM_set_eq (by rw[killM_len]; omega)]; exact ⟨k1,k2,k3,k4,.inl ⟨rfl,bz,k5,kz⟩⟩
                          · rw[getM_set_ne ej,killM_at hj]
                            exact killG_R (fun i y _ h=>h) (fun e'=>ej e'.symm) (fun r' n' l' h=>rfl) (hm.reg j hj)
                        out:=fun j hj=>hm.out j (by rw[setM_len,killM_len] at hj; exact hj)
                        inj:=hm.inj
                        lt:=hm.lt
                        old:=hm.old
                        dis:=hm.dis }
                      exact .ok (a:=a) (st':=st) Γ (haE hem) (.inr ⟨rfl,by simp only[R,k5]; exact hx⟩) hk (fun j y _ h=>h) hp
                    | false =>
                      have hne:ys≠[]:=fun e=>by subst e; cases bs with | nil=>simp at hem | cons _ _=>exact hb2.elim
                      have hlt:st.length<(st++[AReg.row (elemTy P t) et.size bs]).length:=by simp
                      refine .ok (a:=.own st.length n bs.length 0 bs.length) (st':=st++[.row (elemTy P t) n bs]) (grown Γ id (st.length,et.size,ys.length)) ?_ (.inr ⟨rfl,?_⟩) (hm.grow (by omega) (by simp) ?_ (by simp) ?_ ⟨k1,k2,k3,k4,.inr ⟨st.length,bs,?_,?_,Forall2_imp (p:=fun x a=>R Γ et x false [a]) (fun x a hx=>R_move k2 hx) hb2,fun _ e=>hne (by simpa using e)⟩⟩ (fun r' g h=>by rw[List.getElem?_append_left (hm.oldlt h)]; exact hm.old r' g h) (fun g h=>Nat.lt_irrefl _ (hm.oldlt h))) (fun j y hj h=>grown_ne j y (fun e'=>hj (by rw[e'])) h) hp
                      · rw[haN hem (by simp at hroom; omega)]
                        rfl
                      · simp only[R,grown,if_true,hbl,c1]
                      · intro i r' n' l' _ h
                        exact List.getElem?_append_left (hm.lt _ _ _ _ h)
                      · intro i r' n' l' _ h e'
                        have:=hm.lt _ _ _ _ h
                        omega
                      · simp[grown]
                      · simp[c1]
                  · rw[k5] at hx; cases hx
                    have hal:=All2_len k7
                    have hrow:EM.rowAt st r et.size xs'.length=some as:=by simp only[EM.rowAt,k6,hal,and_self,if_true]
                    have hty:EM.rowTy st r=elemTy P t:=by simp only[EM.rowTy,k6]
                    cases hem:bs.isEmpty with
                    | true =>
                      have hbs:=isEmpty_len hem
                      have hys':ys=[]:=by cases ys with | nil=>rfl | cons _ _=>rw[hbs] at hbl; simp at hbl
                      subst hys'
                      have hk:MemR Φ Γ (setM (killM id m) id (.row zf (elemTy P t) et (xs'++[]))) st:={
                        reg:=fun j hj=>by
                          rw[setM_len,killM_len] at hj
                          by_cases ej:id=j
                          · subst ej; rw[getM_set_eq (by rw[killM_len]; omega),List.append_nil]; exact ⟨k1,k2,k3,k4,.inr ⟨r,as,k5,k6,k7,k8⟩⟩
                          · rw[getM_set_ne ej,killM_at hj]
                            exact killG_R (fun i y _ h=>h) (fun e'=>ej e'.symm) (fun r' n' l' h=>rfl) (hm.reg j hj)
                        out:=fun j hj=>hm.out j (by rw[setM_len,killM_len] at hj; exact hj)
                        inj:=hm.inj
                        lt:=hm.lt
                        old:=hm.old
                        dis:=hm.dis }
                      refine .ok (a:=.own r et.size xs'.length 0 xs'.length) (st':=st) Γ ?_ (.inr ⟨rfl,by simp only[R,k5]⟩) hk (fun j y _ h=>h) hp
                      rw[c1] at hrow
                      simp only[aappend,he,c1,hty,hrow,and_self,if_true,hem,cond_true]
                    | false =>
                      have hrl:=hm.lt _ _ _ _ k5
                      refine .ok (a:=.own r et.size (xs'.length+bs.length) 0 (xs'.length+bs.length)) (st':=st.set r (.row (elemTy P t) et.size (as++bs))) (grown Γ id (r,et.size,(xs'++ys).length)) ?_ (.inr ⟨rfl,?_⟩) (hm.grow (by omega) (by simp) ?_ (by simpa using hrl) ?_ ⟨k1,k2,k3,k4,.inr ⟨r,as++bs,?_,?_,All2_app (Forall2_imp (p:=fun x a=>R Γ et x false [a]) (fun x a hx=>R_move k2 hx) k7) (Forall2_imp (p:=fun x a=>R Γ et x false [a]) (fun x a hx=>R_move k2 hx) hb2),fun hz e=>k8 hz (List.append_eq_nil_iff.1 e).1⟩⟩ (fun r' g h=>by
                        have:r≠r':=fun e'=>hm.dis r' g id _ _ h (e' ▸ k5)
                        rw[List.getElem?_set_ne this]; exact hm.old r' g h) (fun g h=>hm.dis r g id _ _ h k5)) (fun j y hj h=>grown_ne j y (fun e'=>hj (by rw[e'])) h) hp
                      · rw[c1] at hrow
                        simp only[aappend,he,c1,hty,hrow,and_self,if_true,hem,cond_false]
                        rw[if_pos (by omega)]
                      · simp only[R,grown,if_true,List.length_append,hbl]
                      · intro i r' n' l' hi h
                        have:r≠r':=fun e'=>hi (hm.inj _ _ _ _ _ _ _ (e' ▸ h) k5)
                        exact List.getElem?_set_ne this
                      · intro i r' n' l' hi h e'
                        exact hi (hm.inj _ _ _ _ _ _ _ (e' ▸ h) k5)
                      · simp[grown]
                      · rw[List.getElem?_set_self hrl]
                · exact .no
            · exact .no
          · exact .no
        · exact .no
    · exact .no
  · exact .no
end
end Go.TY
set_option linter.unusedVariables false
set_option linter.unusedSimpArgs false
namespace Go.TY
open Go.EM
section
variable {Φ:Frame}{Γ:Ctx}{m:Mem}{st:Store}{P:Program}{d:Option Nat}
theorem makeT_ok (hm:MemR Φ Γ m st) {ty:List (Nat×Ty)}{t:TypeId}{l c:TV}{a b:AVal} (hl:R Γ l.t l.v false [a]) (hc:R Γ c.t c.v false [b]):OkM Φ d Γ m st (amake P t a b st) (makeT P ty t l c m):=by
  unfold makeT
  split
  · rename_i n z et l' c' he het
    simp only[R] at hl hc; cases hl; cases hc
    split
    · rename_i z' hz'
      rw[Option.bind_eq_some_iff] at hz'
      obtain ⟨zt,hz1,hz2⟩:=hz'
      cases hcc:(Nat.beq et.size n&&et.isV&&et.closed&&et.okRow) with
      | false=>exact .no
      | true =>
        simp only[Bool.and_eq_true,Nat.beq_eq] at hcc
        obtain ⟨⟨⟨c1,c2⟩,c3⟩,c4⟩:=hcc
        obtain ⟨hzo,hn0⟩:=elemInfo_some he
        obtain ⟨g1,za,g2,g3⟩:=zeroT_R (Γ:=Γ) hz1
        rw[hzo] at g2; cases g2
        have hz:=coerceN_R hz2 g3
        refine .opt fun _ hmk => ?_
        obtain ⟨⟨h1,h2,h3⟩,_⟩:=ite_some' hmk
        refine fresh_ok hm c1 c2 c3 c4 (by rw[c1]; exact hn0) (All2_rep (p:=fun x a=>R Γ et x false [a]) hz l'.toNat) (by simp) ?_
        have hcell:=R_isCell c4 (R_cells c2 hz)
        simp only[amake,he]
        rw[if_pos ⟨h1,h2,by simpa [most] using h3,hcell⟩]
    · exact .no
  · exact .no
theorem runes_eq (s:List UInt8):∀ (b i:Nat) (acc:Array Value),(Conv.runesFrom ⟨s.toArray⟩ b i acc).toList=acc.toList++(runesFromT s b i).map fun n=>Value.int .i32 n
  | 0,i,acc=>by simp[Conv.runesFrom,runesFromT]
  | b+1,i,acc=>by
    unfold Conv.runesFrom runesFromT
    have hs:(⟨s.toArray⟩:ByteArray).size=s.length:=by simp[ByteArray.size]
    rw[hs]
    by_cases h:i<s.length
    · simp only[h,if_true]
      rw[runes_eq s b]
      simp
    · simp only[h,if_false,List.map_nil,List.append_nil]
theorem runesOf_eq (s:List UInt8):runesOf s=(runesT s).map fun n=>AVal.int .i32 n:=by
  unfold runesOf runesT
  rw[runes_eq]
  simp only[Array.toList_empty,List.nil_append,List.map_map]
  rfl
theorem All2_map {A B:Type}{p:A→B→Prop}{f:A→B} (h:∀ x,p x (f x)):∀ l:List A,All2 p l (l.map f)
  | []=>trivial
  | x::l=>⟨h x,All2_map h l⟩
theorem abyte_R:∀ {xs:List Int}{as:List AVal},All2 (fun x a=>R Γ (.int .u8) x false [a]) xs as→abyteList as=some (xs.map fun n=>UInt8.ofNat n.toNat)
  | [],[],_=>rfl
  | x::xs,a::as,h=>by
    have h1:=h.1; simp only[R] at h1; cases h1
    simp only[abyteList,abyte_R h.2,Option.map_some,List.map_cons]
theorem arune_R:∀ {xs:List Int}{as:List AVal},All2 (fun x a=>R Γ (.int .i32) x false [a]) xs as→aruneList as=some (xs.flatMap fun n=>(Utf8.encode n).data.toList)
  | [],[],_=>rfl
  | x::xs,a::as,h=>by
    have h1:=h.1; simp only[R] at h1; cases h1
    simp only[aruneList,arune_R h.2,Option.map_some,List.flatMap_cons]
theorem box_at (hm:MemR Φ Γ m st) {id:Nat}{e:Nat}{u:Ty}{v:u.V} (h:getM m id = .box e u v):∃ r a,Γ id=some (.inr (r,u.size,1))∧cellsAt st r 1 0=some (u.size,[a],a):=by
  have hr:=hm.at id
  rw[h] at hr
  obtain ⟨_,_,_,r,a,h1,h2,_⟩:=hr
  exact ⟨r,a,h1,by simp[cellsAt,h2]⟩
theorem box_ty (hm:MemR Φ Γ m st) {id:Nat}{e:Nat}{u:Ty}{v:u.V} (h:getM m id = .box e u v) {r n:Nat} (hg:Γ id=some (.inr (r,n,1))):rowTy st r=e:=by
  have hr:=hm.at id
  rw[h] at hr
  obtain ⟨_,_,_,r',a,h1,h2,_⟩:=hr
  rw[hg] at h1; cases h1
  simp[rowTy,h2]
theorem alive_at (hm:MemR Φ Γ m st) {id:Nat} (h:aliveT m id=true):∃ r n xs a,Γ id=some (.inr (r,n,1))∧cellsAt st r 1 0=some (n,xs,a):=by
  have hr:=hm.at id
  unfold aliveT at h
  split at h
  · rename_i e t v hg
    rw[hg] at hr
    obtain ⟨_,_,_,r,a,h1,h2,_⟩:=hr
    exact ⟨r,t.size,[a],a,h1,by simp[cellsAt,h2]⟩
  · rename_i e t v hg
    rw[hg] at hr
    obtain ⟨_,_,_,_,r,a,h1,h2,_⟩:=hr
    exact ⟨r,t.size,[a],a,h1,by simp[cellsAt,h2]⟩
  · cases h
theorem convS_ok (hm:MemR Φ Γ m st) {src dst:TypeId}{x:TV}{a:AVal} (hx:R Γ x.t x.v false [a]):OkM Φ d Γ m st (aconvS P src dst a st) (convS P src dst x m):=by
  unfold convS
  split
  · rename_i e h1 h2
    split
    · rename_i s h3
      simp only[R] at hx; cases hx
      refine fresh_ok hm (n:=1) rfl rfl rfl rfl (by simp[Ty.size]) (All2_map (p:=fun (x:Int) a=>R Γ (.int .u8) x false [a]) (f:=fun n=>AVal.int .u8 n) (fun x=>rfl) _) (by simp) ?_
      simp only[aconvS,h1,h2,h3,List.map_map]
      rfl
    · rename_i s h3
      simp only[R] at hx; cases hx
      refine fresh_ok hm (n:=1) rfl rfl rfl rfl (by simp[Ty.size]) (All2_map (p:=fun (x:Int) a=>R Γ (.int .i32) x false [a]) (f:=fun n=>AVal.int .i32 n) (fun x=>rfl) _) (by simp) ?_
      simp only[aconvS,h1,h2,h3,runesOf_eq]
    · exact .no
  · rename_i e h1 h2
    split
    · rename_i h3
      split
      · rename_i xs hxs
        obtain ⟨bs,hb1,hb2⟩:=contT_R hm (n:=1) rfl hxs hx
        refine .ok (a:=.str _) (st':=st) Γ ?_ (.inr ⟨rfl,rfl⟩) hm (fun _ _ _ h=>h) (.refl m)
        simp only[aconvS,h1,h2,h3,hb1,Option.bind_some,abyte_R hb2,Option.map_some]
      · exact .no
    · rename_i h3
      split
      · rename_i xs hxs
        obtain ⟨bs,hb1,hb2⟩:=contT_R hm (n:=1) rfl hxs hx
        refine .ok (a:=.str _) (st':=st) Γ ?_ (.inr ⟨rfl,rfl⟩) hm (fun _ _ _ h=>h) (.refl m)
        simp only[aconvS,h1,h2,h3,hb1,Option.bind_some,arune_R hb2,Option.map_some]
      · exact .no
    · exact .no
  · rename_i t h1 h2
    split
    · rename_i id off _
      split
      · rename_i e u v hreg
        cases hc:(Nat.ble (off+1) u.size&&sized P t) with
        | false=>exact .no
        | true =>
          rw[Bool.and_eq_true] at hc
          have hb:=box_at hm hreg
          obtain ⟨r,a',g1,g2⟩:=hb
          have hx':=hx
          simp only[R] at hx; obtain ⟨r',n,h3,h4⟩:=hx
          rw[g1] at h3; cases h3; cases h4
          refine .ok (a:=.ptr r 1 0 off) (st':=st) Γ ?_ (.inr ⟨rfl,hx'⟩) hm (fun _ _ _ h=>h) (.refl m)
          have hs:=hc.2
          unfold sized at hs
          split at hs
          · rename_i k hk
            simp only[aconvS,h1,h2,g2,hk,hc.1,cond_true]
          · cases hs
      · exact .no
    · exact .no
  · rename_i t h1 h2
    split
    · rename_i id off _
      split
      · rename_i e u v hreg
        split
        · rename_i k hk
          cases hc:(Nat.beq k u.size&&Nat.beq e t&&Nat.beq off 0) with
          | false=>exact .no
          | true =>
            simp only[Bool.and_eq_true,Nat.beq_eq] at hc
            obtain ⟨⟨c1,c2⟩,c3⟩:=hc
            subst c3
            obtain ⟨r,a',g1,g2⟩:=box_at hm hreg
            have hty:=box_ty hm hreg g1
            have hx':=hx
            simp only[R] at hx; obtain ⟨r',n,h3,h4⟩:=hx
            rw[g1] at h3; cases h3; cases h4
            refine .ok (a:=.ptr r 1 0 0) (st':=st) Γ ?_ (.inr ⟨rfl,hx'⟩) hm (fun _ _ _ h=>h) (.refl m)
            have e1:Nat.beq k u.size=true:=by rw[Nat.beq_eq]; exact c1
            have e2:Nat.beq (rowTy st r) t=true:=by rw[Nat.beq_eq,hty]; exact c2
            simp only[aconvS,h1,h2,g2,hk,e1,e2,Bool.and_self,cond_true]
        · exact .no
      · exact .no
    · exact .no
  · exact .no
theorem rangeT_ok (hm:MemR Φ Γ m st) {t:TypeId}{x:TV}{a:AVal} (hx:R Γ x.t x.v false [a]):OkM Φ d Γ m st (arange P t a st) (rangeT P t x m):=by
  unfold rangeT
  split
  · rename_i hu
    split
    · rename_i s
      simp only[R] at hx; cases hx
      exact .ok (a:=.ptr st.length 0 0 0) (st':=st++[.iter s 0]) (more Γ m.length (.inr (st.length,0,0))) (by simp only[arange,hu]) (.inr ⟨rfl,st.length,more_at,rfl⟩) (hm.more ⟨st.length,more_at,by simp⟩) (fun j y _ h=>more_ext hm j y h) .more
    · exact .no
  · exact .no
theorem nextT_ok (hm:MemR Φ Γ m st) {x:TV}{b:Bool}{a:AVal} (hx:R Γ x.t x.v false [a]):OkM Φ d Γ m st (anext a b st) (nextT x b m):=by
  unfold nextT
  split
  · rename_i id _
    simp only[R] at hx; obtain ⟨r,hg,hx⟩:=hx; cases hx
    have hr:=hm.at id
    split
    · rename_i s pos hreg
      rw[hreg] at hr
      obtain ⟨r',h1,h2⟩:=hr
      rw[hg] at h1; cases h1
      cases b with
      | false=>exact .no
      | true =>
        simp only[cond_true]
        refine .br (fun hlt => ?_) (fun hge => ?_)
        · have hlt:=of_decide_eq_true hlt
          refine .ok (a:=.tup [.bool true,.int .i64 pos,.int .i32 (Utf8.decode ⟨s.toArray⟩ pos).1]) (st':=st.set r (.iter s (pos+(Utf8.decode ⟨s.toArray⟩ pos).2))) Γ ?_ (.inr ⟨rfl,_,rfl,?_⟩) (hm.set (getM_lt hreg (by simp)) hg ⟨r,hg,?_⟩) (fun _ _ _ h=>h) (.set (by intro _ _ _ h; cases h) (by intro _ _ h; cases h; exact ⟨_,hreg⟩))
          · simp only[anext,h2,cond_true,if_pos hlt]
          · exact ⟨[_],[_,_],rfl,rfl,[_],[_],rfl,rfl,[_],[],rfl,rfl,rfl⟩
          · rw[List.getElem?_set_self (hm.lt _ _ _ _ hg)]
        · have hge:=of_decide_eq_false hge
          refine .ok (a:=.tup [.bool false]) (st':=st) Γ ?_ (.inr ⟨rfl,_,rfl,?_⟩) hm (fun _ _ _ h=>h) (.refl m)
          · simp only[anext,h2,cond_true,if_neg hge]
          · exact ⟨[_],[],rfl,rfl,rfl⟩
    · exact .no
  · exact .no
theorem packL_app {st:Store}:∀ {l1 l2 k1 k2:List AVal},packL st l1=some k1→packL st l2=some k2→packL st (l1++l2)=some (k1++k2)
  | [],l2,k1,k2,h1,h2=>by simp only[packL] at h1; cases h1; exact h2
  | v::l,l2,k1,k2,h1,h2=>by
    simp only[packL,Option.bind_eq_some_iff,Option.map_eq_some_iff] at h1
    obtain ⟨x,hx,y,hy,rfl⟩:=h1
    simp only[List.cons_append,packL,hx,packL_app hy h2,Option.bind_some,Option.map_some]
theorem packC {Γ':Ctx}:∀ {t:Ty}{v:t.V}{c:Bool}{l:List AVal},t.closed=true→R Γ t v c l→∃ l',packL st l=some l'∧R Γ' t v c l'
  | .int k,v,c,l,_,h=>by simp only[R] at h; subst h; exact ⟨_,rfl,rfl⟩
  | .bool,v,c,l,_,h=>by simp only[R] at h; subst h; exact ⟨_,rfl,rfl⟩
  | .str,v,c,l,_,h=>by simp only[R] at h; subst h; exact ⟨_,rfl,rfl⟩
  | .sl t,v,c,l,hc,h=>by
    have hcl:=R_closed hc h
    simp only[Ty.closed,Bool.and_eq_true] at hc
    simp only[R] at h
    rcases h with ⟨rfl,rfl⟩ | ⟨f,n,as,rfl,hn,h⟩
    · exact ⟨_,rfl,.inr ⟨false,0,[],rfl,.inl rfl,trivial⟩⟩
    · rw[closedL_one] at hcl
      simp only[closed] at hcl
      cases as with
      | nil =>
        refine ⟨[.tree false 0 []],by simp[packL,packV,hcl],.inr ⟨false,0,[],rfl,.inl ?_,?_⟩⟩
        · cases v with
          | nil=>rfl
          | cons _ _=>exact h.elim
        · cases v with
          | nil=>trivial
          | cons _ _=>exact h.elim
      | cons a as =>
        refine ⟨[.tree false n (a::as)],by simp[packL,packV,hcl],.inr ⟨false,n,a::as,rfl,hn,Forall2_imp (p:=fun x a=>R Γ t x false [a]) (fun x a hx=>R_move hc.2 hx) h⟩⟩
  | .agg t,v,c,l,hc,h=>by
    cases c<;>simp only[R] at h ⊢
    · obtain ⟨cs,rfl,h⟩:=h
      obtain ⟨l',h1,h2⟩:=packC (Γ':=Γ') (t:=t) hc h
      exact ⟨[.agg l'],by simp only[packL,packV,h1,Option.map_some,Option.bind_some],l',rfl,h2⟩
    · exact packC (t:=t) hc h
  | .arr n t,v,c,l,hc,h=>by
    simp only[Ty.closed,Bool.and_eq_true] at hc
    have:∀ (v:List t.V) (ls:List (List AVal)),All2 (fun x c=>R Γ t x true c) v ls→∃ ls',packL st ls.flatten=some (List.flatten ls')∧All2 (fun x c=>R Γ' t x true c) v ls':=by
      intro v
      induction v with
      | nil=>intro ls h; cases ls with | nil=>exact ⟨[],rfl,trivial⟩ | cons _ _=>exact h.elim
      | cons x v ih =>
        intro ls h
        cases ls with
        | nil=>exact h.elim
        | cons c ls =>
          obtain ⟨c',g1,g2⟩:=packC (Γ':=Γ') hc.2 h.1
          obtain ⟨ls',g3,g4⟩:=ih ls h.2
          exact ⟨c'::ls',by rw[List.flatten_cons,List.flatten_cons]; exact packL_app g1 g3,g2,g4⟩
    cases c<;>simp only[R] at h ⊢
    · obtain ⟨cs,rfl,hn,ls,rfl,h⟩:=h
      obtain ⟨ls',g1,g2⟩:=this v ls h
      exact ⟨[.agg ls'.flatten],by simp only[packL,packV,g1,Option.map_some,Option.bind_some],_,rfl,hn,ls',rfl,g2⟩
    · obtain ⟨hn,ls,rfl,h⟩:=h
      obtain ⟨ls',g1,g2⟩:=this v ls h
      exact ⟨_,g1,hn,ls',rfl,g2⟩
  | .tup t,v,c,l,hc,h=>by
    simp only[R] at h ⊢; obtain ⟨as,rfl,h⟩:=h
    obtain ⟨l',h1,h2⟩:=packC (Γ':=Γ') (t:=t) hc h
    exact ⟨[.tup l'],by simp only[packL,packV,h1,Option.map_some,Option.bind_some],l',rfl,h2⟩
  | .unit,v,c,l,_,h=>by simp only[R] at h; subst h; exact ⟨_,rfl,rfl⟩
  | .cons t ts,v,c,l,hc,h=>by
    simp only[Ty.closed,Bool.and_eq_true] at hc
    simp only[R] at h ⊢
    obtain ⟨l1,l2,rfl,h1,h2⟩:=h
    obtain ⟨k1,g1,g2⟩:=packC (Γ':=Γ') hc.1 h1
    obtain ⟨k2,g3,g4⟩:=packC (Γ':=Γ') hc.2 h2
    exact ⟨k1++k2,packL_app g1 g3,k1,k2,rfl,g2,g4⟩
  | .nilsl,v,c,l,hc,h=>by cases hc
  | .nilp,v,c,l,_,h=>by simp only[R] at h; subst h; exact ⟨_,rfl,rfl⟩
  | .fn f,v,c,l,_,h=>by simp only[R] at h; subst h; exact ⟨_,rfl,rfl⟩
  | .err,v,c,l,_,h=>by simp only[R] at h ⊢; obtain ⟨a,rfl,h1⟩:=h; rcases h1 with ⟨e,rfl⟩ | ⟨e,t,rfl⟩; exact ⟨_,rfl,_,rfl,.inl ⟨e,rfl⟩⟩; exact ⟨_,rfl,_,rfl,.inr ⟨e,t,rfl⟩⟩
  | .undef,v,c,l,_,h=>by simp only[R] at h; subst h; exact ⟨_,rfl,rfl⟩
  | .any,v,c,l,hc,h=>by cases hc
  | .own id,v,c,l,hc,h=>by cases hc
  | .it id,v,c,l,hc,h=>by cases hc
  | .mp id,v,c,l,hc,h=>by cases hc
  | .bx id off,v,c,l,hc,h=>by cases hc
  | .op id,v,c,l,hc,h=>by cases hc
  | .ptr id off,v,c,l,hc,h=>by cases hc
  | .ba id off en ln,v,c,l,hc,h=>by cases hc
  | .vw id,v,c,l,hc,h=>by cases hc
  | .rp t off,v,c,l,hc,h=>by
    have hcl:=R_closed (t:=.rp t off) hc h
    have h':=R_move (Γ':=Γ') (t:=.rp t off) hc h
    simp only[R] at h
    obtain ⟨a,rest,h,hr,rfl⟩:=h
    rw[closedL_one] at hcl
    simp only[closed] at hcl
    exact ⟨_,by simp[packL,packV,hcl],h'⟩
  | .orp t off,v,c,l,hc,h=>by
    have hcl:=R_closed (t:=.orp t off) hc h
    have h':=R_move (Γ':=Γ') (t:=.orp t off) hc h
    simp only[R] at h
    rcases h with ⟨_,rfl⟩ | ⟨x,a,rest,_,h,hr,rfl⟩
    · exact ⟨_,rfl,h'⟩
    · rw[closedL_one] at hcl
      simp only[closed] at hcl
      exact ⟨_,by simp[packL,packV,hcl],h'⟩
  | .cl f t,v,c,l,hc,h=>by
    have hcl:=R_closed (t:=.cl f t) hc h
    have h':=R_move (Γ':=Γ') (t:=.cl f t) hc h
    simp only[R] at h
    obtain ⟨as,rfl,h⟩:=h
    rw[closedL_one] at hcl
    simp only[closed,closedL,Bool.true_and] at hcl
    exact ⟨_,by simp[packL,packV,closed,closedL,hcl],h'⟩
theorem dflt {t u:Ty}{v:t.V}{x:u.V}{c:Bool}{l:List AVal} (h:cond t.closed (castV t v u id) none=some x) (hr:R Γ t v c l):∃ l',packL st l=some l'∧R Γ0 u x c l':=by
  cases hc:t.closed with
  | false=>rw[hc] at h; cases h
  | true =>
    rw[hc,cond_true] at h
    obtain ⟨e,hx⟩:=castV_some h
    subst e; subst hx
    exact packC hc hr
theorem closeTo_R (hm:MemR Φ Γ m st):∀ {t:Ty}{v:t.V}{u:Ty}{x:u.V}{c:Bool}{l:List AVal},u.closed=true→closeTo m t v u=some x→R Γ t v c l→∃ l',packL st l=some l'∧R Γ0 u x c l':=by
  intro t
  induction t with
  | own id =>
    intro v u x c l hu h hr
    cases u
    case sl u' =>
      simp only[closeTo] at h
      split at h
      · rename_i e t' xs hg
        obtain ⟨e',hx⟩:=castV_some h
        cases e'
        subst hx
        have hreg:=hm.at id
        rw[hg] at hreg
        obtain ⟨k1,k2,k3,k4,k5⟩:=hreg
        simp only[R] at hr
        rcases k5 with ⟨rfl,_,k5,_⟩ | ⟨r,as,k5,k6,k7,k8⟩
        · rw[k5] at hr
          rcases hr with hr | ⟨_,n',hr⟩
          · subst hr
            exact ⟨[.tree false 0 []],rfl,.inr ⟨false,0,[],rfl,.inl rfl,trivial⟩⟩
          · subst hr
            exact ⟨[.tree false 0 []],rfl,.inr ⟨false,0,[],rfl,.inl rfl,trivial⟩⟩
        · rw[k5] at hr; subst hr
          have hal:=All2_len k7
          have hcl:closedL as=true:=closedL_all2 (fun x a hx=>by rw[← closedL_one]; exact R_closed k2 hx) k7
          have hrow:EM.rowAt st r u'.size x.length=some as:=by simp only[EM.rowAt,k6,hal,and_self,if_true]
          have hble:Nat.ble (0+x.length) as.length=true:=by rw[Nat.ble_eq]; omega
          cases x with
          | nil =>
            refine ⟨[.tree false 0 []],?_,.inr ⟨false,0,[],rfl,.inl rfl,trivial⟩⟩
            simp only[packL,packV,packRow]
            rw[hrow]
            simp only[hcl,hble,Bool.and_self,cond_true]
            rfl
          | cons y ys =>
            refine ⟨[.tree false u'.size as],?_,.inr ⟨false,u'.size,as,rfl,.inr rfl,Forall2_imp (p:=fun x a=>R Γ u' x false [a]) (fun x a hx=>R_move k2 hx) k7⟩⟩
            simp only[packL,packV,packRow]
            rw[hrow]
            have h0:Nat.beq (y::ys).length 0=false:=rfl
            simp only[hcl,hble,Bool.and_self,cond_true,h0,cond_false,List.drop_zero,Option.bind_some,Option.map_some]
            rw[List.take_of_length_le (by omega)]
      · cases h
    all_goals (simp only[closeTo] at h; exact dflt h hr)
  | nilsl =>
    intro v u x c l hu h hr
    cases u
    case sl u' =>
      simp only[closeTo] at h
      cases h
      simp only[R] at hr; subst hr
      exact ⟨[.tree false 0 []],rfl,.inr ⟨false,0,[],rfl,.inl rfl,trivial⟩⟩
    all_goals (simp only[closeTo] at h; exact dflt h hr)
  | agg t ih =>
    intro v u x c l hu h hr
    cases u
    case agg u =>
      simp only[closeTo] at h
      cases hb:t.beq u with
      | true =>
        rw[hb,cond_true] at h
        obtain ⟨e,hx⟩:=castV_some h
        subst e; subst hx
        exact packC (t:=.agg t) hu hr
      | false =>
        rw[hb,cond_false] at h
        cases c<;>simp only[R] at hr ⊢
        · obtain ⟨cs,rfl,hr⟩:=hr
          obtain ⟨l',h1,h2⟩:=ih (u:=u) hu h hr
          exact ⟨[.agg l'],by simp only[packL,packV,h1,Option.map_some,Option.bind_some],l',rfl,h2⟩
        · exact ih (u:=u) hu h hr
    all_goals (simp only[closeTo] at h; exact dflt h hr)
  | arr n t ih =>
    intro v u x c l hu h hr
    cases u
    case arr k u =>
      simp only[Ty.closed,Bool.and_eq_true] at hu
      have main:∀ ls:List (List AVal),v.length=n→All2 (fun x c=>R Γ t x true c) v ls→∃ ls',packL st ls.flatten=some (List.flatten ls')∧x.length=k∧All2 (fun x c=>R Γ0 u x true c) x ls':=by
        intro ls hn hall
        simp only[closeTo] at h
        cases hb:(t.beq u&&Nat.beq n k) with
        | true =>
          rw[hb,cond_true] at h
          simp only[Bool.and_eq_true,Nat.beq_eq] at hb
          obtain ⟨e,hx⟩:=castV_some h
          cases e
          subst hx
          have hp:=packC (st:=st) (Γ':=Γ0) (t:=.arr n t) (v:=x) (c:=true) (l:=ls.flatten) (by simp only[Ty.closed,Bool.and_eq_true]; exact hu) (by simp only[R]; exact ⟨hn,ls,rfl,hall⟩)
          obtain ⟨l',g1,g2⟩:=hp
          simp only[R] at g2
          obtain ⟨g3,ls',rfl,g4⟩:=g2
          exact ⟨ls',g1,g3.trans hb.2,g4⟩
        | false =>
          rw[hb,cond_false] at h
          cases hk:Nat.beq n k with
          | false=>rw[hk] at h; cases h
          | true =>
            rw[hk,cond_true] at h
            rw[Nat.beq_eq] at hk
            clear hb
            have:∀ (v:List t.V) (x:List u.V) (ls:List (List AVal)),ofAll (fun y=>closeTo m t y u) v=some x→All2 (fun x c=>R Γ t x true c) v ls→∃ ls',packL st ls.flatten=some (List.flatten ls')∧x.length=v.length∧All2 (fun x c=>R Γ0 u x true c) x ls':=by
              intro v
              induction v with
              | nil =>
                intro x ls h hl
                simp only[ofAll] at h; cases h
                cases ls with
                | nil=>exact ⟨[],rfl,rfl,trivial⟩
                | cons _ _=>exact hl.elim
              | cons y v ihv =>
                intro x ls h hl
                simp only[ofAll,Option.bind_eq_some_iff,Option.map_eq_some_iff] at h
                obtain ⟨z,h1,zs,h2,rfl⟩:=h
                cases ls with
                | nil=>exact hl.elim
                | cons c ls =>
                  obtain ⟨c',q1,q2⟩:=ih hu.2 h1 hl.1
                  obtain ⟨ls',q3,q4,q5⟩:=ihv zs ls h2 hl.2
                  exact ⟨c'::ls',by rw[List.flatten_cons,List.flatten_cons]; exact packL_app q1 q3,by simp[q4],q2,q5⟩
            obtain ⟨ls',q1,q2,q3⟩:=this v x ls h hall
            exact ⟨ls',q1,by rw[q2,hn,hk],q3⟩
      cases c<;>simp only[R] at hr ⊢
      · obtain ⟨cs,rfl,hn,ls,rfl,hall⟩:=hr
        obtain ⟨ls',q1,q2,q3⟩:=main ls hn hall
        exact ⟨[.agg ls'.flatten],by simp only[packL,packV,q1,Option.map_some,Option.bind_some],_,rfl,q2,ls',rfl,q3⟩
      · obtain ⟨hn,ls,rfl,hall⟩:=hr
        obtain ⟨ls',q1,q2,q3⟩:=main ls hn hall
        exact ⟨_,q1,q2,ls',rfl,q3⟩
    all_goals (simp only[closeTo] at h; exact dflt h hr)
  | tup t ih =>
    intro v u x c l hu h hr
    cases u
    case tup u =>
      simp only[closeTo] at h
      simp only[R] at hr ⊢
      obtain ⟨as,rfl,hr⟩:=hr
      obtain ⟨l',h1,h2⟩:=ih (u:=u) hu h hr
      exact ⟨[.tup l'],by simp only[packL,packV,h1,Option.map_some,Option.bind_some],l',rfl,h2⟩
    all_goals (simp only[closeTo] at h; exact dflt h hr)
  | cons t ts ih1 ih2 =>
    intro v u x c l hu h hr
    cases u
    case cons u us =>
      simp only[closeTo,Option.bind_eq_some_iff,Option.map_eq_some_iff] at h
      obtain ⟨y,hy,z,hz,rfl⟩:=h
      simp only[Ty.closed,Bool.and_eq_true] at hu
      simp only[R] at hr ⊢
      obtain ⟨l1,l2,rfl,h1,h2⟩:=hr
      obtain ⟨k1,g1,g2⟩:=ih1 hu.1 hy h1
      obtain ⟨k2,g3,g4⟩:=ih2 hu.2 hz h2
      exact ⟨k1++k2,packL_app g1 g3,k1,k2,rfl,g2,g4⟩
    all_goals (simp only[closeTo] at h; exact dflt h hr)
  | _ =>
    intro v u x c l hu h hr
    cases u<;>(simp only[closeTo] at h; exact dflt h hr)
end
end Go.TY
set_option linter.unusedVariables false
set_option linter.unusedSimpArgs false
namespace Go.TY
open Go.EM
section
variable {Φ:Frame}{Γ:Ctx}{m:Mem}{st:Store}{P:Program}{d:Option Nat}
theorem keyL_app:∀ {a b c e:List AVal},keyL a b=true→keyL c e=true→keyL (a++c) (b++e)=true
  | [],[],c,e,_,h=>h
  | [],_::_,_,_,h,_=>by cases h
  | _::_,[],_,_,h,_=>by cases h
  | x::a,y::b,c,e,h,h2=>by
    simp only[keyL,Bool.and_eq_true] at h
    simp only[List.cons_append,keyL,h.1,keyL_app h.2 h2,Bool.and_self]
theorem keyLA_R {t:Ty} (hf:∀ {x y:t.V}{c1 c2:List AVal},eqV t x y=true→R Γ t x true c1→R Γ t y true c2→keyL c2 c1=true):∀ {v1 v2:List t.V}{l1 l2:List (List AVal)},eqVL (eqV t) v1 v2=true→All2 (fun x c=>R Γ t x true c) v1 l1→All2 (fun x c=>R Γ t x true c) v2 l2→keyL l2.flatten l1.flatten=true
  | [],[],[],[],_,_,_=>rfl
  | x::v1,y::v2,c1::l1,c2::l2,h,h1,h2=>by
    simp only[eqVL,Bool.and_eq_true] at h
    exact keyL_app (hf h.1 h1.1 h2.1) (keyLA_R hf h.2 h1.2 h2.2)
theorem keyL_R:∀ {t:Ty}{x y:t.V}{c1 c2:List AVal},eqV t x y=true→R Γ t x true c1→R Γ t y true c2→keyL c2 c1=true
  | .int k,x,y,c1,c2,h,h1,h2=>by
    simp only[R] at h1 h2; subst h1; subst h2
    simp only[eqV,decide_eq_true_eq] at h
    simp[keyL,keyC,h]
  | .bool,x,y,c1,c2,h,h1,h2=>by
    simp only[R] at h1 h2; subst h1; subst h2
    simp only[eqV,beq_iff_eq] at h
    simp[keyL,keyC,h]
  | .str,x,y,c1,c2,h,h1,h2=>by
    simp only[R] at h1 h2; subst h1; subst h2
    simp only[eqV,decide_eq_true_eq] at h
    simp[keyL,keyC,h]
  | .agg t,x,y,c1,c2,h,h1,h2=>by
    simp only[R] at h1 h2
    exact keyL_R (t:=t) h h1 h2
  | .cons t ts,x,y,c1,c2,h,h1,h2=>by
    simp only[R] at h1 h2
    obtain ⟨a1,a2,rfl,p1,p2⟩:=h1
    obtain ⟨b1,b2,rfl,q1,q2⟩:=h2
    simp only[eqV,Bool.and_eq_true] at h
    exact keyL_app (keyL_R h.1 p1 q1) (keyL_R h.2 p2 q2)
  | .unit,x,y,c1,c2,h,h1,h2=>by
    simp only[R] at h1 h2; subst h1; subst h2; rfl
  | .sl _,_,_,_,_,h,_,_=>by cases h
  | .arr n t,x,y,c1,c2,h,h1,h2=>by
    simp only[R] at h1 h2
    obtain ⟨_,l1,rfl,h1⟩:=h1
    obtain ⟨_,l2,rfl,h2⟩:=h2
    exact keyLA_R (fun h h1 h2=>keyL_R (t:=t) h h1 h2) h h1 h2
  | .tup _,_,_,_,_,h,_,_=>by cases h
  | .nilsl,_,_,_,_,h,_,_=>by cases h
  | .nilp,_,_,_,_,h,_,_=>by cases h
  | .err,_,_,_,_,h,_,_=>by cases h
  | .fn _,_,_,_,_,h,_,_=>by cases h
  | .undef,_,_,_,_,h,_,_=>by cases h
  | .any,_,_,_,_,h,_,_=>by cases h
  | .own _,_,_,_,_,h,_,_=>by cases h
  | .it _,_,_,_,_,h,_,_=>by cases h
  | .mp _,_,_,_,_,h,_,_=>by cases h
  | .bx _ _,_,_,_,_,h,_,_=>by cases h
  | .op _,_,_,_,_,h,_,_=>by cases h
  | .ptr _ _,_,_,_,_,h,_,_=>by cases h
  | .ba _ _ _ _,_,_,_,_,h,_,_=>by cases h
  | .vw _,_,_,_,_,h,_,_=>by cases h
  | .rp _ _,_,_,_,_,h,_,_=>by cases h
  | .orp _ _,_,_,_,_,h,_,_=>by cases h
  | .cl _ _,_,_,_,_,h,_,_=>by cases h
theorem keyB_R {t:Ty}{x y:t.V}{a b:AVal} (hv:t.isV=true) (h:eqV t x y=true) (h1:R Γ t x false [a]) (h2:R Γ t y false [b]):keyB b a=true:=by
  have hk:=keyL_R h (R_cells hv h1) (R_cells hv h2)
  cases t<;>first
    | (cases h; done)
    | (simp only[R] at h1 h2; cases h1; cases h2; simpa [AVal.cells,keyL,keyB] using hk)
    | (simp only[R] at h1 h2; obtain ⟨_,e,_⟩:=h1; cases e; obtain ⟨_,e,_⟩:=h2; cases e; exact hk)
    | (cases hv; done)
theorem akeyFs_R {f : TypeId → AVal → Bool} {g : TypeId → Ty → Bool} (hf : ∀ t ty (x : ty.V) a, g t ty = true → R Γ ty x false [a] → f t a = true) :
    ∀ {fs:List Field}{row:Ty}{off:Nat}{x:row.V}{p1 c1:List AVal},eqFs P g fs row off=true→R Γ row x true c1→p1.length=off →
      (fs.all fun fd=>decide (fd.name = "_")||(match partA P fd.type (p1++c1) fd.offset with
        | some a=>f fd.type a
        | none=>false))=true
  | [],row,off,x,p1,c1,h,_,_=>rfl
  | fd::fs,row,off,x,p1,c1,h,hx,h1=>by
    cases row<;>first
      | (cases h; done)
      | skip
    rename_i t ts
    simp only[eqFs,Bool.and_eq_true,Nat.beq_eq,Bool.not_eq_true'] at h
    obtain ⟨⟨⟨⟨hn,ho⟩,hp⟩,hg⟩,hr⟩:=h
    simp only[R] at hx
    obtain ⟨l1,l2,rfl,x1,x2⟩:=hx
    obtain ⟨a,ha,ra⟩:=partOk_at (pre:=p1) (l2:=l2) hp x1
    simp only[List.all_cons,Bool.and_eq_true,Bool.or_eq_true]
    refine ⟨.inr ?_,?_⟩
    · rw[ho,show partA P fd.type (p1++(l1++l2)) off=some a by rw[← h1]; exact ha]
      exact hf _ _ _ _ hg ra
    · have ih:=akeyFs_R hf (p1:=p1++l1) hr x2 (by rw[List.length_append,R_len x1,h1])
      rw[List.append_assoc] at ih
      exact ih
theorem akey_R:∀ (d:Nat) (t:TypeId) (ty:Ty) (x:ty.V) (a:AVal),eqOkT P d t ty=true→R Γ ty x false [a]→akey P d t a=true
  | 0,t,ty,x,a,h,_=>by cases h
  | d+1,t,ty,x,a,h,hx=>by
    unfold eqOkT at h
    unfold akey
    split at h
    · rename_i hu
      split at h
      · simp only[R] at hx; cases hx
        simp only[hu]
      · cases h
    · rename_i k hu
      split at h
      · simp only[R] at hx; cases hx
        simp only[hu]
      · cases h
    · rename_i hu
      split at h
      · simp only[R] at hx; cases hx
        simp only[hu]
      · cases h
    · rename_i fs hu
      split at h
      · rename_i row
        simp only[Bool.and_eq_true,Bool.not_eq_true'] at h
        simp only[R] at hx
        obtain ⟨xs,e1,hx⟩:=hx
        cases e1
        simp only[hu]
        exact akeyFs_R (P:=P) (f:=fun t a=>akey P d t a) (g:=eqOkT P d) (fun t ty x a=>akey_R d t ty x a) (p1:=[]) h.2 hx rfl
      · cases h
    · cases h
theorem findA_R {k v : Ty} {kt : TypeId} (hk : eqOkT P 8 kt k = true) (hkv : k.isV = true) {x : k.V} {b : AVal} (hx : R Γ k x false [b]) : ∀ {xs : List (k.V × v.V)} {es : List (AVal × AVal)} (i : Nat), All2 (fun (p : k.V × v.V) (e : AVal × AVal) => R Γ k p.1 false [e.1] ∧ R Γ v p.2 false [e.2]) xs es →
    (findK k x xs=none∧findA P kt b es i=some none∧∀ y:v.V,putK k x y xs=xs++[(x,y)]) ∨
    ∃ j a y0,findK k x xs=some y0∧findA P kt b es i=some (some (i+j,a))∧R Γ v y0 false [a]∧∀ y:v.V,putK k x y xs=xs.set j (x,y)
  | [],[],i,_=>.inl ⟨rfl,rfl,fun _=>rfl⟩
  | e::xs,a::es,i,h=>by
    have he:=aeq_R 8 kt k x e.1 b a.1 hk hx h.1.1
    simp only[findA,findK,putK,he,Option.bind_some]
    cases hq:eqV k x e.1 with
    | true =>
      have hb:=keyB_R hkv hq hx h.1.1
      refine .inr ⟨0,a.2,e.2,rfl,?_,h.1.2,fun y=>rfl⟩
      simp only[cond_true,hb,Nat.add_zero]
    | false =>
      simp only[cond_false]
      rcases findA_R hk hkv hx (i+1) h.2 with ⟨g1,g2,g3⟩ | ⟨j,a',y0,g1,g2,g3,g4⟩
      · exact .inl ⟨g1,g2,fun y=>by rw[g3]; rfl⟩
      · exact .inr ⟨j+1,a',y0,g1,by rw[g2]; congr 3; omega,g3,fun y=>by rw[g4]; rfl⟩
theorem makeMapT_ok (hm:MemR Φ Γ m st) {ty:List (Nat×Ty)}{t:TypeId}{r:Option Operand}:OkM Φ d Γ m st (cond r.isNone (some (AVal.map st.length,st++[AReg.map []])) none) (makeMapT P ty t r.isNone m):=by
  unfold makeMapT
  split
  · split
    · rename_i k v _ _
      cases hc:(r.isNone&&k.isV&&v.isV&&k.closed&&v.closed) with
      | false=>exact .no
      | true =>
        simp only[Bool.and_eq_true] at hc
        obtain ⟨⟨⟨⟨c0,c1⟩,c2⟩,c3⟩,c4⟩:=hc
        simp only[c0,cond_true]
        exact .ok (a:=.map st.length) (st':=st++[.map []]) (more Γ m.length (.inr (st.length,0,0))) rfl (.inr ⟨rfl,st.length,more_at,rfl⟩) (hm.more ⟨c1,c2,c3,c4,st.length,[],more_at,by simp,trivial⟩) (fun j y _ h=>more_ext hm j y h) .more
    · exact .no
  · exact .no
theorem lookMapT_ok (hm:MemR Φ Γ m st) {t:TypeId}{x y:TV}{ok:Bool}{a b:AVal} (hx:R Γ x.t x.v false [a]) (hy:R Γ y.t y.v false [b]):OkM Φ d Γ m st ((alookup P t a b ok st).map fun v=>(v,st)) (lookMapT P t x y ok m):=by
  unfold lookMapT
  split
  · rename_i kt et hu
    split
    · rename_i id _
      simp only[R] at hx; obtain ⟨r,hg,hx⟩:=hx; cases hx
      have hr:=hm.at id
      split
      · rename_i k v xs hreg
        rw[hreg] at hr
        obtain ⟨h1,h2,h3,h4,r',es,h5,h6,h7⟩:=hr
        rw[hg] at h5; cases h5
        cases hk:eqOkT P 8 kt k with
        | false=>exact .no
        | true =>
          simp only[cond_true]
          split
          · rename_i w hw
            split
            · rename_i z hz
              rw[Option.bind_eq_some_iff] at hz
              obtain ⟨zt,hz1,hz2⟩:=hz
              obtain ⟨g1,za,g2,g3⟩:=zeroT_R (Γ:=Γ) hz1
              have hzr:=coerceN_R hz2 g3
              have hwr:=coerceN_R hw hy
              have hak:=akey_R (P:=P) 8 kt k w b hk hwr
              have key:∃ av,alookup P t (.map r) b ok st=some (cond ok (.tup [av,.bool (getK k z w xs).2]) av)∧R Γ v (getK k z w xs).1 false [av]:=by
                unfold alookup getK
                simp only[hu,hak,cond_true,mapRow,h6,Option.bind_some]
                rcases findA_R (P:=P) hk h1 hwr 0 h7 with ⟨f1,f2,_⟩ | ⟨j,a',y0,f1,f2,f3,_⟩
                · rw[f1,f2]
                  simp only[Option.bind_some,g2,Option.map_some]
                  exact ⟨za,rfl,hzr⟩
                · rw[f1,f2]
                  simp only[Option.bind_some]
                  exact ⟨a',rfl,f3⟩
              obtain ⟨av,k1,k2⟩:=key
              cases ok with
              | true =>
                simp only[cond_true] at k1 ⊢
                exact .ok (a:=.tup [av,.bool (getK k z w xs).2]) (st':=st) Γ (by rw[k1]; rfl) (.inr ⟨rfl,_,rfl,[av],[.bool (getK k z w xs).2],rfl,k2,[_],[],rfl,rfl,rfl⟩) hm (fun _ _ _ h=>h) (.refl m)
              | false =>
                simp only[cond_false] at k1 ⊢
                exact .ok (a:=av) (st':=st) Γ (by rw[k1]; rfl) (.inr ⟨h2,k2⟩) hm (fun _ _ _ h=>h) (.refl m)
            · exact .no
          · exact .no
      · exact .no
    · exact .no
  · exact .no
theorem putMapT_ok (hm:MemR Φ Γ m st) {t:TypeId}{x y z:TV}{a b c:AVal} (hx:R Γ x.t x.v false [a]) (hy:R Γ y.t y.v false [b]) (hz:R Γ z.t z.v false [c]):OkM Φ none Γ m st ((amapUpd P t a b c st).map fun s=>(AVal.any,s)) (putMapT P t x y z m):=by
  unfold putMapT
  split
  · rename_i kt et hu
    split
    · rename_i id _
      simp only[R] at hx; obtain ⟨r,hg,hx⟩:=hx; cases hx
      have hr:=hm.at id
      split
      · rename_i k v xs hreg
        rw[hreg] at hr
        obtain ⟨h1,h2,h3,h4,r',es,h5,h6,h7⟩:=hr
        rw[hg] at h5; cases h5
        cases hk:eqOkT P 8 kt k with
        | false=>exact .no
        | true =>
          simp only[cond_true]
          split
          · rename_i w u hw hu2
            have hwr:=coerceN_R hw hy
            have hur:=coerceN_R hu2 hz
            have hak:=akey_R (P:=P) 8 kt k w b hk hwr
            have hlt:=hm.lt _ _ _ _ hg
            have fin : ∀ es', amapUpd P t (.map r) b c st = some (st.set r (.map es')) → All2 (fun (p : k.V × v.V) (e : AVal × AVal) => R Γ k p.1 false [e.1] ∧ R Γ v p.2 false [e.2]) (putK k w u xs) es' →
                OkM Φ none Γ m st ((amapUpd P t (.map r) b c st).map fun s=>(AVal.any,s)) (.ok ⟨.any,()⟩ (setM m id (.map k v (putK k w u xs))) none):=by
              intro es' e1 e2
              exact .ok (a:=.any) (st':=st.set r (.map es')) Γ (by rw[e1]; rfl) (.inl rfl) (hm.set (getM_lt hreg (by simp)) hg ⟨h1,h2,h3,h4,r,es',hg,List.getElem?_set_self hlt,e2⟩) (fun _ _ _ h=>h) (.set (by simp) (by simp))
            rcases findA_R (P:=P) hk h1 hwr 0 h7 with ⟨_,f2,f3⟩ | ⟨j,a',y0,_,f2,_,f4⟩
            · refine fin (es++[(b,c)]) ?_ ?_
              · unfold amapUpd
                simp only[hu,hak,cond_true,h6,f2,Option.map_some]
              · rw[f3]
                exact All2_app h7 ⟨⟨hwr,hur⟩,trivial⟩
            · refine fin (es.set j (b,c)) ?_ ?_
              · unfold amapUpd
                simp only[hu,hak,cond_true,h6,f2,Option.map_some,Nat.zero_add]
              · rw[f4]
                exact All2_set h7 ⟨hwr,hur⟩
          · exact .no
      · exact .no
    · exact .no
  · exact .no
theorem findD_R {k v : Ty} {kt : TypeId} (hk : eqOkT P 8 kt k = true) (hkv : k.isV = true) {x : k.V} {b : AVal} (hx : R Γ k x false [b]) : ∀ {xs : List (k.V × v.V)} {es : List (AVal × AVal)} (i : Nat), All2 (fun (p : k.V × v.V) (e : AVal × AVal) => R Γ k p.1 false [e.1] ∧ R Γ v p.2 false [e.2]) xs es →
    (findA P kt b es i=some none∧delK k x xs=xs) ∨
    ∃ j a,findA P kt b es i=some (some (i+j,a))∧All2 (fun (p:k.V×v.V) (e:AVal×AVal)=>R Γ k p.1 false [e.1]∧R Γ v p.2 false [e.2]) (delK k x xs) (es.eraseIdx j)
  | [],[],i,_=>.inl ⟨rfl,rfl⟩
  | e::xs,a::es,i,h=>by
    have he:=aeq_R 8 kt k x e.1 b a.1 hk hx h.1.1
    simp only[findA,delK,he,Option.bind_some]
    cases hq:eqV k x e.1 with
    | true =>
      have hb:=keyB_R hkv hq hx h.1.1
      refine .inr ⟨0,a.2,?_,h.2⟩
      simp only[cond_true,hb,Nat.add_zero]
    | false =>
      simp only[cond_false]
      rcases findD_R hk hkv hx (i+1) h.2 with ⟨g1,g2⟩ | ⟨j,a',g1,g2⟩
      · exact .inl ⟨g1,by rw[g2]⟩
      · exact .inr ⟨j+1,a',by rw[g1]; congr 3; omega,h.1,g2⟩
theorem delMapT_ok (hm:MemR Φ Γ m st) {tys:List TypeId}{x y:TV}{a b:AVal} (hx:R Γ x.t x.v false [a]) (hy:R Γ y.t y.v false [b]):OkM Φ d Γ m st ((adelete P tys a b st).map fun s=>(AVal.tup [],s)) (delMapT P tys x y m):=by
  unfold delMapT
  split
  · rename_i t t2
    split
    · rename_i kt et hu
      split
      · rename_i id _
        simp only[R] at hx; obtain ⟨r,hg,hx⟩:=hx; cases hx
        have hr:=hm.at id
        split
        · rename_i k v xs hreg
          rw[hreg] at hr
          obtain ⟨h1,h2,h3,h4,r',es,h5,h6,h7⟩:=hr
          rw[hg] at h5; cases h5
          cases hk:eqOkT P 8 kt k with
          | false=>exact .no
          | true =>
            simp only[cond_true]
            split
            · rename_i w hw
              have hwr:=coerceN_R hw hy
              have hak:=akey_R (P:=P) 8 kt k w b hk hwr
              have hlt:=hm.lt _ _ _ _ hg
              have fin : ∀ es', adelete P [t, t2] (.map r) b st = some (st.set r (.map es')) → All2 (fun (p : k.V × v.V) (e : AVal × AVal) => R Γ k p.1 false [e.1] ∧ R Γ v p.2 false [e.2]) (delK k w xs) es' →
                  OkM Φ d Γ m st ((adelete P [t,t2] (.map r) b st).map fun s=>(AVal.tup [],s)) (.ok ⟨.tup .unit,()⟩ (setM m id (.map k v (delK k w xs))) none):=by
                intro es' e1 e2
                exact .ok (a:=.tup []) (st':=st.set r (.map es')) Γ (by rw[e1]; rfl) (.inr ⟨rfl,[],rfl,rfl⟩) (hm.set (getM_lt hreg (by simp)) hg ⟨h1,h2,h3,h4,r,es',hg,List.getElem?_set_self hlt,e2⟩) (fun _ _ _ h=>h) (.set (by simp) (by simp))
              rcases findD_R (P:=P) hk h1 hwr 0 h7 with ⟨f2,f3⟩ | ⟨j,a',f2,f4⟩
              · refine fin es ?_ ?_
                · unfold adelete
                  simp only[hu,hak,cond_true,h6,f2,Option.map_some]
                · rw[f3]; exact h7
              · refine fin (es.eraseIdx j) ?_ f4
                unfold adelete
                simp only[hu,hak,cond_true,h6,f2,Option.map_some,Nat.zero_add]
            · exact .no
        · exact .no
      · exact .no
    · exact .no
  · exact .no
theorem lenMapT_ok (hm:MemR Φ Γ m st) {t:TypeId}{x:TV}{a:AVal} (hx:R Γ x.t x.v false [a]):OkM Φ d Γ m st ((alenM P t a st).map fun v=>(v,st)) (lenMapT P t x m):=by
  unfold lenMapT
  split
  · rename_i kt et hu
    split
    · rename_i id _
      simp only[R] at hx; obtain ⟨r,hg,hx⟩:=hx; cases hx
      have hr:=hm.at id
      split
      · rename_i k v xs hreg
        rw[hreg] at hr
        obtain ⟨h1,h2,h3,h4,r',es,h5,h6,h7⟩:=hr
        rw[hg] at h5; cases h5
        have hl:=All2_len h7
        refine .ok (a:=.int .i64 xs.length) (st':=st) Γ ?_ (.inr ⟨rfl,rfl⟩) hm (fun _ _ _ h=>h) (.refl m)
        unfold alenM
        simp only[hu,mapRow,h6,Option.map_some,hl]
      · exact .no
    · exact .no
  · exact .no
theorem clearT_ok (hm:MemR Φ Γ m st) {tys:List TypeId}{x:TV}{a:AVal} (hx:R Γ x.t x.v false [a]):OkM Φ d Γ m st (aclear P tys a st) (clearT P tys x m):=by
  unfold clearT
  split
  · rename_i t
    split
    · rename_i id v
      split
      · rename_i n z0 hei
        split
        · rename_i z e u xs hreg
          split
          · rename_i zv hz
            rw[Option.bind_eq_some_iff] at hz
            obtain ⟨zt,hz1,hz2⟩:=hz
            cases hc:Nat.beq u.size n with
            | false=>exact .no
            | true =>
              rw[Nat.beq_eq] at hc
              refine .br (fun _=>.no) (fun hne => ?_)
              refine .opt fun _ hle => ?_
              have hle:v.1+v.2≤xs.length:=(ite_some' hle).1
              have hr:=hm.at id
              rw[hreg] at hr
              obtain ⟨h1,h2,h3,h4,hr⟩:=hr
              simp only[R] at hx
              obtain ⟨r0,n0,l0,q1,hx⟩:=hx
              cases hx
              rcases hr with ⟨rfl,_⟩ | ⟨r,bs,k1,k2,k3,k4⟩
              · cases hne
              · rw[k1] at q1
                cases q1
                obtain ⟨hzo,hn0⟩:=elemInfo_some hei
                obtain ⟨g1,za,g2,g3⟩:=zeroT_R (Γ:=Γ) hz1
                rw[hzo] at g2; cases g2
                have hzr:=coerceN_R hz2 g3
                have hcell:=R_isCell h3 (R_cells h1 hzr)
                have hal:=All2_len k3
                have hlt:=hm.lt _ _ _ _ k1
                have hll:(xs.take v.1++List.replicate v.2 zv++xs.drop (v.1+v.2)).length=xs.length:=by
                  simp only[List.length_append,List.length_take,List.length_replicate,List.length_drop]; omega
                have hrow:EM.rowAt st r0 u.size xs.length=some bs:=by simp only[EM.rowAt,k2,hal,and_self,if_true]
                refine .ok (a:=.tup []) (st':=st.set r0 (.row e u.size (bs.take v.1++List.replicate v.2 z0++bs.drop (v.1+v.2)))) Γ ?_ (.inr ⟨rfl,[],rfl,rfl⟩) (hm.set (getM_lt hreg (by simp)) k1 ⟨h1,h2,h3,h4,.inr ⟨r0,_,by rw[hll]; exact k1,List.getElem?_set_self hlt,All2_app (All2_app (All2_take _ k3) (All2_rep (p:=fun x a=>R Γ u x false [a]) hzr _)) (All2_drop _ k3),fun hz e'=>by
                  rw[e'] at hll
                  simp only[List.length_nil] at hll
                  rw[List.length_eq_zero_iff.1 hll.symm] at hne
                  cases hne⟩⟩) (fun _ _ _ h=>h) (.set (by simp) (by simp))
                simp only[aclear,hei]
                rw[if_pos ⟨hc,hle,hcell⟩,hrow]
                simp only[Option.map_some,EM.rowTy,k2]
          · exact .no
        · exact .no
      · exact .no
    · exact .no
  · exact .no
end
end Go.TY
set_option linter.unusedVariables false
set_option linter.unusedSimpArgs false
namespace Go.TY
open Go.EM
section
variable {Φ:Frame}{Γ:Ctx}{m:Mem}{st:Store}{P:Program}{d:Option Nat}
theorem ptrEqT_R (hm:MemR Φ Γ m st) {x y:TV}{a b:AVal} (hx:R Γ x.t x.v false [a]) (hy:R Γ y.t y.v false [b]) {r:Bool} (h:ptrEqT m x y=some r):aptrEq st a b=some r:=by
  unfold ptrEqT at h
  split at h
  · simp only[R] at hx hy; cases hx; cases hy; cases h; rfl
  · rename_i i _ _ _
    cases hc:aliveT m i with
    | false=>rw[hc] at h; cases h
    | true =>
      rw[hc] at h; cases h
      obtain ⟨r,n,xs,z,g1,g2⟩:=alive_at hm hc
      simp only[R] at hx hy; obtain ⟨r',n',h1,h2⟩:=hx
      rw[g1] at h1; cases h1; cases h2; cases hy
      simp only[aptrEq,g2,Option.map_some]
  · rename_i i _ _
    cases hc:aliveT m i with
    | false=>rw[hc] at h; cases h
    | true =>
      rw[hc] at h; cases h
      obtain ⟨r,n,xs,z,g1,g2⟩:=alive_at hm hc
      simp only[R] at hx hy; obtain ⟨r',n',h1,h2⟩:=hy
      rw[g1] at h1; cases h1; cases h2; cases hx
      simp only[aptrEq,g2,Option.map_some]
  · rename_i i v _
    cases hc:aliveT m i with
    | false=>rw[hc] at h; cases h
    | true =>
      rw[hc] at h; cases h
      obtain ⟨r,n,xs,z,g1,g2⟩:=alive_at hm hc
      simp only[R] at hx hy
      cases hy
      obtain ⟨c,e,hx⟩:=hx
      cases e
      rcases hx with ⟨e,rfl⟩ | ⟨e,r',n',h1,rfl⟩
      · rw[e]; rfl
      · rw[g1] at h1; cases h1
        rw[e]
        simp only[aptrEq,g2,Option.map_some,Bool.not_true]
  · rename_i i v
    cases hc:aliveT m i with
    | false=>rw[hc] at h; cases h
    | true =>
      rw[hc] at h; cases h
      obtain ⟨r,n,xs,z,g1,g2⟩:=alive_at hm hc
      simp only[R] at hx hy
      cases hx
      obtain ⟨c,e,hy⟩:=hy
      cases e
      rcases hy with ⟨e,rfl⟩ | ⟨e,r',n',h1,rfl⟩
      · rw[e]; rfl
      · rw[g1] at h1; cases h1
        rw[e]
        simp only[aptrEq,g2,Option.map_some,Bool.not_true]
  · rename_i i o _ j o' _
    cases hc:(Nat.beq i j&&Nat.beq o o'&&aliveT m i) with
    | false=>rw[hc] at h; cases h
    | true =>
      rw[hc] at h; cases h
      simp only[Bool.and_eq_true,Nat.beq_eq] at hc
      obtain ⟨⟨rfl,rfl⟩,hc⟩:=hc
      obtain ⟨r,n,xs,z,g1,g2⟩:=alive_at hm hc
      simp only[R] at hx hy
      obtain ⟨r',n',h1,h2⟩:=hx
      obtain ⟨r'',n'',h3,h4⟩:=hy
      rw[g1] at h1 h3; cases h1; cases h3; cases h2; cases h4
      simp only[aptrEq,and_self,if_true,g2,Option.map_some]
  · rename_i i v j o _
    cases hc:(Nat.beq i j&&Nat.beq o 0&&aliveT m i) with
    | false=>rw[hc] at h; cases h
    | true =>
      rw[hc] at h; cases h
      simp only[Bool.and_eq_true,Nat.beq_eq] at hc
      obtain ⟨⟨rfl,rfl⟩,hc⟩:=hc
      obtain ⟨r,n,xs,z,g1,g2⟩:=alive_at hm hc
      simp only[R] at hx hy
      obtain ⟨r'',n'',h3,h4⟩:=hy
      rw[g1] at h3; cases h3; cases h4
      obtain ⟨c,e,hx⟩:=hx
      cases e
      rcases hx with ⟨e,rfl⟩ | ⟨e,r',n',h1,rfl⟩
      · rw[e]
        simp only[aptrEq,g2,Option.map_some]
      · rw[g1] at h1; cases h1
        rw[e]
        simp only[aptrEq,and_self,if_true,g2,Option.map_some]
  · rename_i j o _ i v
    cases hc:(Nat.beq i j&&Nat.beq o 0&&aliveT m i) with
    | false=>rw[hc] at h; cases h
    | true =>
      rw[hc] at h; cases h
      simp only[Bool.and_eq_true,Nat.beq_eq] at hc
      obtain ⟨⟨rfl,rfl⟩,hc⟩:=hc
      obtain ⟨r,n,xs,z,g1,g2⟩:=alive_at hm hc
      simp only[R] at hx hy
      obtain ⟨r'',n'',h3,h4⟩:=hx
      rw[g1] at h3; cases h3; cases h4
      obtain ⟨c,e,hy⟩:=hy
      cases e
      rcases hy with ⟨e,rfl⟩ | ⟨e,r',n',h1,rfl⟩
      · rw[e]
        simp only[aptrEq,g2,Option.map_some]
      · rw[g1] at h1; cases h1
        rw[e]
        simp only[aptrEq,and_self,if_true,g2,Option.map_some]
  · cases h
theorem ptrT_ok (hm:MemR Φ Γ m st) {op:BinOp}{t:TypeId}{x y:TV}{a b:AVal} (hx:R Γ x.t x.v false [a]) (hy:R Γ y.t y.v false [b]):OkM Φ d Γ m st ((aptrOp P op t st a b).map fun v=>(v,st)) (ptrT P op t x y m):=by
  unfold ptrT aptrOp
  cases Nat.beq (ptrSize P t) 0 with
  | true=>exact .no
  | false =>
    simp only[cond_false]
    cases op<;>dsimp only<;>try exact .no
    · split
      · rename_i r hr
        exact .ok (a:=.bool r) (st':=st) Γ (by simp only[ptrEqT_R hm hx hy hr,Option.map_some]) (.inr ⟨rfl,rfl⟩) hm (fun _ _ _ h=>h) (.refl m)
      · exact .no
    · split
      · rename_i r hr
        exact .ok (a:=.bool !r) (st':=st) Γ (by simp only[ptrEqT_R hm hx hy hr,Option.map_some]) (.inr ⟨rfl,rfl⟩) hm (fun _ _ _ h=>h) (.refl m)
      · exact .no
theorem sliceDataT_ok (hm:MemR Φ Γ m st) {x:TV}{a:AVal} (hx:R Γ x.t x.v false [a]):OkM Φ d Γ m st ((asliceData a st).map fun v=>(v,st)) (sliceDataT x m):=by
  unfold sliceDataT
  split
  · simp only[R] at hx; cases hx
    exact .ok (a:=.nilptr) (st':=st) Γ rfl (.inr ⟨rfl,rfl⟩) hm (fun _ _ _ h=>h) (.refl m)
  · rename_i id _
    split
    · rename_i z e t xs hg
      cases z with
      | false=>exact .no
      | true =>
        have hr:=hm.at id
        rw[hg] at hr
        obtain ⟨k1,k2,k3,k4,k5⟩:=hr
        refine .br (fun he => ?_) (fun he => ?_)
        · have hnil:xs=[]:=isEmpty_len he
          rcases k5 with ⟨_,b,k5,kb⟩ | ⟨r,as,k5,k6,k7,k8⟩
          · have kb:=kb rfl
            subst kb
            simp only[R,k5] at hx
            rcases hx with hx | ⟨hx,_⟩
            rotate_left
            · cases hx
            cases hx
            exact .ok (a:=.nilptr) (st':=st) Γ rfl (.inr ⟨rfl,rfl⟩) hm (fun _ _ _ h=>h) (.refl m)
          · exact absurd hnil (k8 rfl)
        · rcases k5 with ⟨k5,_⟩ | ⟨r,as,k5,k6,k7,k8⟩
          · subst k5; simp at he
          · simp only[R,k5] at hx; cases hx
            have hlen:Nat.beq xs.length 0=false:=by
              cases xs with
              | nil=>simp at he
              | cons _ _=>rfl
            have hra:EM.rowAt st r t.size xs.length=some as:=by simp only[EM.rowAt,k6,All2_len k7,and_self,if_true]
            refine .ok (a:=.ptr r xs.length 0 0) (st':=st) Γ ?_ (.inr ⟨rfl,r,t.size,xs.length,k5,rfl⟩) hm (fun _ _ _ h=>h) (.refl m)
            simp only[asliceData,hra,hlen,cond_false,Option.map_some]
    · exact .no
  · exact .no
theorem unsafeStrT_ok (hm:MemR Φ Γ m st) {tys:List TypeId}{p l:TV}{a b:AVal} (hp:R Γ p.t p.v false [a]) (hl:R Γ l.t l.v false [b]):OkM Φ d Γ m st (aunsafeStr P tys a b st) (unsafeStrT P tys p l m):=by
  unfold unsafeStrT
  split
  · rename_i pt it
    split
    · rename_i n
      simp only[R] at hp hl; cases hp; cases hl
      refine .opt fun _ hz => ?_
      unfold zeroN at hz
      obtain ⟨hz,_⟩:=ite_some' hz
      exact .ok (a:=.str []) (st':=st) Γ (by simp only[aunsafeStr,hz,if_true]) (.inr ⟨rfl,rfl⟩) hm (fun _ _ _ h=>h) (.refl m)
    · rename_i id off i n
      split
      · rename_i z e u xs hg
        split
        · rename_i el hpt
          split
          · rename_i xs' hsz hcv
            obtain ⟨ee,hxx⟩:=castV_some hcv
            cases ee
            subst hxx
            cases hc:(Nat.beq e el&&Nat.beq off 0) with
            | false=>exact .no
            | true =>
              simp only[Bool.and_eq_true,Nat.beq_eq] at hc
              obtain ⟨rfl,rfl⟩:=hc
              refine .opt fun _ hw => ?_
              unfold wholeN at hw
              obtain ⟨⟨rfl,rfl,w3,w4⟩,_⟩:=ite_some' hw
              have hr:=hm.at id
              rw[hg] at hr
              obtain ⟨k1,k2,k3,k4,k5⟩:=hr
              simp only[R] at hl; cases hl
              rcases k5 with ⟨k5,_⟩ | ⟨r,as,k5,k6,k7,k8⟩
              · subst k5; simp at w3
              · simp only[R] at hp
                obtain ⟨r',n',len,h1,h2⟩:=hp
                rw[k5] at h1; cases h1; cases h2
                have hal:=All2_len k7
                have hra:EM.rowAt st r 1 xs'.length=some as:=by
                  have:Ty.size (.int .u8)=1:=rfl
                  rw[this] at k6
                  simp only[EM.rowAt,k6,hal,and_self,if_true]
                have hty:EM.rowTy st r=e:=by simp only[EM.rowTy,k6]
                have ht:as.take ((xs'.length:Nat):Int).toNat=as:=by rw[Int.toNat_natCast,← hal,List.take_length]
                have hb:=abyte_R k7
                refine .ok (a:=.str (xs'.map fun (n:Int)=>UInt8.ofNat n.toNat)) (st':=st.set r .dead) Γ ?_ (.inr ⟨rfl,rfl⟩) (hm.set (getM_lt hg (by simp)) k5 trivial) (fun _ _ _ h=>h) (.set (by intro _ _ _ h; cases h) (by intro _ _ h; cases h))
                simp only[aunsafeStr,hra,hpt,hsz,hty,ht,hb,Option.map_some]
                rw[if_pos ⟨w3,by omega,w4,trivial⟩]
          · exact .no
        · exact .no
      · exact .no
    · exact .no
  · exact .no
theorem freezeT_ok (hm:MemR Φ Γ m st) {x:TV}{a:AVal} (hx:R Γ x.t x.v false [a]):OkM Φ d Γ m st (freezeA a st) (freezeT x m):=by
  unfold freezeT
  split
  · rename_i id _
    split
    · rename_i z e u xs hg
      have hr:=hm.at id
      rw[hg] at hr
      obtain ⟨k1,k2,k3,k4,k5⟩:=hr
      simp only[R] at hx
      rcases k5 with ⟨rfl,b,k5,_⟩ | ⟨r,as,k5,k6,k7,k8⟩
      · rw[k5] at hx
        have hk:MemR Φ Γ (setM m id .gone) st:={
          reg:=fun j hj=>by
            rw[setM_len] at hj
            by_cases ej:id=j
            · subst ej; rw[getM_set_eq hj]; trivial
            · rw[getM_set_ne ej]; exact hm.reg j hj
          out:=fun j hj=>hm.out j (by rw[setM_len] at hj; exact hj)
          inj:=hm.inj
          lt:=hm.lt
          old:=hm.old
          dis:=hm.dis }
        rcases hx with hx | ⟨_,n',hx⟩
        · cases hx
          exact .ok (a:=.nil) (st':=st) Γ rfl (.inr ⟨rfl,.inl ⟨rfl,rfl⟩⟩) hk (fun _ _ _ h=>h) (.set (by intro _ _ _ h; cases h) (by intro _ _ h; cases h))
        · cases hx
          exact .ok (a:=.tree true n' []) (st':=st) Γ rfl (.inr ⟨rfl,.inr ⟨true,n',[],rfl,.inl rfl,trivial⟩⟩) hk (fun _ _ _ h=>h) (.set (by intro _ _ _ h; cases h) (by intro _ _ h; cases h))
      · rw[k5] at hx
        cases hx
        have hal:=All2_len k7
        have hra:EM.rowAt st r u.size xs.length=some as:=by simp only[EM.rowAt,k6,hal,and_self,if_true]
        refine .ok (a:=.tree false u.size as) (st':=st.set r .dead) Γ ?_ (.inr ⟨rfl,.inr ⟨false,u.size,as,rfl,.inr rfl,k7⟩⟩) (hm.set (getM_lt hg (by simp)) k5 trivial) (fun _ _ _ h=>h) (.set (by intro _ _ _ h; cases h) (by intro _ _ h; cases h))
        simp only[freezeA]
        rw[if_pos ⟨trivial,trivial⟩,hra]
        rfl
    · exact .no
  · rename_i u v
    have hx':=hx
    simp only[R] at hx
    have e:freezeA a st=some (a,st):=by
      rcases hx with ⟨_,hx⟩ | ⟨_,_,_,hx,_⟩<;>cases hx<;>rfl
    exact .ok (a:=a) (st':=st) Γ e (.inr ⟨rfl,hx'⟩) hm (fun _ _ _ h=>h) (.refl m)
  · rename_i v
    have hx':=hx
    simp only[R] at hx
    cases hx
    exact .ok (a:=.nil) (st':=st) Γ rfl (.inr ⟨rfl,hx'⟩) hm (fun _ _ _ h=>h) (.refl m)
  · exact .no
theorem frzP_ok (hm : MemR Φ Γ m st) {x w : TV} {a : AVal} {m' : Mem} (hx : R Γ x.t x.v false [a]) (h : frzP x m = some (w, m')) :
    ∃ b st',freezeP a st=some (b,st')∧w.t.isV=true∧R Γ w.t w.v false [b]∧MemR Φ Γ m' st'∧Pers m m':=by
  unfold frzP at h
  split at h
  · rename_i id _
    split at h
    · rename_i e t v hg
      cases h
      have hr:=hm.at id
      rw[hg] at hr
      obtain ⟨_,_,_,r,b,h1,h2,h3⟩:=hr
      simp only[R] at hx
      obtain ⟨r',n',k1,k2⟩:=hx
      rw[h1] at k1
      cases k1; cases k2
      have hc:cellsAt st r 1 0=some (t.size,[b],b):=by simp[cellsAt,h2]
      refine ⟨.rptr b.cells,st.set r .dead,by simp only[freezeP,hc,Option.map_some],rfl,?_,hm.set (getM_lt hg (by simp)) h1 trivial,.set (by intro _ _ _ h; cases h) (by intro _ _ h; cases h)⟩
      simp only[R]
      exact ⟨b,[],h3,fun _=>rfl,by rw[List.append_nil,List.drop_zero]⟩
    · cases h
  · cases h
end
end Go.TY
