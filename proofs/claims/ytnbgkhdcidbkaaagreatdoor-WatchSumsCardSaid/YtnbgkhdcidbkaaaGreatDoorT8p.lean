import Derived.Test.YtnbgkhdcidbkaaaGreatDoorT5
set_option linter.unusedVariables false
set_option linter.unusedSimpArgs false
namespace Go.TY
open Go.EM
structure Pers (m m':Mem):Prop where
 len:m.length≤m'.length
 cbox:∀ j,j<m.length→∀ e t v,getM m' j = .cbox e t v→getM m j = .cbox e t v
 iter:∀ j,j<m.length→∀ s p,getM m' j = .iter s p→∃ p0,getM m j = .iter s p0
theorem Pers.refl (m:Mem):Pers m m:=⟨Nat.le_refl _,fun _ _ _ _ _ h=>h,fun _ _ _ p h=>⟨p,h⟩⟩
theorem Pers.trans {m m' m'':Mem} (h:Pers m m') (k:Pers m' m''):Pers m m'' :=
 ⟨Nat.le_trans h.len k.len,fun j hj e t v he=>h.cbox j hj e t v (k.cbox j (Nat.lt_of_lt_of_le hj h.len) e t v he),fun j hj s p he=>by
   obtain ⟨p',h'⟩:=k.iter j (Nat.lt_of_lt_of_le hj h.len) s p he
   exact h.iter j hj s p' h'⟩
def OkM (Φ:Frame) (d:Option Nat) (Γ:Ctx) (m:Mem) (st:aq) (ares:Option (AVal×aq)) (res:OR):Prop :=
 ∀ (X:Type) (K:TV→Mem→Option Nat→Option X) (x:X),res.go K=some x→∃ w m' k a st' Γ',K w m' k=some x∧ares=some (a,st')∧(d=none∨(w.t.isV=true∧R Γ' w.t w.v false [a]))∧MemR Φ Γ' m' st' ∧
   (∀ j y,k≠some j→Γ j=some y→Γ' j=some y)∧Pers m m'
section
variable {Φ:Frame}{Γ:Ctx}{m:Mem}{st:aq}{P:Program}{d:Option Nat}
theorem OkM.no {ares:Option (AVal×aq)}:OkM Φ d Γ m st ares .no:=fun X K x h=>by cases h
theorem OkM.opt {A:Type}{y:Option A}{k:A→OR}{ares:Option (AVal×aq)} (h:∀ z,y=some z→OkM Φ d Γ m st ares (k z)):OkM Φ d Γ m st ares (.opt A y k):=fun X K x hx=>by
 simp only[OR.go,Option.bind_eq_some_iff] at hx
 obtain ⟨z,hz,hx⟩:=hx
 exact h z hz X K x hx
theorem OkM.br {b:Bool}{p q:OR}{ares:Option (AVal×aq)} (h1:b=true→OkM Φ d Γ m st ares p) (h2:b=false→OkM Φ d Γ m st ares q):OkM Φ d Γ m st ares (.br b p q):=fun X K x hx=>by
 simp only[OR.go] at hx
 cases b
 · exact h2 rfl X K x hx
 · exact h1 rfl X K x hx
theorem OkM.ofP (hm:MemR Φ Γ m st) {av:Option AVal}{res:OR} (h:OkP Γ m av res):OkM Φ d Γ m st (av.map fun v=>(v,st)) res:=fun X K x hx=>by
 obtain ⟨w,a,h1,h2,h3,h4⟩:=h X K x hx
 exact ⟨w,m,none,a,st,Γ,h1,by rw[h2]; rfl,.inr ⟨h3,h4⟩,hm,fun _ _ _ h=>h,.refl m⟩
theorem OkM.ok {w:TV}{m':Mem}{k:Option Nat}{ares:Option (AVal×aq)}{a:AVal}{st':aq} (Γ':Ctx) (ha:ares=some (a,st')) (hr:d=none∨(w.t.isV=true∧R Γ' w.t w.v false [a])) (hm:MemR Φ Γ' m' st')
   (he:∀ j y,k≠some j→Γ j=some y→Γ' j=some y) (hp:Pers m m'):OkM Φ d Γ m st ares (.ok w m' k):=fun X K x hx=>⟨w,m',k,a,st',Γ',hx,ha,hr,hm,he,hp⟩
theorem dB:∀ {m:Mem}{g:Reg}{i:Nat},i<m.length→getM (m++[g]) i=getM m i
 | _::m,g,0,_=>rfl
 | _::m,g,i+1,h=>dB (m:=m) (by simpa using h)
 | [],g,i,h=>by simp at h
theorem fI:∀ {m:Mem}{g:Reg},getM (m++[g]) m.length=g
 | [],g=>rfl
 | _::m,g=>fI (m:=m)
theorem bJ:∀ {m:Mem}{i:Nat}{g:Reg},i<m.length→getM (setM m i g) i=g
 | _::m,0,g,_=>rfl
 | _::m,i+1,g,h=>bJ (m:=m) (by simpa using h)
 | [],i,g,h=>by simp at h
theorem bI:∀ {m:Mem}{i j:Nat}{g:Reg},i≠j→getM (setM m i g) j=getM m j
 | [],i,j,g,_=>rfl
 | _::m,0,0,g,h=>absurd rfl h
 | _::m,0,j+1,g,h=>rfl
 | _::m,i+1,0,g,h=>rfl
 | _::m,i+1,j+1,g,h=>bI (m:=m) (by omega)
theorem ce:∀ {m:Mem}{i:Nat}{g:Reg},(setM m i g).length=m.length
 | [],i,g=>rfl
 | _::m,0,g=>rfl
 | _::m,i+1,g=>by simp[setM,ce]
theorem gR {Γ Γ':Ctx}{st st':aq}{id:Nat}{g:Reg} (he:∀ j y,Γ j=some y→Γ' j=some y) (hs:∀ r n l,Γ id=some (.inr (r,n,l))→st'[r]? = st[r]?) (h:RegR Γ st id g):RegR Γ' st' id g:=by
 cases g with
 | box e t v =>
   obtain ⟨h1,h2,h3,r,a,h4,h5,h6⟩:=h
   exact ⟨h1,h2,h3,r,a,he _ _ h4,by rw[hs _ _ _ h4]; exact h5,bG (fun j x _ hx=>he j x hx) h6⟩
 | cbox e t v =>
   obtain ⟨h1,h0,h2,h3,r,a,h4,h5,h6⟩:=h
   exact ⟨h1,h0,h2,h3,r,a,he _ _ h4,by rw[hs _ _ _ h4]; exact h5,bG (fun j x _ hx=>he j x hx) h6⟩
 | row z e t xs =>
   obtain ⟨h1,h2,h3,h4,h5⟩:=h
   refine ⟨h1,h2,h3,h4,?_⟩
   rcases h5 with ⟨h5,h6⟩ | ⟨r,as,h5,h6,h7,h8⟩
   · obtain ⟨b,h6,h7⟩:=h6; exact .inl ⟨h5,b,he _ _ h6,h7⟩
   · exact .inr ⟨r,as,he _ _ h5,by rw[hs _ _ _ h5]; exact h6,aG (p:=fun x a=>R Γ t x false [a]) (fun x a hx=>bG (fun j y _ hy=>he j y hy) hx) h7,h8⟩
 | iter s pos =>
   obtain ⟨r,h1,h2⟩:=h
   exact ⟨r,he _ _ h1,by rw[hs _ _ _ h1]; exact h2⟩
 | map k v xs =>
   obtain ⟨h1,h2,h3,h4,r,es,h5,h6,h7⟩:=h
   exact ⟨h1,h2,h3,h4,r,es,he _ _ h5,by rw[hs _ _ _ h5]; exact h6,aG (p:=fun (p:k.V×v.V) (e:AVal×AVal)=>R Γ k p.1 false [e.1]∧R Γ v p.2 false [e.2]) (fun x a hx=>⟨bG (fun j y _ hy=>he j y hy) hx.1,bG (fun j y _ hy=>he j y hy) hx.2⟩) h7⟩
 | gone=>trivial
def more (Γ:Ctx) (n:Nat) (y:Bool⊕(Nat×Nat×Nat)):Ctx:=fun j=>if j=n then some y else Γ j
theorem bR (hm:MemR Φ Γ m st) {y:Bool⊕(Nat×Nat×Nat)}:∀ j x,Γ j=some x→more Γ m.length y j=some x:=by
 intro j x hx
 unfold more
 split
 · rename_i e
   rw[e,hm.out _ (Nat.le_refl _)] at hx; cases hx
 · exact hx
theorem bt {n:Nat}{y:Bool⊕(Nat×Nat×Nat)}:more Γ n y n=some y:=by simp[more]
theorem MemR.more (hm:MemR Φ Γ m st) {g:Reg}{ag:AReg}{n l:Nat} (hg:RegR (more Γ m.length (.inr (st.length,n,l))) (st++[ag]) m.length g):MemR Φ (more Γ m.length (.inr (st.length,n,l))) (m++[g]) (st++[ag]) where
 reg id hid:=by
   rcases Nat.lt_or_ge id m.length with h | h
   · rw[dB h]
     exact gR (bR hm) (fun r n l hr=>List.getElem?_append_left (hm.lt _ _ _ _ hr)) (hm.reg id h)
   · have e:id=m.length:=by simp at hid; omega
     subst e
     rw[fI]; exact hg
 out id hid:=by
   simp at hid
   simp only[TY.more]
   rw[if_neg (by omega)]
   exact hm.out id (by omega)
 inj i j r n' l' n'' l'' hi hj:=by
   simp only[TY.more] at hi hj
   split at hi<;>split at hj
   · rename_i e1 e2; rw[e1,e2]
   · cases hi; have:=hm.lt _ _ _ _ hj; omega
   · cases hj; have:=hm.lt _ _ _ _ hi; omega
   · exact hm.inj _ _ _ _ _ _ _ hi hj
 lt i r n' l' hi:=by
   simp only[TY.more] at hi
   split at hi
   · cases hi; simp
   · have:=hm.lt _ _ _ _ hi; simp; omega
 old r g h:=by
   have h1:=hm.old r g h
   have h2:r<st.length:=by
     rcases Nat.lt_or_ge r st.length with h' | h'
     · exact h'
     · rw[List.getElem?_eq_none h'] at h1; cases h1
   rw[List.getElem?_append_left h2]; exact h1
 dis r g i n' l' h hi:=by
   simp only[TY.more] at hi
   split at hi
   · cases hi
     have h1:=hm.old _ g h
     rw[List.getElem?_eq_none (Nat.le_refl _)] at h1; cases h1
   · exact hm.dis r g i n' l' h hi
theorem MemR.moreNil (hm:MemR Φ Γ m st) {g:Reg}{b:Bool} (hg:RegR (TY.more Γ m.length (.inl b)) st m.length g):MemR Φ (TY.more Γ m.length (.inl b)) (m++[g]) st where
 reg id hid:=by
   rcases Nat.lt_or_ge id m.length with h | h
   · rw[dB h]
     exact gR (bR hm) (fun r n l hr=>rfl) (hm.reg id h)
   · have e:id=m.length:=by simp at hid; omega
     subst e
     rw[fI]; exact hg
 out id hid:=by
   simp at hid
   simp only[TY.more]
   rw[if_neg (by omega)]
   exact hm.out id (by omega)
 inj i j r n' l' n'' l'' hi hj:=by
   simp only[TY.more] at hi hj
   split at hi
   · cases hi
   · split at hj
     · cases hj
     · exact hm.inj _ _ _ _ _ _ _ hi hj
 lt i r n' l' hi:=by
   simp only[TY.more] at hi
   split at hi
   · cases hi
   · exact hm.lt _ _ _ _ hi
 old:=hm.old
 dis r g i n' l' h hi:=by
   simp only[TY.more] at hi
   split at hi
   · cases hi
   · exact hm.dis r g i n' l' h hi
theorem Pers.more {g:Reg}:Pers m (m++[g]) where
 len:=by simp
 cbox j hj e t v h:=by rw[dB hj] at h; exact h
 iter j hj s p h:=by rw[dB hj] at h; exact ⟨p,h⟩
theorem MemR.set (hm:MemR Φ Γ m st) {id:Nat}{g:Reg}{ag:AReg}{r n l:Nat} (hid:id<m.length) (hr:Γ id=some (.inr (r,n,l))) (hg:RegR Γ (st.set r ag) id g):MemR Φ Γ (setM m id g) (st.set r ag) where
 reg j hj:=by
   rw[ce] at hj
   by_cases e:id=j
   · subst e; rw[bJ hid]; exact hg
   · rw[bI e]
     refine gR (fun _ _ h=>h) (fun r' n' l' hr' => ?_) (hm.reg j hj)
     have:r≠r':=fun e'=>e (hm.inj _ _ _ _ _ _ _ hr (e' ▸ hr'))
     rw[List.getElem?_set_ne this]
 out j hj:=hm.out j (by rw[ce] at hj; exact hj)
 inj:=hm.inj
 lt i r' n' l' hi:=by have:=hm.lt _ _ _ _ hi; simpa using this
 old r' g' h:=by
   have:r≠r':=fun e=>hm.dis r' g' id n l h (e ▸ hr)
   rw[List.getElem?_set_ne this]; exact hm.old r' g' h
 dis:=hm.dis
theorem Pers.set {id:Nat}{g:Reg} (h1:∀ e t v,g ≠ .cbox e t v) (h2:∀ s p,g = .iter s p→∃ p0,getM m id = .iter s p0):Pers m (setM m id g) where
 len:=by rw[ce]; exact Nat.le_refl _
 cbox j hj e t v h:=by
   by_cases e':id=j
   · subst e'; rw[bJ hj] at h; exact absurd h (h1 _ _ _)
   · rw[bI e'] at h; exact h
 iter j hj s p h:=by
   by_cases e':id=j
   · subst e'; rw[bJ hj] at h; exact h2 s p h
   · rw[bI e'] at h; exact ⟨p,h⟩
theorem nG {cs l:List AVal}{off k:Nat} (h:iI cs off k true=some (.agg l)):∃ pre post,cs=pre++(l++post)∧pre.length=off∧l.length=k:=by
 unfold iI at h
 simp only[cond_true] at h
 cases hb:Nat.ble (off+k) cs.length with
 | false=>rw[hb] at h; cases h
 | true =>
   rw[hb,cond_true] at h
   cases h
   rw[Nat.ble_eq] at hb
   refine ⟨cs.take off,(cs.drop off).drop k,?_,?_,?_⟩
   · rw[List.take_append_drop,List.take_append_drop]
   · rw[List.length_take]; omega
   · rw[List.length_take,List.length_drop]; omega
theorem wg {t:TypeId}{u:Ty}{v:u.V}{b:AVal}{off n len k:Nat} (hv:u.isV=true) (hb:R Γ u v false [b]):OkP Γ m (cS P t b.cells (off+k*n)) (aer P t ⟨u,v⟩ off n len k m):=by
 unfold aer
 split
 · rename_i len' w xs hp
   cases hc:(Nat.beq w.size n&&Nat.beq len len'&&gY P t w) with
   | false=>exact .no
   | true =>
     simp only[Bool.and_eq_true,Nat.beq_eq] at hc
     obtain ⟨⟨hc1,hc2⟩,hc3⟩:=hc
     refine .opt fun z hz => ?_
     obtain ⟨aa,ha1,ha2⟩:=iL (w0:=⟨u,v⟩) (bO hv hb) hp rfl
     simp only[R] at ha1
     obtain ⟨cs,ha3,hlen,ls,hls,hall⟩:=ha1
     cases ha3
     obtain ⟨pre,post,q1,q2,q3⟩:=nG ha2
     obtain ⟨a,g1,g2,g3⟩:=wu (P:=P) (off:=off) (pre:=pre) (post:=post) hc1 hc3 hall hz
     refine .ok g1 g2 ?_
     rw[q1,hls]
     exact g3 q2
 · exact .no
theorem gL (hm:MemR Φ Γ m st) {t:TypeId}{x:TV}{a:AVal} (hxv:x.t.isV=true) (hx:R Γ x.t x.v false [a]):OkP Γ m (jg P t a st) (loadT P t x m):=by
 unfold loadT
 split
 · rename_i u off v
   simp only[R] at hx; obtain ⟨b,rest,hb,_,hx⟩:=hx; cases hx
   cases hv:u.isV with
   | false=>exact .no
   | true =>
   refine .ofO fun w hw => ?_
   obtain ⟨h1,a,h2,h3⟩:=gn (w0:=⟨u,v⟩) (bO hv hb) hw
   refine ⟨h1,a,h2,?_⟩
   simp only[jg]
   exact partA_drop (partA_more (rest:=rest) h3)
 · rename_i u off v
   simp only[R] at hx
   cases hv:u.isV with
   | false=>exact .no
   | true =>
   refine .opt fun y hy => ?_
   rcases hx with ⟨e0,_⟩ | ⟨z,b,rest,e0,hb,_,hx⟩
   · rw[e0] at hy; cases hy
   rw[e0] at hy; cases hy
   cases hx
   refine .ofO fun w hw => ?_
   obtain ⟨h1,a,h2,h3⟩:=gn (w0:=⟨u,y⟩) (bO hv hb) hw
   refine ⟨h1,a,h2,?_⟩
   simp only[jg]
   exact partA_drop (partA_more (rest:=rest) h3)
 · rename_i id off n len k
   simp only[R] at hx; obtain ⟨r,n0,l0,hg,hx⟩:=hx; cases hx
   have hr:=hm.at id
   split
   · rename_i e u v hreg
     rw[hreg] at hr
     obtain ⟨k1,k2,k3,r',b,k4,k5,k6⟩:=hr
     rw[hg] at k4; cases k4
     have:=wg (P:=P) (m:=m) (t:=t) (off:=off) (n:=n) (len:=len) (k:=k) k1 k6
     simpa only[jg,bm,k5,List.length_cons,List.length_nil,if_true,List.getElem?_cons_zero,Option.map_some] using this
   · rename_i e u v hreg
     rw[hreg] at hr
     obtain ⟨k1,k0,k2,k3,r',b,k4,k5,k6⟩:=hr
     rw[hg] at k4; cases k4
     have:=wg (P:=P) (m:=m) (t:=t) (off:=off) (n:=n) (len:=len) (k:=k) k1 k6
     simpa only[jg,bm,k5,List.length_cons,List.length_nil,if_true,List.getElem?_cons_zero,Option.map_some] using this
   · exact .no
 · rename_i id off _
   simp only[R] at hx; obtain ⟨r,n,hg,hx⟩:=hx; cases hx
   have hr:=hm.at id
   split
   · rename_i e u v hreg
     rw[hreg] at hr
     obtain ⟨k1,k2,k3,r',b,k4,k5,k6⟩:=hr
     rw[hg] at k4; cases k4
     refine .ofO fun w hw => ?_
     obtain ⟨h1,a,h2,h3⟩:=gn (w0:=⟨u,v⟩) (bO k1 k6) hw
     exact ⟨h1,a,h2,by simp only[jg,bm,k5,List.length_cons,List.length_nil,if_true,List.getElem?_cons_zero,Option.map_some,h3]⟩
   · rename_i e u v hreg
     rw[hreg] at hr
     obtain ⟨k1,k0,k2,k3,r',b,k4,k5,k6⟩:=hr
     rw[hg] at k4; cases k4
     refine .ofO fun w hw => ?_
     obtain ⟨h1,a,h2,h3⟩:=gn (w0:=⟨u,v⟩) (bO k1 k6) hw
     exact ⟨h1,a,h2,by simp only[jg,bm,k5,List.length_cons,List.length_nil,if_true,List.getElem?_cons_zero,Option.map_some,h3]⟩
   · exact .no
 · rename_i id off i
   simp only[R] at hx; obtain ⟨r,n,len,hg,hx⟩:=hx; cases hx
   have hr:=hm.at id
   split
   · rename_i e u xs hreg
     rw[hreg] at hr
     obtain ⟨k1,k2,k3,k4,k5⟩:=hr
     refine .opt fun z hz=>.ofO fun w hw => ?_
     rcases k5 with ⟨rfl,k5⟩ | ⟨r',as,k5,k6,k7,k8⟩
     · simp at hz
     · rw[hg] at k5; cases k5
       obtain ⟨b,hb1,hb2⟩:=fR k7 hz
       obtain ⟨h1,a,h2,h3⟩:=gn (w0:=⟨u,z⟩) (bO k1 hb2) hw
       exact ⟨h1,a,h2,by simp only[jg,bm,k6,aU k7,if_true,hb1,Option.map_some,h3]⟩
   · exact .no
 · exact .no
where
 partA_more {P:Program}{t:TypeId}{cs rest:List AVal}{off:Nat}{a:AVal} (h:cS P t cs off=some a):cS P t (cs++rest) off=some a:=by
   unfold cS at h ⊢
   split at h
   · rename_i n d hn hd
     try simp only[hn,hd]
     exact nH (n:=n) (ag:=eQ d) h
   · cases h
 partA_drop {P:Program}{t:TypeId}{cs:List AVal}{off:Nat}{a:AVal} (h:cS P t cs off=some a):cS P t (cs.drop off) 0=some a:=by
   unfold cS at h ⊢
   split at h
   · rename_i n d hn hd
     try simp only[hn,hd]
     cases hg:eQ d with
     | true =>
       rw[hg,cond_true] at h
       cases hb:Nat.ble (off+n) cs.length with
       | true =>
         rw[hb,cond_true] at h
         rw[Nat.ble_eq] at hb
         have:Nat.ble (0+n) (cs.drop off).length=true:=by rw[Nat.ble_eq,List.length_drop]; omega
         rw[this,List.drop_zero]
         exact h
       | false=>rw[hb] at h; cases h
     | false =>
       rw[hg,cond_false] at h
       simp only[cond_false]
       rw[List.getElem?_drop,Nat.add_zero]; exact h
   · cases h
theorem ad8 {t:TypeId}{x:TV}{a:AVal} (hx:R Γ x.t x.v false [a]):OkP Γ m (mw P t a) (ajD P t x m):=by
 unfold ajD
 split
 · rename_i u off v
   simp only[R] at hx; obtain ⟨b,rest,hb,_,hx⟩:=hx; cases hx
   cases hv:u.isV with
   | false=>exact .no
   | true =>
   refine .ofO fun w hw => ?_
   obtain ⟨h1,a,h2,h3⟩:=gn (w0:=⟨u,v⟩) (bO hv hb) hw
   refine ⟨h1,a,h2,?_⟩
   simp only[mw]
   exact gL.partA_drop (gL.partA_more (rest:=rest) h3)
 · rename_i u off v
   simp only[R] at hx
   cases hv:u.isV with
   | false=>exact .no
   | true =>
   refine .opt fun y hy => ?_
   rcases hx with ⟨e0,_⟩ | ⟨z,b,rest,e0,hb,_,hx⟩
   · rw[e0] at hy; cases hy
   rw[e0] at hy; cases hy
   cases hx
   refine .ofO fun w hw => ?_
   obtain ⟨h1,a,h2,h3⟩:=gn (w0:=⟨u,y⟩) (bO hv hb) hw
   refine ⟨h1,a,h2,?_⟩
   simp only[mw]
   exact gL.partA_drop (gL.partA_more (rest:=rest) h3)
 · exact .no
theorem rL {t:TypeId}{u:Ty} (h:kn P t u=true):u.isV=true∧u.okRow=true∧u.size≠0:=by
 unfold kn at h
 split at h
 · simp only[Bool.and_eq_true,Nat.beq_eq,Bool.not_eq_true'] at h
   obtain ⟨⟨⟨⟨h1,h2⟩,h3⟩,h4⟩,h5⟩:=h
   exact ⟨h4,h3,by rw[← h1]; exact fY h5⟩
 · cases h
theorem iU {t:Ty}{sz:Nat} (hs:t.size=sz) {y:t.V}{wc:List AVal} (hy:R Γ t y true wc):∀ {xs:List t.V}{ls:List (List AVal)}{i:Nat},All2 (fun x c=>R Γ t x true c) xs ls→i<xs.length →
   ∃ ls',All2 (fun x c=>R Γ t x true c) (xs.set i y) ls'∧ls'.flatten=ls.flatten.take (i*sz)++wc++ls.flatten.drop (i*sz+sz)∧i*sz+sz≤ls.flatten.length
 | x::xs,c::ls,0,h,_=>by
   have hl:=dI h.1
   have e:c.length=sz:=by omega
   refine ⟨wc::ls,⟨hy,h.2⟩,?_,?_⟩
   · simp only[Nat.zero_mul,Nat.zero_add,List.take_zero,List.nil_append,List.flatten_cons]
     rw[← e,List.drop_left' rfl]
   · simp only[Nat.zero_mul,Nat.zero_add,List.flatten_cons,List.length_append]; omega
 | x::xs,c::ls,i+1,h,hi=>by
   obtain ⟨ls',h1,h2,h3⟩:=iU hs hy (i:=i) h.2 (by simpa using hi)
   have hl:=dI h.1
   have e:c.length=sz:=by omega
   have e2:(i+1)*sz=c.length+i*sz:=by rw[Nat.succ_mul]; omega
   refine ⟨c::ls',⟨h.1,h1⟩,?_,?_⟩
   · rw[e2,List.flatten_cons,List.flatten_cons,h2,List.take_length_add_append,Nat.add_assoc,List.drop_length_add_append]
     simp only[List.append_assoc]
   · rw[e2]; simp only[List.flatten_cons,List.length_append]; omega
 | [],[],i,h,hi=>by simp at hi
theorem ajr {pre post l wc:List AVal}{off a n:Nat} (hl:pre.length=off) (hw:wc.length=n) (hle:a+n≤l.length) :
   (pre++(l++post)).take off++(l.take a++wc++l.drop (a+n))++(pre++(l++post)).drop (off+(l.take a++wc++l.drop (a+n)).length)=(pre++(l++post)).take (off+a)++wc++(pre++(l++post)).drop (off+a+wc.length):=by
 have e1:(l.take a++wc++l.drop (a+n)).length=l.length:=by simp only[List.length_append,List.length_take,List.length_drop]; omega
 rw[e1]
 subst hl
 have e2:(l++post).drop l.length=post:=List.drop_left' rfl
 rw[List.take_left' rfl,List.drop_length_add_append,e2,List.take_length_add_append,Nat.add_assoc,List.drop_length_add_append,hw,List.take_append_of_le_length (by omega),List.drop_append_of_le_length (by omega)]
 simp only[List.append_assoc]
theorem aaz (hm:MemR Φ Γ m st) {t:TypeId}{x w:TV}{a b:AVal} (hx:R Γ x.t x.v false [a]) (hw:R Γ w.t w.v false [b]):OkM Φ none Γ m st ((kd P t a b st).map fun s=>(AVal.any,s)) (storeT P t x w m):=by
 unfold storeT
 cases hf:kn P t w.t with
 | false=>exact .no
 | true =>
   have hfit:=abY hf hw
   obtain ⟨f1,f2,f3⟩:=rL hf
   simp only[cond_true]
   split
   · rename_i id off _
     simp only[R] at hx; obtain ⟨r,n,hg,hx⟩:=hx; cases hx
     have hr:=hm.at id
     split
     · rename_i e u v hreg
       rw[hreg] at hr
       obtain ⟨k1,k2,k3,r',c,k4,k5,k6⟩:=hr
       rw[hg] at k4; cases k4
       split
       · rename_i y hy
         cases hc:(y.t.isV&&y.t.okRow&&Nat.beq y.t.size u.size) with
         | false=>exact .no
         | true =>
           simp only[Bool.and_eq_true,Nat.beq_eq] at hc
           obtain ⟨⟨c1,c2⟩,c3⟩:=hc
           obtain ⟨g1,g2,g3,g4,g5,g6⟩:=kv (u:=⟨u,v⟩) k6 k1 k2 hw f1 hy
           refine .ok (a:=.any) (st':=st.set r (.row e u.size [putCells c off b])) Γ ?_ (.inl rfl) (hm.set (eB hreg (by simp)) hg ?_) (fun _ _ _ h=>h) (.set (by intro _ _ _ h; cases h) (by intro _ _ h; cases h))
           · simp only[kd,bm,k5,List.length_cons,List.length_nil,if_true,List.getElem?_cons_zero,Option.map_some,rowTy]
             rw[if_pos ⟨hfit,g5,by rcases g6 with h | h<;>simp[h]⟩]
             simp
           · refine ⟨c1,c2,by rw[c3]; exact k3,r,putCells c off b,by rw[c3]; exact hg,?_,g1⟩
             rw[List.getElem?_set_self (hm.lt _ _ _ _ hg),c3]
       · exact .no
     · exact .no
   · rename_i id off i
     simp only[R] at hx; obtain ⟨r,n,len,hg,hx⟩:=hx; cases hx
     have hr:=hm.at id
     split
     · rename_i e u xs hreg
       rw[hreg] at hr
       obtain ⟨k1,k2,k3,k4,k5⟩:=hr
       refine .opt fun z hz => ?_
       rcases k5 with ⟨rfl,k5⟩ | ⟨r',as,k5,k6,k7,k8⟩
       · simp at hz
       · rw[hg] at k5; cases k5
         obtain ⟨c,hb1,hb2⟩:=fR k7 hz
         split
         · rename_i y hy
           split
           · rename_i q hq
             obtain ⟨g1,g2,g3,g4,g5,g6⟩:=kv (u:=⟨u,z⟩) hb2 k1 k3 hw f1 hy
             refine .ok (a:=.any) (st':=st.set r (.row e u.size (as.set i (putCells c off b)))) Γ ?_ (.inl rfl) (hm.set (eB hreg (by simp)) hg ?_) (fun _ _ _ h=>h) (.set (by intro _ _ _ h; cases h) (by intro _ _ h; cases h))
             · simp only[kd,bm,k6,aU k7,if_true,hb1,Option.map_some,rowTy]
               rw[if_pos ⟨hfit,g5,by rcases g6 with h | h<;>simp[h]⟩]
               rfl
             · refine ⟨k1,k2,k3,k4,.inr ⟨r,_,by rw[List.length_set]; exact hg,List.getElem?_set_self (hm.lt _ _ _ _ hg),?_,fun hz e=>k8 hz (by simpa using e)⟩⟩
               exact qg k7 (bX hq g1)
           · exact .no
         · exact .no
     · exact .no
   · rename_i id off n len k
     simp only[R] at hx; obtain ⟨r,n0,l0,hg,hx⟩:=hx; cases hx
     have hr:=hm.at id
     split
     · rename_i e u v hreg
       rw[hreg] at hr
       obtain ⟨k1,k2,k3,r',c,k4,k5,k6⟩:=hr
       rw[hg] at k4; cases k4
       split
       · rename_i len' u' xs hp
         split
         · rename_i y hy
           split
           · rename_i x hxx
             cases hc:(Nat.beq u'.size n&&Nat.beq len len'&&u'.okRow&&u'.isV&&Nat.beq w.t.size n&&isB w.t.isAgg u'.isAgg&&x.t.isV&&x.t.okRow&&Nat.beq x.t.size u.size) with
             | false=>exact .no
             | true =>
               simp only[Bool.and_eq_true,Nat.beq_eq] at hc
               obtain ⟨⟨⟨⟨⟨⟨⟨⟨c1,c2⟩,c3⟩,c4⟩,c5⟩,c6⟩,c7⟩,c8⟩,c9⟩:=hc
               have c6:=j5 c6
               refine .opt fun z hz => ?_
               have hi:=(List.getElem?_eq_some_iff.1 hz).1
               obtain ⟨aa,ha1,ha2⟩:=iL (w0:=⟨u,v⟩) (bO k1 k6) hp rfl
               simp only[R] at ha1
               obtain ⟨cs,ha3,hlen,ls,hls,hall⟩:=ha1
               cases ha3
               obtain ⟨pre,post,q1,q2,q3⟩:=nG ha2
               have hyr:=bX hy hw
               have hbc:=bO c4 hyr
               have hbl:=dI hbc
               obtain ⟨ls',s1,s2,s3⟩:=iU c1 hbc hall hi
               have hnew:R Γ (.arr len' u') (xs.set k y) false [.agg ls'.flatten]:=⟨_,rfl,by rw[List.length_set]; exact hlen,ls',rfl,s1⟩
               obtain ⟨g1,g2,g3,g4,g5,g6⟩:=kv (u:=⟨u,v⟩) (w:=⟨.arr len' u',xs.set k y⟩) k6 k1 k2 hnew rfl hxx
               have hag:c.isAgg=true:=by rcases g6 with h | h<;>simp_all [AVal.isAgg]
               have hpc:putCells c off (.agg ls'.flatten)=putCells c (off+k*n) b:=by
                 cases c<;>first | (cases hag; done) | skip
                 rename_i cc
                 simp only[putCells]
                 congr 1
                 have q1':cc=pre++(cs++post):=q1
                 have:=ajr (pre:=pre) (post:=post) (l:=cs) (wc:=b.cells) (off:=off) (a:=k*n) (n:=n) q2 (by omega) (by rw[hls]; exact s3)
                 rw[q1']
                 rw[hls] at this ⊢
                 simp only[AVal.cells,s2]
                 exact this
               have hle:off+k*n+b.cells.length≤c.cells.length:=by
                 rw[q1]; simp only[List.length_append]; rw[hls]; omega
               refine .ok (a:=.any) (st':=st.set r (.row e u.size [putCells c (off+k*n) b])) Γ ?_ (.inl rfl) (hm.set (eB hreg (by simp)) hg ?_) (fun _ _ _ h=>h) (.set (by intro _ _ _ h; cases h) (by intro _ _ h; cases h))
               · simp only[kd,bm,k5,List.length_cons,List.length_nil,if_true,List.getElem?_cons_zero,Option.map_some,rowTy]
                 rw[if_pos ⟨hfit,hle,.inl hag⟩]
                 simp
               · refine ⟨c7,c8,by rw[c9]; exact k3,r,putCells c (off+k*n) b,by rw[c9]; exact hg,?_,by rw[← hpc]; exact g1⟩
                 rw[List.getElem?_set_self (hm.lt _ _ _ _ hg),c9]
           · exact .no
         · exact .no
       · exact .no
     · exact .no
   · exact .no
theorem un (hm:MemR Φ Γ m st) {ro:Bool}{t:TypeId}{w:TV}{b:AVal} (hw:R Γ w.t w.v false [b]):OkM Φ d Γ m st (abox P t b st) (boxT P ro t w m):=by
 unfold boxT
 cases hf:(kn P t w.t&&(!ro||w.t.closed)) with
 | false=>exact .no
 | true =>
   rw[Bool.and_eq_true] at hf
   obtain ⟨hf,hc⟩:=hf
   have hfit:=abY hf hw
   obtain ⟨f1,f2,f3⟩:=rL hf
   have hl:=dI (bO f1 hw)
   refine .ok (a:=.ptr st.length 1 0 0) (st':=st++[.row t b.cells.length [b]]) (more Γ m.length (.inr (st.length,w.t.size,1))) ?_ (.inr ⟨rfl,st.length,w.t.size,bt,rfl⟩) (hm.more ?_) (fun j y _ h=>bR hm j y h) .more
   · simp only[abox,hfit,if_true]
   · rw[hl]
     have hat:(st++[AReg.row t w.t.size [b]])[st.length]? = some (.row t w.t.size [b]):=by simp
     cases ro with
     | false=>exact ⟨f1,f2,f3,st.length,b,bt,hat,bG (fun j x _ hx=>bR hm j x hx) hw⟩
     | true=>exact ⟨f1,by simpa using hc,f2,f3,st.length,b,bt,hat,bG (fun j x _ hx=>bR hm j x hx) hw⟩
theorem acD (hm:MemR Φ Γ m st) {ro:Bool}{t:TypeId}:OkM Φ d Γ m st (kf P t st) (acE P ro t m):=by
 unfold acE
 split
 · rename_i z hz
   obtain ⟨h1,a,h2,h3⟩:=jp (Γ:=Γ) hz
   have:=un (d:=d) (P:=P) (ro:=ro) (t:=t) hm h3
   unfold kf
   rw[h2,Option.bind_some]
   exact this
 · exact .no
theorem qS:∀ {rows:List (Nat×Ty)}{Γ:Ctx}{m:Mem},lk rows=true→MemR Φ Γ m st →
   ∃ Γ',MemR Φ Γ' (m++iE rows) st∧(∀ j y,Γ j=some y→Γ' j=some y)∧Pers m (m++iE rows)∧(∀ j,m.length≤j→j<m.length+rows.length→Γ' j=some (.inl false))
 | [],Γ,m,h,hm=>⟨Γ,by simpa [iE] using hm,fun _ _ h=>h,by simpa [iE] using Pers.refl m,fun j h1 h2=>by simp at h2; omega⟩
 | (e,u)::l,Γ,m,h,hm=>by
   simp only[lk,Bool.and_eq_true,Bool.not_eq_true'] at h
   obtain ⟨⟨⟨⟨h1,h2⟩,h3⟩,h4⟩,h5⟩:=h
   have hm':=hm.moreNil (g:=.row true e u []) ⟨h1,h2,h3,(by intro e; rw[e] at h4; cases h4),.inl ⟨rfl,false,bt,fun _=>rfl⟩⟩
   obtain ⟨Γ',k1,k2,k3,k4⟩:=qS h5 hm'
   have e2:m++iE ((e,u)::l)=(m++[.row true e u []])++iE l:=by simp[iE]
   rw[e2]
   refine ⟨Γ',k1,fun j y hy=>k2 j y (bR hm j y hy),Pers.more.trans k3,fun j g1 g2 => ?_⟩
   by_cases hj:j=m.length
   · subst hj; exact k2 _ _ bt
   · refine k4 j ?_ ?_
     · simp only[List.length_append,List.length_cons,List.length_nil]; omega
     · simp only[List.length_append,List.length_cons,List.length_nil] at g2 ⊢; omega
theorem ajy (hm:MemR Φ Γ m st) {t:TypeId}{u:Ty}{rows:List (Nat×Ty)}:OkM Φ d Γ m st (kf P t st) (newT P t u rows m):=by
 unfold newT
 split
 · rename_i z hz
   cases hr:lk rows with
   | false=>exact .no
   | true =>
     simp only[cond_true]
     split
     · rename_i x hx
       obtain ⟨h1,a,h2,h3⟩:=jp (Γ:=Γ) hz
       obtain ⟨Γ1,k1,k2,k3,k4⟩:=qS hr hm
       have hxr:R Γ1 u x false [a]:=eD (w:=z) (p:=fun _=>True) (Γ:=Γ) ⟨fun j _ y hy=>k2 j y hy,fun j _ hf=>by
         simp only[Bool.and_eq_true,Nat.ble_eq] at hf
         exact ⟨_,k4 j hf.1 (by omega)⟩⟩ (fun _ _=>trivial) hx h3
       have:=un (d:=d) (P:=P) (ro:=false) (t:=t) (w:=⟨u,x⟩) k1 hxr
       unfold kf
       rw[h2,Option.bind_some]
       intro X K x hx
       obtain ⟨w,m',k,a',st',Γ',q1,q2,q3,q4,q5,q6⟩:=this X K x hx
       exact ⟨w,m',k,a',st',Γ',q1,q2,q3,q4,fun j y hk hy=>q5 j y hk (k2 j y hy),k3.trans q6⟩
     · exact .no
 · exact .no
end
end Go.TY
namespace Go.TY
open Go.EM
section
variable {Φ:Frame}{Γ:Ctx}{m:Mem}{st:aq}{P:Program}{d:Option Nat}
theorem lQ {j:Nat}{Γ':Ctx} (he:∀ i y,i≠j→Γ i=some y→Γ' i=some y):∀ {t:Ty}{v:t.V}{c:Bool}{l:List AVal},R Γ t v c l→(cF j t v).t.names j=false→R Γ' (cF j t v).t (cF j t v).v c l
 | .agg t,v,c,l,h,hn=>by
   simp only[cF] at hn ⊢
   cases c<;>simp only[R] at h ⊢
   · obtain ⟨cs,rfl,h⟩:=h
     exact ⟨cs,rfl,lQ he (t:=t) h hn⟩
   · exact lQ he (t:=t) h hn
 | .cons t ts,v,c,l,h,hn=>by
   simp only[cF,Ty.names,Bool.or_eq_false_iff] at hn ⊢
   simp only[R] at h ⊢
   obtain ⟨l1,l2,rfl,h1,h2⟩:=h
   exact ⟨l1,l2,rfl,lQ he h1 hn.1,lQ he h2 hn.2⟩
 | .own i,v,c,l,h,hn=>by
   simp only[cF] at hn ⊢
   cases hb:Nat.beq i j with
   | true =>
     simp only[cond_true,R] at h ⊢
     split at h
     · exact ⟨_,h,rfl⟩
     · rcases h with h | ⟨_,_,h⟩<;>exact ⟨_,h,rfl⟩
     · exact h.elim
   | false =>
     rw[hb,cond_false] at hn
     exact bG (t:=.own i) (fun k y hk hy=>he k y (fun e=>by rw[e] at hk; rw[hk] at hn; cases hn) hy) h
 | .ptr i off,v,c,l,h,hn=>by
   simp only[cF] at hn ⊢
   cases hb:Nat.beq i j with
   | true =>
     simp only[cond_true,R] at h ⊢
     obtain ⟨_,_,_,_,h⟩:=h
     exact ⟨_,h,rfl⟩
   | false =>
     rw[hb,cond_false] at hn
     exact bG (t:=.ptr i off) (fun k y hk hy=>he k y (fun e=>by rw[e] at hk; rw[hk] at hn; cases hn) hy) h
 | .ba i off en ln,v,c,l,h,hn=>by
   simp only[cF] at hn ⊢
   cases hb:Nat.beq i j with
   | true =>
     simp only[cond_true,R] at h ⊢
     obtain ⟨_,_,_,_,h⟩:=h
     exact ⟨_,h,rfl⟩
   | false =>
     rw[hb,cond_false] at hn
     exact bG (t:=.ba i off en ln) (fun k y hk hy=>he k y (fun e=>by rw[e] at hk; rw[hk] at hn; cases hn) hy) h
 | .vw i,v,c,l,h,hn=>by
   simp only[cF] at hn ⊢
   cases hb:Nat.beq i j with
   | true =>
     simp only[cond_true,R] at h ⊢
     obtain ⟨_,_,_,_,h⟩:=h
     exact ⟨_,h,rfl⟩
   | false =>
     rw[hb,cond_false] at hn
     exact bG (t:=.vw i) (fun k y hk hy=>he k y (fun e=>by rw[e] at hk; rw[hk] at hn; cases hn) hy) h
 | .int _,v,c,l,h,hn=>bG (t:=.int _) (fun k y hk=>by cases hk) h
 | .bool,v,c,l,h,hn=>bG (t:=.bool) (fun k y hk=>by cases hk) h
 | .str,v,c,l,h,hn=>bG (t:=.str) (fun k y hk=>by cases hk) h
 | .sl t,v,c,l,h,hn=>bG (t:=.sl t) (fun k y hk hy=>he k y (fun e=>by rw[e] at hk; simp only[cF] at hn; rw[hk] at hn; cases hn) hy) h
 | .arr n t,v,c,l,h,hn=>bG (t:=.arr n t) (fun k y hk hy=>he k y (fun e=>by rw[e] at hk; simp only[cF] at hn; rw[hk] at hn; cases hn) hy) h
 | .tup t,v,c,l,h,hn=>bG (t:=.tup t) (fun k y hk hy=>he k y (fun e=>by rw[e] at hk; simp only[cF] at hn; rw[hk] at hn; cases hn) hy) h
 | .unit,v,c,l,h,hn=>bG (t:=.unit) (fun k y hk=>by cases hk) h
 | .nilsl,v,c,l,h,hn=>bG (t:=.nilsl) (fun k y hk=>by cases hk) h
 | .nilp,v,c,l,h,hn=>bG (t:=.nilp) (fun k y hk=>by cases hk) h
 | .fn f,v,c,l,h,hn=>bG (t:=.fn f) (fun k y hk=>by cases hk) h
 | .err,v,c,l,h,hn=>bG (t:=.err) (fun k y hk=>by cases hk) h
 | .undef,v,c,l,h,hn=>bG (t:=.undef) (fun k y hk=>by cases hk) h
 | .any,v,c,l,h,hn=>bG (t:=.any) (fun k y hk=>by cases hk) h
 | .it i,v,c,l,h,hn=>bG (t:=.it i) (fun k y hk hy=>he k y (fun e=>by rw[e] at hk; simp only[cF] at hn; rw[hk] at hn; cases hn) hy) h
 | .mp i,v,c,l,h,hn=>bG (t:=.mp i) (fun k y hk hy=>he k y (fun e=>by rw[e] at hk; simp only[cF] at hn; rw[hk] at hn; cases hn) hy) h
 | .bx i o,v,c,l,h,hn=>bG (t:=.bx i o) (fun k y hk hy=>he k y (fun e=>by rw[e] at hk; simp only[cF] at hn; rw[hk] at hn; cases hn) hy) h
 | .op i,v,c,l,h,hn=>bG (t:=.op i) (fun k y hk hy=>he k y (fun e=>by rw[e] at hk; simp only[cF] at hn; rw[hk] at hn; cases hn) hy) h
 | .rp t o,v,c,l,h,hn=>bG (t:=.rp t o) (fun k y hk hy=>he k y (fun e=>by rw[e] at hk; simp only[cF] at hn; rw[hk] at hn; cases hn) hy) h
 | .orp t o,v,c,l,h,hn=>bG (t:=.orp t o) (fun k y hk hy=>he k y (fun e=>by rw[e] at hk; simp only[cF] at hn; rw[hk] at hn; cases hn) hy) h
 | .cl o t,v,c,l,h,hn=>bG (t:=.cl o t) (fun k y hk hy=>he k y (fun e=>by rw[e] at hk; simp only[cF] at hn; rw[hk] at hn; cases hn) hy) h
theorem fG {j:Nat}:∀ {t:Ty}{v:t.V},(cF j t v).t.size=t.size∧(cF j t v).t.isV=t.isV∧(t.okRow=true→(cF j t v).t.okRow=true)
 | .agg t,v=>by
   obtain ⟨h1,h2,h3⟩:=fG (j:=j) (t:=t) (v:=v)
   simp only[cF]
   refine ⟨h1,rfl,fun h => ?_⟩
   simp only[Ty.okRow,Bool.and_eq_true,Bool.not_eq_true'] at h ⊢
   exact ⟨by rw[h2]; exact h.1,h3 h.2⟩
 | .cons t ts,v=>by
   obtain ⟨h1,h2,h3⟩:=fG (j:=j) (t:=t) (v:=v.1)
   obtain ⟨g1,g2,g3⟩:=fG (j:=j) (t:=ts) (v:=v.2)
   simp only[cF]
   refine ⟨by simp only[Ty.size,h1,g1],rfl,fun h => ?_⟩
   simp only[Ty.okRow,Bool.and_eq_true] at h ⊢
   exact ⟨⟨by rw[h2]; exact h.1.1,h3 h.1.2⟩,g3 h.2⟩
 | .own i,v=>by
   simp only[cF]
   cases Nat.beq i j<;>exact ⟨rfl,rfl,fun _=>rfl⟩
 | .ptr i o,v=>by
   simp only[cF]
   cases Nat.beq i j<;>exact ⟨rfl,rfl,fun _=>rfl⟩
 | .ba i o en ln,v=>by
   simp only[cF]
   cases Nat.beq i j<;>exact ⟨rfl,rfl,fun _=>rfl⟩
 | .vw i,v=>by
   simp only[cF]
   cases Nat.beq i j<;>exact ⟨rfl,rfl,fun _=>rfl⟩
 | .int _,v=>⟨rfl,rfl,fun h=>h⟩
 | .bool,v=>⟨rfl,rfl,fun h=>h⟩
 | .str,v=>⟨rfl,rfl,fun h=>h⟩
 | .sl t,v=>⟨rfl,rfl,fun h=>h⟩
 | .arr _ t,v=>⟨rfl,rfl,fun h=>h⟩
 | .tup t,v=>⟨rfl,rfl,fun h=>h⟩
 | .unit,v=>⟨rfl,rfl,fun h=>h⟩
 | .nilsl,v=>⟨rfl,rfl,fun h=>h⟩
 | .nilp,v=>⟨rfl,rfl,fun h=>h⟩
 | .fn f,v=>⟨rfl,rfl,fun h=>h⟩
 | .err,v=>⟨rfl,rfl,fun h=>h⟩
 | .undef,v=>⟨rfl,rfl,fun h=>h⟩
 | .any,v=>⟨rfl,rfl,fun h=>h⟩
 | .it i,v=>⟨rfl,rfl,fun h=>h⟩
 | .mp i,v=>⟨rfl,rfl,fun h=>h⟩
 | .bx i o,v=>⟨rfl,rfl,fun h=>h⟩
 | .op i,v=>⟨rfl,rfl,fun h=>h⟩
 | .rp t o,v=>⟨rfl,rfl,fun h=>h⟩
 | .orp t o,v=>⟨rfl,rfl,fun h=>h⟩
 | .cl o t,v=>⟨rfl,rfl,fun h=>h⟩
theorem px {j id:Nat}{Γ':Ctx}{st':aq}{g:Reg} (he:∀ i y,i≠j→Γ i=some y→Γ' i=some y) (hne:id≠j) (hs:∀ r n l,Γ id=some (.inr (r,n,l))→st'[r]? = st[r]?) (h:RegR Γ st id g):RegR Γ' st' id (py j g):=by
 cases g with
 | box e t v =>
   obtain ⟨h1,h2,h3,r,a,h4,h5,h6⟩:=h
   simp only[py]
   cases hn:t.names j with
   | false =>
     exact ⟨h1,h2,h3,r,a,he _ _ hne h4,by rw[hs _ _ _ h4]; exact h5,bG (fun k y hk hy=>he k y (fun e=>by rw[e] at hk; rw[hk] at hn; cases hn) hy) h6⟩
   | true =>
     simp only[cond_true]
     cases hk:(cF j t v).t.names j with
     | true=>trivial
     | false =>
       obtain ⟨k1,k2,k3⟩:=fG (j:=j) (t:=t) (v:=v)
       refine ⟨by rw[k2]; exact h1,k3 h2,by rw[k1]; exact h3,r,a,by rw[k1]; exact he _ _ hne h4,by rw[hs _ _ _ h4,k1]; exact h5,lQ he h6 hk⟩
 | cbox e t v =>
   obtain ⟨h1,h0,h2,h3,r,a,h4,h5,h6⟩:=h
   exact ⟨h1,h0,h2,h3,r,a,he _ _ hne h4,by rw[hs _ _ _ h4]; exact h5,aP h0 h6⟩
 | row z e t xs =>
   simp only[py]
   cases hn:t.names j with
   | true=>trivial
   | false =>
     obtain ⟨h1,h2,h3,h4,h5⟩:=h
     refine ⟨h1,h2,h3,h4,?_⟩
     rcases h5 with ⟨h5,h6⟩ | ⟨r,as,h5,h6,h7,h8⟩
     · obtain ⟨b,h6,h7⟩:=h6; exact .inl ⟨h5,b,he _ _ hne h6,h7⟩
     · exact .inr ⟨r,as,he _ _ hne h5,by rw[hs _ _ _ h5]; exact h6,aG (p:=fun x a=>R Γ t x false [a]) (fun x a hx=>aP h2 hx) h7,h8⟩
 | iter s pos =>
   obtain ⟨r,h1,h2⟩:=h
   exact ⟨r,he _ _ hne h1,by rw[hs _ _ _ h1]; exact h2⟩
 | map k v xs =>
   obtain ⟨h1,h2,h3,h4,r,es,h5,h6,h7⟩:=h
   exact ⟨h1,h2,h3,h4,r,es,he _ _ hne h5,by rw[hs _ _ _ h5]; exact h6,aG (p:=fun (p:k.V×v.V) (e:AVal×AVal)=>R Γ k p.1 false [e.1]∧R Γ v p.2 false [e.2]) (fun x a hx=>⟨aP h3 hx.1,aP h4 hx.2⟩) h7⟩
 | gone=>trivial
theorem eP:∀ {m:Mem}{i j:Nat},i<m.length→getM (lR j m) i=py j (getM m i)
 | _::m,0,j,_=>rfl
 | _::m,i+1,j,h=>eP (m:=m) (by simpa using h)
 | [],i,j,h=>by simp at h
theorem bH:∀ {m:Mem}{j:Nat},(lR j m).length=m.length
 | [],j=>rfl
 | _::m,j=>by simp[lR,bH]
def grown (Γ:Ctx) (id:Nat) (y:Nat×Nat×Nat):Ctx:=fun j=>if j=id then some (.inr y) else Γ j
theorem pG {id:Nat}{y:Nat×Nat×Nat}:∀ i x,i≠id→Γ i=some x→grown Γ id y i=some x:=by
 intro i x hi hx
 simp only[grown,if_neg hi]; exact hx
theorem jJ {j:Nat}{g:Reg}:(∀ e t v,py j g = .cbox e t v→g = .cbox e t v)∧(∀ s p,py j g = .iter s p→g = .iter s p):=by
 cases g with
 | box e t v =>
   simp only[py]
   cases t.names j with
   | false=>exact ⟨(fun _ _ _ h=>by cases h),(fun _ _ h=>by cases h)⟩
   | true =>
     simp only[cond_true]
     cases (cF j t v).t.names j with
     | false=>exact ⟨(fun _ _ _ h=>by cases h),(fun _ _ h=>by cases h)⟩
     | true=>exact ⟨(fun _ _ _ h=>by cases h),(fun _ _ h=>by cases h)⟩
 | cbox e t v=>exact ⟨(fun _ _ _ h=>h),(fun _ _ h=>by cases h)⟩
 | row z e t xs =>
   simp only[py]
   cases t.names j with
   | false=>exact ⟨(fun _ _ _ h=>by cases h),(fun _ _ h=>by cases h)⟩
   | true=>exact ⟨(fun _ _ _ h=>by cases h),(fun _ _ h=>by cases h)⟩
 | iter s p=>exact ⟨(fun _ _ _ h=>by cases h),(fun _ _ h=>h)⟩
 | map k v xs=>exact ⟨(fun _ _ _ h=>by cases h),(fun _ _ h=>by cases h)⟩
 | gone=>exact ⟨(fun _ _ _ h=>by cases h),(fun _ _ h=>by cases h)⟩
theorem Pers.kill {id:Nat}{g:Reg} (h1:∀ e t v,g ≠ .cbox e t v) (h2:∀ s p,g ≠ .iter s p):Pers m (setM (lR id m) id g) where
 len:=by rw[ce,bH]; exact Nat.le_refl _
 cbox j hj e t v h:=by
   by_cases e':id=j
   · subst e'; rw[bJ (by rw[bH]; exact hj)] at h; exact absurd h (h1 _ _ _)
   · rw[bI e',eP hj] at h; exact jJ.1 _ _ _ h
 iter j hj s p h:=by
   by_cases e':id=j
   · subst e'; rw[bJ (by rw[bH]; exact hj)] at h; exact absurd h (h2 _ _)
   · rw[bI e',eP hj] at h; exact ⟨p,jJ.2 _ _ h⟩
theorem MemR.grow (hm:MemR Φ Γ m st) {id:Nat}{g:Reg}{r n l:Nat}{st':aq} (hid:id<m.length) (hst:st.length≤st'.length)
   (hs:∀ i r' n' l',i≠id→Γ i=some (.inr (r',n',l'))→st'[r']? = st[r']?) (hr:r<st'.length) (hfr:∀ i r' n' l',i≠id→Γ i=some (.inr (r',n',l'))→r'≠r) (hg:RegR (grown Γ id (r,n,l)) st' id g) (hΦ:∀ r' g,Φ r'=some g→st'[r']? = some g) (hd:∀ g,Φ r≠some g):MemR Φ (grown Γ id (r,n,l)) (setM (lR id m) id g) st' where
 reg j hj:=by
   rw[ce,bH] at hj
   by_cases e:id=j
   · subst e; rw[bJ (by rw[bH]; exact hid)]; exact hg
   · rw[bI e,eP hj]
     exact px pG (fun e'=>e e'.symm) (fun r' n' l' h=>hs j r' n' l' (fun e'=>e e'.symm) h) (hm.reg j hj)
 out j hj:=by
   rw[ce,bH] at hj
   simp only[grown]
   rw[if_neg (by omega)]
   exact hm.out j hj
 inj i j r' n' l' n'' l'' hi hj:=by
   simp only[grown] at hi hj
   split at hi<;>split at hj
   · rename_i e1 e2; rw[e1,e2]
   · rename_i e1 e2; cases hi; exact absurd rfl (hfr _ _ _ _ e2 hj)
   · rename_i e1 e2; cases hj; exact absurd rfl (hfr _ _ _ _ e1 hi)
   · exact hm.inj _ _ _ _ _ _ _ hi hj
 lt i r' n' l' hi:=by
   simp only[grown] at hi
   split at hi
   · cases hi; exact hr
   · have:=hm.lt _ _ _ _ hi; omega
 old:=hΦ
 dis r' g i n' l' h hi:=by
   simp only[grown] at hi
   split at hi
   · cases hi; exact hd g h
   · exact hm.dis r' g i n' l' h hi
theorem tY (hm:MemR Φ Γ m st) {u:Ty}{y:TV}{ys:List u.V}{b:AVal}{n:Nat} (hn:u.size=n) (h:ach m u y=some ys) (hy:R Γ y.t y.v false [b]):∃ bs,bw st n b=some bs∧All2 (fun x a=>R Γ u x false [a]) ys bs:=by
 unfold ach at h
 split at h
 · cases h; simp only[R] at hy; cases hy; exact ⟨[],rfl,trivial⟩
 · rename_i t xs
   obtain ⟨e,hx⟩:=aV h
   cases e
   subst hx
   simp only[R] at hy
   rcases hy with ⟨rfl,hy⟩ | ⟨f,n',as,hy,hn',h2⟩
   · cases hy; exact ⟨[],rfl,trivial⟩
   · cases hy
     refine ⟨as,?_,h2⟩
     simp only[bw]
     rw[if_pos]
     rcases hn' with rfl | hn'
     · right; rw[aU h2]; rfl
     · left; exact hn'.trans hn
 · rename_i id _
   split at h
   · rename_i e t xs hg
     obtain ⟨e',hx⟩:=aV h
     cases e'
     subst hx
     have hr:=hm.at id
     rw[hg] at hr
     obtain ⟨k1,k2,k3,k4,k5⟩:=hr
     simp only[R] at hy
     rcases k5 with ⟨rfl,k5⟩ | ⟨r,as,k5,k6,k7,k8⟩
     · obtain ⟨_,k5,_⟩:=k5
       rw[k5] at hy
       rcases hy with hy | ⟨_,n',hy⟩
       · cases hy; exact ⟨[],rfl,trivial⟩
       · cases hy; exact ⟨[],by simp[bw],trivial⟩
     · rw[k5] at hy; cases hy
       refine ⟨as,?_,k7⟩
       have hl:=aU k7
       simp only[bw,if_pos hn,EM.rowAt,k6,hl,and_self,if_true,Option.map_some,List.drop_zero]
       rw[List.take_of_length_le (by omega)]
   · cases h
 · split at h
   · cases h
     simp only[R] at hy; cases hy
     rename_i s _
     have hn1:n=1:=hn.symm
     refine ⟨s.map fun b=>.int .u8 b.toNat,by simp only[bw,if_pos hn1],?_⟩
     clear hn1
     induction s with
     | nil=>trivial
     | cons c s ih=>exact ⟨rfl,ih⟩
   · cases h
 · cases h
theorem nB {n:Nat}{u:Unit} (h:dN n=some u):n<most:=(dd h).1
theorem fL {t:TypeId}{n:Nat}{z:AVal} (h:cG P t=some (n,z)):zeroOf P (bp P t)=some z∧n≠0:=by
 unfold cG at h
 split at h
 · rename_i e hu
   split at h
   · rename_i i hi
     split at h
     · rename_i z' hz
       split at h
       · rename_i hc
         cases h
         refine ⟨?_,hc.1⟩
         have:bp P t=e:=by simp only[bp,hu]
         rw[this]
         simp only[zeroOf,hi,Option.bind_some,hz,Option.map_some]
       · cases h
     · cases h
   · cases h
 · cases h
theorem ajl (hm:MemR Φ Γ m st) {z:Bool}{e:Nat}{u:Ty}{xs:List u.V}{as:List AVal} (h1:u.isV=true) (h2:u.closed=true) (h3:u.okRow=true) (h4:u.size≠0) (hr:All2 (fun x a=>R Γ u x false [a]) xs as) (hz:z=true→xs≠[]) :
   RegR (more Γ m.length (.inr (st.length,u.size,xs.length))) (st++[.row e u.size as]) m.length (.row z e u xs) :=
 ⟨h1,h2,h3,h4,.inr ⟨st.length,as,bt,by simp,aG (p:=fun x a=>R Γ u x false [a]) (fun x a hx=>aP h2 hx) hr,hz⟩⟩
theorem iT (hm:MemR Φ Γ m st) {z:Bool}{e n:Nat}{u:Ty}{xs:List u.V}{as:List AVal}{ares:Option (AVal×aq)} (hn:u.size=n) (h1:u.isV=true) (h2:u.closed=true) (h3:u.okRow=true) (h4:u.size≠0) (hr:All2 (fun x a=>R Γ u x false [a]) xs as) (hz:z=true→xs≠[])
   (ha:ares=some (bf st e n as)):OkM Φ d Γ m st ares (.ok ⟨.own m.length,()⟩ (m++[.row z e u xs]) none):=by
 subst hn
 refine .ok (a:=.own st.length u.size xs.length 0 xs.length) (st':=st++[.row e u.size as]) (more Γ m.length (.inr (st.length,u.size,xs.length))) (by rw[ha,bf,aU hr]) (.inr ⟨rfl,by simp only[R,bt]⟩) (hm.more (ajl hm h1 h2 h3 h4 hr hz)) (fun j y _ h=>bR hm j y h) .more
theorem fH {A:Type}{l:List A}:l.isEmpty=true→l=[]:=by cases l<;>simp
theorem yj (hm:MemR Φ Γ m st) {ty:List (Nat×Ty)}{tys:List TypeId}{x y:TV}{a b:AVal} (hx:R Γ x.t x.v false [a]) (hy:R Γ y.t y.v false [b]):OkM Φ d Γ m st (cD P tys a b st) (uu P ty tys x y m):=by
 unfold uu
 split
 · rename_i t u
   split
   · rename_i n z du et he hu hl
     cases hc:(!ae4 du&&Nat.beq et.size n&&et.isV&&et.closed&&et.okRow) with
     | false=>exact .no
     | true =>
       simp only[Bool.and_eq_true,Nat.beq_eq,Bool.not_eq_true'] at hc
       obtain ⟨⟨⟨⟨c0,c1⟩,c2⟩,c3⟩,c4⟩:=hc
       have hn0:=(fL he).2
       have c5:et.size≠0:=by rw[c1]; exact hn0
       simp only[cond_true]
       split
       · rename_i ys hys
         obtain ⟨bs,hb1,hb2⟩:=tY hm c1 hys hy
         have hbl:=aU hb2
         have hop:cD P [t,u] a b st=dE P t a bs st:=by
           unfold cD
           simp only[he,hu]
           cases du<;>first | (cases c0; done) | (simp only[hb1,Option.bind_some])
         rw[hop]
         split
         · simp only[R] at hx; cases hx
           refine .opt fun _ hroom => ?_
           have hroom:=nB hroom
           cases hem:bs.isEmpty with
           | true =>
             have hbs:=fH hem
             have hys':ys=[]:=by cases ys with | nil=>rfl | cons _ _=>rw[hbs] at hbl; simp at hbl
             subst hys'
             refine .ok (a:=.nil) (st':=st) (more Γ m.length (.inl false)) (by simp only[dE,he,hem,cond_true]) (.inr ⟨rfl,by simp only[R,bt]; exact .inl trivial⟩) (hm.moreNil ⟨c2,c3,c4,c5,.inl ⟨rfl,false,bt,fun _=>rfl⟩⟩) (fun j y _ h=>bR hm j y h) .more
           | false =>
             refine iT hm c1 c2 c3 c4 c5 hb2 (fun _ e=>by subst e; cases bs with | nil=>simp at hem | cons _ _=>exact hb2.elim) ?_
             simp only[dE,he,hem,cond_false]
             rw[if_pos (by omega)]
         · rename_i id _
           split
           · rename_i zf e t' xs hg
             cases hcc:(Nat.beq e (bp P t)&&Nat.ble (id+1) m.length) with
             | false=>exact .no
             | true =>
               simp only[Bool.and_eq_true,Nat.beq_eq,Nat.ble_eq] at hcc
               obtain ⟨hce,hid⟩:=hcc
               subst hce
               simp only[cond_true]
               split
               · rename_i xs' hxs
                 obtain ⟨e',hxx⟩:=aV hxs
                 cases e'
                 subst hxx
                 refine .opt fun _ hroom => ?_
                 have hroom:=nB hroom
                 have hr:=hm.at id
                 rw[hg] at hr
                 obtain ⟨k1,k2,k3,k4,k5⟩:=hr
                 have hp:Pers m (setM (lR id m) id (.row zf (bp P t) et (xs'++ys))):=.kill (by intro _ _ _ h; cases h) (by intro _ _ h; cases h)
                 simp only[R] at hx
                 rcases k5 with ⟨rfl,k5⟩ | ⟨r,as,k5,k6,k7,k8⟩
                 · obtain ⟨bz,k5,kz⟩:=k5
                   rw[k5] at hx
                   have haE:bs.isEmpty=true→dE P t a bs st=some (a,st):=fun hem=>by
                     rcases hx with hx | ⟨_,n',hx⟩<;>cases hx<;>simp[dE,he,hem]
                   have haN:bs.isEmpty=false→bs.length<most→dE P t a bs st=some (bf st (bp P t) n bs):=fun hem hl=>by
                     rcases hx with hx | ⟨_,n',hx⟩<;>cases hx<;>simp[dE,he,hem,hl]
                   cases hem:bs.isEmpty with
                   | true =>
                     have hbs:=fH hem
                     have hys':ys=[]:=by cases ys with | nil=>rfl | cons _ _=>rw[hbs] at hbl; simp at hbl
                     subst hys'
                     have hk:MemR Φ Γ (setM (lR id m) id (.row zf (bp P t) et ([]++[]))) st:={
                       reg:=fun j hj=>by
                         rw[ce,bH] at hj
                         by_cases ej:id=j
                         · subst ej; rw[bJ (by rw[bH]; omega)]; exact ⟨k1,k2,k3,k4,.inl ⟨rfl,bz,k5,kz⟩⟩
                         · rw[bI ej,eP hj]
                           exact px (fun i y _ h=>h) (fun e'=>ej e'.symm) (fun r' n' l' h=>rfl) (hm.reg j hj)
                       out:=fun j hj=>hm.out j (by rw[ce,bH] at hj; exact hj)
                       inj:=hm.inj
                       lt:=hm.lt
                       old:=hm.old
                       dis:=hm.dis }
                     exact .ok (a:=a) (st':=st) Γ (haE hem) (.inr ⟨rfl,by simp only[R,k5]; exact hx⟩) hk (fun j y _ h=>h) hp
                   | false =>
                     have hne:ys≠[]:=fun e=>by subst e; cases bs with | nil=>simp at hem | cons _ _=>exact hb2.elim
                     have hlt:st.length<(st++[AReg.row (bp P t) et.size bs]).length:=by simp
                     refine .ok (a:=.own st.length n bs.length 0 bs.length) (st':=st++[.row (bp P t) n bs]) (grown Γ id (st.length,et.size,ys.length)) ?_ (.inr ⟨rfl,?_⟩) (hm.grow (by omega) (by simp) ?_ (by simp) ?_ ⟨k1,k2,k3,k4,.inr ⟨st.length,bs,?_,?_,aG (p:=fun x a=>R Γ et x false [a]) (fun x a hx=>aP k2 hx) hb2,fun _ e=>hne (by simpa using e)⟩⟩ (fun r' g h=>by rw[List.getElem?_append_left (hm.oldlt h)]; exact hm.old r' g h) (fun g h=>Nat.lt_irrefl _ (hm.oldlt h))) (fun j y hj h=>pG j y (fun e'=>hj (by rw[e'])) h) hp
                     · rw[haN hem (by simp at hroom; omega)]
                       rfl
                     · simp only[R,grown,if_true,hbl,c1]
                     · intro i r' n' l' _ h
                       exact List.getElem?_append_left (hm.lt _ _ _ _ h)
                     · intro i r' n' l' _ h e'
                       have:=hm.lt _ _ _ _ h
                       omega
                     · simp[grown]
                     · simp[c1]
                 · rw[k5] at hx; cases hx
                   have hal:=aU k7
                   have hrow:EM.rowAt st r et.size xs'.length=some as:=by simp only[EM.rowAt,k6,hal,and_self,if_true]
                   have hty:EM.rowTy st r=bp P t:=by simp only[EM.rowTy,k6]
                   cases hem:bs.isEmpty with
                   | true =>
                     have hbs:=fH hem
                     have hys':ys=[]:=by cases ys with | nil=>rfl | cons _ _=>rw[hbs] at hbl; simp at hbl
                     subst hys'
                     have hk:MemR Φ Γ (setM (lR id m) id (.row zf (bp P t) et (xs'++[]))) st:={
                       reg:=fun j hj=>by
                         rw[ce,bH] at hj
                         by_cases ej:id=j
                         · subst ej; rw[bJ (by rw[bH]; omega),List.append_nil]; exact ⟨k1,k2,k3,k4,.inr ⟨r,as,k5,k6,k7,k8⟩⟩
                         · rw[bI ej,eP hj]
                           exact px (fun i y _ h=>h) (fun e'=>ej e'.symm) (fun r' n' l' h=>rfl) (hm.reg j hj)
                       out:=fun j hj=>hm.out j (by rw[ce,bH] at hj; exact hj)
                       inj:=hm.inj
                       lt:=hm.lt
                       old:=hm.old
                       dis:=hm.dis }
                     refine .ok (a:=.own r et.size xs'.length 0 xs'.length) (st':=st) Γ ?_ (.inr ⟨rfl,by simp only[R,k5]⟩) hk (fun j y _ h=>h) hp
                     rw[c1] at hrow
                     simp only[dE,he,c1,hty,hrow,and_self,if_true,hem,cond_true]
                   | false =>
                     have hrl:=hm.lt _ _ _ _ k5
                     refine .ok (a:=.own r et.size (xs'.length+bs.length) 0 (xs'.length+bs.length)) (st':=st.set r (.row (bp P t) et.size (as++bs))) (grown Γ id (r,et.size,(xs'++ys).length)) ?_ (.inr ⟨rfl,?_⟩) (hm.grow (by omega) (by simp) ?_ (by simpa using hrl) ?_ ⟨k1,k2,k3,k4,.inr ⟨r,as++bs,?_,?_,ch (aG (p:=fun x a=>R Γ et x false [a]) (fun x a hx=>aP k2 hx) k7) (aG (p:=fun x a=>R Γ et x false [a]) (fun x a hx=>aP k2 hx) hb2),fun hz e=>k8 hz (List.append_eq_nil_iff.1 e).1⟩⟩ (fun r' g h=>by
                       have:r≠r':=fun e'=>hm.dis r' g id _ _ h (e' ▸ k5)
                       rw[List.getElem?_set_ne this]; exact hm.old r' g h) (fun g h=>hm.dis r g id _ _ h k5)) (fun j y hj h=>pG j y (fun e'=>hj (by rw[e'])) h) hp
                     · rw[c1] at hrow
                       simp only[dE,he,c1,hty,hrow,and_self,if_true,hem,cond_false]
                       rw[if_pos (by omega)]
                     · simp only[R,grown,if_true,List.length_append,hbl]
                     · intro i r' n' l' hi h
                       have:r≠r':=fun e'=>hi (hm.inj _ _ _ _ _ _ _ (e' ▸ h) k5)
                       exact List.getElem?_set_ne this
                     · intro i r' n' l' hi h e'
                       exact hi (hm.inj _ _ _ _ _ _ _ (e' ▸ h) k5)
                     · simp[grown]
                     · rw[List.getElem?_set_self hrl]
               · exact .no
           · exact .no
         · exact .no
       · exact .no
   · exact .no
 · exact .no
end
end Go.TY
namespace Go.TY
open Go.EM
section
variable {Φ:Frame}{Γ:Ctx}{m:Mem}{st:aq}{P:Program}{d:Option Nat}
theorem ad3 (hm:MemR Φ Γ m st) {ty:List (Nat×Ty)}{t:TypeId}{l c:TV}{a b:AVal} (hl:R Γ l.t l.v false [a]) (hc:R Γ c.t c.v false [b]):OkM Φ d Γ m st (yk P t a b st) (ajB P ty t l c m):=by
 unfold ajB
 split
 · rename_i n z et l' c' he het
   simp only[R] at hl hc; cases hl; cases hc
   split
   · rename_i z' hz'
     rw[Option.bind_eq_some_iff] at hz'
     obtain ⟨zt,hz1,hz2⟩:=hz'
     cases hcc:(Nat.beq et.size n&&et.isV&&et.closed&&et.okRow) with
     | false=>exact .no
     | true =>
       simp only[Bool.and_eq_true,Nat.beq_eq] at hcc
       obtain ⟨⟨⟨c1,c2⟩,c3⟩,c4⟩:=hcc
       obtain ⟨hzo,hn0⟩:=fL he
       obtain ⟨g1,za,g2,g3⟩:=jp (Γ:=Γ) hz1
       rw[hzo] at g2; cases g2
       have hz:=bX hz2 g3
       refine .opt fun _ hmk => ?_
       obtain ⟨⟨h1,h2,h3⟩,_⟩:=dd hmk
       refine iT hm c1 c2 c3 c4 (by rw[c1]; exact hn0) (qh (p:=fun x a=>R Γ et x false [a]) hz l'.toNat) (by simp) ?_
       have hcell:=d9 c4 (bO c2 hz)
       simp only[yk,he]
       rw[if_pos ⟨h1,h2,by simpa [most] using h3,hcell⟩]
   · exact .no
 · exact .no
theorem vt (s:List UInt8):∀ (b i:Nat) (acc:Array Value),(Conv.runesFrom ⟨s.toArray⟩ b i acc).toList=acc.toList++(cW s b i).map fun n=>Value.int .i32 n
 | 0,i,acc=>by simp[Conv.runesFrom,cW]
 | b+1,i,acc=>by
   unfold Conv.runesFrom cW
   have hs:(⟨s.toArray⟩:ByteArray).size=s.length:=by simp[ByteArray.size]
   rw[hs]
   by_cases h:i<s.length
   · simp only[h,if_true]
     rw[vt s b]
     simp
   · simp only[h,if_false,List.map_nil,List.append_nil]
theorem xf (s:List UInt8):jw s=(qM s).map fun n=>AVal.int .i32 n:=by
 unfold jw qM
 rw[vt]
 simp only[Array.toList_empty,List.nil_append,List.map_map]
 rfl
theorem qi {A B:Type}{p:A→B→Prop}{f:A→B} (h:∀ x,p x (f x)):∀ l:List A,All2 p l (l.map f)
 | []=>trivial
 | x::l=>⟨h x,qi h l⟩
theorem uA:∀ {xs:List Int}{as:List AVal},All2 (fun x a=>R Γ (.int .u8) x false [a]) xs as→ck as=some (xs.map fun n=>UInt8.ofNat n.toNat)
 | [],[],_=>rfl
 | x::xs,a::as,h=>by
   have h1:=h.1; simp only[R] at h1; cases h1
   simp only[ck,uA h.2,Option.map_some,List.map_cons]
theorem acA:∀ {xs:List Int}{as:List AVal},All2 (fun x a=>R Γ (.int .i32) x false [a]) xs as→cN as=some (xs.flatMap fun n=>(Utf8.encode n).data.toList)
 | [],[],_=>rfl
 | x::xs,a::as,h=>by
   have h1:=h.1; simp only[R] at h1; cases h1
   simp only[cN,acA h.2,Option.map_some,List.flatMap_cons]
theorem afc (hm:MemR Φ Γ m st) {id:Nat}{e:Nat}{u:Ty}{v:u.V} (h:getM m id = .box e u v):∃ r a,Γ id=some (.inr (r,u.size,1))∧bm st r 1 0=some (u.size,[a],a):=by
 have hr:=hm.at id
 rw[h] at hr
 obtain ⟨_,_,_,r,a,h1,h2,_⟩:=hr
 exact ⟨r,a,h1,by simp[bm,h2]⟩
theorem aqP (hm:MemR Φ Γ m st) {id:Nat}{e:Nat}{u:Ty}{v:u.V} (h:getM m id = .box e u v) {r n:Nat} (hg:Γ id=some (.inr (r,n,1))):rowTy st r=e:=by
 have hr:=hm.at id
 rw[h] at hr
 obtain ⟨_,_,_,r',a,h1,h2,_⟩:=hr
 rw[hg] at h1; cases h1
 simp[rowTy,h2]
theorem fP (hm:MemR Φ Γ m st) {id:Nat} (h:dZ m id=true):∃ r n xs a,Γ id=some (.inr (r,n,1))∧bm st r 1 0=some (n,xs,a):=by
 have hr:=hm.at id
 unfold dZ at h
 split at h
 · rename_i e t v hg
   rw[hg] at hr
   obtain ⟨_,_,_,r,a,h1,h2,_⟩:=hr
   exact ⟨r,t.size,[a],a,h1,by simp[bm,h2]⟩
 · rename_i e t v hg
   rw[hg] at hr
   obtain ⟨_,_,_,_,r,a,h1,h2,_⟩:=hr
   exact ⟨r,t.size,[a],a,h1,by simp[bm,h2]⟩
 · cases h
theorem aew (hm:MemR Φ Γ m st) {src dst:TypeId}{x:TV}{a:AVal} (hx:R Γ x.t x.v false [a]):OkM Φ d Γ m st (gy P src dst a st) (aj4 P src dst x m):=by
 unfold aj4
 split
 · rename_i e h1 h2
   split
   · rename_i s h3
     simp only[R] at hx; cases hx
     refine iT hm (n:=1) rfl rfl rfl rfl (by simp[Ty.size]) (qi (p:=fun (x:Int) a=>R Γ (.int .u8) x false [a]) (f:=fun n=>AVal.int .u8 n) (fun x=>rfl) _) (by simp) ?_
     simp only[gy,h1,h2,h3,List.map_map]
     rfl
   · rename_i s h3
     simp only[R] at hx; cases hx
     refine iT hm (n:=1) rfl rfl rfl rfl (by simp[Ty.size]) (qi (p:=fun (x:Int) a=>R Γ (.int .i32) x false [a]) (f:=fun n=>AVal.int .i32 n) (fun x=>rfl) _) (by simp) ?_
     simp only[gy,h1,h2,h3,xf]
   · exact .no
 · rename_i e h1 h2
   split
   · rename_i h3
     split
     · rename_i xs hxs
       obtain ⟨bs,hb1,hb2⟩:=tY hm (n:=1) rfl hxs hx
       refine .ok (a:=.str _) (st':=st) Γ ?_ (.inr ⟨rfl,rfl⟩) hm (fun _ _ _ h=>h) (.refl m)
       simp only[gy,h1,h2,h3,hb1,Option.bind_some,uA hb2,Option.map_some]
     · exact .no
   · rename_i h3
     split
     · rename_i xs hxs
       obtain ⟨bs,hb1,hb2⟩:=tY hm (n:=1) rfl hxs hx
       refine .ok (a:=.str _) (st':=st) Γ ?_ (.inr ⟨rfl,rfl⟩) hm (fun _ _ _ h=>h) (.refl m)
       simp only[gy,h1,h2,h3,hb1,Option.bind_some,acA hb2,Option.map_some]
     · exact .no
   · exact .no
 · rename_i t h1 h2
   split
   · rename_i id off _
     split
     · rename_i e u v hreg
       cases hc:(Nat.ble (off+1) u.size&&sized P t) with
       | false=>exact .no
       | true =>
         rw[Bool.and_eq_true] at hc
         have hb:=afc hm hreg
         obtain ⟨r,a',g1,g2⟩:=hb
         have hx':=hx
         simp only[R] at hx; obtain ⟨r',n,h3,h4⟩:=hx
         rw[g1] at h3; cases h3; cases h4
         refine .ok (a:=.ptr r 1 0 off) (st':=st) Γ ?_ (.inr ⟨rfl,hx'⟩) hm (fun _ _ _ h=>h) (.refl m)
         have hs:=hc.2
         unfold sized at hs
         split at hs
         · rename_i k hk
           simp only[gy,h1,h2,g2,hk,hc.1,cond_true]
         · cases hs
     · exact .no
   · exact .no
 · rename_i t h1 h2
   split
   · rename_i id off _
     split
     · rename_i e u v hreg
       split
       · rename_i k hk
         cases hc:(Nat.beq k u.size&&Nat.beq e t&&Nat.beq off 0) with
         | false=>exact .no
         | true =>
           simp only[Bool.and_eq_true,Nat.beq_eq] at hc
           obtain ⟨⟨c1,c2⟩,c3⟩:=hc
           subst c3
           obtain ⟨r,a',g1,g2⟩:=afc hm hreg
           have hty:=aqP hm hreg g1
           have hx':=hx
           simp only[R] at hx; obtain ⟨r',n,h3,h4⟩:=hx
           rw[g1] at h3; cases h3; cases h4
           refine .ok (a:=.ptr r 1 0 0) (st':=st) Γ ?_ (.inr ⟨rfl,hx'⟩) hm (fun _ _ _ h=>h) (.refl m)
           have e1:Nat.beq k u.size=true:=by rw[Nat.beq_eq]; exact c1
           have e2:Nat.beq (rowTy st r) t=true:=by rw[Nat.beq_eq,hty]; exact c2
           simp only[gy,h1,h2,g2,hk,e1,e2,Bool.and_self,cond_true]
       · exact .no
     · exact .no
   · exact .no
 · exact .no
theorem aaY (hm:MemR Φ Γ m st) {t:TypeId}{x:TV}{a:AVal} (hx:R Γ x.t x.v false [a]):OkM Φ d Γ m st (ox P t a st) (aaZ P t x m):=by
 unfold aaZ
 split
 · rename_i hu
   split
   · rename_i s
     simp only[R] at hx; cases hx
     exact .ok (a:=.ptr st.length 0 0 0) (st':=st++[.iter s 0]) (more Γ m.length (.inr (st.length,0,0))) (by simp only[ox,hu]) (.inr ⟨rfl,st.length,bt,rfl⟩) (hm.more ⟨st.length,bt,by simp⟩) (fun j y _ h=>bR hm j y h) .more
   · exact .no
 · exact .no
theorem adZ (hm:MemR Φ Γ m st) {x:TV}{b:Bool}{a:AVal} (hx:R Γ x.t x.v false [a]):OkM Φ d Γ m st (uw a b st) (ajw x b m):=by
 unfold ajw
 split
 · rename_i id _
   simp only[R] at hx; obtain ⟨r,hg,hx⟩:=hx; cases hx
   have hr:=hm.at id
   split
   · rename_i s pos hreg
     rw[hreg] at hr
     obtain ⟨r',h1,h2⟩:=hr
     rw[hg] at h1; cases h1
     cases b with
     | false=>exact .no
     | true =>
       simp only[cond_true]
       refine .br (fun hlt => ?_) (fun hge => ?_)
       · have hlt:=of_decide_eq_true hlt
         refine .ok (a:=.tup [.bool true,.int .i64 pos,.int .i32 (Utf8.decode ⟨s.toArray⟩ pos).1]) (st':=st.set r (.iter s (pos+(Utf8.decode ⟨s.toArray⟩ pos).2))) Γ ?_ (.inr ⟨rfl,_,rfl,?_⟩) (hm.set (eB hreg (by simp)) hg ⟨r,hg,?_⟩) (fun _ _ _ h=>h) (.set (by intro _ _ _ h; cases h) (by intro _ _ h; cases h; exact ⟨_,hreg⟩))
         · simp only[uw,h2,cond_true,if_pos hlt]
         · exact ⟨[_],[_,_],rfl,rfl,[_],[_],rfl,rfl,[_],[],rfl,rfl,rfl⟩
         · rw[List.getElem?_set_self (hm.lt _ _ _ _ hg)]
       · have hge:=of_decide_eq_false hge
         refine .ok (a:=.tup [.bool false]) (st':=st) Γ ?_ (.inr ⟨rfl,_,rfl,?_⟩) hm (fun _ _ _ h=>h) (.refl m)
         · simp only[uw,h2,cond_true,if_neg hge]
         · exact ⟨[_],[],rfl,rfl,rfl⟩
   · exact .no
 · exact .no
theorem fg {st:aq}:∀ {l1 l2 k1 k2:List AVal},cz st l1=some k1→cz st l2=some k2→cz st (l1++l2)=some (k1++k2)
 | [],l2,k1,k2,h1,h2=>by simp only[cz] at h1; cases h1; exact h2
 | v::l,l2,k1,k2,h1,h2=>by
   simp only[cz,Option.bind_eq_some_iff,Option.map_eq_some_iff] at h1
   obtain ⟨x,hx,y,hy,rfl⟩:=h1
   simp only[List.cons_append,cz,hx,fg hy h2,Option.bind_some,Option.map_some]
theorem pb {Γ':Ctx}:∀ {t:Ty}{v:t.V}{c:Bool}{l:List AVal},t.closed=true→R Γ t v c l→∃ l',cz st l=some l'∧R Γ' t v c l'
 | .int k,v,c,l,_,h=>by simp only[R] at h; subst h; exact ⟨_,rfl,rfl⟩
 | .bool,v,c,l,_,h=>by simp only[R] at h; subst h; exact ⟨_,rfl,rfl⟩
 | .str,v,c,l,_,h=>by simp only[R] at h; subst h; exact ⟨_,rfl,rfl⟩
 | .sl t,v,c,l,hc,h=>by
   have hcl:=bq hc h
   simp only[Ty.closed,Bool.and_eq_true] at hc
   simp only[R] at h
   rcases h with ⟨rfl,rfl⟩ | ⟨f,n,as,rfl,hn,h⟩
   · exact ⟨_,rfl,.inr ⟨false,0,[],rfl,.inl rfl,trivial⟩⟩
   · rw[aT] at hcl
     simp only[closed] at hcl
     cases as with
     | nil =>
       refine ⟨[.tree false 0 []],by simp[cz,cj,hcl],.inr ⟨false,0,[],rfl,.inl ?_,?_⟩⟩
       · cases v with
         | nil=>rfl
         | cons _ _=>exact h.elim
       · cases v with
         | nil=>trivial
         | cons _ _=>exact h.elim
     | cons a as =>
       refine ⟨[.tree false n (a::as)],by simp[cz,cj,hcl],.inr ⟨false,n,a::as,rfl,hn,aG (p:=fun x a=>R Γ t x false [a]) (fun x a hx=>aP hc.2 hx) h⟩⟩
 | .agg t,v,c,l,hc,h=>by
   cases c<;>simp only[R] at h ⊢
   · obtain ⟨cs,rfl,h⟩:=h
     obtain ⟨l',h1,h2⟩:=pb (Γ':=Γ') (t:=t) hc h
     exact ⟨[.agg l'],by simp only[cz,cj,h1,Option.map_some,Option.bind_some],l',rfl,h2⟩
   · exact pb (t:=t) hc h
 | .arr n t,v,c,l,hc,h=>by
   simp only[Ty.closed,Bool.and_eq_true] at hc
   have:∀ (v:List t.V) (ls:List (List AVal)),All2 (fun x c=>R Γ t x true c) v ls→∃ ls',cz st ls.flatten=some (List.flatten ls')∧All2 (fun x c=>R Γ' t x true c) v ls':=by
     intro v
     induction v with
     | nil=>intro ls h; cases ls with | nil=>exact ⟨[],rfl,trivial⟩ | cons _ _=>exact h.elim
     | cons x v ih =>
       intro ls h
       cases ls with
       | nil=>exact h.elim
       | cons c ls =>
         obtain ⟨c',g1,g2⟩:=pb (Γ':=Γ') hc.2 h.1
         obtain ⟨ls',g3,g4⟩:=ih ls h.2
         exact ⟨c'::ls',by rw[List.flatten_cons,List.flatten_cons]; exact fg g1 g3,g2,g4⟩
   cases c<;>simp only[R] at h ⊢
   · obtain ⟨cs,rfl,hn,ls,rfl,h⟩:=h
     obtain ⟨ls',g1,g2⟩:=this v ls h
     exact ⟨[.agg ls'.flatten],by simp only[cz,cj,g1,Option.map_some,Option.bind_some],_,rfl,hn,ls',rfl,g2⟩
   · obtain ⟨hn,ls,rfl,h⟩:=h
     obtain ⟨ls',g1,g2⟩:=this v ls h
     exact ⟨_,g1,hn,ls',rfl,g2⟩
 | .tup t,v,c,l,hc,h=>by
   simp only[R] at h ⊢; obtain ⟨as,rfl,h⟩:=h
   obtain ⟨l',h1,h2⟩:=pb (Γ':=Γ') (t:=t) hc h
   exact ⟨[.tup l'],by simp only[cz,cj,h1,Option.map_some,Option.bind_some],l',rfl,h2⟩
 | .unit,v,c,l,_,h=>by simp only[R] at h; subst h; exact ⟨_,rfl,rfl⟩
 | .cons t ts,v,c,l,hc,h=>by
   simp only[Ty.closed,Bool.and_eq_true] at hc
   simp only[R] at h ⊢
   obtain ⟨l1,l2,rfl,h1,h2⟩:=h
   obtain ⟨k1,g1,g2⟩:=pb (Γ':=Γ') hc.1 h1
   obtain ⟨k2,g3,g4⟩:=pb (Γ':=Γ') hc.2 h2
   exact ⟨k1++k2,fg g1 g3,k1,k2,rfl,g2,g4⟩
 | .nilsl,v,c,l,hc,h=>by cases hc
 | .nilp,v,c,l,_,h=>by simp only[R] at h; subst h; exact ⟨_,rfl,rfl⟩
 | .fn f,v,c,l,_,h=>by simp only[R] at h; subst h; exact ⟨_,rfl,rfl⟩
 | .err,v,c,l,_,h=>by simp only[R] at h ⊢; obtain ⟨a,rfl,h1⟩:=h; rcases h1 with ⟨e,rfl⟩ | ⟨e,t,rfl⟩; exact ⟨_,rfl,_,rfl,.inl ⟨e,rfl⟩⟩; exact ⟨_,rfl,_,rfl,.inr ⟨e,t,rfl⟩⟩
 | .undef,v,c,l,_,h=>by simp only[R] at h; subst h; exact ⟨_,rfl,rfl⟩
 | .any,v,c,l,hc,h=>by cases hc
 | .own id,v,c,l,hc,h=>by cases hc
 | .it id,v,c,l,hc,h=>by cases hc
 | .mp id,v,c,l,hc,h=>by cases hc
 | .bx id off,v,c,l,hc,h=>by cases hc
 | .op id,v,c,l,hc,h=>by cases hc
 | .ptr id off,v,c,l,hc,h=>by cases hc
 | .ba id off en ln,v,c,l,hc,h=>by cases hc
 | .vw id,v,c,l,hc,h=>by cases hc
 | .rp t off,v,c,l,hc,h=>by
   have hcl:=bq (t:=.rp t off) hc h
   have h':=aP (Γ':=Γ') (t:=.rp t off) hc h
   simp only[R] at h
   obtain ⟨a,rest,h,hr,rfl⟩:=h
   rw[aT] at hcl
   simp only[closed] at hcl
   exact ⟨_,by simp[cz,cj,hcl],h'⟩
 | .orp t off,v,c,l,hc,h=>by
   have hcl:=bq (t:=.orp t off) hc h
   have h':=aP (Γ':=Γ') (t:=.orp t off) hc h
   simp only[R] at h
   rcases h with ⟨_,rfl⟩ | ⟨x,a,rest,_,h,hr,rfl⟩
   · exact ⟨_,rfl,h'⟩
   · rw[aT] at hcl
     simp only[closed] at hcl
     exact ⟨_,by simp[cz,cj,hcl],h'⟩
 | .cl f t,v,c,l,hc,h=>by
   have hcl:=bq (t:=.cl f t) hc h
   have h':=aP (Γ':=Γ') (t:=.cl f t) hc h
   simp only[R] at h
   obtain ⟨as,rfl,h⟩:=h
   rw[aT] at hcl
   simp only[closed,aA,Bool.true_and] at hcl
   exact ⟨_,by simp[cz,cj,closed,aA,hcl],h'⟩
theorem dflt {t u:Ty}{v:t.V}{x:u.V}{c:Bool}{l:List AVal} (h:cond t.closed (dq t v u id) none=some x) (hr:R Γ t v c l):∃ l',cz st l=some l'∧R Γ0 u x c l':=by
 cases hc:t.closed with
 | false=>rw[hc] at h; cases h
 | true =>
   rw[hc,cond_true] at h
   obtain ⟨e,hx⟩:=aV h
   subst e; subst hx
   exact pb hc hr
theorem sd (hm:MemR Φ Γ m st):∀ {t:Ty}{v:t.V}{u:Ty}{x:u.V}{c:Bool}{l:List AVal},u.closed=true→bM m t v u=some x→R Γ t v c l→∃ l',cz st l=some l'∧R Γ0 u x c l':=by
 intro t
 induction t with
 | own id =>
   intro v u x c l hu h hr
   cases u
   case sl u' =>
     simp only[bM] at h
     split at h
     · rename_i e t' xs hg
       obtain ⟨e',hx⟩:=aV h
       cases e'
       subst hx
       have hreg:=hm.at id
       rw[hg] at hreg
       obtain ⟨k1,k2,k3,k4,k5⟩:=hreg
       simp only[R] at hr
       rcases k5 with ⟨rfl,_,k5,_⟩ | ⟨r,as,k5,k6,k7,k8⟩
       · rw[k5] at hr
         rcases hr with hr | ⟨_,n',hr⟩
         · subst hr
           exact ⟨[.tree false 0 []],rfl,.inr ⟨false,0,[],rfl,.inl rfl,trivial⟩⟩
         · subst hr
           exact ⟨[.tree false 0 []],rfl,.inr ⟨false,0,[],rfl,.inl rfl,trivial⟩⟩
       · rw[k5] at hr; subst hr
         have hal:=aU k7
         have hcl:aA as=true:=dS (fun x a hx=>by rw[← aT]; exact bq k2 hx) k7
         have hrow:EM.rowAt st r u'.size x.length=some as:=by simp only[EM.rowAt,k6,hal,and_self,if_true]
         have hble:Nat.ble (0+x.length) as.length=true:=by rw[Nat.ble_eq]; omega
         cases x with
         | nil =>
           refine ⟨[.tree false 0 []],?_,.inr ⟨false,0,[],rfl,.inl rfl,trivial⟩⟩
           simp only[cz,cj,pa]
           rw[hrow]
           simp only[hcl,hble,Bool.and_self,cond_true]
           rfl
         | cons y ys =>
           refine ⟨[.tree false u'.size as],?_,.inr ⟨false,u'.size,as,rfl,.inr rfl,aG (p:=fun x a=>R Γ u' x false [a]) (fun x a hx=>aP k2 hx) k7⟩⟩
           simp only[cz,cj,pa]
           rw[hrow]
           have h0:Nat.beq (y::ys).length 0=false:=rfl
           simp only[hcl,hble,Bool.and_self,cond_true,h0,cond_false,List.drop_zero,Option.bind_some,Option.map_some]
           rw[List.take_of_length_le (by omega)]
     · cases h
   all_goals (simp only[bM] at h; exact dflt h hr)
 | nilsl =>
   intro v u x c l hu h hr
   cases u
   case sl u' =>
     simp only[bM] at h
     cases h
     simp only[R] at hr; subst hr
     exact ⟨[.tree false 0 []],rfl,.inr ⟨false,0,[],rfl,.inl rfl,trivial⟩⟩
   all_goals (simp only[bM] at h; exact dflt h hr)
 | agg t ih =>
   intro v u x c l hu h hr
   cases u
   case agg u =>
     simp only[bM] at h
     cases hb:t.beq u with
     | true =>
       rw[hb,cond_true] at h
       obtain ⟨e,hx⟩:=aV h
       subst e; subst hx
       exact pb (t:=.agg t) hu hr
     | false =>
       rw[hb,cond_false] at h
       cases c<;>simp only[R] at hr ⊢
       · obtain ⟨cs,rfl,hr⟩:=hr
         obtain ⟨l',h1,h2⟩:=ih (u:=u) hu h hr
         exact ⟨[.agg l'],by simp only[cz,cj,h1,Option.map_some,Option.bind_some],l',rfl,h2⟩
       · exact ih (u:=u) hu h hr
   all_goals (simp only[bM] at h; exact dflt h hr)
 | arr n t ih =>
   intro v u x c l hu h hr
   cases u
   case arr k u =>
     simp only[Ty.closed,Bool.and_eq_true] at hu
     have main:∀ ls:List (List AVal),v.length=n→All2 (fun x c=>R Γ t x true c) v ls→∃ ls',cz st ls.flatten=some (List.flatten ls')∧x.length=k∧All2 (fun x c=>R Γ0 u x true c) x ls':=by
       intro ls hn hall
       simp only[bM] at h
       cases hb:(t.beq u&&Nat.beq n k) with
       | true =>
         rw[hb,cond_true] at h
         simp only[Bool.and_eq_true,Nat.beq_eq] at hb
         obtain ⟨e,hx⟩:=aV h
         cases e
         subst hx
         have hp:=pb (st:=st) (Γ':=Γ0) (t:=.arr n t) (v:=x) (c:=true) (l:=ls.flatten) (by simp only[Ty.closed,Bool.and_eq_true]; exact hu) (by simp only[R]; exact ⟨hn,ls,rfl,hall⟩)
         obtain ⟨l',g1,g2⟩:=hp
         simp only[R] at g2
         obtain ⟨g3,ls',rfl,g4⟩:=g2
         exact ⟨ls',g1,g3.trans hb.2,g4⟩
       | false =>
         rw[hb,cond_false] at h
         cases hk:Nat.beq n k with
         | false=>rw[hk] at h; cases h
         | true =>
           rw[hk,cond_true] at h
           rw[Nat.beq_eq] at hk
           clear hb
           have:∀ (v:List t.V) (x:List u.V) (ls:List (List AVal)),ph (fun y=>bM m t y u) v=some x→All2 (fun x c=>R Γ t x true c) v ls→∃ ls',cz st ls.flatten=some (List.flatten ls')∧x.length=v.length∧All2 (fun x c=>R Γ0 u x true c) x ls':=by
             intro v
             induction v with
             | nil =>
               intro x ls h hl
               simp only[ph] at h; cases h
               cases ls with
               | nil=>exact ⟨[],rfl,rfl,trivial⟩
               | cons _ _=>exact hl.elim
             | cons y v ihv =>
               intro x ls h hl
               simp only[ph,Option.bind_eq_some_iff,Option.map_eq_some_iff] at h
               obtain ⟨z,h1,zs,h2,rfl⟩:=h
               cases ls with
               | nil=>exact hl.elim
               | cons c ls =>
                 obtain ⟨c',q1,q2⟩:=ih hu.2 h1 hl.1
                 obtain ⟨ls',q3,q4,q5⟩:=ihv zs ls h2 hl.2
                 exact ⟨c'::ls',by rw[List.flatten_cons,List.flatten_cons]; exact fg q1 q3,by simp[q4],q2,q5⟩
           obtain ⟨ls',q1,q2,q3⟩:=this v x ls h hall
           exact ⟨ls',q1,by rw[q2,hn,hk],q3⟩
     cases c<;>simp only[R] at hr ⊢
     · obtain ⟨cs,rfl,hn,ls,rfl,hall⟩:=hr
       obtain ⟨ls',q1,q2,q3⟩:=main ls hn hall
       exact ⟨[.agg ls'.flatten],by simp only[cz,cj,q1,Option.map_some,Option.bind_some],_,rfl,q2,ls',rfl,q3⟩
     · obtain ⟨hn,ls,rfl,hall⟩:=hr
       obtain ⟨ls',q1,q2,q3⟩:=main ls hn hall
       exact ⟨_,q1,q2,ls',rfl,q3⟩
   all_goals (simp only[bM] at h; exact dflt h hr)
 | tup t ih =>
   intro v u x c l hu h hr
   cases u
   case tup u =>
     simp only[bM] at h
     simp only[R] at hr ⊢
     obtain ⟨as,rfl,hr⟩:=hr
     obtain ⟨l',h1,h2⟩:=ih (u:=u) hu h hr
     exact ⟨[.tup l'],by simp only[cz,cj,h1,Option.map_some,Option.bind_some],l',rfl,h2⟩
   all_goals (simp only[bM] at h; exact dflt h hr)
 | cons t ts ih1 ih2 =>
   intro v u x c l hu h hr
   cases u
   case cons u us =>
     simp only[bM,Option.bind_eq_some_iff,Option.map_eq_some_iff] at h
     obtain ⟨y,hy,z,hz,rfl⟩:=h
     simp only[Ty.closed,Bool.and_eq_true] at hu
     simp only[R] at hr ⊢
     obtain ⟨l1,l2,rfl,h1,h2⟩:=hr
     obtain ⟨k1,g1,g2⟩:=ih1 hu.1 hy h1
     obtain ⟨k2,g3,g4⟩:=ih2 hu.2 hz h2
     exact ⟨k1++k2,fg g1 g3,k1,k2,rfl,g2,g4⟩
   all_goals (simp only[bM] at h; exact dflt h hr)
 | _ =>
   intro v u x c l hu h hr
   cases u<;>(simp only[bM] at h; exact dflt h hr)
end
end Go.TY
namespace Go.TY
open Go.EM
section
variable {Φ:Frame}{Γ:Ctx}{m:Mem}{st:aq}{P:Program}{d:Option Nat}
theorem vL:∀ {a b c e:List AVal},keyL a b=true→keyL c e=true→keyL (a++c) (b++e)=true
 | [],[],c,e,_,h=>h
 | [],_::_,_,_,h,_=>by cases h
 | _::_,[],_,_,h,_=>by cases h
 | x::a,y::b,c,e,h,h2=>by
   simp only[keyL,Bool.and_eq_true] at h
   simp only[List.cons_append,keyL,h.1,vL h.2 h2,Bool.and_self]
theorem vM:∀ {t:Ty}{x y:t.V}{c1 c2:List AVal},eqV t x y=true→R Γ t x true c1→R Γ t y true c2→keyL c2 c1=true
 | .int k,x,y,c1,c2,h,h1,h2=>by
   simp only[R] at h1 h2; subst h1; subst h2
   simp only[eqV,decide_eq_true_eq] at h
   simp[keyL,keyC,h]
 | .bool,x,y,c1,c2,h,h1,h2=>by
   simp only[R] at h1 h2; subst h1; subst h2
   simp only[eqV,beq_iff_eq] at h
   simp[keyL,keyC,h]
 | .str,x,y,c1,c2,h,h1,h2=>by
   simp only[R] at h1 h2; subst h1; subst h2
   simp only[eqV,decide_eq_true_eq] at h
   simp[keyL,keyC,h]
 | .agg t,x,y,c1,c2,h,h1,h2=>by
   simp only[R] at h1 h2
   exact vM (t:=t) h h1 h2
 | .cons t ts,x,y,c1,c2,h,h1,h2=>by
   simp only[R] at h1 h2
   obtain ⟨a1,a2,rfl,p1,p2⟩:=h1
   obtain ⟨b1,b2,rfl,q1,q2⟩:=h2
   simp only[eqV,Bool.and_eq_true] at h
   exact vL (vM h.1 p1 q1) (vM h.2 p2 q2)
 | .unit,x,y,c1,c2,h,h1,h2=>by
   simp only[R] at h1 h2; subst h1; subst h2; rfl
 | .sl _,_,_,_,_,h,_,_=>by cases h
 | .arr _ _,_,_,_,_,h,_,_=>by cases h
 | .tup _,_,_,_,_,h,_,_=>by cases h
 | .nilsl,_,_,_,_,h,_,_=>by cases h
 | .nilp,_,_,_,_,h,_,_=>by cases h
 | .err,_,_,_,_,h,_,_=>by cases h
 | .fn _,_,_,_,_,h,_,_=>by cases h
 | .undef,_,_,_,_,h,_,_=>by cases h
 | .any,_,_,_,_,h,_,_=>by cases h
 | .own _,_,_,_,_,h,_,_=>by cases h
 | .it _,_,_,_,_,h,_,_=>by cases h
 | .mp _,_,_,_,_,h,_,_=>by cases h
 | .bx _ _,_,_,_,_,h,_,_=>by cases h
 | .op _,_,_,_,_,h,_,_=>by cases h
 | .ptr _ _,_,_,_,_,h,_,_=>by cases h
 | .ba _ _ _ _,_,_,_,_,h,_,_=>by cases h
 | .vw _,_,_,_,_,h,_,_=>by cases h
 | .rp _ _,_,_,_,_,h,_,_=>by cases h
 | .orp _ _,_,_,_,_,h,_,_=>by cases h
 | .cl _ _,_,_,_,_,h,_,_=>by cases h
theorem aqw {t:Ty}{x y:t.V}{a b:AVal} (hv:t.isV=true) (h:eqV t x y=true) (h1:R Γ t x false [a]) (h2:R Γ t y false [b]):keyB b a=true:=by
 have hk:=vM h (bO hv h1) (bO hv h2)
 cases t<;>first
   | (cases h; done)
   | (simp only[R] at h1 h2; cases h1; cases h2; simpa [AVal.cells,keyL,keyB] using hk)
   | (simp only[R] at h1 h2; obtain ⟨_,e,_⟩:=h1; cases e; obtain ⟨_,e,_⟩:=h2; cases e; exact hk)
   | (cases hv; done)
theorem wA {f:TypeId→AVal→Bool}{g:TypeId→Ty→Bool} (hf:∀ t ty (x:ty.V) a,g t ty=true→R Γ ty x false [a]→f t a=true) :
   ∀ {fs:List Field}{row:Ty}{off:Nat}{x:row.V}{p1 c1:List AVal},eqFs P g fs row off=true→R Γ row x true c1→p1.length=off →
     (fs.all fun fd=>decide (fd.name = "_")||(match cS P fd.type (p1++c1) fd.offset with
       | some a=>f fd.type a
       | none=>false))=true
 | [],row,off,x,p1,c1,h,_,_=>rfl
 | fd::fs,row,off,x,p1,c1,h,hx,h1=>by
   cases row<;>first
     | (cases h; done)
     | skip
   rename_i t ts
   simp only[eqFs,Bool.and_eq_true,Nat.beq_eq,Bool.not_eq_true'] at h
   obtain ⟨⟨⟨⟨hn,ho⟩,hp⟩,hg⟩,hr⟩:=h
   simp only[R] at hx
   obtain ⟨l1,l2,rfl,x1,x2⟩:=hx
   obtain ⟨a,ha,ra⟩:=lG (pre:=p1) (l2:=l2) hp x1
   simp only[List.all_cons,Bool.and_eq_true,Bool.or_eq_true]
   refine ⟨.inr ?_,?_⟩
   · rw[ho,show cS P fd.type (p1++(l1++l2)) off=some a by rw[← h1]; exact ha]
     exact hf _ _ _ _ hg ra
   · have ih:=wA hf (p1:=p1++l1) hr x2 (by rw[List.length_append,dI x1,h1])
     rw[List.append_assoc] at ih
     exact ih
theorem acF:∀ (d:Nat) (t:TypeId) (ty:Ty) (x:ty.V) (a:AVal),f8 P d t ty=true→R Γ ty x false [a]→akey P d t a=true
 | 0,t,ty,x,a,h,_=>by cases h
 | d+1,t,ty,x,a,h,hx=>by
   unfold f8 at h
   unfold akey
   split at h
   · rename_i hu
     split at h
     · simp only[R] at hx; cases hx
       simp only[hu]
     · cases h
   · rename_i k hu
     split at h
     · simp only[R] at hx; cases hx
       simp only[hu]
     · cases h
   · rename_i hu
     split at h
     · simp only[R] at hx; cases hx
       simp only[hu]
     · cases h
   · rename_i fs hu
     split at h
     · rename_i row
       simp only[Bool.and_eq_true,Bool.not_eq_true'] at h
       simp only[R] at hx
       obtain ⟨xs,e1,hx⟩:=hx
       cases e1
       simp only[hu]
       exact wA (P:=P) (f:=fun t a=>akey P d t a) (g:=f8 P d) (fun t ty x a=>acF d t ty x a) (p1:=[]) h.2 hx rfl
     · cases h
   · cases h
theorem tV {k v:Ty}{kt:TypeId} (hk:f8 P 8 kt k=true) (hkv:k.isV=true) {x:k.V}{b:AVal} (hx:R Γ k x false [b]):∀ {xs:List (k.V×v.V)}{es:List (AVal×AVal)} (i:Nat),All2 (fun (p:k.V×v.V) (e:AVal×AVal)=>R Γ k p.1 false [e.1]∧R Γ v p.2 false [e.2]) xs es →
   (jP k x xs=none∧jQ P kt b es i=some none∧∀ y:v.V,putK k x y xs=xs++[(x,y)]) ∨
   ∃ j a y0,jP k x xs=some y0∧jQ P kt b es i=some (some (i+j,a))∧R Γ v y0 false [a]∧∀ y:v.V,putK k x y xs=xs.set j (x,y)
 | [],[],i,_=>.inl ⟨rfl,rfl,fun _=>rfl⟩
 | e::xs,a::es,i,h=>by
   have he:=acH 8 kt k x e.1 b a.1 hk hx h.1.1
   simp only[jQ,jP,putK,he,Option.bind_some]
   cases hq:eqV k x e.1 with
   | true =>
     have hb:=aqw hkv hq hx h.1.1
     refine .inr ⟨0,a.2,e.2,rfl,?_,h.1.2,fun y=>rfl⟩
     simp only[cond_true,hb,Nat.add_zero]
   | false =>
     simp only[cond_false]
     rcases tV hk hkv hx (i+1) h.2 with ⟨g1,g2,g3⟩ | ⟨j,a',y0,g1,g2,g3,g4⟩
     · exact .inl ⟨g1,g2,fun y=>by rw[g3]; rfl⟩
     · exact .inr ⟨j+1,a',y0,g1,by rw[g2]; congr 3; omega,g3,fun y=>by rw[g4]; rfl⟩
theorem tJ (hm:MemR Φ Γ m st) {ty:List (Nat×Ty)}{t:TypeId}{r:Option Operand}:OkM Φ d Γ m st (cond r.isNone (some (AVal.map st.length,st++[AReg.map []])) none) (pn P ty t r.isNone m):=by
 unfold pn
 split
 · split
   · rename_i k v _ _
     cases hc:(r.isNone&&k.isV&&v.isV&&k.closed&&v.closed) with
     | false=>exact .no
     | true =>
       simp only[Bool.and_eq_true] at hc
       obtain ⟨⟨⟨⟨c0,c1⟩,c2⟩,c3⟩,c4⟩:=hc
       simp only[c0,cond_true]
       exact .ok (a:=.map st.length) (st':=st++[.map []]) (more Γ m.length (.inr (st.length,0,0))) rfl (.inr ⟨rfl,st.length,bt,rfl⟩) (hm.more ⟨c1,c2,c3,c4,st.length,[],bt,by simp,trivial⟩) (fun j y _ h=>bR hm j y h) .more
   · exact .no
 · exact .no
theorem tK (hm:MemR Φ Γ m st) {t:TypeId}{x y:TV}{ok:Bool}{a b:AVal} (hx:R Γ x.t x.v false [a]) (hy:R Γ y.t y.v false [b]):OkM Φ d Γ m st ((io P t a b ok st).map fun v=>(v,st)) (pr P t x y ok m):=by
 unfold pr
 split
 · rename_i kt et hu
   split
   · rename_i id _
     simp only[R] at hx; obtain ⟨r,hg,hx⟩:=hx; cases hx
     have hr:=hm.at id
     split
     · rename_i k v xs hreg
       rw[hreg] at hr
       obtain ⟨h1,h2,h3,h4,r',es,h5,h6,h7⟩:=hr
       rw[hg] at h5; cases h5
       cases hk:f8 P 8 kt k with
       | false=>exact .no
       | true =>
         simp only[cond_true]
         split
         · rename_i w hw
           split
           · rename_i z hz
             rw[Option.bind_eq_some_iff] at hz
             obtain ⟨zt,hz1,hz2⟩:=hz
             obtain ⟨g1,za,g2,g3⟩:=jp (Γ:=Γ) hz1
             have hzr:=bX hz2 g3
             have hwr:=bX hw hy
             have hak:=acF (P:=P) 8 kt k w b hk hwr
             have key:∃ av,io P t (.map r) b ok st=some (cond ok (.tup [av,.bool (getK k z w xs).2]) av)∧R Γ v (getK k z w xs).1 false [av]:=by
               unfold io getK
               simp only[hu,hak,cond_true,vH,h6,Option.bind_some]
               rcases tV (P:=P) hk h1 hwr 0 h7 with ⟨f1,f2,_⟩ | ⟨j,a',y0,f1,f2,f3,_⟩
               · rw[f1,f2]
                 simp only[Option.bind_some,g2,Option.map_some]
                 exact ⟨za,rfl,hzr⟩
               · rw[f1,f2]
                 simp only[Option.bind_some]
                 exact ⟨a',rfl,f3⟩
             obtain ⟨av,k1,k2⟩:=key
             cases ok with
             | true =>
               simp only[cond_true] at k1 ⊢
               exact .ok (a:=.tup [av,.bool (getK k z w xs).2]) (st':=st) Γ (by rw[k1]; rfl) (.inr ⟨rfl,_,rfl,[av],[.bool (getK k z w xs).2],rfl,k2,[_],[],rfl,rfl,rfl⟩) hm (fun _ _ _ h=>h) (.refl m)
             | false =>
               simp only[cond_false] at k1 ⊢
               exact .ok (a:=av) (st':=st) Γ (by rw[k1]; rfl) (.inr ⟨h2,k2⟩) hm (fun _ _ _ h=>h) (.refl m)
           · exact .no
         · exact .no
     · exact .no
   · exact .no
 · exact .no
theorem xz (hm:MemR Φ Γ m st) {t:TypeId}{x y z:TV}{a b c:AVal} (hx:R Γ x.t x.v false [a]) (hy:R Γ y.t y.v false [b]) (hz:R Γ z.t z.v false [c]):OkM Φ none Γ m st ((fO P t a b c st).map fun s=>(AVal.any,s)) (tm P t x y z m):=by
 unfold tm
 split
 · rename_i kt et hu
   split
   · rename_i id _
     simp only[R] at hx; obtain ⟨r,hg,hx⟩:=hx; cases hx
     have hr:=hm.at id
     split
     · rename_i k v xs hreg
       rw[hreg] at hr
       obtain ⟨h1,h2,h3,h4,r',es,h5,h6,h7⟩:=hr
       rw[hg] at h5; cases h5
       cases hk:f8 P 8 kt k with
       | false=>exact .no
       | true =>
         simp only[cond_true]
         split
         · rename_i w u hw hu2
           have hwr:=bX hw hy
           have hur:=bX hu2 hz
           have hak:=acF (P:=P) 8 kt k w b hk hwr
           have hlt:=hm.lt _ _ _ _ hg
           have fin : ∀ es', fO P t (.map r) b c st = some (st.set r (.map es')) → All2 (fun (p : k.V × v.V) (e : AVal × AVal) => R Γ k p.1 false [e.1] ∧ R Γ v p.2 false [e.2]) (putK k w u xs) es' →
               OkM Φ none Γ m st ((fO P t (.map r) b c st).map fun s=>(AVal.any,s)) (.ok ⟨.any,()⟩ (setM m id (.map k v (putK k w u xs))) none):=by
             intro es' e1 e2
             exact .ok (a:=.any) (st':=st.set r (.map es')) Γ (by rw[e1]; rfl) (.inl rfl) (hm.set (eB hreg (by simp)) hg ⟨h1,h2,h3,h4,r,es',hg,List.getElem?_set_self hlt,e2⟩) (fun _ _ _ h=>h) (.set (by simp) (by simp))
           rcases tV (P:=P) hk h1 hwr 0 h7 with ⟨_,f2,f3⟩ | ⟨j,a',y0,_,f2,_,f4⟩
           · refine fin (es++[(b,c)]) ?_ ?_
             · unfold fO
               simp only[hu,hak,cond_true,h6,f2,Option.map_some]
             · rw[f3]
               exact ch h7 ⟨⟨hwr,hur⟩,trivial⟩
           · refine fin (es.set j (b,c)) ?_ ?_
             · unfold fO
               simp only[hu,hak,cond_true,h6,f2,Option.map_some,Nat.zero_add]
             · rw[f4]
               exact qg h7 ⟨hwr,hur⟩
         · exact .no
     · exact .no
   · exact .no
 · exact .no
theorem aco (hm:MemR Φ Γ m st) {tys:List TypeId}{x:TV}{a:AVal} (hx:R Γ x.t x.v false [a]):OkM Φ d Γ m st (oD P tys a st) (acp P tys x m):=by
 unfold acp
 split
 · rename_i t
   split
   · rename_i id v
     split
     · rename_i n z0 hei
       split
       · rename_i z e u xs hreg
         split
         · rename_i zv hz
           rw[Option.bind_eq_some_iff] at hz
           obtain ⟨zt,hz1,hz2⟩:=hz
           cases hc:Nat.beq u.size n with
           | false=>exact .no
           | true =>
             rw[Nat.beq_eq] at hc
             refine .br (fun _=>.no) (fun hne => ?_)
             refine .opt fun _ hle => ?_
             have hle:v.1+v.2≤xs.length:=(dd hle).1
             have hr:=hm.at id
             rw[hreg] at hr
             obtain ⟨h1,h2,h3,h4,hr⟩:=hr
             simp only[R] at hx
             obtain ⟨r0,n0,l0,q1,hx⟩:=hx
             cases hx
             rcases hr with ⟨rfl,_⟩ | ⟨r,bs,k1,k2,k3,k4⟩
             · cases hne
             · rw[k1] at q1
               cases q1
               obtain ⟨hzo,hn0⟩:=fL hei
               obtain ⟨g1,za,g2,g3⟩:=jp (Γ:=Γ) hz1
               rw[hzo] at g2; cases g2
               have hzr:=bX hz2 g3
               have hcell:=d9 h3 (bO h1 hzr)
               have hal:=aU k3
               have hlt:=hm.lt _ _ _ _ k1
               have hll:(xs.take v.1++List.replicate v.2 zv++xs.drop (v.1+v.2)).length=xs.length:=by
                 simp only[List.length_append,List.length_take,List.length_replicate,List.length_drop]; omega
               have hrow:EM.rowAt st r0 u.size xs.length=some bs:=by simp only[EM.rowAt,k2,hal,and_self,if_true]
               refine .ok (a:=.tup []) (st':=st.set r0 (.row e u.size (bs.take v.1++List.replicate v.2 z0++bs.drop (v.1+v.2)))) Γ ?_ (.inr ⟨rfl,[],rfl,rfl⟩) (hm.set (eB hreg (by simp)) k1 ⟨h1,h2,h3,h4,.inr ⟨r0,_,by rw[hll]; exact k1,List.getElem?_set_self hlt,ch (ch (fv _ k3) (qh (p:=fun x a=>R Γ u x false [a]) hzr _)) (fw _ k3),fun hz e'=>by
                 rw[e'] at hll
                 simp only[List.length_nil] at hll
                 rw[List.length_eq_zero_iff.1 hll.symm] at hne
                 cases hne⟩⟩) (fun _ _ _ h=>h) (.set (by simp) (by simp))
               simp only[oD,hei]
               rw[if_pos ⟨hc,hle,hcell⟩,hrow]
               simp only[Option.map_some,EM.rowTy,k2]
         · exact .no
       · exact .no
     · exact .no
   · exact .no
 · exact .no
end
end Go.TY
namespace Go.TY
open Go.EM
section
variable {Φ:Frame}{Γ:Ctx}{m:Mem}{st:aq}{P:Program}{d:Option Nat}
theorem vv (hm:MemR Φ Γ m st) {x y:TV}{a b:AVal} (hx:R Γ x.t x.v false [a]) (hy:R Γ y.t y.v false [b]) {r:Bool} (h:vx m x y=some r):eS st a b=some r:=by
 unfold vx at h
 split at h
 · simp only[R] at hx hy; cases hx; cases hy; cases h; rfl
 · rename_i i _ _ _
   cases hc:dZ m i with
   | false=>rw[hc] at h; cases h
   | true =>
     rw[hc] at h; cases h
     obtain ⟨r,n,xs,z,g1,g2⟩:=fP hm hc
     simp only[R] at hx hy; obtain ⟨r',n',h1,h2⟩:=hx
     rw[g1] at h1; cases h1; cases h2; cases hy
     simp only[eS,g2,Option.map_some]
 · rename_i i _ _
   cases hc:dZ m i with
   | false=>rw[hc] at h; cases h
   | true =>
     rw[hc] at h; cases h
     obtain ⟨r,n,xs,z,g1,g2⟩:=fP hm hc
     simp only[R] at hx hy; obtain ⟨r',n',h1,h2⟩:=hy
     rw[g1] at h1; cases h1; cases h2; cases hx
     simp only[eS,g2,Option.map_some]
 · rename_i i v _
   cases hc:dZ m i with
   | false=>rw[hc] at h; cases h
   | true =>
     rw[hc] at h; cases h
     obtain ⟨r,n,xs,z,g1,g2⟩:=fP hm hc
     simp only[R] at hx hy
     cases hy
     obtain ⟨c,e,hx⟩:=hx
     cases e
     rcases hx with ⟨e,rfl⟩ | ⟨e,r',n',h1,rfl⟩
     · rw[e]; rfl
     · rw[g1] at h1; cases h1
       rw[e]
       simp only[eS,g2,Option.map_some,Bool.not_true]
 · rename_i i v
   cases hc:dZ m i with
   | false=>rw[hc] at h; cases h
   | true =>
     rw[hc] at h; cases h
     obtain ⟨r,n,xs,z,g1,g2⟩:=fP hm hc
     simp only[R] at hx hy
     cases hx
     obtain ⟨c,e,hy⟩:=hy
     cases e
     rcases hy with ⟨e,rfl⟩ | ⟨e,r',n',h1,rfl⟩
     · rw[e]; rfl
     · rw[g1] at h1; cases h1
       rw[e]
       simp only[eS,g2,Option.map_some,Bool.not_true]
 · rename_i i o _ j o' _
   cases hc:(Nat.beq i j&&Nat.beq o o'&&dZ m i) with
   | false=>rw[hc] at h; cases h
   | true =>
     rw[hc] at h; cases h
     simp only[Bool.and_eq_true,Nat.beq_eq] at hc
     obtain ⟨⟨rfl,rfl⟩,hc⟩:=hc
     obtain ⟨r,n,xs,z,g1,g2⟩:=fP hm hc
     simp only[R] at hx hy
     obtain ⟨r',n',h1,h2⟩:=hx
     obtain ⟨r'',n'',h3,h4⟩:=hy
     rw[g1] at h1 h3; cases h1; cases h3; cases h2; cases h4
     simp only[eS,and_self,if_true,g2,Option.map_some]
 · rename_i i v j o _
   cases hc:(Nat.beq i j&&Nat.beq o 0&&dZ m i) with
   | false=>rw[hc] at h; cases h
   | true =>
     rw[hc] at h; cases h
     simp only[Bool.and_eq_true,Nat.beq_eq] at hc
     obtain ⟨⟨rfl,rfl⟩,hc⟩:=hc
     obtain ⟨r,n,xs,z,g1,g2⟩:=fP hm hc
     simp only[R] at hx hy
     obtain ⟨r'',n'',h3,h4⟩:=hy
     rw[g1] at h3; cases h3; cases h4
     obtain ⟨c,e,hx⟩:=hx
     cases e
     rcases hx with ⟨e,rfl⟩ | ⟨e,r',n',h1,rfl⟩
     · rw[e]
       simp only[eS,g2,Option.map_some]
     · rw[g1] at h1; cases h1
       rw[e]
       simp only[eS,and_self,if_true,g2,Option.map_some]
 · rename_i j o _ i v
   cases hc:(Nat.beq i j&&Nat.beq o 0&&dZ m i) with
   | false=>rw[hc] at h; cases h
   | true =>
     rw[hc] at h; cases h
     simp only[Bool.and_eq_true,Nat.beq_eq] at hc
     obtain ⟨⟨rfl,rfl⟩,hc⟩:=hc
     obtain ⟨r,n,xs,z,g1,g2⟩:=fP hm hc
     simp only[R] at hx hy
     obtain ⟨r'',n'',h3,h4⟩:=hx
     rw[g1] at h3; cases h3; cases h4
     obtain ⟨c,e,hy⟩:=hy
     cases e
     rcases hy with ⟨e,rfl⟩ | ⟨e,r',n',h1,rfl⟩
     · rw[e]
       simp only[eS,g2,Option.map_some]
     · rw[g1] at h1; cases h1
       rw[e]
       simp only[eS,and_self,if_true,g2,Option.map_some]
 · cases h
theorem ajs (hm:MemR Φ Γ m st) {op:BinOp}{t:TypeId}{x y:TV}{a b:AVal} (hx:R Γ x.t x.v false [a]) (hy:R Γ y.t y.v false [b]):OkM Φ d Γ m st ((oy P op t st a b).map fun v=>(v,st)) (ptrT P op t x y m):=by
 unfold ptrT oy
 cases Nat.beq (lw P t) 0 with
 | true=>exact .no
 | false =>
   simp only[cond_false]
   cases op<;>dsimp only<;>try exact .no
   · split
     · rename_i r hr
       exact .ok (a:=.bool r) (st':=st) Γ (by simp only[vv hm hx hy hr,Option.map_some]) (.inr ⟨rfl,rfl⟩) hm (fun _ _ _ h=>h) (.refl m)
     · exact .no
   · split
     · rename_i r hr
       exact .ok (a:=.bool !r) (st':=st) Γ (by simp only[vv hm hx hy hr,Option.map_some]) (.inr ⟨rfl,rfl⟩) hm (fun _ _ _ h=>h) (.refl m)
     · exact .no
theorem oU (hm:MemR Φ Γ m st) {x:TV}{a:AVal} (hx:R Γ x.t x.v false [a]):OkM Φ d Γ m st ((ed a st).map fun v=>(v,st)) (ju x m):=by
 unfold ju
 split
 · simp only[R] at hx; cases hx
   exact .ok (a:=.nilptr) (st':=st) Γ rfl (.inr ⟨rfl,rfl⟩) hm (fun _ _ _ h=>h) (.refl m)
 · rename_i id _
   split
   · rename_i z e t xs hg
     cases z with
     | false=>exact .no
     | true =>
       have hr:=hm.at id
       rw[hg] at hr
       obtain ⟨k1,k2,k3,k4,k5⟩:=hr
       refine .br (fun he => ?_) (fun he => ?_)
       · have hnil:xs=[]:=fH he
         rcases k5 with ⟨_,b,k5,kb⟩ | ⟨r,as,k5,k6,k7,k8⟩
         · have kb:=kb rfl
           subst kb
           simp only[R,k5] at hx
           rcases hx with hx | ⟨hx,_⟩
           rotate_left
           · cases hx
           cases hx
           exact .ok (a:=.nilptr) (st':=st) Γ rfl (.inr ⟨rfl,rfl⟩) hm (fun _ _ _ h=>h) (.refl m)
         · exact absurd hnil (k8 rfl)
       · rcases k5 with ⟨k5,_⟩ | ⟨r,as,k5,k6,k7,k8⟩
         · subst k5; simp at he
         · simp only[R,k5] at hx; cases hx
           have hlen:Nat.beq xs.length 0=false:=by
             cases xs with
             | nil=>simp at he
             | cons _ _=>rfl
           have hra:EM.rowAt st r t.size xs.length=some as:=by simp only[EM.rowAt,k6,aU k7,and_self,if_true]
           refine .ok (a:=.ptr r xs.length 0 0) (st':=st) Γ ?_ (.inr ⟨rfl,r,t.size,xs.length,k5,rfl⟩) hm (fun _ _ _ h=>h) (.refl m)
           simp only[ed,hra,hlen,cond_false,Option.map_some]
   · exact .no
 · exact .no
theorem oP (hm:MemR Φ Γ m st) {tys:List TypeId}{p l:TV}{a b:AVal} (hp:R Γ p.t p.v false [a]) (hl:R Γ l.t l.v false [b]):OkM Φ d Γ m st (dD P tys a b st) (js P tys p l m):=by
 unfold js
 split
 · rename_i pt it
   split
   · rename_i n
     simp only[R] at hp hl; cases hp; cases hl
     refine .opt fun _ hz => ?_
     unfold akp at hz
     obtain ⟨hz,_⟩:=dd hz
     exact .ok (a:=.str []) (st':=st) Γ (by simp only[dD,hz,if_true]) (.inr ⟨rfl,rfl⟩) hm (fun _ _ _ h=>h) (.refl m)
   · rename_i id off i n
     split
     · rename_i z e u xs hg
       split
       · rename_i el hpt
         split
         · rename_i xs' hsz hcv
           obtain ⟨ee,hxx⟩:=aV hcv
           cases ee
           subst hxx
           cases hc:(Nat.beq e el&&Nat.beq off 0) with
           | false=>exact .no
           | true =>
             simp only[Bool.and_eq_true,Nat.beq_eq] at hc
             obtain ⟨rfl,rfl⟩:=hc
             refine .opt fun _ hw => ?_
             unfold aeU at hw
             obtain ⟨⟨rfl,rfl,w3,w4⟩,_⟩:=dd hw
             have hr:=hm.at id
             rw[hg] at hr
             obtain ⟨k1,k2,k3,k4,k5⟩:=hr
             simp only[R] at hl; cases hl
             rcases k5 with ⟨k5,_⟩ | ⟨r,as,k5,k6,k7,k8⟩
             · subst k5; simp at w3
             · simp only[R] at hp
               obtain ⟨r',n',len,h1,h2⟩:=hp
               rw[k5] at h1; cases h1; cases h2
               have hal:=aU k7
               have hra:EM.rowAt st r 1 xs'.length=some as:=by
                 have:Ty.size (.int .u8)=1:=rfl
                 rw[this] at k6
                 simp only[EM.rowAt,k6,hal,and_self,if_true]
               have hty:EM.rowTy st r=e:=by simp only[EM.rowTy,k6]
               have ht:as.take ((xs'.length:Nat):Int).toNat=as:=by rw[Int.toNat_natCast,← hal,List.take_length]
               have hb:=uA k7
               refine .ok (a:=.str (xs'.map fun (n:Int)=>UInt8.ofNat n.toNat)) (st':=st.set r .dead) Γ ?_ (.inr ⟨rfl,rfl⟩) (hm.set (eB hg (by simp)) k5 trivial) (fun _ _ _ h=>h) (.set (by intro _ _ _ h; cases h) (by intro _ _ h; cases h))
               simp only[dD,hra,hpt,hsz,hty,ht,hb,Option.map_some]
               rw[if_pos ⟨w3,by omega,w4,trivial⟩]
         · exact .no
       · exact .no
     · exact .no
   · exact .no
 · exact .no
theorem oc (hm:MemR Φ Γ m st) {x:TV}{a:AVal} (hx:R Γ x.t x.v false [a]):OkM Φ d Γ m st (fJ a st) (pM x m):=by
 unfold pM
 split
 · rename_i id _
   split
   · rename_i z e u xs hg
     have hr:=hm.at id
     rw[hg] at hr
     obtain ⟨k1,k2,k3,k4,k5⟩:=hr
     simp only[R] at hx
     rcases k5 with ⟨rfl,b,k5,_⟩ | ⟨r,as,k5,k6,k7,k8⟩
     · rw[k5] at hx
       have hk:MemR Φ Γ (setM m id .gone) st:={
         reg:=fun j hj=>by
           rw[ce] at hj
           by_cases ej:id=j
           · subst ej; rw[bJ hj]; trivial
           · rw[bI ej]; exact hm.reg j hj
         out:=fun j hj=>hm.out j (by rw[ce] at hj; exact hj)
         inj:=hm.inj
         lt:=hm.lt
         old:=hm.old
         dis:=hm.dis }
       rcases hx with hx | ⟨_,n',hx⟩
       · cases hx
         exact .ok (a:=.nil) (st':=st) Γ rfl (.inr ⟨rfl,.inl ⟨rfl,rfl⟩⟩) hk (fun _ _ _ h=>h) (.set (by intro _ _ _ h; cases h) (by intro _ _ h; cases h))
       · cases hx
         exact .ok (a:=.tree true n' []) (st':=st) Γ rfl (.inr ⟨rfl,.inr ⟨true,n',[],rfl,.inl rfl,trivial⟩⟩) hk (fun _ _ _ h=>h) (.set (by intro _ _ _ h; cases h) (by intro _ _ h; cases h))
     · rw[k5] at hx
       cases hx
       have hal:=aU k7
       have hra:EM.rowAt st r u.size xs.length=some as:=by simp only[EM.rowAt,k6,hal,and_self,if_true]
       refine .ok (a:=.tree false u.size as) (st':=st.set r .dead) Γ ?_ (.inr ⟨rfl,.inr ⟨false,u.size,as,rfl,.inr rfl,k7⟩⟩) (hm.set (eB hg (by simp)) k5 trivial) (fun _ _ _ h=>h) (.set (by intro _ _ _ h; cases h) (by intro _ _ h; cases h))
       simp only[fJ]
       rw[if_pos ⟨trivial,trivial⟩,hra]
       rfl
   · exact .no
 · rename_i u v
   have hx':=hx
   simp only[R] at hx
   have e:fJ a st=some (a,st):=by
     rcases hx with ⟨_,hx⟩ | ⟨_,_,_,hx,_⟩<;>cases hx<;>rfl
   exact .ok (a:=a) (st':=st) Γ e (.inr ⟨rfl,hx'⟩) hm (fun _ _ _ h=>h) (.refl m)
 · rename_i v
   have hx':=hx
   simp only[R] at hx
   cases hx
   exact .ok (a:=.nil) (st':=st) Γ rfl (.inr ⟨rfl,hx'⟩) hm (fun _ _ _ h=>h) (.refl m)
 · exact .no
theorem ajV (hm:MemR Φ Γ m st) {x w:TV}{a:AVal}{m':Mem} (hx:R Γ x.t x.v false [a]) (h:frzP x m=some (w,m')) :
   ∃ b st',lY a st=some (b,st')∧w.t.isV=true∧R Γ w.t w.v false [b]∧MemR Φ Γ m' st'∧Pers m m':=by
 unfold frzP at h
 split at h
 · rename_i id _
   split at h
   · rename_i e t v hg
     cases h
     have hr:=hm.at id
     rw[hg] at hr
     obtain ⟨_,_,_,r,b,h1,h2,h3⟩:=hr
     simp only[R] at hx
     obtain ⟨r',n',k1,k2⟩:=hx
     rw[h1] at k1
     cases k1; cases k2
     have hc:bm st r 1 0=some (t.size,[b],b):=by simp[bm,h2]
     refine ⟨.rptr b.cells,st.set r .dead,by simp only[lY,hc,Option.map_some],rfl,?_,hm.set (eB hg (by simp)) h1 trivial,.set (by intro _ _ _ h; cases h) (by intro _ _ h; cases h)⟩
     simp only[R]
     exact ⟨b,[],h3,fun _=>rfl,by rw[List.append_nil,List.drop_zero]⟩
   · cases h
 · cases h
end
end Go.TY
