import Derived.Test.YtmklghkhfimfgaaGreatDoorT5
set_option linter.unusedVariables false
set_option linter.unusedSimpArgs false
namespace Go.TY
open Go.EM
structure Pers (m m':Mem):Prop where
 len:m.length≤m'.length
 cbox:∀ j,j<m.length→∀ e t v,getM m' j = .cbox e t v→getM m j = .cbox e t v
 iter:∀ j,j<m.length→∀ s p,getM m' j = .iter s p→∃ p0,getM m j = .iter s p0
theorem Pers.refl (m:Mem):Pers m m:=⟨Nat.le_refl _,fun _ _ _ _ _ h=>h,fun _ _ _ p h=>⟨p,h⟩⟩
theorem Pers.trans {m m' m'':Mem} (h:Pers m m') (k:Pers m' m''):Pers m m'' :=
 ⟨Nat.le_trans h.len k.len,fun j hj e t v he=>h.cbox j hj e t v (k.cbox j (Nat.lt_of_lt_of_le hj h.len) e t v he),fun j hj s p he=>by
   obtain ⟨p',h'⟩:=k.iter j (Nat.lt_of_lt_of_le hj h.len) s p he
   exact h.iter j hj s p' h'⟩
def OkM (Φ:Frame) (d:Option Nat) (Γ:Ctx) (m:Mem) (st:ar) (ares:Option (AVal×ar)) (res:OR):Prop :=
 ∀ (X:Type) (K:TV→Mem→Option Nat→Option X) (x:X),res.go K=some x→∃ w m' k a st' Γ',K w m' k=some x∧ares=some (a,st')∧(d=none∨(w.t.isV=true∧R Γ' w.t w.v false [a]))∧MemR Φ Γ' m' st' ∧
   (∀ j y,k≠some j→Γ j=some y→Γ' j=some y)∧Pers m m'
section
variable {Φ:Frame}{Γ:Ctx}{m:Mem}{st:ar}{P:Program}{d:Option Nat}
theorem OkM.no {ares:Option (AVal×ar)}:OkM Φ d Γ m st ares .no:=fun X K x h=>by cases h
theorem OkM.opt {A:Type}{y:Option A}{k:A→OR}{ares:Option (AVal×ar)} (h:∀ z,y=some z→OkM Φ d Γ m st ares (k z)):OkM Φ d Γ m st ares (.opt A y k):=fun X K x hx=>by
 simp only[OR.go,Option.bind_eq_some_iff] at hx
 obtain ⟨z,hz,hx⟩:=hx
 exact h z hz X K x hx
theorem OkM.br {b:Bool}{p q:OR}{ares:Option (AVal×ar)} (h1:b=true→OkM Φ d Γ m st ares p) (h2:b=false→OkM Φ d Γ m st ares q):OkM Φ d Γ m st ares (.br b p q):=fun X K x hx=>by
 simp only[OR.go] at hx
 cases b
 · exact h2 rfl X K x hx
 · exact h1 rfl X K x hx
theorem OkM.ofP (hm:MemR Φ Γ m st) {av:Option AVal}{res:OR} (h:OkP Γ m av res):OkM Φ d Γ m st (av.map fun v=>(v,st)) res:=fun X K x hx=>by
 obtain ⟨w,a,h1,h2,h3,h4⟩:=h X K x hx
 exact ⟨w,m,none,a,st,Γ,h1,by rw[h2]; rfl,.inr ⟨h3,h4⟩,hm,fun _ _ _ h=>h,.refl m⟩
theorem OkM.ok {w:TV}{m':Mem}{k:Option Nat}{ares:Option (AVal×ar)}{a:AVal}{st':ar} (Γ':Ctx) (ha:ares=some (a,st')) (hr:d=none∨(w.t.isV=true∧R Γ' w.t w.v false [a])) (hm:MemR Φ Γ' m' st')
   (he:∀ j y,k≠some j→Γ j=some y→Γ' j=some y) (hp:Pers m m'):OkM Φ d Γ m st ares (.ok w m' k):=fun X K x hx=>⟨w,m',k,a,st',Γ',hx,ha,hr,hm,he,hp⟩
theorem dB:∀ {m:Mem}{g:Reg}{i:Nat},i<m.length→getM (m++[g]) i=getM m i
 | _::m,g,0,_=>rfl
 | _::m,g,i+1,h=>dB (m:=m) (by simpa using h)
 | [],g,i,h=>by simp at h
theorem fq:∀ {m:Mem}{g:Reg},getM (m++[g]) m.length=g
 | [],g=>rfl
 | _::m,g=>fq (m:=m)
theorem bG:∀ {m:Mem}{i:Nat}{g:Reg},i<m.length→getM (setM m i g) i=g
 | _::m,0,g,_=>rfl
 | _::m,i+1,g,h=>bG (m:=m) (by simpa using h)
 | [],i,g,h=>by simp at h
theorem bF:∀ {m:Mem}{i j:Nat}{g:Reg},i≠j→getM (setM m i g) j=getM m j
 | [],i,j,g,_=>rfl
 | _::m,0,0,g,h=>absurd rfl h
 | _::m,0,j+1,g,h=>rfl
 | _::m,i+1,0,g,h=>rfl
 | _::m,i+1,j+1,g,h=>bF (m:=m) (by omega)
theorem cf:∀ {m:Mem}{i:Nat}{g:Reg},(setM m i g).length=m.length
 | [],i,g=>rfl
 | _::m,0,g=>rfl
 | _::m,i+1,g=>by simp[setM,cf]
theorem gN {Γ Γ':Ctx}{st st':ar}{id:Nat}{g:Reg} (he:∀ j y,Γ j=some y→Γ' j=some y) (hs:∀ r n l,Γ id=some (.inr (r,n,l))→st'[r]? = st[r]?) (h:RegR Γ st id g):RegR Γ' st' id g:=by
 cases g with
 | box e t v =>
   obtain ⟨h1,h2,h3,r,a,h4,h5,h6⟩:=h
   exact ⟨h1,h2,h3,r,a,he _ _ h4,by rw[hs _ _ _ h4]; exact h5,bC (fun j x _ hx=>he j x hx) h6⟩
 | cbox e t v =>
   obtain ⟨h1,h0,h2,h3,r,a,h4,h5,h6⟩:=h
   exact ⟨h1,h0,h2,h3,r,a,he _ _ h4,by rw[hs _ _ _ h4]; exact h5,bC (fun j x _ hx=>he j x hx) h6⟩
 | row z e t xs =>
   obtain ⟨h1,h2,h3,h4,h5⟩:=h
   refine ⟨h1,h2,h3,h4,?_⟩
   rcases h5 with ⟨h5,h6⟩ | ⟨r,as,h5,h6,h7,h8⟩
   · obtain ⟨b,h6,h7⟩:=h6; exact .inl ⟨h5,b,he _ _ h6,h7⟩
   · exact .inr ⟨r,as,he _ _ h5,by rw[hs _ _ _ h5]; exact h6,aN (p:=fun x a=>R Γ t x false [a]) (fun x a hx=>bC (fun j y _ hy=>he j y hy) hx) h7,h8⟩
 | iter s pos =>
   obtain ⟨r,h1,h2⟩:=h
   exact ⟨r,he _ _ h1,by rw[hs _ _ _ h1]; exact h2⟩
 | map k v xs =>
   obtain ⟨h1,h2,h3,h4,r,es,h5,h6,h7⟩:=h
   exact ⟨h1,h2,h3,h4,r,es,he _ _ h5,by rw[hs _ _ _ h5]; exact h6,aN (p:=fun (p:k.V×v.V) (e:AVal×AVal)=>R Γ k p.1 false [e.1]∧R Γ v p.2 false [e.2]) (fun x a hx=>⟨bC (fun j y _ hy=>he j y hy) hx.1,bC (fun j y _ hy=>he j y hy) hx.2⟩) h7⟩
 | gone=>trivial
def more (Γ:Ctx) (n:Nat) (y:Bool⊕(Nat×Nat×Nat)):Ctx:=fun j=>if j=n then some y else Γ j
theorem bX (hm:MemR Φ Γ m st) {y:Bool⊕(Nat×Nat×Nat)}:∀ j x,Γ j=some x→more Γ m.length y j=some x:=by
 intro j x hx
 unfold more
 split
 · rename_i e
   rw[e,hm.out _ (Nat.le_refl _)] at hx; cases hx
 · exact hx
theorem bl {n:Nat}{y:Bool⊕(Nat×Nat×Nat)}:more Γ n y n=some y:=by simp[more]
theorem MemR.more (hm:MemR Φ Γ m st) {g:Reg}{ag:AReg}{n l:Nat} (hg:RegR (more Γ m.length (.inr (st.length,n,l))) (st++[ag]) m.length g):MemR Φ (more Γ m.length (.inr (st.length,n,l))) (m++[g]) (st++[ag]) where
 reg id hid:=by
   rcases Nat.lt_or_ge id m.length with h | h
   · rw[dB h]
     exact gN (bX hm) (fun r n l hr=>List.getElem?_append_left (hm.lt _ _ _ _ hr)) (hm.reg id h)
   · have e:id=m.length:=by simp at hid; omega
     subst e
     rw[fq]; exact hg
 out id hid:=by
   simp at hid
   simp only[TY.more]
   rw[if_neg (by omega)]
   exact hm.out id (by omega)
 inj i j r n' l' n'' l'' hi hj:=by
   simp only[TY.more] at hi hj
   split at hi<;>split at hj
   · rename_i e1 e2; rw[e1,e2]
   · cases hi; have:=hm.lt _ _ _ _ hj; omega
   · cases hj; have:=hm.lt _ _ _ _ hi; omega
   · exact hm.inj _ _ _ _ _ _ _ hi hj
 lt i r n' l' hi:=by
   simp only[TY.more] at hi
   split at hi
   · cases hi; simp
   · have:=hm.lt _ _ _ _ hi; simp; omega
 old r g h:=by
   have h1:=hm.old r g h
   have h2:r<st.length:=by
     rcases Nat.lt_or_ge r st.length with h' | h'
     · exact h'
     · rw[List.getElem?_eq_none h'] at h1; cases h1
   rw[List.getElem?_append_left h2]; exact h1
 dis r g i n' l' h hi:=by
   simp only[TY.more] at hi
   split at hi
   · cases hi
     have h1:=hm.old _ g h
     rw[List.getElem?_eq_none (Nat.le_refl _)] at h1; cases h1
   · exact hm.dis r g i n' l' h hi
theorem MemR.moreNil (hm:MemR Φ Γ m st) {g:Reg}{b:Bool} (hg:RegR (TY.more Γ m.length (.inl b)) st m.length g):MemR Φ (TY.more Γ m.length (.inl b)) (m++[g]) st where
 reg id hid:=by
   rcases Nat.lt_or_ge id m.length with h | h
   · rw[dB h]
     exact gN (bX hm) (fun r n l hr=>rfl) (hm.reg id h)
   · have e:id=m.length:=by simp at hid; omega
     subst e
     rw[fq]; exact hg
 out id hid:=by
   simp at hid
   simp only[TY.more]
   rw[if_neg (by omega)]
   exact hm.out id (by omega)
 inj i j r n' l' n'' l'' hi hj:=by
   simp only[TY.more] at hi hj
   split at hi
   · cases hi
   · split at hj
     · cases hj
     · exact hm.inj _ _ _ _ _ _ _ hi hj
 lt i r n' l' hi:=by
   simp only[TY.more] at hi
   split at hi
   · cases hi
   · exact hm.lt _ _ _ _ hi
 old:=hm.old
 dis r g i n' l' h hi:=by
   simp only[TY.more] at hi
   split at hi
   · cases hi
   · exact hm.dis r g i n' l' h hi
theorem Pers.more {g:Reg}:Pers m (m++[g]) where
 len:=by simp
 cbox j hj e t v h:=by rw[dB hj] at h; exact h
 iter j hj s p h:=by rw[dB hj] at h; exact ⟨p,h⟩
theorem MemR.set (hm:MemR Φ Γ m st) {id:Nat}{g:Reg}{ag:AReg}{r n l:Nat} (hid:id<m.length) (hr:Γ id=some (.inr (r,n,l))) (hg:RegR Γ (st.set r ag) id g):MemR Φ Γ (setM m id g) (st.set r ag) where
 reg j hj:=by
   rw[cf] at hj
   by_cases e:id=j
   · subst e; rw[bG hid]; exact hg
   · rw[bF e]
     refine gN (fun _ _ h=>h) (fun r' n' l' hr' => ?_) (hm.reg j hj)
     have:r≠r':=fun e'=>e (hm.inj _ _ _ _ _ _ _ hr (e' ▸ hr'))
     rw[List.getElem?_set_ne this]
 out j hj:=hm.out j (by rw[cf] at hj; exact hj)
 inj:=hm.inj
 lt i r' n' l' hi:=by have:=hm.lt _ _ _ _ hi; simpa using this
 old r' g' h:=by
   have:r≠r':=fun e=>hm.dis r' g' id n l h (e ▸ hr)
   rw[List.getElem?_set_ne this]; exact hm.old r' g' h
 dis:=hm.dis
theorem Pers.set {id:Nat}{g:Reg} (h1:∀ e t v,g ≠ .cbox e t v) (h2:∀ s p,g = .iter s p→∃ p0,getM m id = .iter s p0):Pers m (setM m id g) where
 len:=by rw[cf]; exact Nat.le_refl _
 cbox j hj e t v h:=by
   by_cases e':id=j
   · subst e'; rw[bG hj] at h; exact absurd h (h1 _ _ _)
   · rw[bF e'] at h; exact h
 iter j hj s p h:=by
   by_cases e':id=j
   · subst e'; rw[bG hj] at h; exact h2 s p h
   · rw[bF e'] at h; exact ⟨p,h⟩
theorem nq {cs l:List AVal}{off k:Nat} (h:iG cs off k true=some (.agg l)):∃ pre post,cs=pre++(l++post)∧pre.length=off∧l.length=k:=by
 unfold iG at h
 simp only[cond_true] at h
 cases hb:Nat.ble (off+k) cs.length with
 | false=>rw[hb] at h; cases h
 | true =>
   rw[hb,cond_true] at h
   cases h
   rw[Nat.ble_eq] at hb
   refine ⟨cs.take off,(cs.drop off).drop k,?_,?_,?_⟩
   · rw[List.take_append_drop,List.take_append_drop]
   · rw[List.length_take]; omega
   · rw[List.length_take,List.length_drop]; omega
theorem uu {t:TypeId}{u:Ty}{v:u.V}{b:AVal}{off n len k:Nat} (hv:u.isV=true) (hb:R Γ u v false [b]):OkP Γ m (cK P t b.cells (off+k*n)) (acT P t ⟨u,v⟩ off n len k m):=by
 unfold acT
 split
 · rename_i len' w xs hp
   cases hc:(Nat.beq w.size n&&Nat.beq len len'&&fJ P t w) with
   | false=>exact .no
   | true =>
     simp only[Bool.and_eq_true,Nat.beq_eq] at hc
     obtain ⟨⟨hc1,hc2⟩,hc3⟩:=hc
     refine .opt fun z hz => ?_
     obtain ⟨aa,ha1,ha2⟩:=iI (w0:=⟨u,v⟩) (bL hv hb) hp rfl
     simp only[R] at ha1
     obtain ⟨cs,ha3,hlen,ls,hls,hall⟩:=ha1
     cases ha3
     obtain ⟨pre,post,q1,q2,q3⟩:=nq ha2
     obtain ⟨a,g1,g2,g3⟩:=kv (P:=P) (off:=off) (pre:=pre) (post:=post) hc1 hc3 hall hz
     refine .ok g1 g2 ?_
     rw[q1,hls]
     exact g3 q2
 · exact .no
theorem gG (hm:MemR Φ Γ m st) {t:TypeId}{x:TV}{a:AVal} (hxv:x.t.isV=true) (hx:R Γ x.t x.v false [a]):OkP Γ m (gq P t a st) (loadT P t x m):=by
 unfold loadT
 split
 · rename_i u off v
   simp only[R] at hx; obtain ⟨b,rest,hb,_,hx⟩:=hx; cases hx
   cases hv:u.isV with
   | false=>exact .no
   | true =>
   refine .ofO fun w hw => ?_
   obtain ⟨h1,a,h2,h3⟩:=fY (w0:=⟨u,v⟩) (bL hv hb) hw
   refine ⟨h1,a,h2,?_⟩
   simp only[gq]
   exact partA_drop (partA_more (rest:=rest) h3)
 · rename_i u off v
   simp only[R] at hx
   cases hv:u.isV with
   | false=>exact .no
   | true =>
   refine .opt fun y hy => ?_
   rcases hx with ⟨e0,_⟩ | ⟨z,b,rest,e0,hb,_,hx⟩
   · rw[e0] at hy; cases hy
   rw[e0] at hy; cases hy
   cases hx
   refine .ofO fun w hw => ?_
   obtain ⟨h1,a,h2,h3⟩:=fY (w0:=⟨u,y⟩) (bL hv hb) hw
   refine ⟨h1,a,h2,?_⟩
   simp only[gq]
   exact partA_drop (partA_more (rest:=rest) h3)
 · rename_i id off n len k
   simp only[R] at hx; obtain ⟨r,n0,l0,hg,hx⟩:=hx; cases hx
   have hr:=hm.at id
   split
   · rename_i e u v hreg
     rw[hreg] at hr
     obtain ⟨k1,k2,k3,r',b,k4,k5,k6⟩:=hr
     rw[hg] at k4; cases k4
     have:=uu (P:=P) (m:=m) (t:=t) (off:=off) (n:=n) (len:=len) (k:=k) k1 k6
     simpa only[gq,bb,k5,List.length_cons,List.length_nil,if_true,List.getElem?_cons_zero,Option.map_some] using this
   · rename_i e u v hreg
     rw[hreg] at hr
     obtain ⟨k1,k0,k2,k3,r',b,k4,k5,k6⟩:=hr
     rw[hg] at k4; cases k4
     have:=uu (P:=P) (m:=m) (t:=t) (off:=off) (n:=n) (len:=len) (k:=k) k1 k6
     simpa only[gq,bb,k5,List.length_cons,List.length_nil,if_true,List.getElem?_cons_zero,Option.map_some] using this
   · exact .no
 · rename_i id off _
   simp only[R] at hx; obtain ⟨r,n,hg,hx⟩:=hx; cases hx
   have hr:=hm.at id
   split
   · rename_i e u v hreg
     rw[hreg] at hr
     obtain ⟨k1,k2,k3,r',b,k4,k5,k6⟩:=hr
     rw[hg] at k4; cases k4
     refine .ofO fun w hw => ?_
     obtain ⟨h1,a,h2,h3⟩:=fY (w0:=⟨u,v⟩) (bL k1 k6) hw
     exact ⟨h1,a,h2,by simp only[gq,bb,k5,List.length_cons,List.length_nil,if_true,List.getElem?_cons_zero,Option.map_some,h3]⟩
   · rename_i e u v hreg
     rw[hreg] at hr
     obtain ⟨k1,k0,k2,k3,r',b,k4,k5,k6⟩:=hr
     rw[hg] at k4; cases k4
     refine .ofO fun w hw => ?_
     obtain ⟨h1,a,h2,h3⟩:=fY (w0:=⟨u,v⟩) (bL k1 k6) hw
     exact ⟨h1,a,h2,by simp only[gq,bb,k5,List.length_cons,List.length_nil,if_true,List.getElem?_cons_zero,Option.map_some,h3]⟩
   · exact .no
 · rename_i id off i
   simp only[R] at hx; obtain ⟨r,n,len,hg,hx⟩:=hx; cases hx
   have hr:=hm.at id
   split
   · rename_i e u xs hreg
     rw[hreg] at hr
     obtain ⟨k1,k2,k3,k4,k5⟩:=hr
     refine .opt fun z hz=>.ofO fun w hw => ?_
     rcases k5 with ⟨rfl,k5⟩ | ⟨r',as,k5,k6,k7,k8⟩
     · simp at hz
     · rw[hg] at k5; cases k5
       obtain ⟨b,hb1,hb2⟩:=ky k7 hz
       obtain ⟨h1,a,h2,h3⟩:=fY (w0:=⟨u,z⟩) (bL k1 hb2) hw
       exact ⟨h1,a,h2,by simp only[gq,bb,k6,bq k7,if_true,hb1,Option.map_some,h3]⟩
   · exact .no
 · exact .no
where
 partA_more {P:Program}{t:TypeId}{cs rest:List AVal}{off:Nat}{a:AVal} (h:cK P t cs off=some a):cK P t (cs++rest) off=some a:=by
   unfold cK at h ⊢
   split at h
   · rename_i n d hn hd
     try simp only[hn,hd]
     exact nr (n:=n) (ag:=eJ d) h
   · cases h
 partA_drop {P:Program}{t:TypeId}{cs:List AVal}{off:Nat}{a:AVal} (h:cK P t cs off=some a):cK P t (cs.drop off) 0=some a:=by
   unfold cK at h ⊢
   split at h
   · rename_i n d hn hd
     try simp only[hn,hd]
     cases hg:eJ d with
     | true =>
       rw[hg,cond_true] at h
       cases hb:Nat.ble (off+n) cs.length with
       | true =>
         rw[hb,cond_true] at h
         rw[Nat.ble_eq] at hb
         have:Nat.ble (0+n) (cs.drop off).length=true:=by rw[Nat.ble_eq,List.length_drop]; omega
         rw[this,List.drop_zero]
         exact h
       | false=>rw[hb] at h; cases h
     | false =>
       rw[hg,cond_false] at h
       simp only[cond_false]
       rw[List.getElem?_drop,Nat.add_zero]; exact h
   · cases h
theorem acB {t:TypeId}{x:TV}{a:AVal} (hx:R Γ x.t x.v false [a]):OkP Γ m (lX P t a) (aid P t x m):=by
 unfold aid
 split
 · rename_i u off v
   simp only[R] at hx; obtain ⟨b,rest,hb,_,hx⟩:=hx; cases hx
   cases hv:u.isV with
   | false=>exact .no
   | true =>
   refine .ofO fun w hw => ?_
   obtain ⟨h1,a,h2,h3⟩:=fY (w0:=⟨u,v⟩) (bL hv hb) hw
   refine ⟨h1,a,h2,?_⟩
   simp only[lX]
   exact gG.partA_drop (gG.partA_more (rest:=rest) h3)
 · rename_i u off v
   simp only[R] at hx
   cases hv:u.isV with
   | false=>exact .no
   | true =>
   refine .opt fun y hy => ?_
   rcases hx with ⟨e0,_⟩ | ⟨z,b,rest,e0,hb,_,hx⟩
   · rw[e0] at hy; cases hy
   rw[e0] at hy; cases hy
   cases hx
   refine .ofO fun w hw => ?_
   obtain ⟨h1,a,h2,h3⟩:=fY (w0:=⟨u,y⟩) (bL hv hb) hw
   refine ⟨h1,a,h2,?_⟩
   simp only[lX]
   exact gG.partA_drop (gG.partA_more (rest:=rest) h3)
 · exact .no
theorem qJ {t:TypeId}{u:Ty} (h:kc P t u=true):u.isV=true∧u.okRow=true∧u.size≠0:=by
 unfold kc at h
 split at h
 · simp only[Bool.and_eq_true,Nat.beq_eq,Bool.not_eq_true'] at h
   obtain ⟨⟨⟨⟨h1,h2⟩,h3⟩,h4⟩,h5⟩:=h
   exact ⟨h4,h3,by rw[← h1]; exact fO h5⟩
 · cases h
theorem iQ {t:Ty}{sz:Nat} (hs:t.size=sz) {y:t.V}{wc:List AVal} (hy:R Γ t y true wc):∀ {xs:List t.V}{ls:List (List AVal)}{i:Nat},All2 (fun x c=>R Γ t x true c) xs ls→i<xs.length →
   ∃ ls',All2 (fun x c=>R Γ t x true c) (xs.set i y) ls'∧ls'.flatten=ls.flatten.take (i*sz)++wc++ls.flatten.drop (i*sz+sz)∧i*sz+sz≤ls.flatten.length
 | x::xs,c::ls,0,h,_=>by
   have hl:=cU h.1
   have e:c.length=sz:=by omega
   refine ⟨wc::ls,⟨hy,h.2⟩,?_,?_⟩
   · simp only[Nat.zero_mul,Nat.zero_add,List.take_zero,List.nil_append,List.flatten_cons]
     rw[← e,List.drop_left' rfl]
   · simp only[Nat.zero_mul,Nat.zero_add,List.flatten_cons,List.length_append]; omega
 | x::xs,c::ls,i+1,h,hi=>by
   obtain ⟨ls',h1,h2,h3⟩:=iQ hs hy (i:=i) h.2 (by simpa using hi)
   have hl:=cU h.1
   have e:c.length=sz:=by omega
   have e2:(i+1)*sz=c.length+i*sz:=by rw[Nat.succ_mul]; omega
   refine ⟨c::ls',⟨h.1,h1⟩,?_,?_⟩
   · rw[e2,List.flatten_cons,List.flatten_cons,h2,List.take_length_add_append,Nat.add_assoc,List.drop_length_add_append]
     simp only[List.append_assoc]
   · rw[e2]; simp only[List.flatten_cons,List.length_append]; omega
 | [],[],i,h,hi=>by simp at hi
theorem ah0 {pre post l wc:List AVal}{off a n:Nat} (hl:pre.length=off) (hw:wc.length=n) (hle:a+n≤l.length) :
   (pre++(l++post)).take off++(l.take a++wc++l.drop (a+n))++(pre++(l++post)).drop (off+(l.take a++wc++l.drop (a+n)).length)=(pre++(l++post)).take (off+a)++wc++(pre++(l++post)).drop (off+a+wc.length):=by
 have e1:(l.take a++wc++l.drop (a+n)).length=l.length:=by simp only[List.length_append,List.length_take,List.length_drop]; omega
 rw[e1]
 subst hl
 have e2:(l++post).drop l.length=post:=List.drop_left' rfl
 rw[List.take_left' rfl,List.drop_length_add_append,e2,List.take_length_add_append,Nat.add_assoc,List.drop_length_add_append,hw,List.take_append_of_le_length (by omega),List.drop_append_of_le_length (by omega)]
 simp only[List.append_assoc]
theorem tL {k:IntKind}{n:Int}:∀ {t:Ty}{v:t.V}{o:Nat}{w:t.V}{cs:List AVal},R Γ t v true cs→putI k t v o n=some w→o<cs.length∧R Γ t w true (cs.set o (.int k n))
 | .int k',v,o,w,cs,h,hp=>by
   simp only[R] at h
   subst h
   simp only[putI] at hp
   cases hc:(Nat.beq o 0&&kbeq k k') with
   | false=>rw[hc] at hp; cases hp
   | true =>
     rw[hc] at hp
     cases hp
     simp only[Bool.and_eq_true,Nat.beq_eq] at hc
     obtain ⟨rfl,hk⟩:=hc
     rw[lF hk]
     exact ⟨by simp,by simp[R]⟩
 | .agg t,v,o,w,cs,h,hp=>by
   simp only[R] at h ⊢
   exact tL (t:=t) h hp
 | .cons t ts,v,o,w,cs,h,hp=>by
   simp only[R] at h
   obtain ⟨l1,l2,rfl,h1,h2⟩:=h
   have hl:=cU h1
   simp only[putI] at hp
   cases hc:Nat.ble (o+1) t.size with
   | true =>
     rw[hc,cond_true,Option.map_eq_some_iff] at hp
     obtain ⟨x,hx,rfl⟩:=hp
     rw[Nat.ble_eq] at hc
     obtain ⟨g1,g2⟩:=tL (t:=t) h1 hx
     refine ⟨by rw[List.length_append]; omega,?_⟩
     simp only[R]
     exact ⟨l1.set o (.int k n),l2,by rw[List.set_append,if_pos g1],g2,h2⟩
   | false =>
     rw[hc,cond_false,Option.map_eq_some_iff] at hp
     obtain ⟨x,hx,rfl⟩:=hp
     have hc:¬ o+1≤t.size:=fun e=>by rw[← Nat.ble_eq,hc] at e; cases e
     obtain ⟨g1,g2⟩:=tL (t:=ts) h2 hx
     refine ⟨by rw[List.length_append]; omega,?_⟩
     simp only[R]
     exact ⟨l1,l2.set (o-t.size) (.int k n),by rw[List.set_append,if_neg (by omega),hl],h1,g2⟩
 | .bool,_,_,_,_,_,hp=>by cases hp
 | .str,_,_,_,_,_,hp=>by cases hp
 | .sl _,_,_,_,_,_,hp=>by cases hp
 | .arr _ _,_,_,_,_,_,hp=>by cases hp
 | .tup _,_,_,_,_,_,hp=>by cases hp
 | .unit,_,_,_,_,_,hp=>by cases hp
 | .nilsl,_,_,_,_,_,hp=>by cases hp
 | .nilp,_,_,_,_,_,hp=>by cases hp
 | .err,_,_,_,_,_,hp=>by cases hp
 | .fn _,_,_,_,_,_,hp=>by cases hp
 | .undef,_,_,_,_,_,hp=>by cases hp
 | .any,_,_,_,_,_,hp=>by cases hp
 | .own _,_,_,_,_,_,hp=>by cases hp
 | .it _,_,_,_,_,_,hp=>by cases hp
 | .mp _,_,_,_,_,_,hp=>by cases hp
 | .bx _ _,_,_,_,_,_,hp=>by cases hp
 | .op _,_,_,_,_,_,hp=>by cases hp
 | .ptr _ _,_,_,_,_,_,hp=>by cases hp
 | .vw _,_,_,_,_,_,hp=>by cases hp
 | .rp _ _,_,_,_,_,_,hp=>by cases hp
 | .orp _ _,_,_,_,_,_,hp=>by cases hp
 | .ba _ _ _ _,_,_,_,_,_,hp=>by cases hp
 | .cl _ _,_,_,_,_,_,hp=>by cases hp
theorem zk (hm:MemR Φ Γ m st) {t:TypeId}{x w:TV}{a b:AVal} (hx:R Γ x.t x.v false [a]) (hw:R Γ w.t w.v false [b]):OkM Φ none Γ m st ((jc P t a b st).map fun s=>(AVal.any,s)) (storeT P t x w m):=by
 unfold storeT
 cases hf:kc P t w.t with
 | false=>exact .no
 | true =>
   have hfit:=aaM hf hw
   obtain ⟨f1,f2,f3⟩:=qJ hf
   simp only[cond_true]
   split
   · rename_i id off _
     simp only[R] at hx; obtain ⟨r,n,hg,hx⟩:=hx; cases hx
     have hr:=hm.at id
     split
     · rename_i e u v hreg
       rw[hreg] at hr
       obtain ⟨k1,k2,k3,r',c,k4,k5,k6⟩:=hr
       rw[hg] at k4; cases k4
       split
       · rename_i y hy
         cases hc:(y.t.isV&&y.t.okRow&&Nat.beq y.t.size u.size) with
         | false=>exact .no
         | true =>
           simp only[Bool.and_eq_true,Nat.beq_eq] at hc
           obtain ⟨⟨c1,c2⟩,c3⟩:=hc
           obtain ⟨g1,g2,g3,g4,g5,g6⟩:=kj (u:=⟨u,v⟩) k6 k1 k2 hw f1 hy
           refine .ok (a:=.any) (st':=st.set r (.row e u.size [putCells c off b])) Γ ?_ (.inl rfl) (hm.set (dQ hreg (by simp)) hg ?_) (fun _ _ _ h=>h) (.set (by intro _ _ _ h; cases h) (by intro _ _ h; cases h))
           · simp only[jc,bb,k5,List.length_cons,List.length_nil,if_true,List.getElem?_cons_zero,Option.map_some,rowTy]
             rw[if_pos ⟨hfit,g5,by rcases g6 with h | h<;>simp[h]⟩]
             simp
           · refine ⟨c1,c2,by rw[c3]; exact k3,r,putCells c off b,by rw[c3]; exact hg,?_,g1⟩
             rw[List.getElem?_set_self (hm.lt _ _ _ _ hg),c3]
       · exact .no
     · exact .no
   · rename_i id off i
     simp only[R] at hx; obtain ⟨r,n,len,hg,hx⟩:=hx; cases hx
     have hr:=hm.at id
     split
     · rename_i e u xs hreg
       rw[hreg] at hr
       obtain ⟨k1,k2,k3,k4,k5⟩:=hr
       refine .opt fun z hz => ?_
       rcases k5 with ⟨rfl,k5⟩ | ⟨r',as,k5,k6,k7,k8⟩
       · simp at hz
       · rw[hg] at k5; cases k5
         obtain ⟨c,hb1,hb2⟩:=ky k7 hz
         split
         · rename_i y hy
           split
           · rename_i q hq
             obtain ⟨g1,g2,g3,g4,g5,g6⟩:=kj (u:=⟨u,z⟩) hb2 k1 k3 hw f1 hy
             refine .ok (a:=.any) (st':=st.set r (.row e u.size (as.set i (putCells c off b)))) Γ ?_ (.inl rfl) (hm.set (dQ hreg (by simp)) hg ?_) (fun _ _ _ h=>h) (.set (by intro _ _ _ h; cases h) (by intro _ _ h; cases h))
             · simp only[jc,bb,k6,bq k7,if_true,hb1,Option.map_some,rowTy]
               rw[if_pos ⟨hfit,g5,by rcases g6 with h | h<;>simp[h]⟩]
               rfl
             · refine ⟨k1,k2,k3,k4,.inr ⟨r,_,by rw[List.length_set]; exact hg,List.getElem?_set_self (hm.lt _ _ _ _ hg),?_,fun hz e=>k8 hz (by simpa using e)⟩⟩
               exact px k7 (ch hq g1)
           · exact .no
         · exact .no
     · exact .no
   · rename_i id off n len k
     simp only[R] at hx; obtain ⟨r,n0,l0,hg,hx⟩:=hx; cases hx
     have hr:=hm.at id
     split
     · rename_i e u v hreg
       rw[hreg] at hr
       obtain ⟨k1,k2,k3,r',c,k4,k5,k6⟩:=hr
       rw[hg] at k4; cases k4
       split
       · rename_i len' u' xs hp
         split
         · rename_i y hy
           split
           · rename_i x hxx
             cases hc:(Nat.beq u'.size n&&Nat.beq len len'&&u'.okRow&&u'.isV&&Nat.beq w.t.size n&&isB w.t.isAgg u'.isAgg&&x.t.isV&&x.t.okRow&&Nat.beq x.t.size u.size) with
             | false=>exact .no
             | true =>
               simp only[Bool.and_eq_true,Nat.beq_eq] at hc
               obtain ⟨⟨⟨⟨⟨⟨⟨⟨c1,c2⟩,c3⟩,c4⟩,c5⟩,c6⟩,c7⟩,c8⟩,c9⟩:=hc
               have c6:=jZ c6
               refine .opt fun z hz => ?_
               have hi:=(List.getElem?_eq_some_iff.1 hz).1
               obtain ⟨aa,ha1,ha2⟩:=iI (w0:=⟨u,v⟩) (bL k1 k6) hp rfl
               simp only[R] at ha1
               obtain ⟨cs,ha3,hlen,ls,hls,hall⟩:=ha1
               cases ha3
               obtain ⟨pre,post,q1,q2,q3⟩:=nq ha2
               have hyr:=ch hy hw
               have hbc:=bL c4 hyr
               have hbl:=cU hbc
               obtain ⟨ls',s1,s2,s3⟩:=iQ c1 hbc hall hi
               have hnew:R Γ (.arr len' u') (xs.set k y) false [.agg ls'.flatten]:=⟨_,rfl,by rw[List.length_set]; exact hlen,ls',rfl,s1⟩
               obtain ⟨g1,g2,g3,g4,g5,g6⟩:=kj (u:=⟨u,v⟩) (w:=⟨.arr len' u',xs.set k y⟩) k6 k1 k2 hnew rfl hxx
               have hag:c.isAgg=true:=by rcases g6 with h | h<;>simp_all [AVal.isAgg]
               have hpc:putCells c off (.agg ls'.flatten)=putCells c (off+k*n) b:=by
                 cases c<;>first | (cases hag; done) | skip
                 rename_i cc
                 simp only[putCells]
                 congr 1
                 have q1':cc=pre++(cs++post):=q1
                 have:=ah0 (pre:=pre) (post:=post) (l:=cs) (wc:=b.cells) (off:=off) (a:=k*n) (n:=n) q2 (by omega) (by rw[hls]; exact s3)
                 rw[q1']
                 rw[hls] at this ⊢
                 simp only[AVal.cells,s2]
                 exact this
               have hle:off+k*n+b.cells.length≤c.cells.length:=by
                 rw[q1]; simp only[List.length_append]; rw[hls]; omega
               refine .ok (a:=.any) (st':=st.set r (.row e u.size [putCells c (off+k*n) b])) Γ ?_ (.inl rfl) (hm.set (dQ hreg (by simp)) hg ?_) (fun _ _ _ h=>h) (.set (by intro _ _ _ h; cases h) (by intro _ _ h; cases h))
               · simp only[jc,bb,k5,List.length_cons,List.length_nil,if_true,List.getElem?_cons_zero,Option.map_some,rowTy]
                 rw[if_pos ⟨hfit,hle,.inl hag⟩]
                 simp
               · refine ⟨c7,c8,by rw[c9]; exact k3,r,putCells c (off+k*n) b,by rw[c9]; exact hg,?_,by rw[← hpc]; exact g1⟩
                 rw[List.getElem?_set_self (hm.lt _ _ _ _ hg),c9]
           · exact .no
         · exact .no
       · split
         · rename_i kk z
           cases hc:(Nat.beq n 1&&u.isAgg) with
           | false=>exact .no
           | true =>
             simp only[Bool.and_eq_true,Nat.beq_eq] at hc
             obtain ⟨c1,c2⟩:=hc
             refine .opt fun y hy => ?_
             simp only[R] at hw
             cases hw
             have hca:=ta k1 k6
             rw[c2] at hca
             cases c<;>try (cases hca; done)
             rename_i cs
             obtain ⟨q1,q2⟩:=tL (bL k1 k6) hy
             have q1:off+k*n<cs.length:=q1
             have hpc:putCells (.agg cs) (off+k*n) (.int kk z) = .agg (cs.set (off+k*n) (.int kk z)):=by
               simp only[putCells,AVal.cells,List.length_cons,List.length_nil]
               rw[List.set_eq_take_append_cons_drop,if_pos q1]
               simp
             refine .ok (a:=.any) (st':=st.set r (.row e u.size [putCells (.agg cs) (off+k*n) (.int kk z)])) Γ ?_ (.inl rfl) (hm.set (dQ hreg (by simp)) hg ?_) (fun _ _ _ h=>h) (.set (by intro _ _ _ h; cases h) (by intro _ _ h; cases h))
             · simp only[jc,bb,k5,List.length_cons,List.length_nil,if_true,List.getElem?_cons_zero,Option.map_some,rowTy]
               rw[if_pos ⟨hfit,by simp only[AVal.cells,List.length_cons,List.length_nil]; omega,.inl rfl⟩]
               simp
             · refine ⟨k1,k2,k3,r,putCells (.agg cs) (off+k*n) (.int kk z),hg,?_,?_⟩
               · rw[List.getElem?_set_self (hm.lt _ _ _ _ hg)]
               · rw[hpc]
                 cases u<;>try (cases c2; done)
                 · exact ⟨_,rfl,q2⟩
                 · cases hy
         · exact .no
     · exact .no
   · exact .no
theorem sO (hm:MemR Φ Γ m st) {ro:Bool}{t:TypeId}{w:TV}{b:AVal} (hw:R Γ w.t w.v false [b]):OkM Φ d Γ m st (abox P t b st) (boxT P ro t w m):=by
 unfold boxT
 cases hf:(kc P t w.t&&(!ro||w.t.closed)) with
 | false=>exact .no
 | true =>
   rw[Bool.and_eq_true] at hf
   obtain ⟨hf,hc⟩:=hf
   have hfit:=aaM hf hw
   obtain ⟨f1,f2,f3⟩:=qJ hf
   have hl:=cU (bL f1 hw)
   refine .ok (a:=.ptr st.length 1 0 0) (st':=st++[.row t b.cells.length [b]]) (more Γ m.length (.inr (st.length,w.t.size,1))) ?_ (.inr ⟨rfl,st.length,w.t.size,bl,rfl⟩) (hm.more ?_) (fun j y _ h=>bX hm j y h) .more
   · simp only[abox,hfit,if_true]
   · rw[hl]
     have hat:(st++[AReg.row t w.t.size [b]])[st.length]? = some (.row t w.t.size [b]):=by simp
     cases ro with
     | false=>exact ⟨f1,f2,f3,st.length,b,bl,hat,bC (fun j x _ hx=>bX hm j x hx) hw⟩
     | true=>exact ⟨f1,by simpa using hc,f2,f3,st.length,b,bl,hat,bC (fun j x _ hx=>bX hm j x hx) hw⟩
theorem abp (hm:MemR Φ Γ m st) {ro:Bool}{t:TypeId}:OkM Φ d Γ m st (jf P t st) (abq P ro t m):=by
 unfold abq
 split
 · rename_i z hz
   obtain ⟨h1,a,h2,h3⟩:=hJ (Γ:=Γ) hz
   have:=sO (d:=d) (P:=P) (ro:=ro) (t:=t) hm h3
   unfold jf
   rw[h2,Option.bind_some]
   exact this
 · exact .no
theorem p7:∀ {rows:List (Nat×Ty)}{Γ:Ctx}{m:Mem},kY rows=true→MemR Φ Γ m st →
   ∃ Γ',MemR Φ Γ' (m++iE rows) st∧(∀ j y,Γ j=some y→Γ' j=some y)∧Pers m (m++iE rows)∧(∀ j,m.length≤j→j<m.length+rows.length→Γ' j=some (.inl false))
 | [],Γ,m,h,hm=>⟨Γ,by simpa [iE] using hm,fun _ _ h=>h,by simpa [iE] using Pers.refl m,fun j h1 h2=>by simp at h2; omega⟩
 | (e,u)::l,Γ,m,h,hm=>by
   simp only[kY,Bool.and_eq_true,Bool.not_eq_true'] at h
   obtain ⟨⟨⟨⟨h1,h2⟩,h3⟩,h4⟩,h5⟩:=h
   have hm':=hm.moreNil (g:=.row true e u []) ⟨h1,h2,h3,(by intro e; rw[e] at h4; cases h4),.inl ⟨rfl,false,bl,fun _=>rfl⟩⟩
   obtain ⟨Γ',k1,k2,k3,k4⟩:=p7 h5 hm'
   have e2:m++iE ((e,u)::l)=(m++[.row true e u []])++iE l:=by simp[iE]
   rw[e2]
   refine ⟨Γ',k1,fun j y hy=>k2 j y (bX hm j y hy),Pers.more.trans k3,fun j g1 g2 => ?_⟩
   by_cases hj:j=m.length
   · subst hj; exact k2 _ _ bl
   · refine k4 j ?_ ?_
     · simp only[List.length_append,List.length_cons,List.length_nil]; omega
     · simp only[List.length_append,List.length_cons,List.length_nil] at g2 ⊢; omega
theorem ah9 (hm:MemR Φ Γ m st) {t:TypeId}{u:Ty}{rows:List (Nat×Ty)}:OkM Φ d Γ m st (jf P t st) (newT P t u rows m):=by
 unfold newT
 split
 · rename_i z hz
   cases hr:kY rows with
   | false=>exact .no
   | true =>
     simp only[cond_true]
     split
     · rename_i x hx
       obtain ⟨h1,a,h2,h3⟩:=hJ (Γ:=Γ) hz
       obtain ⟨Γ1,k1,k2,k3,k4⟩:=p7 hr hm
       have hxr:R Γ1 u x false [a]:=eu (w:=z) (p:=fun _=>True) (Γ:=Γ) ⟨fun j _ y hy=>k2 j y hy,fun j _ hf=>by
         simp only[Bool.and_eq_true,Nat.ble_eq] at hf
         exact ⟨_,k4 j hf.1 (by omega)⟩⟩ (fun _ _=>trivial) hx h3
       have:=sO (d:=d) (P:=P) (ro:=false) (t:=t) (w:=⟨u,x⟩) k1 hxr
       unfold jf
       rw[h2,Option.bind_some]
       intro X K x hx
       obtain ⟨w,m',k,a',st',Γ',q1,q2,q3,q4,q5,q6⟩:=this X K x hx
       exact ⟨w,m',k,a',st',Γ',q1,q2,q3,q4,fun j y hk hy=>q5 j y hk (k2 j y hy),k3.trans q6⟩
     · exact .no
 · exact .no
end
end Go.TY
namespace Go.TY
open Go.EM
section
variable {Φ:Frame}{Γ:Ctx}{m:Mem}{st:ar}{P:Program}{d:Option Nat}
theorem lD {j:Nat}{Γ':Ctx} (he:∀ i y,i≠j→Γ i=some y→Γ' i=some y):∀ {t:Ty}{v:t.V}{c:Bool}{l:List AVal},R Γ t v c l→(cw j t v).t.names j=false→R Γ' (cw j t v).t (cw j t v).v c l
 | .agg t,v,c,l,h,hn=>by
   simp only[cw] at hn ⊢
   cases c<;>simp only[R] at h ⊢
   · obtain ⟨cs,rfl,h⟩:=h
     exact ⟨cs,rfl,lD he (t:=t) h hn⟩
   · exact lD he (t:=t) h hn
 | .cons t ts,v,c,l,h,hn=>by
   simp only[cw,Ty.names,Bool.or_eq_false_iff] at hn ⊢
   simp only[R] at h ⊢
   obtain ⟨l1,l2,rfl,h1,h2⟩:=h
   exact ⟨l1,l2,rfl,lD he h1 hn.1,lD he h2 hn.2⟩
 | .own i,v,c,l,h,hn=>by
   simp only[cw] at hn ⊢
   cases hb:Nat.beq i j with
   | true =>
     simp only[cond_true,R] at h ⊢
     split at h
     · exact ⟨_,h,rfl⟩
     · rcases h with h | ⟨_,_,h⟩<;>exact ⟨_,h,rfl⟩
     · exact h.elim
   | false =>
     rw[hb,cond_false] at hn
     exact bC (t:=.own i) (fun k y hk hy=>he k y (fun e=>by rw[e] at hk; rw[hk] at hn; cases hn) hy) h
 | .ptr i off,v,c,l,h,hn=>by
   simp only[cw] at hn ⊢
   cases hb:Nat.beq i j with
   | true =>
     simp only[cond_true,R] at h ⊢
     obtain ⟨_,_,_,_,h⟩:=h
     exact ⟨_,h,rfl⟩
   | false =>
     rw[hb,cond_false] at hn
     exact bC (t:=.ptr i off) (fun k y hk hy=>he k y (fun e=>by rw[e] at hk; rw[hk] at hn; cases hn) hy) h
 | .ba i off en ln,v,c,l,h,hn=>by
   simp only[cw] at hn ⊢
   cases hb:Nat.beq i j with
   | true =>
     simp only[cond_true,R] at h ⊢
     obtain ⟨_,_,_,_,h⟩:=h
     exact ⟨_,h,rfl⟩
   | false =>
     rw[hb,cond_false] at hn
     exact bC (t:=.ba i off en ln) (fun k y hk hy=>he k y (fun e=>by rw[e] at hk; rw[hk] at hn; cases hn) hy) h
 | .vw i,v,c,l,h,hn=>by
   simp only[cw] at hn ⊢
   cases hb:Nat.beq i j with
   | true =>
     simp only[cond_true,R] at h ⊢
     obtain ⟨_,_,_,_,h⟩:=h
     exact ⟨_,h,rfl⟩
   | false =>
     rw[hb,cond_false] at hn
     exact bC (t:=.vw i) (fun k y hk hy=>he k y (fun e=>by rw[e] at hk; rw[hk] at hn; cases hn) hy) h
 | .int _,v,c,l,h,hn=>bC (t:=.int _) (fun k y hk=>by cases hk) h
 | .bool,v,c,l,h,hn=>bC (t:=.bool) (fun k y hk=>by cases hk) h
 | .str,v,c,l,h,hn=>bC (t:=.str) (fun k y hk=>by cases hk) h
 | .sl t,v,c,l,h,hn=>bC (t:=.sl t) (fun k y hk hy=>he k y (fun e=>by rw[e] at hk; simp only[cw] at hn; rw[hk] at hn; cases hn) hy) h
 | .arr n t,v,c,l,h,hn=>bC (t:=.arr n t) (fun k y hk hy=>he k y (fun e=>by rw[e] at hk; simp only[cw] at hn; rw[hk] at hn; cases hn) hy) h
 | .tup t,v,c,l,h,hn=>bC (t:=.tup t) (fun k y hk hy=>he k y (fun e=>by rw[e] at hk; simp only[cw] at hn; rw[hk] at hn; cases hn) hy) h
 | .unit,v,c,l,h,hn=>bC (t:=.unit) (fun k y hk=>by cases hk) h
 | .nilsl,v,c,l,h,hn=>bC (t:=.nilsl) (fun k y hk=>by cases hk) h
 | .nilp,v,c,l,h,hn=>bC (t:=.nilp) (fun k y hk=>by cases hk) h
 | .fn f,v,c,l,h,hn=>bC (t:=.fn f) (fun k y hk=>by cases hk) h
 | .err,v,c,l,h,hn=>bC (t:=.err) (fun k y hk=>by cases hk) h
 | .undef,v,c,l,h,hn=>bC (t:=.undef) (fun k y hk=>by cases hk) h
 | .any,v,c,l,h,hn=>bC (t:=.any) (fun k y hk=>by cases hk) h
 | .it i,v,c,l,h,hn=>bC (t:=.it i) (fun k y hk hy=>he k y (fun e=>by rw[e] at hk; simp only[cw] at hn; rw[hk] at hn; cases hn) hy) h
 | .mp i,v,c,l,h,hn=>bC (t:=.mp i) (fun k y hk hy=>he k y (fun e=>by rw[e] at hk; simp only[cw] at hn; rw[hk] at hn; cases hn) hy) h
 | .bx i o,v,c,l,h,hn=>bC (t:=.bx i o) (fun k y hk hy=>he k y (fun e=>by rw[e] at hk; simp only[cw] at hn; rw[hk] at hn; cases hn) hy) h
 | .op i,v,c,l,h,hn=>bC (t:=.op i) (fun k y hk hy=>he k y (fun e=>by rw[e] at hk; simp only[cw] at hn; rw[hk] at hn; cases hn) hy) h
 | .rp t o,v,c,l,h,hn=>bC (t:=.rp t o) (fun k y hk hy=>he k y (fun e=>by rw[e] at hk; simp only[cw] at hn; rw[hk] at hn; cases hn) hy) h
 | .orp t o,v,c,l,h,hn=>bC (t:=.orp t o) (fun k y hk hy=>he k y (fun e=>by rw[e] at hk; simp only[cw] at hn; rw[hk] at hn; cases hn) hy) h
 | .cl o t,v,c,l,h,hn=>bC (t:=.cl o t) (fun k y hk hy=>he k y (fun e=>by rw[e] at hk; simp only[cw] at hn; rw[hk] at hn; cases hn) hy) h
theorem fo {j:Nat}:∀ {t:Ty}{v:t.V},(cw j t v).t.size=t.size∧(cw j t v).t.isV=t.isV∧(t.okRow=true→(cw j t v).t.okRow=true)
 | .agg t,v=>by
   obtain ⟨h1,h2,h3⟩:=fo (j:=j) (t:=t) (v:=v)
   simp only[cw]
   refine ⟨h1,rfl,fun h => ?_⟩
   simp only[Ty.okRow,Bool.and_eq_true,Bool.not_eq_true'] at h ⊢
   exact ⟨by rw[h2]; exact h.1,h3 h.2⟩
 | .cons t ts,v=>by
   obtain ⟨h1,h2,h3⟩:=fo (j:=j) (t:=t) (v:=v.1)
   obtain ⟨g1,g2,g3⟩:=fo (j:=j) (t:=ts) (v:=v.2)
   simp only[cw]
   refine ⟨by simp only[Ty.size,h1,g1],rfl,fun h => ?_⟩
   simp only[Ty.okRow,Bool.and_eq_true] at h ⊢
   exact ⟨⟨by rw[h2]; exact h.1.1,h3 h.1.2⟩,g3 h.2⟩
 | .own i,v=>by
   simp only[cw]
   cases Nat.beq i j<;>exact ⟨rfl,rfl,fun _=>rfl⟩
 | .ptr i o,v=>by
   simp only[cw]
   cases Nat.beq i j<;>exact ⟨rfl,rfl,fun _=>rfl⟩
 | .ba i o en ln,v=>by
   simp only[cw]
   cases Nat.beq i j<;>exact ⟨rfl,rfl,fun _=>rfl⟩
 | .vw i,v=>by
   simp only[cw]
   cases Nat.beq i j<;>exact ⟨rfl,rfl,fun _=>rfl⟩
 | .int _,v=>⟨rfl,rfl,fun h=>h⟩
 | .bool,v=>⟨rfl,rfl,fun h=>h⟩
 | .str,v=>⟨rfl,rfl,fun h=>h⟩
 | .sl t,v=>⟨rfl,rfl,fun h=>h⟩
 | .arr _ t,v=>⟨rfl,rfl,fun h=>h⟩
 | .tup t,v=>⟨rfl,rfl,fun h=>h⟩
 | .unit,v=>⟨rfl,rfl,fun h=>h⟩
 | .nilsl,v=>⟨rfl,rfl,fun h=>h⟩
 | .nilp,v=>⟨rfl,rfl,fun h=>h⟩
 | .fn f,v=>⟨rfl,rfl,fun h=>h⟩
 | .err,v=>⟨rfl,rfl,fun h=>h⟩
 | .undef,v=>⟨rfl,rfl,fun h=>h⟩
 | .any,v=>⟨rfl,rfl,fun h=>h⟩
 | .it i,v=>⟨rfl,rfl,fun h=>h⟩
 | .mp i,v=>⟨rfl,rfl,fun h=>h⟩
 | .bx i o,v=>⟨rfl,rfl,fun h=>h⟩
 | .op i,v=>⟨rfl,rfl,fun h=>h⟩
 | .rp t o,v=>⟨rfl,rfl,fun h=>h⟩
 | .orp t o,v=>⟨rfl,rfl,fun h=>h⟩
 | .cl o t,v=>⟨rfl,rfl,fun h=>h⟩
theorem oW {j id:Nat}{Γ':Ctx}{st':ar}{g:Reg} (he:∀ i y,i≠j→Γ i=some y→Γ' i=some y) (hne:id≠j) (hs:∀ r n l,Γ id=some (.inr (r,n,l))→st'[r]? = st[r]?) (h:RegR Γ st id g):RegR Γ' st' id (oX j g):=by
 cases g with
 | box e t v =>
   obtain ⟨h1,h2,h3,r,a,h4,h5,h6⟩:=h
   simp only[oX]
   cases hn:t.names j with
   | false =>
     exact ⟨h1,h2,h3,r,a,he _ _ hne h4,by rw[hs _ _ _ h4]; exact h5,bC (fun k y hk hy=>he k y (fun e=>by rw[e] at hk; rw[hk] at hn; cases hn) hy) h6⟩
   | true =>
     simp only[cond_true]
     cases hk:(cw j t v).t.names j with
     | true=>trivial
     | false =>
       obtain ⟨k1,k2,k3⟩:=fo (j:=j) (t:=t) (v:=v)
       refine ⟨by rw[k2]; exact h1,k3 h2,by rw[k1]; exact h3,r,a,by rw[k1]; exact he _ _ hne h4,by rw[hs _ _ _ h4,k1]; exact h5,lD he h6 hk⟩
 | cbox e t v =>
   obtain ⟨h1,h0,h2,h3,r,a,h4,h5,h6⟩:=h
   exact ⟨h1,h0,h2,h3,r,a,he _ _ hne h4,by rw[hs _ _ _ h4]; exact h5,a7 h0 h6⟩
 | row z e t xs =>
   simp only[oX]
   cases hn:t.names j with
   | true=>trivial
   | false =>
     obtain ⟨h1,h2,h3,h4,h5⟩:=h
     refine ⟨h1,h2,h3,h4,?_⟩
     rcases h5 with ⟨h5,h6⟩ | ⟨r,as,h5,h6,h7,h8⟩
     · obtain ⟨b,h6,h7⟩:=h6; exact .inl ⟨h5,b,he _ _ hne h6,h7⟩
     · exact .inr ⟨r,as,he _ _ hne h5,by rw[hs _ _ _ h5]; exact h6,aN (p:=fun x a=>R Γ t x false [a]) (fun x a hx=>a7 h2 hx) h7,h8⟩
 | iter s pos =>
   obtain ⟨r,h1,h2⟩:=h
   exact ⟨r,he _ _ hne h1,by rw[hs _ _ _ h1]; exact h2⟩
 | map k v xs =>
   obtain ⟨h1,h2,h3,h4,r,es,h5,h6,h7⟩:=h
   exact ⟨h1,h2,h3,h4,r,es,he _ _ hne h5,by rw[hs _ _ _ h5]; exact h6,aN (p:=fun (p:k.V×v.V) (e:AVal×AVal)=>R Γ k p.1 false [e.1]∧R Γ v p.2 false [e.2]) (fun x a hx=>⟨a7 h3 hx.1,a7 h4 hx.2⟩) h7⟩
 | gone=>trivial
theorem eI:∀ {m:Mem}{i j:Nat},i<m.length→getM (lE j m) i=oX j (getM m i)
 | _::m,0,j,_=>rfl
 | _::m,i+1,j,h=>eI (m:=m) (by simpa using h)
 | [],i,j,h=>by simp at h
theorem bE:∀ {m:Mem}{j:Nat},(lE j m).length=m.length
 | [],j=>rfl
 | _::m,j=>by simp[lE,bE]
def grown (Γ:Ctx) (id:Nat) (y:Nat×Nat×Nat):Ctx:=fun j=>if j=id then some (.inr y) else Γ j
theorem o9 {id:Nat}{y:Nat×Nat×Nat}:∀ i x,i≠id→Γ i=some x→grown Γ id y i=some x:=by
 intro i x hi hx
 simp only[grown,if_neg hi]; exact hx
theorem jC {j:Nat}{g:Reg}:(∀ e t v,oX j g = .cbox e t v→g = .cbox e t v)∧(∀ s p,oX j g = .iter s p→g = .iter s p):=by
 cases g with
 | box e t v =>
   simp only[oX]
   cases t.names j with
   | false=>exact ⟨(fun _ _ _ h=>by cases h),(fun _ _ h=>by cases h)⟩
   | true =>
     simp only[cond_true]
     cases (cw j t v).t.names j with
     | false=>exact ⟨(fun _ _ _ h=>by cases h),(fun _ _ h=>by cases h)⟩
     | true=>exact ⟨(fun _ _ _ h=>by cases h),(fun _ _ h=>by cases h)⟩
 | cbox e t v=>exact ⟨(fun _ _ _ h=>h),(fun _ _ h=>by cases h)⟩
 | row z e t xs =>
   simp only[oX]
   cases t.names j with
   | false=>exact ⟨(fun _ _ _ h=>by cases h),(fun _ _ h=>by cases h)⟩
   | true=>exact ⟨(fun _ _ _ h=>by cases h),(fun _ _ h=>by cases h)⟩
 | iter s p=>exact ⟨(fun _ _ _ h=>by cases h),(fun _ _ h=>h)⟩
 | map k v xs=>exact ⟨(fun _ _ _ h=>by cases h),(fun _ _ h=>by cases h)⟩
 | gone=>exact ⟨(fun _ _ _ h=>by cases h),(fun _ _ h=>by cases h)⟩
theorem Pers.kill {id:Nat}{g:Reg} (h1:∀ e t v,g ≠ .cbox e t v) (h2:∀ s p,g ≠ .iter s p):Pers m (setM (lE id m) id g) where
 len:=by rw[cf,bE]; exact Nat.le_refl _
 cbox j hj e t v h:=by
   by_cases e':id=j
   · subst e'; rw[bG (by rw[bE]; exact hj)] at h; exact absurd h (h1 _ _ _)
   · rw[bF e',eI hj] at h; exact jC.1 _ _ _ h
 iter j hj s p h:=by
   by_cases e':id=j
   · subst e'; rw[bG (by rw[bE]; exact hj)] at h; exact absurd h (h2 _ _)
   · rw[bF e',eI hj] at h; exact ⟨p,jC.2 _ _ h⟩
theorem MemR.grow (hm:MemR Φ Γ m st) {id:Nat}{g:Reg}{r n l:Nat}{st':ar} (hid:id<m.length) (hst:st.length≤st'.length)
   (hs:∀ i r' n' l',i≠id→Γ i=some (.inr (r',n',l'))→st'[r']? = st[r']?) (hr:r<st'.length) (hfr:∀ i r' n' l',i≠id→Γ i=some (.inr (r',n',l'))→r'≠r) (hg:RegR (grown Γ id (r,n,l)) st' id g) (hΦ:∀ r' g,Φ r'=some g→st'[r']? = some g) (hd:∀ g,Φ r≠some g):MemR Φ (grown Γ id (r,n,l)) (setM (lE id m) id g) st' where
 reg j hj:=by
   rw[cf,bE] at hj
   by_cases e:id=j
   · subst e; rw[bG (by rw[bE]; exact hid)]; exact hg
   · rw[bF e,eI hj]
     exact oW o9 (fun e'=>e e'.symm) (fun r' n' l' h=>hs j r' n' l' (fun e'=>e e'.symm) h) (hm.reg j hj)
 out j hj:=by
   rw[cf,bE] at hj
   simp only[grown]
   rw[if_neg (by omega)]
   exact hm.out j hj
 inj i j r' n' l' n'' l'' hi hj:=by
   simp only[grown] at hi hj
   split at hi<;>split at hj
   · rename_i e1 e2; rw[e1,e2]
   · rename_i e1 e2; cases hi; exact absurd rfl (hfr _ _ _ _ e2 hj)
   · rename_i e1 e2; cases hj; exact absurd rfl (hfr _ _ _ _ e1 hi)
   · exact hm.inj _ _ _ _ _ _ _ hi hj
 lt i r' n' l' hi:=by
   simp only[grown] at hi
   split at hi
   · cases hi; exact hr
   · have:=hm.lt _ _ _ _ hi; omega
 old:=hΦ
 dis r' g i n' l' h hi:=by
   simp only[grown] at hi
   split at hi
   · cases hi; exact hd g h
   · exact hm.dis r' g i n' l' h hi
theorem sE (hm:MemR Φ Γ m st) {u:Ty}{y:TV}{ys:List u.V}{b:AVal}{n:Nat} (hn:u.size=n) (h:aa9 m u y=some ys) (hy:R Γ y.t y.v false [b]):∃ bs,bN st n b=some bs∧All2 (fun x a=>R Γ u x false [a]) ys bs:=by
 unfold aa9 at h
 split at h
 · cases h; simp only[R] at hy; cases hy; exact ⟨[],rfl,trivial⟩
 · rename_i t xs
   obtain ⟨e,hx⟩:=bh h
   cases e
   subst hx
   simp only[R] at hy
   rcases hy with ⟨rfl,hy⟩ | ⟨f,n',as,hy,hn',h2⟩
   · cases hy; exact ⟨[],rfl,trivial⟩
   · cases hy
     refine ⟨as,?_,h2⟩
     simp only[bN]
     rw[if_pos]
     rcases hn' with rfl | hn'
     · right; rw[bq h2]; rfl
     · left; exact hn'.trans hn
 · rename_i id _
   split at h
   · rename_i e t xs hg
     obtain ⟨e',hx⟩:=bh h
     cases e'
     subst hx
     have hr:=hm.at id
     rw[hg] at hr
     obtain ⟨k1,k2,k3,k4,k5⟩:=hr
     simp only[R] at hy
     rcases k5 with ⟨rfl,k5⟩ | ⟨r,as,k5,k6,k7,k8⟩
     · obtain ⟨_,k5,_⟩:=k5
       rw[k5] at hy
       rcases hy with hy | ⟨_,n',hy⟩
       · cases hy; exact ⟨[],rfl,trivial⟩
       · cases hy; exact ⟨[],by simp[bN],trivial⟩
     · rw[k5] at hy; cases hy
       refine ⟨as,?_,k7⟩
       have hl:=bq k7
       simp only[bN,if_pos hn,EM.rowAt,k6,hl,and_self,if_true,Option.map_some,List.drop_zero]
       rw[List.take_of_length_le (by omega)]
   · cases h
 · split at h
   · cases h
     simp only[R] at hy; cases hy
     rename_i s _
     have hn1:n=1:=hn.symm
     refine ⟨s.map fun b=>.int .u8 b.toNat,by simp only[bN,if_pos hn1],?_⟩
     clear hn1
     induction s with
     | nil=>trivial
     | cons c s ih=>exact ⟨rfl,ih⟩
   · cases h
 · cases h
theorem nj {n:Nat}{u:Unit} (h:eT n=some u):n<most:=(dK h).1
theorem fx {t:TypeId}{n:Nat}{z:AVal} (h:da P t=some (n,z)):zeroOf P (bt P t)=some z∧n≠0:=by
 unfold da at h
 split at h
 · rename_i e hu
   split at h
   · rename_i i hi
     split at h
     · rename_i z' hz
       split at h
       · rename_i hc
         cases h
         refine ⟨?_,hc.1⟩
         have:bt P t=e:=by simp only[bt,hu]
         rw[this]
         simp only[zeroOf,hi,Option.bind_some,hz,Option.map_some]
       · cases h
     · cases h
   · cases h
 · cases h
theorem ahT (hm:MemR Φ Γ m st) {z:Bool}{e:Nat}{u:Ty}{xs:List u.V}{as:List AVal} (h1:u.isV=true) (h2:u.closed=true) (h3:u.okRow=true) (h4:u.size≠0) (hr:All2 (fun x a=>R Γ u x false [a]) xs as) (hz:z=true→xs≠[]) :
   RegR (more Γ m.length (.inr (st.length,u.size,xs.length))) (st++[.row e u.size as]) m.length (.row z e u xs) :=
 ⟨h1,h2,h3,h4,.inr ⟨st.length,as,bl,by simp,aN (p:=fun x a=>R Γ u x false [a]) (fun x a hx=>a7 h2 hx) hr,hz⟩⟩
theorem iP (hm:MemR Φ Γ m st) {z:Bool}{e n:Nat}{u:Ty}{xs:List u.V}{as:List AVal}{ares:Option (AVal×ar)} (hn:u.size=n) (h1:u.isV=true) (h2:u.closed=true) (h3:u.okRow=true) (h4:u.size≠0) (hr:All2 (fun x a=>R Γ u x false [a]) xs as) (hz:z=true→xs≠[])
   (ha:ares=some (bY st e n as)):OkM Φ d Γ m st ares (.ok ⟨.own m.length,()⟩ (m++[.row z e u xs]) none):=by
 subst hn
 refine .ok (a:=.own st.length u.size xs.length 0 xs.length) (st':=st++[.row e u.size as]) (more Γ m.length (.inr (st.length,u.size,xs.length))) (by rw[ha,bY,bq hr]) (.inr ⟨rfl,by simp only[R,bl]⟩) (hm.more (ahT hm h1 h2 h3 h4 hr hz)) (fun j y _ h=>bX hm j y h) .more
theorem fp {A:Type}{l:List A}:l.isEmpty=true→l=[]:=by cases l<;>simp
theorem wP (hm:MemR Φ Γ m st) {ty:List (Nat×Ty)}{tys:List TypeId}{x y:TV}{a b:AVal} (hx:R Γ x.t x.v false [a]) (hy:R Γ y.t y.v false [b]):OkM Φ d Γ m st (dO P tys a b st) (sS P ty tys x y m):=by
 unfold sS
 split
 · rename_i t u
   split
   · rename_i n z du et he hu hl
     cases hc:(!adH du&&Nat.beq et.size n&&et.isV&&et.closed&&et.okRow) with
     | false=>exact .no
     | true =>
       simp only[Bool.and_eq_true,Nat.beq_eq,Bool.not_eq_true'] at hc
       obtain ⟨⟨⟨⟨c0,c1⟩,c2⟩,c3⟩,c4⟩:=hc
       have hn0:=(fx he).2
       have c5:et.size≠0:=by rw[c1]; exact hn0
       simp only[cond_true]
       split
       · rename_i ys hys
         obtain ⟨bs,hb1,hb2⟩:=sE hm c1 hys hy
         have hbl:=bq hb2
         have hop:dO P [t,u] a b st=ey P t a bs st:=by
           unfold dO
           simp only[he,hu]
           cases du<;>first | (cases c0; done) | (simp only[hb1,Option.bind_some])
         rw[hop]
         split
         · simp only[R] at hx; cases hx
           refine .opt fun _ hroom => ?_
           have hroom:=nj hroom
           cases hem:bs.isEmpty with
           | true =>
             have hbs:=fp hem
             have hys':ys=[]:=by cases ys with | nil=>rfl | cons _ _=>rw[hbs] at hbl; simp at hbl
             subst hys'
             refine .ok (a:=.nil) (st':=st) (more Γ m.length (.inl false)) (by simp only[ey,he,hem,cond_true]) (.inr ⟨rfl,by simp only[R,bl]; exact .inl trivial⟩) (hm.moreNil ⟨c2,c3,c4,c5,.inl ⟨rfl,false,bl,fun _=>rfl⟩⟩) (fun j y _ h=>bX hm j y h) .more
           | false =>
             refine iP hm c1 c2 c3 c4 c5 hb2 (fun _ e=>by subst e; cases bs with | nil=>simp at hem | cons _ _=>exact hb2.elim) ?_
             simp only[ey,he,hem,cond_false]
             rw[if_pos (by omega)]
         · rename_i id _
           split
           · rename_i zf e t' xs hg
             cases hcc:(Nat.beq e (bt P t)&&Nat.ble (id+1) m.length) with
             | false=>exact .no
             | true =>
               simp only[Bool.and_eq_true,Nat.beq_eq,Nat.ble_eq] at hcc
               obtain ⟨hce,hid⟩:=hcc
               subst hce
               simp only[cond_true]
               split
               · rename_i xs' hxs
                 obtain ⟨e',hxx⟩:=bh hxs
                 cases e'
                 subst hxx
                 refine .opt fun _ hroom => ?_
                 have hroom:=nj hroom
                 have hr:=hm.at id
                 rw[hg] at hr
                 obtain ⟨k1,k2,k3,k4,k5⟩:=hr
                 have hp:Pers m (setM (lE id m) id (.row zf (bt P t) et (xs'++ys))):=.kill (by intro _ _ _ h; cases h) (by intro _ _ h; cases h)
                 simp only[R] at hx
                 rcases k5 with ⟨rfl,k5⟩ | ⟨r,as,k5,k6,k7,k8⟩
                 · obtain ⟨bz,k5,kz⟩:=k5
                   rw[k5] at hx
                   have haE:bs.isEmpty=true→ey P t a bs st=some (a,st):=fun hem=>by
                     rcases hx with hx | ⟨_,n',hx⟩<;>cases hx<;>simp[ey,he,hem]
                   have haN:bs.isEmpty=false→bs.length<most→ey P t a bs st=some (bY st (bt P t) n bs):=fun hem hl=>by
                     rcases hx with hx | ⟨_,n',hx⟩<;>cases hx<;>simp[ey,he,hem,hl]
                   cases hem:bs.isEmpty with
                   | true =>
                     have hbs:=fp hem
                     have hys':ys=[]:=by cases ys with | nil=>rfl | cons _ _=>rw[hbs] at hbl; simp at hbl
                     subst hys'
                     have hk:MemR Φ Γ (setM (lE id m) id (.row zf (bt P t) et ([]++[]))) st:={
                       reg:=fun j hj=>by
                         rw[cf,bE] at hj
                         by_cases ej:id=j
                         · subst ej; rw[bG (by rw[bE]; omega)]; exact ⟨k1,k2,k3,k4,.inl ⟨rfl,bz,k5,kz⟩⟩
                         · rw[bF ej,eI hj]
                           exact oW (fun i y _ h=>h) (fun e'=>ej e'.symm) (fun r' n' l' h=>rfl) (hm.reg j hj)
                       out:=fun j hj=>hm.out j (by rw[cf,bE] at hj; exact hj)
                       inj:=hm.inj
                       lt:=hm.lt
                       old:=hm.old
                       dis:=hm.dis }
                     exact .ok (a:=a) (st':=st) Γ (haE hem) (.inr ⟨rfl,by simp only[R,k5]; exact hx⟩) hk (fun j y _ h=>h) hp
                   | false =>
                     have hne:ys≠[]:=fun e=>by subst e; cases bs with | nil=>simp at hem | cons _ _=>exact hb2.elim
                     have hlt:st.length<(st++[AReg.row (bt P t) et.size bs]).length:=by simp
                     refine .ok (a:=.own st.length n bs.length 0 bs.length) (st':=st++[.row (bt P t) n bs]) (grown Γ id (st.length,et.size,ys.length)) ?_ (.inr ⟨rfl,?_⟩) (hm.grow (by omega) (by simp) ?_ (by simp) ?_ ⟨k1,k2,k3,k4,.inr ⟨st.length,bs,?_,?_,aN (p:=fun x a=>R Γ et x false [a]) (fun x a hx=>a7 k2 hx) hb2,fun _ e=>hne (by simpa using e)⟩⟩ (fun r' g h=>by rw[List.getElem?_append_left (hm.oldlt h)]; exact hm.old r' g h) (fun g h=>Nat.lt_irrefl _ (hm.oldlt h))) (fun j y hj h=>o9 j y (fun e'=>hj (by rw[e'])) h) hp
                     · rw[haN hem (by simp at hroom; omega)]
                       rfl
                     · simp only[R,grown,if_true,hbl,c1]
                     · intro i r' n' l' _ h
                       exact List.getElem?_append_left (hm.lt _ _ _ _ h)
                     · intro i r' n' l' _ h e'
                       have:=hm.lt _ _ _ _ h
                       omega
                     · simp[grown]
                     · simp[c1]
                 · rw[k5] at hx; cases hx
                   have hal:=bq k7
                   have hrow:EM.rowAt st r et.size xs'.length=some as:=by simp only[EM.rowAt,k6,hal,and_self,if_true]
                   have hty:EM.rowTy st r=bt P t:=by simp only[EM.rowTy,k6]
                   cases hem:bs.isEmpty with
                   | true =>
                     have hbs:=fp hem
                     have hys':ys=[]:=by cases ys with | nil=>rfl | cons _ _=>rw[hbs] at hbl; simp at hbl
                     subst hys'
                     have hk:MemR Φ Γ (setM (lE id m) id (.row zf (bt P t) et (xs'++[]))) st:={
                       reg:=fun j hj=>by
                         rw[cf,bE] at hj
                         by_cases ej:id=j
                         · subst ej; rw[bG (by rw[bE]; omega),List.append_nil]; exact ⟨k1,k2,k3,k4,.inr ⟨r,as,k5,k6,k7,k8⟩⟩
                         · rw[bF ej,eI hj]
                           exact oW (fun i y _ h=>h) (fun e'=>ej e'.symm) (fun r' n' l' h=>rfl) (hm.reg j hj)
                       out:=fun j hj=>hm.out j (by rw[cf,bE] at hj; exact hj)
                       inj:=hm.inj
                       lt:=hm.lt
                       old:=hm.old
                       dis:=hm.dis }
                     refine .ok (a:=.own r et.size xs'.length 0 xs'.length) (st':=st) Γ ?_ (.inr ⟨rfl,by simp only[R,k5]⟩) hk (fun j y _ h=>h) hp
                     rw[c1] at hrow
                     simp only[ey,he,c1,hty,hrow,and_self,if_true,hem,cond_true]
                   | false =>
                     have hrl:=hm.lt _ _ _ _ k5
                     refine .ok (a:=.own r et.size (xs'.length+bs.length) 0 (xs'.length+bs.length)) (st':=st.set r (.row (bt P t) et.size (as++bs))) (grown Γ id (r,et.size,(xs'++ys).length)) ?_ (.inr ⟨rfl,?_⟩) (hm.grow (by omega) (by simp) ?_ (by simpa using hrl) ?_ ⟨k1,k2,k3,k4,.inr ⟨r,as++bs,?_,?_,cH (aN (p:=fun x a=>R Γ et x false [a]) (fun x a hx=>a7 k2 hx) k7) (aN (p:=fun x a=>R Γ et x false [a]) (fun x a hx=>a7 k2 hx) hb2),fun hz e=>k8 hz (List.append_eq_nil_iff.1 e).1⟩⟩ (fun r' g h=>by
                       have:r≠r':=fun e'=>hm.dis r' g id _ _ h (e' ▸ k5)
                       rw[List.getElem?_set_ne this]; exact hm.old r' g h) (fun g h=>hm.dis r g id _ _ h k5)) (fun j y hj h=>o9 j y (fun e'=>hj (by rw[e'])) h) hp
                     · rw[c1] at hrow
                       simp only[ey,he,c1,hty,hrow,and_self,if_true,hem,cond_false]
                       rw[if_pos (by omega)]
                     · simp only[R,grown,if_true,List.length_append,hbl]
                     · intro i r' n' l' hi h
                       have:r≠r':=fun e'=>hi (hm.inj _ _ _ _ _ _ _ (e' ▸ h) k5)
                       exact List.getElem?_set_ne this
                     · intro i r' n' l' hi h e'
                       exact hi (hm.inj _ _ _ _ _ _ _ (e' ▸ h) k5)
                     · simp[grown]
                     · rw[List.getElem?_set_self hrl]
               · exact .no
           · exact .no
         · exact .no
       · exact .no
   · exact .no
 · exact .no
end
end Go.TY
namespace Go.TY
open Go.EM
section
variable {Φ:Frame}{Γ:Ctx}{m:Mem}{st:ar}{P:Program}{d:Option Nat}
theorem acv (hm:MemR Φ Γ m st) {ty:List (Nat×Ty)}{t:TypeId}{l c:TV}{a b:AVal} (hl:R Γ l.t l.v false [a]) (hc:R Γ c.t c.v false [b]):OkM Φ d Γ m st (wQ P t a b st) (aia P ty t l c m):=by
 unfold aia
 split
 · rename_i n z et l' c' he het
   simp only[R] at hl hc; cases hl; cases hc
   split
   · rename_i z' hz'
     rw[Option.bind_eq_some_iff] at hz'
     obtain ⟨zt,hz1,hz2⟩:=hz'
     cases hcc:(Nat.beq et.size n&&et.isV&&et.closed&&et.okRow) with
     | false=>exact .no
     | true =>
       simp only[Bool.and_eq_true,Nat.beq_eq] at hcc
       obtain ⟨⟨⟨c1,c2⟩,c3⟩,c4⟩:=hcc
       obtain ⟨hzo,hn0⟩:=fx he
       obtain ⟨g1,za,g2,g3⟩:=hJ (Γ:=Γ) hz1
       rw[hzo] at g2; cases g2
       have hz:=ch hz2 g3
       refine .opt fun _ hmk => ?_
       obtain ⟨⟨h1,h2,h3⟩,_⟩:=dK hmk
       refine iP hm c1 c2 c3 c4 (by rw[c1]; exact hn0) (py (p:=fun x a=>R Γ et x false [a]) hz l'.toNat) (by simp) ?_
       have hcell:=dW c4 (bL c2 hz)
       simp only[wQ,he]
       rw[if_pos ⟨h1,h2,by simpa [most] using h3,hcell⟩]
   · exact .no
 · exact .no
theorem tH (s:List UInt8):∀ (b i:Nat) (acc:Array Value),(Conv.runesFrom ⟨s.toArray⟩ b i acc).toList=acc.toList++(eS s b i).map fun n=>Value.int .i32 n
 | 0,i,acc=>by simp[Conv.runesFrom,eS]
 | b+1,i,acc=>by
   unfold Conv.runesFrom eS
   have hs:(⟨s.toArray⟩:ByteArray).size=s.length:=by simp[ByteArray.size]
   rw[hs]
   by_cases h:i<s.length
   · simp only[h,if_true]
     rw[tH s b]
     simp
   · simp only[h,if_false,List.map_nil,List.append_nil]
theorem vF (s:List UInt8):jp s=(zD s).map fun n=>AVal.int .i32 n:=by
 unfold jp zD
 rw[tH]
 simp only[Array.toList_empty,List.nil_append,List.map_map]
 rfl
theorem pz {A B:Type}{p:A→B→Prop}{f:A→B} (h:∀ x,p x (f x)):∀ l:List A,All2 p l (l.map f)
 | []=>trivial
 | x::l=>⟨h x,pz h l⟩
theorem sV:∀ {xs:List Int}{as:List AVal},All2 (fun x a=>R Γ (.int .u8) x false [a]) xs as→bi as=some (xs.map fun n=>UInt8.ofNat n.toNat)
 | [],[],_=>rfl
 | x::xs,a::as,h=>by
   have h1:=h.1; simp only[R] at h1; cases h1
   simp only[bi,sV h.2,Option.map_some,List.map_cons]
theorem abm:∀ {xs:List Int}{as:List AVal},All2 (fun x a=>R Γ (.int .i32) x false [a]) xs as→cE as=some (xs.flatMap fun n=>(Utf8.encode n).data.toList)
 | [],[],_=>rfl
 | x::xs,a::as,h=>by
   have h1:=h.1; simp only[R] at h1; cases h1
   simp only[cE,abm h.2,Option.map_some,List.flatMap_cons]
theorem adN (hm:MemR Φ Γ m st) {id:Nat}{e:Nat}{u:Ty}{v:u.V} (h:getM m id = .box e u v):∃ r a,Γ id=some (.inr (r,u.size,1))∧bb st r 1 0=some (u.size,[a],a):=by
 have hr:=hm.at id
 rw[h] at hr
 obtain ⟨_,_,_,r,a,h1,h2,_⟩:=hr
 exact ⟨r,a,h1,by simp[bb,h2]⟩
theorem apu (hm:MemR Φ Γ m st) {id:Nat}{e:Nat}{u:Ty}{v:u.V} (h:getM m id = .box e u v) {r n:Nat} (hg:Γ id=some (.inr (r,n,1))):rowTy st r=e:=by
 have hr:=hm.at id
 rw[h] at hr
 obtain ⟨_,_,_,r',a,h1,h2,_⟩:=hr
 rw[hg] at h1; cases h1
 simp[rowTy,h2]
theorem fC (hm:MemR Φ Γ m st) {id:Nat} (h:dR m id=true):∃ r n xs a,Γ id=some (.inr (r,n,1))∧bb st r 1 0=some (n,xs,a):=by
 have hr:=hm.at id
 unfold dR at h
 split at h
 · rename_i e t v hg
   rw[hg] at hr
   obtain ⟨_,_,_,r,a,h1,h2,_⟩:=hr
   exact ⟨r,t.size,[a],a,h1,by simp[bb,h2]⟩
 · rename_i e t v hg
   rw[hg] at hr
   obtain ⟨_,_,_,_,r,a,h1,h2,_⟩:=hr
   exact ⟨r,t.size,[a],a,h1,by simp[bb,h2]⟩
 · cases h
theorem acY (hm:MemR Φ Γ m st) {src dst:TypeId}{x:TV}{a:AVal} (hx:R Γ x.t x.v false [a]):OkM Φ d Γ m st (gt P src dst a st) (aix P src dst x m):=by
 unfold aix
 split
 · rename_i e h1 h2
   split
   · rename_i s h3
     simp only[R] at hx; cases hx
     refine iP hm (n:=1) rfl rfl rfl rfl (by simp[Ty.size]) (pz (p:=fun (x:Int) a=>R Γ (.int .u8) x false [a]) (f:=fun n=>AVal.int .u8 n) (fun x=>rfl) _) (by simp) ?_
     simp only[gt,h1,h2,h3,List.map_map]
     rfl
   · rename_i s h3
     simp only[R] at hx; cases hx
     refine iP hm (n:=1) rfl rfl rfl rfl (by simp[Ty.size]) (pz (p:=fun (x:Int) a=>R Γ (.int .i32) x false [a]) (f:=fun n=>AVal.int .i32 n) (fun x=>rfl) _) (by simp) ?_
     simp only[gt,h1,h2,h3,vF]
   · exact .no
 · rename_i e h1 h2
   split
   · rename_i h3
     split
     · rename_i xs hxs
       obtain ⟨bs,hb1,hb2⟩:=sE hm (n:=1) rfl hxs hx
       refine .ok (a:=.str _) (st':=st) Γ ?_ (.inr ⟨rfl,rfl⟩) hm (fun _ _ _ h=>h) (.refl m)
       simp only[gt,h1,h2,h3,hb1,Option.bind_some,sV hb2,Option.map_some]
     · exact .no
   · rename_i h3
     split
     · rename_i xs hxs
       obtain ⟨bs,hb1,hb2⟩:=sE hm (n:=1) rfl hxs hx
       refine .ok (a:=.str _) (st':=st) Γ ?_ (.inr ⟨rfl,rfl⟩) hm (fun _ _ _ h=>h) (.refl m)
       simp only[gt,h1,h2,h3,hb1,Option.bind_some,abm hb2,Option.map_some]
     · exact .no
   · exact .no
 · rename_i t h1 h2
   split
   · rename_i id off _
     split
     · rename_i e u v hreg
       cases hc:(Nat.ble (off+1) u.size&&sized P t) with
       | false=>exact .no
       | true =>
         rw[Bool.and_eq_true] at hc
         have hb:=adN hm hreg
         obtain ⟨r,a',g1,g2⟩:=hb
         have hx':=hx
         simp only[R] at hx; obtain ⟨r',n,h3,h4⟩:=hx
         rw[g1] at h3; cases h3; cases h4
         refine .ok (a:=.ptr r 1 0 off) (st':=st) Γ ?_ (.inr ⟨rfl,hx'⟩) hm (fun _ _ _ h=>h) (.refl m)
         have hs:=hc.2
         unfold sized at hs
         split at hs
         · rename_i k hk
           simp only[gt,h1,h2,g2,hk,hc.1,cond_true]
         · cases hs
     · exact .no
   · exact .no
 · rename_i t h1 h2
   split
   · rename_i id off _
     split
     · rename_i e u v hreg
       split
       · rename_i k hk
         cases hc:(Nat.beq k u.size&&Nat.beq e t&&Nat.beq off 0) with
         | false=>exact .no
         | true =>
           simp only[Bool.and_eq_true,Nat.beq_eq] at hc
           obtain ⟨⟨c1,c2⟩,c3⟩:=hc
           subst c3
           obtain ⟨r,a',g1,g2⟩:=adN hm hreg
           have hty:=apu hm hreg g1
           have hx':=hx
           simp only[R] at hx; obtain ⟨r',n,h3,h4⟩:=hx
           rw[g1] at h3; cases h3; cases h4
           refine .ok (a:=.ptr r 1 0 0) (st':=st) Γ ?_ (.inr ⟨rfl,hx'⟩) hm (fun _ _ _ h=>h) (.refl m)
           have e1:Nat.beq k u.size=true:=by rw[Nat.beq_eq]; exact c1
           have e2:Nat.beq (rowTy st r) t=true:=by rw[Nat.beq_eq,hty]; exact c2
           simp only[gt,h1,h2,g2,hk,e1,e2,Bool.and_self,cond_true]
       · exact .no
     · exact .no
   · exact .no
 · exact .no
theorem zO (hm:MemR Φ Γ m st) {t:TypeId}{x:TV}{a:AVal} (hx:R Γ x.t x.v false [a]):OkM Φ d Γ m st (nZ P t a st) (zP P t x m):=by
 unfold zP
 split
 · rename_i hu
   split
   · rename_i s
     simp only[R] at hx; cases hx
     exact .ok (a:=.ptr st.length 0 0 0) (st':=st++[.iter s 0]) (more Γ m.length (.inr (st.length,0,0))) (by simp only[nZ,hu]) (.inr ⟨rfl,st.length,bl,rfl⟩) (hm.more ⟨st.length,bl,by simp⟩) (fun j y _ h=>bX hm j y h) .more
   · exact .no
 · exact .no
theorem act (hm:MemR Φ Γ m st) {x:TV}{b:Bool}{a:AVal} (hx:R Γ x.t x.v false [a]):OkM Φ d Γ m st (sT a b st) (ah7 x b m):=by
 unfold ah7
 split
 · rename_i id _
   simp only[R] at hx; obtain ⟨r,hg,hx⟩:=hx; cases hx
   have hr:=hm.at id
   split
   · rename_i s pos hreg
     rw[hreg] at hr
     obtain ⟨r',h1,h2⟩:=hr
     rw[hg] at h1; cases h1
     cases b with
     | false=>exact .no
     | true =>
       simp only[cond_true]
       refine .br (fun hlt => ?_) (fun hge => ?_)
       · have hlt:=of_decide_eq_true hlt
         refine .ok (a:=.tup [.bool true,.int .i64 pos,.int .i32 (Utf8.decode ⟨s.toArray⟩ pos).1]) (st':=st.set r (.iter s (pos+(Utf8.decode ⟨s.toArray⟩ pos).2))) Γ ?_ (.inr ⟨rfl,_,rfl,?_⟩) (hm.set (dQ hreg (by simp)) hg ⟨r,hg,?_⟩) (fun _ _ _ h=>h) (.set (by intro _ _ _ h; cases h) (by intro _ _ h; cases h; exact ⟨_,hreg⟩))
         · simp only[sT,h2,cond_true,if_pos hlt]
         · exact ⟨[_],[_,_],rfl,rfl,[_],[_],rfl,rfl,[_],[],rfl,rfl,rfl⟩
         · rw[List.getElem?_set_self (hm.lt _ _ _ _ hg)]
       · have hge:=of_decide_eq_false hge
         refine .ok (a:=.tup [.bool false]) (st':=st) Γ ?_ (.inr ⟨rfl,_,rfl,?_⟩) hm (fun _ _ _ h=>h) (.refl m)
         · simp only[sT,h2,cond_true,if_neg hge]
         · exact ⟨[_],[],rfl,rfl,rfl⟩
   · exact .no
 · exact .no
theorem eW {st:ar}:∀ {l1 l2 k1 k2:List AVal},cq st l1=some k1→cq st l2=some k2→cq st (l1++l2)=some (k1++k2)
 | [],l2,k1,k2,h1,h2=>by simp only[cq] at h1; cases h1; exact h2
 | v::l,l2,k1,k2,h1,h2=>by
   simp only[cq,Option.bind_eq_some_iff,Option.map_eq_some_iff] at h1
   obtain ⟨x,hx,y,hy,rfl⟩:=h1
   simp only[List.cons_append,cq,hx,eW hy h2,Option.bind_some,Option.map_some]
theorem oM {Γ':Ctx}:∀ {t:Ty}{v:t.V}{c:Bool}{l:List AVal},t.closed=true→R Γ t v c l→∃ l',cq st l=some l'∧R Γ' t v c l'
 | .int k,v,c,l,_,h=>by simp only[R] at h; subst h; exact ⟨_,rfl,rfl⟩
 | .bool,v,c,l,_,h=>by simp only[R] at h; subst h; exact ⟨_,rfl,rfl⟩
 | .str,v,c,l,_,h=>by simp only[R] at h; subst h; exact ⟨_,rfl,rfl⟩
 | .sl t,v,c,l,hc,h=>by
   have hcl:=bP hc h
   simp only[Ty.closed,Bool.and_eq_true] at hc
   simp only[R] at h
   rcases h with ⟨rfl,rfl⟩ | ⟨f,n,as,rfl,hn,h⟩
   · exact ⟨_,rfl,.inr ⟨false,0,[],rfl,.inl rfl,trivial⟩⟩
   · rw[aY] at hcl
     simp only[closed] at hcl
     cases as with
     | nil =>
       refine ⟨[.tree false 0 []],by simp[cq,bQ,hcl],.inr ⟨false,0,[],rfl,.inl ?_,?_⟩⟩
       · cases v with
         | nil=>rfl
         | cons _ _=>exact h.elim
       · cases v with
         | nil=>trivial
         | cons _ _=>exact h.elim
     | cons a as =>
       refine ⟨[.tree false n (a::as)],by simp[cq,bQ,hcl],.inr ⟨false,n,a::as,rfl,hn,aN (p:=fun x a=>R Γ t x false [a]) (fun x a hx=>a7 hc.2 hx) h⟩⟩
 | .agg t,v,c,l,hc,h=>by
   cases c<;>simp only[R] at h ⊢
   · obtain ⟨cs,rfl,h⟩:=h
     obtain ⟨l',h1,h2⟩:=oM (Γ':=Γ') (t:=t) hc h
     exact ⟨[.agg l'],by simp only[cq,bQ,h1,Option.map_some,Option.bind_some],l',rfl,h2⟩
   · exact oM (t:=t) hc h
 | .arr n t,v,c,l,hc,h=>by
   simp only[Ty.closed,Bool.and_eq_true] at hc
   have:∀ (v:List t.V) (ls:List (List AVal)),All2 (fun x c=>R Γ t x true c) v ls→∃ ls',cq st ls.flatten=some (List.flatten ls')∧All2 (fun x c=>R Γ' t x true c) v ls':=by
     intro v
     induction v with
     | nil=>intro ls h; cases ls with | nil=>exact ⟨[],rfl,trivial⟩ | cons _ _=>exact h.elim
     | cons x v ih =>
       intro ls h
       cases ls with
       | nil=>exact h.elim
       | cons c ls =>
         obtain ⟨c',g1,g2⟩:=oM (Γ':=Γ') hc.2 h.1
         obtain ⟨ls',g3,g4⟩:=ih ls h.2
         exact ⟨c'::ls',by rw[List.flatten_cons,List.flatten_cons]; exact eW g1 g3,g2,g4⟩
   cases c<;>simp only[R] at h ⊢
   · obtain ⟨cs,rfl,hn,ls,rfl,h⟩:=h
     obtain ⟨ls',g1,g2⟩:=this v ls h
     exact ⟨[.agg ls'.flatten],by simp only[cq,bQ,g1,Option.map_some,Option.bind_some],_,rfl,hn,ls',rfl,g2⟩
   · obtain ⟨hn,ls,rfl,h⟩:=h
     obtain ⟨ls',g1,g2⟩:=this v ls h
     exact ⟨_,g1,hn,ls',rfl,g2⟩
 | .tup t,v,c,l,hc,h=>by
   simp only[R] at h ⊢; obtain ⟨as,rfl,h⟩:=h
   obtain ⟨l',h1,h2⟩:=oM (Γ':=Γ') (t:=t) hc h
   exact ⟨[.tup l'],by simp only[cq,bQ,h1,Option.map_some,Option.bind_some],l',rfl,h2⟩
 | .unit,v,c,l,_,h=>by simp only[R] at h; subst h; exact ⟨_,rfl,rfl⟩
 | .cons t ts,v,c,l,hc,h=>by
   simp only[Ty.closed,Bool.and_eq_true] at hc
   simp only[R] at h ⊢
   obtain ⟨l1,l2,rfl,h1,h2⟩:=h
   obtain ⟨k1,g1,g2⟩:=oM (Γ':=Γ') hc.1 h1
   obtain ⟨k2,g3,g4⟩:=oM (Γ':=Γ') hc.2 h2
   exact ⟨k1++k2,eW g1 g3,k1,k2,rfl,g2,g4⟩
 | .nilsl,v,c,l,hc,h=>by cases hc
 | .nilp,v,c,l,_,h=>by simp only[R] at h; subst h; exact ⟨_,rfl,rfl⟩
 | .fn f,v,c,l,_,h=>by simp only[R] at h; subst h; exact ⟨_,rfl,rfl⟩
 | .err,v,c,l,_,h=>by simp only[R] at h ⊢; obtain ⟨a,rfl,h1⟩:=h; rcases h1 with ⟨e,rfl⟩ | ⟨e,t,rfl⟩; exact ⟨_,rfl,_,rfl,.inl ⟨e,rfl⟩⟩; exact ⟨_,rfl,_,rfl,.inr ⟨e,t,rfl⟩⟩
 | .undef,v,c,l,_,h=>by simp only[R] at h; subst h; exact ⟨_,rfl,rfl⟩
 | .any,v,c,l,hc,h=>by cases hc
 | .own id,v,c,l,hc,h=>by cases hc
 | .it id,v,c,l,hc,h=>by cases hc
 | .mp id,v,c,l,hc,h=>by cases hc
 | .bx id off,v,c,l,hc,h=>by cases hc
 | .op id,v,c,l,hc,h=>by cases hc
 | .ptr id off,v,c,l,hc,h=>by cases hc
 | .ba id off en ln,v,c,l,hc,h=>by cases hc
 | .vw id,v,c,l,hc,h=>by cases hc
 | .rp t off,v,c,l,hc,h=>by
   have hcl:=bP (t:=.rp t off) hc h
   have h':=a7 (Γ':=Γ') (t:=.rp t off) hc h
   simp only[R] at h
   obtain ⟨a,rest,h,hr,rfl⟩:=h
   rw[aY] at hcl
   simp only[closed] at hcl
   exact ⟨_,by simp[cq,bQ,hcl],h'⟩
 | .orp t off,v,c,l,hc,h=>by
   have hcl:=bP (t:=.orp t off) hc h
   have h':=a7 (Γ':=Γ') (t:=.orp t off) hc h
   simp only[R] at h
   rcases h with ⟨_,rfl⟩ | ⟨x,a,rest,_,h,hr,rfl⟩
   · exact ⟨_,rfl,h'⟩
   · rw[aY] at hcl
     simp only[closed] at hcl
     exact ⟨_,by simp[cq,bQ,hcl],h'⟩
 | .cl f t,v,c,l,hc,h=>by
   have hcl:=bP (t:=.cl f t) hc h
   have h':=a7 (Γ':=Γ') (t:=.cl f t) hc h
   simp only[R] at h
   obtain ⟨as,rfl,h⟩:=h
   rw[aY] at hcl
   simp only[closed,aC,Bool.true_and] at hcl
   exact ⟨_,by simp[cq,bQ,closed,aC,hcl],h'⟩
theorem dflt {t u:Ty}{v:t.V}{x:u.V}{c:Bool}{l:List AVal} (h:cond t.closed (dM t v u id) none=some x) (hr:R Γ t v c l):∃ l',cq st l=some l'∧R Γ0 u x c l':=by
 cases hc:t.closed with
 | false=>rw[hc] at h; cases h
 | true =>
   rw[hc,cond_true] at h
   obtain ⟨e,hx⟩:=bh h
   subst e; subst hx
   exact oM hc hr
theorem q9 (hm:MemR Φ Γ m st):∀ {t:Ty}{v:t.V}{u:Ty}{x:u.V}{c:Bool}{l:List AVal},u.closed=true→bT m t v u=some x→R Γ t v c l→∃ l',cq st l=some l'∧R Γ0 u x c l':=by
 intro t
 induction t with
 | own id =>
   intro v u x c l hu h hr
   cases u
   case sl u' =>
     simp only[bT] at h
     split at h
     · rename_i e t' xs hg
       obtain ⟨e',hx⟩:=bh h
       cases e'
       subst hx
       have hreg:=hm.at id
       rw[hg] at hreg
       obtain ⟨k1,k2,k3,k4,k5⟩:=hreg
       simp only[R] at hr
       rcases k5 with ⟨rfl,_,k5,_⟩ | ⟨r,as,k5,k6,k7,k8⟩
       · rw[k5] at hr
         rcases hr with hr | ⟨_,n',hr⟩
         · subst hr
           exact ⟨[.tree false 0 []],rfl,.inr ⟨false,0,[],rfl,.inl rfl,trivial⟩⟩
         · subst hr
           exact ⟨[.tree false 0 []],rfl,.inr ⟨false,0,[],rfl,.inl rfl,trivial⟩⟩
       · rw[k5] at hr; subst hr
         have hal:=bq k7
         have hcl:aC as=true:=gh (fun x a hx=>by rw[← aY]; exact bP k2 hx) k7
         have hrow:EM.rowAt st r u'.size x.length=some as:=by simp only[EM.rowAt,k6,hal,and_self,if_true]
         have hble:Nat.ble (0+x.length) as.length=true:=by rw[Nat.ble_eq]; omega
         cases x with
         | nil =>
           refine ⟨[.tree false 0 []],?_,.inr ⟨false,0,[],rfl,.inl rfl,trivial⟩⟩
           simp only[cq,bQ,oL]
           rw[hrow]
           simp only[hcl,hble,Bool.and_self,cond_true]
           rfl
         | cons y ys =>
           refine ⟨[.tree false u'.size as],?_,.inr ⟨false,u'.size,as,rfl,.inr rfl,aN (p:=fun x a=>R Γ u' x false [a]) (fun x a hx=>a7 k2 hx) k7⟩⟩
           simp only[cq,bQ,oL]
           rw[hrow]
           have h0:Nat.beq (y::ys).length 0=false:=rfl
           simp only[hcl,hble,Bool.and_self,cond_true,h0,cond_false,List.drop_zero,Option.bind_some,Option.map_some]
           rw[List.take_of_length_le (by omega)]
     · cases h
   all_goals (simp only[bT] at h; exact dflt h hr)
 | nilsl =>
   intro v u x c l hu h hr
   cases u
   case sl u' =>
     simp only[bT] at h
     cases h
     simp only[R] at hr; subst hr
     exact ⟨[.tree false 0 []],rfl,.inr ⟨false,0,[],rfl,.inl rfl,trivial⟩⟩
   all_goals (simp only[bT] at h; exact dflt h hr)
 | agg t ih =>
   intro v u x c l hu h hr
   cases u
   case agg u =>
     simp only[bT] at h
     cases hb:t.beq u with
     | true =>
       rw[hb,cond_true] at h
       obtain ⟨e,hx⟩:=bh h
       subst e; subst hx
       exact oM (t:=.agg t) hu hr
     | false =>
       rw[hb,cond_false] at h
       cases c<;>simp only[R] at hr ⊢
       · obtain ⟨cs,rfl,hr⟩:=hr
         obtain ⟨l',h1,h2⟩:=ih (u:=u) hu h hr
         exact ⟨[.agg l'],by simp only[cq,bQ,h1,Option.map_some,Option.bind_some],l',rfl,h2⟩
       · exact ih (u:=u) hu h hr
   all_goals (simp only[bT] at h; exact dflt h hr)
 | arr n t ih =>
   intro v u x c l hu h hr
   cases u
   case arr k u =>
     simp only[Ty.closed,Bool.and_eq_true] at hu
     have main:∀ ls:List (List AVal),v.length=n→All2 (fun x c=>R Γ t x true c) v ls→∃ ls',cq st ls.flatten=some (List.flatten ls')∧x.length=k∧All2 (fun x c=>R Γ0 u x true c) x ls':=by
       intro ls hn hall
       simp only[bT] at h
       cases hb:(t.beq u&&Nat.beq n k) with
       | true =>
         rw[hb,cond_true] at h
         simp only[Bool.and_eq_true,Nat.beq_eq] at hb
         obtain ⟨e,hx⟩:=bh h
         cases e
         subst hx
         have hp:=oM (st:=st) (Γ':=Γ0) (t:=.arr n t) (v:=x) (c:=true) (l:=ls.flatten) (by simp only[Ty.closed,Bool.and_eq_true]; exact hu) (by simp only[R]; exact ⟨hn,ls,rfl,hall⟩)
         obtain ⟨l',g1,g2⟩:=hp
         simp only[R] at g2
         obtain ⟨g3,ls',rfl,g4⟩:=g2
         exact ⟨ls',g1,g3.trans hb.2,g4⟩
       | false =>
         rw[hb,cond_false] at h
         cases hk:Nat.beq n k with
         | false=>rw[hk] at h; cases h
         | true =>
           rw[hk,cond_true] at h
           rw[Nat.beq_eq] at hk
           clear hb
           have:∀ (v:List t.V) (x:List u.V) (ls:List (List AVal)),oQ (fun y=>bT m t y u) v=some x→All2 (fun x c=>R Γ t x true c) v ls→∃ ls',cq st ls.flatten=some (List.flatten ls')∧x.length=v.length∧All2 (fun x c=>R Γ0 u x true c) x ls':=by
             intro v
             induction v with
             | nil =>
               intro x ls h hl
               simp only[oQ] at h; cases h
               cases ls with
               | nil=>exact ⟨[],rfl,rfl,trivial⟩
               | cons _ _=>exact hl.elim
             | cons y v ihv =>
               intro x ls h hl
               simp only[oQ,Option.bind_eq_some_iff,Option.map_eq_some_iff] at h
               obtain ⟨z,h1,zs,h2,rfl⟩:=h
               cases ls with
               | nil=>exact hl.elim
               | cons c ls =>
                 obtain ⟨c',q1,q2⟩:=ih hu.2 h1 hl.1
                 obtain ⟨ls',q3,q4,q5⟩:=ihv zs ls h2 hl.2
                 exact ⟨c'::ls',by rw[List.flatten_cons,List.flatten_cons]; exact eW q1 q3,by simp[q4],q2,q5⟩
           obtain ⟨ls',q1,q2,q3⟩:=this v x ls h hall
           exact ⟨ls',q1,by rw[q2,hn,hk],q3⟩
     cases c<;>simp only[R] at hr ⊢
     · obtain ⟨cs,rfl,hn,ls,rfl,hall⟩:=hr
       obtain ⟨ls',q1,q2,q3⟩:=main ls hn hall
       exact ⟨[.agg ls'.flatten],by simp only[cq,bQ,q1,Option.map_some,Option.bind_some],_,rfl,q2,ls',rfl,q3⟩
     · obtain ⟨hn,ls,rfl,hall⟩:=hr
       obtain ⟨ls',q1,q2,q3⟩:=main ls hn hall
       exact ⟨_,q1,q2,ls',rfl,q3⟩
   all_goals (simp only[bT] at h; exact dflt h hr)
 | tup t ih =>
   intro v u x c l hu h hr
   cases u
   case tup u =>
     simp only[bT] at h
     simp only[R] at hr ⊢
     obtain ⟨as,rfl,hr⟩:=hr
     obtain ⟨l',h1,h2⟩:=ih (u:=u) hu h hr
     exact ⟨[.tup l'],by simp only[cq,bQ,h1,Option.map_some,Option.bind_some],l',rfl,h2⟩
   all_goals (simp only[bT] at h; exact dflt h hr)
 | cons t ts ih1 ih2 =>
   intro v u x c l hu h hr
   cases u
   case cons u us =>
     simp only[bT,Option.bind_eq_some_iff,Option.map_eq_some_iff] at h
     obtain ⟨y,hy,z,hz,rfl⟩:=h
     simp only[Ty.closed,Bool.and_eq_true] at hu
     simp only[R] at hr ⊢
     obtain ⟨l1,l2,rfl,h1,h2⟩:=hr
     obtain ⟨k1,g1,g2⟩:=ih1 hu.1 hy h1
     obtain ⟨k2,g3,g4⟩:=ih2 hu.2 hz h2
     exact ⟨k1++k2,eW g1 g3,k1,k2,rfl,g2,g4⟩
   all_goals (simp only[bT] at h; exact dflt h hr)
 | _ =>
   intro v u x c l hu h hr
   cases u<;>(simp only[bT] at h; exact dflt h hr)
end
end Go.TY
namespace Go.TY
open Go.EM
section
variable {Φ:Frame}{Γ:Ctx}{m:Mem}{st:ar}{P:Program}{d:Option Nat}
theorem oY:∀ {a b c e:List AVal},keyL a b=true→keyL c e=true→keyL (a++c) (b++e)=true
 | [],[],c,e,_,h=>h
 | [],_::_,_,_,h,_=>by cases h
 | _::_,[],_,_,h,_=>by cases h
 | x::a,y::b,c,e,h,h2=>by
   simp only[keyL,Bool.and_eq_true] at h
   simp only[List.cons_append,keyL,h.1,oY h.2 h2,Bool.and_self]
theorem aaw {t:Ty} (hf:∀ {x y:t.V}{c1 c2:List AVal},eqV t x y=true→R Γ t x true c1→R Γ t y true c2→keyL c2 c1=true):∀ {v1 v2:List t.V}{l1 l2:List (List AVal)},eqVL (eqV t) v1 v2=true→All2 (fun x c=>R Γ t x true c) v1 l1→All2 (fun x c=>R Γ t x true c) v2 l2→keyL l2.flatten l1.flatten=true
 | [],[],[],[],_,_,_=>rfl
 | x::v1,y::v2,c1::l1,c2::l2,h,h1,h2=>by
   simp only[eqVL,Bool.and_eq_true] at h
   exact oY (hf h.1 h1.1 h2.1) (aaw hf h.2 h1.2 h2.2)
theorem qr:∀ {t:Ty}{x y:t.V}{c1 c2:List AVal},eqV t x y=true→R Γ t x true c1→R Γ t y true c2→keyL c2 c1=true
 | .int k,x,y,c1,c2,h,h1,h2=>by
   simp only[R] at h1 h2; subst h1; subst h2
   simp only[eqV,decide_eq_true_eq] at h
   simp[keyL,keyC,h]
 | .bool,x,y,c1,c2,h,h1,h2=>by
   simp only[R] at h1 h2; subst h1; subst h2
   simp only[eqV,beq_iff_eq] at h
   simp[keyL,keyC,h]
 | .str,x,y,c1,c2,h,h1,h2=>by
   simp only[R] at h1 h2; subst h1; subst h2
   simp only[eqV,decide_eq_true_eq] at h
   simp[keyL,keyC,h]
 | .agg t,x,y,c1,c2,h,h1,h2=>by
   simp only[R] at h1 h2
   exact qr (t:=t) h h1 h2
 | .cons t ts,x,y,c1,c2,h,h1,h2=>by
   simp only[R] at h1 h2
   obtain ⟨a1,a2,rfl,p1,p2⟩:=h1
   obtain ⟨b1,b2,rfl,q1,q2⟩:=h2
   simp only[eqV,Bool.and_eq_true] at h
   exact oY (qr h.1 p1 q1) (qr h.2 p2 q2)
 | .unit,x,y,c1,c2,h,h1,h2=>by
   simp only[R] at h1 h2; subst h1; subst h2; rfl
 | .sl _,_,_,_,_,h,_,_=>by cases h
 | .arr n t,x,y,c1,c2,h,h1,h2=>by
   simp only[R] at h1 h2
   obtain ⟨_,l1,rfl,h1⟩:=h1
   obtain ⟨_,l2,rfl,h2⟩:=h2
   exact aaw (fun h h1 h2=>qr (t:=t) h h1 h2) h h1 h2
 | .tup _,_,_,_,_,h,_,_=>by cases h
 | .nilsl,_,_,_,_,h,_,_=>by cases h
 | .nilp,_,_,_,_,h,_,_=>by cases h
 | .err,_,_,_,_,h,_,_=>by cases h
 | .fn _,_,_,_,_,h,_,_=>by cases h
 | .undef,_,_,_,_,h,_,_=>by cases h
 | .any,_,_,_,_,h,_,_=>by cases h
 | .own _,_,_,_,_,h,_,_=>by cases h
 | .it _,_,_,_,_,h,_,_=>by cases h
 | .mp _,_,_,_,_,h,_,_=>by cases h
 | .bx _ _,_,_,_,_,h,_,_=>by cases h
 | .op _,_,_,_,_,h,_,_=>by cases h
 | .ptr _ _,_,_,_,_,h,_,_=>by cases h
 | .ba _ _ _ _,_,_,_,_,h,_,_=>by cases h
 | .vw _,_,_,_,_,h,_,_=>by cases h
 | .rp _ _,_,_,_,_,h,_,_=>by cases h
 | .orp _ _,_,_,_,_,h,_,_=>by cases h
 | .cl _ _,_,_,_,_,h,_,_=>by cases h
theorem apc {t:Ty}{x y:t.V}{a b:AVal} (hv:t.isV=true) (h:eqV t x y=true) (h1:R Γ t x false [a]) (h2:R Γ t y false [b]):keyB b a=true:=by
 have hk:=qr h (bL hv h1) (bL hv h2)
 cases t<;>first
   | (cases h; done)
   | (simp only[R] at h1 h2; cases h1; cases h2; simpa [AVal.cells,keyL,keyB] using hk)
   | (simp only[R] at h1 h2; obtain ⟨_,e,_⟩:=h1; cases e; obtain ⟨_,e,_⟩:=h2; cases e; exact hk)
   | (cases hv; done)
theorem uQ {f:TypeId→AVal→Bool}{g:TypeId→Ty→Bool} (hf:∀ t ty (x:ty.V) a,g t ty=true→R Γ ty x false [a]→f t a=true) :
   ∀ {fs:List Field}{row:Ty}{off:Nat}{x:row.V}{p1 c1:List AVal},eqFs P g fs row off=true→R Γ row x true c1→p1.length=off →
     (fs.all fun fd=>decide (fd.name = "_")||(match cK P fd.type (p1++c1) fd.offset with
       | some a=>f fd.type a
       | none=>false))=true
 | [],row,off,x,p1,c1,h,_,_=>rfl
 | fd::fs,row,off,x,p1,c1,h,hx,h1=>by
   cases row<;>first
     | (cases h; done)
     | skip
   rename_i t ts
   simp only[eqFs,Bool.and_eq_true,Nat.beq_eq,Bool.not_eq_true'] at h
   obtain ⟨⟨⟨⟨hn,ho⟩,hp⟩,hg⟩,hr⟩:=h
   simp only[R] at hx
   obtain ⟨l1,l2,rfl,x1,x2⟩:=hx
   obtain ⟨a,ha,ra⟩:=lk (pre:=p1) (l2:=l2) hp x1
   simp only[List.all_cons,Bool.and_eq_true,Bool.or_eq_true]
   refine ⟨.inr ?_,?_⟩
   · rw[ho,show cK P fd.type (p1++(l1++l2)) off=some a by rw[← h1]; exact ha]
     exact hf _ _ _ _ hg ra
   · have ih:=uQ hf (p1:=p1++l1) hr x2 (by rw[List.length_append,cU x1,h1])
     rw[List.append_assoc] at ih
     exact ih
theorem abr:∀ (d:Nat) (t:TypeId) (ty:Ty) (x:ty.V) (a:AVal),fv P d t ty=true→R Γ ty x false [a]→akey P d t a=true
 | 0,t,ty,x,a,h,_=>by cases h
 | d+1,t,ty,x,a,h,hx=>by
   unfold fv at h
   unfold akey
   split at h
   · rename_i hu
     split at h
     · simp only[R] at hx; cases hx
       simp only[hu]
     · cases h
   · rename_i k hu
     split at h
     · simp only[R] at hx; cases hx
       simp only[hu]
     · cases h
   · rename_i hu
     split at h
     · simp only[R] at hx; cases hx
       simp only[hu]
     · cases h
   · rename_i fs hu
     split at h
     · rename_i row
       simp only[Bool.and_eq_true,Bool.not_eq_true'] at h
       simp only[R] at hx
       obtain ⟨xs,e1,hx⟩:=hx
       cases e1
       simp only[hu]
       exact uQ (P:=P) (f:=fun t a=>akey P d t a) (g:=fv P d) (fun t ty x a=>abr d t ty x a) (p1:=[]) h.2 hx rfl
     · cases h
   · cases h
theorem sw {k v:Ty}{kt:TypeId} (hk:fv P 8 kt k=true) (hkv:k.isV=true) {x:k.V}{b:AVal} (hx:R Γ k x false [b]):∀ {xs:List (k.V×v.V)}{es:List (AVal×AVal)} (i:Nat),All2 (fun (p:k.V×v.V) (e:AVal×AVal)=>R Γ k p.1 false [e.1]∧R Γ v p.2 false [e.2]) xs es →
   (aaN k x xs=none∧jH P kt b es i=some none∧∀ y:v.V,putK k x y xs=xs++[(x,y)]) ∨
   ∃ j a y0,aaN k x xs=some y0∧jH P kt b es i=some (some (i+j,a))∧R Γ v y0 false [a]∧∀ y:v.V,putK k x y xs=xs.set j (x,y)
 | [],[],i,_=>.inl ⟨rfl,rfl,fun _=>rfl⟩
 | e::xs,a::es,i,h=>by
   have he:=wS 8 kt k x e.1 b a.1 hk hx h.1.1
   simp only[jH,aaN,putK,he,Option.bind_some]
   cases hq:eqV k x e.1 with
   | true =>
     have hb:=apc hkv hq hx h.1.1
     refine .inr ⟨0,a.2,e.2,rfl,?_,h.1.2,fun y=>rfl⟩
     simp only[cond_true,hb,Nat.add_zero]
   | false =>
     simp only[cond_false]
     rcases sw hk hkv hx (i+1) h.2 with ⟨g1,g2,g3⟩ | ⟨j,a',y0,g1,g2,g3,g4⟩
     · exact .inl ⟨g1,g2,fun y=>by rw[g3]; rfl⟩
     · exact .inr ⟨j+1,a',y0,g1,by rw[g2]; congr 3; omega,g3,fun y=>by rw[g4]; rfl⟩
theorem sq (hm:MemR Φ Γ m st) {ty:List (Nat×Ty)}{t:TypeId}{r:Option Operand}:OkM Φ d Γ m st (cond r.isNone (some (AVal.map st.length,st++[AReg.map []])) none) (oT P ty t r.isNone m):=by
 unfold oT
 split
 · split
   · rename_i k v _ _
     cases hc:(r.isNone&&k.isV&&v.isV&&k.closed&&v.closed) with
     | false=>exact .no
     | true =>
       simp only[Bool.and_eq_true] at hc
       obtain ⟨⟨⟨⟨c0,c1⟩,c2⟩,c3⟩,c4⟩:=hc
       simp only[c0,cond_true]
       exact .ok (a:=.map st.length) (st':=st++[.map []]) (more Γ m.length (.inr (st.length,0,0))) rfl (.inr ⟨rfl,st.length,bl,rfl⟩) (hm.more ⟨c1,c2,c3,c4,st.length,[],bl,by simp,trivial⟩) (fun j y _ h=>bX hm j y h) .more
   · exact .no
 · exact .no
theorem sr (hm:MemR Φ Γ m st) {t:TypeId}{x y:TV}{ok:Bool}{a b:AVal} (hx:R Γ x.t x.v false [a]) (hy:R Γ y.t y.v false [b]):OkM Φ d Γ m st ((ip P t a b ok st).map fun v=>(v,st)) (oV P t x y ok m):=by
 unfold oV
 split
 · rename_i kt et hu
   split
   · rename_i id _
     simp only[R] at hx; obtain ⟨r,hg,hx⟩:=hx; cases hx
     have hr:=hm.at id
     split
     · rename_i k v xs hreg
       rw[hreg] at hr
       obtain ⟨h1,h2,h3,h4,r',es,h5,h6,h7⟩:=hr
       rw[hg] at h5; cases h5
       cases hk:fv P 8 kt k with
       | false=>exact .no
       | true =>
         simp only[cond_true]
         split
         · rename_i w hw
           split
           · rename_i z hz
             rw[Option.bind_eq_some_iff] at hz
             obtain ⟨zt,hz1,hz2⟩:=hz
             obtain ⟨g1,za,g2,g3⟩:=hJ (Γ:=Γ) hz1
             have hzr:=ch hz2 g3
             have hwr:=ch hw hy
             have hak:=abr (P:=P) 8 kt k w b hk hwr
             have key:∃ av,ip P t (.map r) b ok st=some (cond ok (.tup [av,.bool (getK k z w xs).2]) av)∧R Γ v (getK k z w xs).1 false [av]:=by
               unfold ip getK
               simp only[hu,hak,cond_true,tV,h6,Option.bind_some]
               rcases sw (P:=P) hk h1 hwr 0 h7 with ⟨f1,f2,_⟩ | ⟨j,a',y0,f1,f2,f3,_⟩
               · rw[f1,f2]
                 simp only[Option.bind_some,g2,Option.map_some]
                 exact ⟨za,rfl,hzr⟩
               · rw[f1,f2]
                 simp only[Option.bind_some]
                 exact ⟨a',rfl,f3⟩
             obtain ⟨av,k1,k2⟩:=key
             cases ok with
             | true =>
               simp only[cond_true] at k1 ⊢
               exact .ok (a:=.tup [av,.bool (getK k z w xs).2]) (st':=st) Γ (by rw[k1]; rfl) (.inr ⟨rfl,_,rfl,[av],[.bool (getK k z w xs).2],rfl,k2,[_],[],rfl,rfl,rfl⟩) hm (fun _ _ _ h=>h) (.refl m)
             | false =>
               simp only[cond_false] at k1 ⊢
               exact .ok (a:=av) (st':=st) Γ (by rw[k1]; rfl) (.inr ⟨h2,k2⟩) hm (fun _ _ _ h=>h) (.refl m)
           · exact .no
         · exact .no
     · exact .no
   · exact .no
 · exact .no
theorem vW (hm:MemR Φ Γ m st) {t:TypeId}{x y z:TV}{a b c:AVal} (hx:R Γ x.t x.v false [a]) (hy:R Γ y.t y.v false [b]) (hz:R Γ z.t z.v false [c]):OkM Φ none Γ m st ((fB P t a b c st).map fun s=>(AVal.any,s)) (sd P t x y z m):=by
 unfold sd
 split
 · rename_i kt et hu
   split
   · rename_i id _
     simp only[R] at hx; obtain ⟨r,hg,hx⟩:=hx; cases hx
     have hr:=hm.at id
     split
     · rename_i k v xs hreg
       rw[hreg] at hr
       obtain ⟨h1,h2,h3,h4,r',es,h5,h6,h7⟩:=hr
       rw[hg] at h5; cases h5
       cases hk:fv P 8 kt k with
       | false=>exact .no
       | true =>
         simp only[cond_true]
         split
         · rename_i w u hw hu2
           have hwr:=ch hw hy
           have hur:=ch hu2 hz
           have hak:=abr (P:=P) 8 kt k w b hk hwr
           have hlt:=hm.lt _ _ _ _ hg
           have fin : ∀ es', fB P t (.map r) b c st = some (st.set r (.map es')) → All2 (fun (p : k.V × v.V) (e : AVal × AVal) => R Γ k p.1 false [e.1] ∧ R Γ v p.2 false [e.2]) (putK k w u xs) es' →
               OkM Φ none Γ m st ((fB P t (.map r) b c st).map fun s=>(AVal.any,s)) (.ok ⟨.any,()⟩ (setM m id (.map k v (putK k w u xs))) none):=by
             intro es' e1 e2
             exact .ok (a:=.any) (st':=st.set r (.map es')) Γ (by rw[e1]; rfl) (.inl rfl) (hm.set (dQ hreg (by simp)) hg ⟨h1,h2,h3,h4,r,es',hg,List.getElem?_set_self hlt,e2⟩) (fun _ _ _ h=>h) (.set (by simp) (by simp))
           rcases sw (P:=P) hk h1 hwr 0 h7 with ⟨_,f2,f3⟩ | ⟨j,a',y0,_,f2,_,f4⟩
           · refine fin (es++[(b,c)]) ?_ ?_
             · unfold fB
               simp only[hu,hak,cond_true,h6,f2,Option.map_some]
             · rw[f3]
               exact cH h7 ⟨⟨hwr,hur⟩,trivial⟩
           · refine fin (es.set j (b,c)) ?_ ?_
             · unfold fB
               simp only[hu,hak,cond_true,h6,f2,Option.map_some,Nat.zero_add]
             · rw[f4]
               exact px h7 ⟨hwr,hur⟩
         · exact .no
     · exact .no
   · exact .no
 · exact .no
theorem aba (hm:MemR Φ Γ m st) {tys:List TypeId}{x:TV}{a:AVal} (hx:R Γ x.t x.v false [a]):OkM Φ d Γ m st (od P tys a st) (abb P tys x m):=by
 unfold abb
 split
 · rename_i t
   split
   · rename_i id v
     split
     · rename_i n z0 hei
       split
       · rename_i z e u xs hreg
         split
         · rename_i zv hz
           rw[Option.bind_eq_some_iff] at hz
           obtain ⟨zt,hz1,hz2⟩:=hz
           cases hc:Nat.beq u.size n with
           | false=>exact .no
           | true =>
             rw[Nat.beq_eq] at hc
             refine .br (fun _=>.no) (fun hne => ?_)
             refine .opt fun _ hle => ?_
             have hle:v.1+v.2≤xs.length:=(dK hle).1
             have hr:=hm.at id
             rw[hreg] at hr
             obtain ⟨h1,h2,h3,h4,hr⟩:=hr
             simp only[R] at hx
             obtain ⟨r0,n0,l0,q1,hx⟩:=hx
             cases hx
             rcases hr with ⟨rfl,_⟩ | ⟨r,bs,k1,k2,k3,k4⟩
             · cases hne
             · rw[k1] at q1
               cases q1
               obtain ⟨hzo,hn0⟩:=fx hei
               obtain ⟨g1,za,g2,g3⟩:=hJ (Γ:=Γ) hz1
               rw[hzo] at g2; cases g2
               have hzr:=ch hz2 g3
               have hcell:=dW h3 (bL h1 hzr)
               have hal:=bq k3
               have hlt:=hm.lt _ _ _ _ k1
               have hll:(xs.take v.1++List.replicate v.2 zv++xs.drop (v.1+v.2)).length=xs.length:=by
                 simp only[List.length_append,List.length_take,List.length_replicate,List.length_drop]; omega
               have hrow:EM.rowAt st r0 u.size xs.length=some bs:=by simp only[EM.rowAt,k2,hal,and_self,if_true]
               refine .ok (a:=.tup []) (st':=st.set r0 (.row e u.size (bs.take v.1++List.replicate v.2 z0++bs.drop (v.1+v.2)))) Γ ?_ (.inr ⟨rfl,[],rfl,rfl⟩) (hm.set (dQ hreg (by simp)) k1 ⟨h1,h2,h3,h4,.inr ⟨r0,_,by rw[hll]; exact k1,List.getElem?_set_self hlt,cH (cH (mm _ k3) (py (p:=fun x a=>R Γ u x false [a]) hzr _)) (mq _ k3),fun hz e'=>by
                 rw[e'] at hll
                 simp only[List.length_nil] at hll
                 rw[List.length_eq_zero_iff.1 hll.symm] at hne
                 cases hne⟩⟩) (fun _ _ _ h=>h) (.set (by simp) (by simp))
               simp only[od,hei]
               rw[if_pos ⟨hc,hle,hcell⟩,hrow]
               simp only[Option.map_some,EM.rowTy,k2]
         · exact .no
       · exact .no
     · exact .no
   · exact .no
 · exact .no
end
end Go.TY
namespace Go.TY
open Go.EM
section
variable {Φ:Frame}{Γ:Ctx}{m:Mem}{st:ar}{P:Program}{d:Option Nat}
theorem tM (hm:MemR Φ Γ m st) {x y:TV}{a b:AVal} (hx:R Γ x.t x.v false [a]) (hy:R Γ y.t y.v false [b]) {r:Bool} (h:tN m x y=some r):eL st a b=some r:=by
 unfold tN at h
 split at h
 · simp only[R] at hx hy; cases hx; cases hy; cases h; rfl
 · rename_i i _ _ _
   cases hc:dR m i with
   | false=>rw[hc] at h; cases h
   | true =>
     rw[hc] at h; cases h
     obtain ⟨r,n,xs,z,g1,g2⟩:=fC hm hc
     simp only[R] at hx hy; obtain ⟨r',n',h1,h2⟩:=hx
     rw[g1] at h1; cases h1; cases h2; cases hy
     simp only[eL,g2,Option.map_some]
 · rename_i i _ _
   cases hc:dR m i with
   | false=>rw[hc] at h; cases h
   | true =>
     rw[hc] at h; cases h
     obtain ⟨r,n,xs,z,g1,g2⟩:=fC hm hc
     simp only[R] at hx hy; obtain ⟨r',n',h1,h2⟩:=hy
     rw[g1] at h1; cases h1; cases h2; cases hx
     simp only[eL,g2,Option.map_some]
 · rename_i i v _
   cases hc:dR m i with
   | false=>rw[hc] at h; cases h
   | true =>
     rw[hc] at h; cases h
     obtain ⟨r,n,xs,z,g1,g2⟩:=fC hm hc
     simp only[R] at hx hy
     cases hy
     obtain ⟨c,e,hx⟩:=hx
     cases e
     rcases hx with ⟨e,rfl⟩ | ⟨e,r',n',h1,rfl⟩
     · rw[e]; rfl
     · rw[g1] at h1; cases h1
       rw[e]
       simp only[eL,g2,Option.map_some,Bool.not_true]
 · rename_i i v
   cases hc:dR m i with
   | false=>rw[hc] at h; cases h
   | true =>
     rw[hc] at h; cases h
     obtain ⟨r,n,xs,z,g1,g2⟩:=fC hm hc
     simp only[R] at hx hy
     cases hx
     obtain ⟨c,e,hy⟩:=hy
     cases e
     rcases hy with ⟨e,rfl⟩ | ⟨e,r',n',h1,rfl⟩
     · rw[e]; rfl
     · rw[g1] at h1; cases h1
       rw[e]
       simp only[eL,g2,Option.map_some,Bool.not_true]
 · rename_i i o _ j o' _
   cases hc:(Nat.beq i j&&Nat.beq o o'&&dR m i) with
   | false=>rw[hc] at h; cases h
   | true =>
     rw[hc] at h; cases h
     simp only[Bool.and_eq_true,Nat.beq_eq] at hc
     obtain ⟨⟨rfl,rfl⟩,hc⟩:=hc
     obtain ⟨r,n,xs,z,g1,g2⟩:=fC hm hc
     simp only[R] at hx hy
     obtain ⟨r',n',h1,h2⟩:=hx
     obtain ⟨r'',n'',h3,h4⟩:=hy
     rw[g1] at h1 h3; cases h1; cases h3; cases h2; cases h4
     simp only[eL,and_self,if_true,g2,Option.map_some]
 · rename_i i v j o _
   cases hc:(Nat.beq i j&&Nat.beq o 0&&dR m i) with
   | false=>rw[hc] at h; cases h
   | true =>
     rw[hc] at h; cases h
     simp only[Bool.and_eq_true,Nat.beq_eq] at hc
     obtain ⟨⟨rfl,rfl⟩,hc⟩:=hc
     obtain ⟨r,n,xs,z,g1,g2⟩:=fC hm hc
     simp only[R] at hx hy
     obtain ⟨r'',n'',h3,h4⟩:=hy
     rw[g1] at h3; cases h3; cases h4
     obtain ⟨c,e,hx⟩:=hx
     cases e
     rcases hx with ⟨e,rfl⟩ | ⟨e,r',n',h1,rfl⟩
     · rw[e]
       simp only[eL,g2,Option.map_some]
     · rw[g1] at h1; cases h1
       rw[e]
       simp only[eL,and_self,if_true,g2,Option.map_some]
 · rename_i j o _ i v
   cases hc:(Nat.beq i j&&Nat.beq o 0&&dR m i) with
   | false=>rw[hc] at h; cases h
   | true =>
     rw[hc] at h; cases h
     simp only[Bool.and_eq_true,Nat.beq_eq] at hc
     obtain ⟨⟨rfl,rfl⟩,hc⟩:=hc
     obtain ⟨r,n,xs,z,g1,g2⟩:=fC hm hc
     simp only[R] at hx hy
     obtain ⟨r'',n'',h3,h4⟩:=hx
     rw[g1] at h3; cases h3; cases h4
     obtain ⟨c,e,hy⟩:=hy
     cases e
     rcases hy with ⟨e,rfl⟩ | ⟨e,r',n',h1,rfl⟩
     · rw[e]
       simp only[eL,g2,Option.map_some]
     · rw[g1] at h1; cases h1
       rw[e]
       simp only[eL,and_self,if_true,g2,Option.map_some]
 · cases h
theorem ah2 (hm:MemR Φ Γ m st) {op:BinOp}{t:TypeId}{x y:TV}{a b:AVal} (hx:R Γ x.t x.v false [a]) (hy:R Γ y.t y.v false [b]):OkM Φ d Γ m st ((oa P op t st a b).map fun v=>(v,st)) (ptrT P op t x y m):=by
 unfold ptrT oa
 cases Nat.beq (ld P t) 0 with
 | true=>exact .no
 | false =>
   simp only[cond_false]
   cases op<;>dsimp only<;>try exact .no
   · split
     · rename_i r hr
       exact .ok (a:=.bool r) (st':=st) Γ (by simp only[tM hm hx hy hr,Option.map_some]) (.inr ⟨rfl,rfl⟩) hm (fun _ _ _ h=>h) (.refl m)
     · exact .no
   · split
     · rename_i r hr
       exact .ok (a:=.bool !r) (st':=st) Γ (by simp only[tM hm hx hy hr,Option.map_some]) (.inr ⟨rfl,rfl⟩) hm (fun _ _ _ h=>h) (.refl m)
     · exact .no
theorem oy (hm:MemR Φ Γ m st) {x:TV}{a:AVal} (hx:R Γ x.t x.v false [a]):OkM Φ d Γ m st ((dZ a st).map fun v=>(v,st)) (jo x m):=by
 unfold jo
 split
 · simp only[R] at hx; cases hx
   exact .ok (a:=.nilptr) (st':=st) Γ rfl (.inr ⟨rfl,rfl⟩) hm (fun _ _ _ h=>h) (.refl m)
 · rename_i id _
   split
   · rename_i z e t xs hg
     cases z with
     | false=>exact .no
     | true =>
       have hr:=hm.at id
       rw[hg] at hr
       obtain ⟨k1,k2,k3,k4,k5⟩:=hr
       refine .br (fun he => ?_) (fun he => ?_)
       · have hnil:xs=[]:=fp he
         rcases k5 with ⟨_,b,k5,kb⟩ | ⟨r,as,k5,k6,k7,k8⟩
         · have kb:=kb rfl
           subst kb
           simp only[R,k5] at hx
           rcases hx with hx | ⟨hx,_⟩
           rotate_left
           · cases hx
           cases hx
           exact .ok (a:=.nilptr) (st':=st) Γ rfl (.inr ⟨rfl,rfl⟩) hm (fun _ _ _ h=>h) (.refl m)
         · exact absurd hnil (k8 rfl)
       · rcases k5 with ⟨k5,_⟩ | ⟨r,as,k5,k6,k7,k8⟩
         · subst k5; simp at he
         · simp only[R,k5] at hx; cases hx
           have hlen:Nat.beq xs.length 0=false:=by
             cases xs with
             | nil=>simp at he
             | cons _ _=>rfl
           have hra:EM.rowAt st r t.size xs.length=some as:=by simp only[EM.rowAt,k6,bq k7,and_self,if_true]
           refine .ok (a:=.ptr r xs.length 0 0) (st':=st) Γ ?_ (.inr ⟨rfl,r,t.size,xs.length,k5,rfl⟩) hm (fun _ _ _ h=>h) (.refl m)
           simp only[dZ,hra,hlen,cond_false,Option.map_some]
   · exact .no
 · exact .no
theorem ot (hm:MemR Φ Γ m st) {tys:List TypeId}{p l:TV}{a b:AVal} (hp:R Γ p.t p.v false [a]) (hl:R Γ l.t l.v false [b]):OkM Φ d Γ m st (dF P tys a b st) (jl P tys p l m):=by
 unfold jl
 split
 · rename_i pt it
   split
   · rename_i n
     simp only[R] at hp hl; cases hp; cases hl
     refine .opt fun _ hz => ?_
     unfold adT at hz
     obtain ⟨hz,_⟩:=dK hz
     exact .ok (a:=.str []) (st':=st) Γ (by simp only[dF,hz,if_true]) (.inr ⟨rfl,rfl⟩) hm (fun _ _ _ h=>h) (.refl m)
   · rename_i id off i n
     split
     · rename_i z e u xs hg
       split
       · rename_i el hpt
         split
         · rename_i xs' hsz hcv
           obtain ⟨ee,hxx⟩:=bh hcv
           cases ee
           subst hxx
           cases hc:(Nat.beq e el&&Nat.beq off 0) with
           | false=>exact .no
           | true =>
             simp only[Bool.and_eq_true,Nat.beq_eq] at hc
             obtain ⟨rfl,rfl⟩:=hc
             refine .opt fun _ hw => ?_
             unfold pK at hw
             obtain ⟨⟨rfl,rfl,w3,w4⟩,_⟩:=dK hw
             have hr:=hm.at id
             rw[hg] at hr
             obtain ⟨k1,k2,k3,k4,k5⟩:=hr
             simp only[R] at hl; cases hl
             rcases k5 with ⟨k5,_⟩ | ⟨r,as,k5,k6,k7,k8⟩
             · subst k5; simp at w3
             · simp only[R] at hp
               obtain ⟨r',n',len,h1,h2⟩:=hp
               rw[k5] at h1; cases h1; cases h2
               have hal:=bq k7
               have hra:EM.rowAt st r 1 xs'.length=some as:=by
                 have:Ty.size (.int .u8)=1:=rfl
                 rw[this] at k6
                 simp only[EM.rowAt,k6,hal,and_self,if_true]
               have hty:EM.rowTy st r=e:=by simp only[EM.rowTy,k6]
               have ht:as.take ((xs'.length:Nat):Int).toNat=as:=by rw[Int.toNat_natCast,← hal,List.take_length]
               have hb:=sV k7
               refine .ok (a:=.str (xs'.map fun (n:Int)=>UInt8.ofNat n.toNat)) (st':=st.set r .dead) Γ ?_ (.inr ⟨rfl,rfl⟩) (hm.set (dQ hg (by simp)) k5 trivial) (fun _ _ _ h=>h) (.set (by intro _ _ _ h; cases h) (by intro _ _ h; cases h))
               simp only[dF,hra,hpt,hsz,hty,ht,hb,Option.map_some]
               rw[if_pos ⟨w3,by omega,w4,trivial⟩]
         · exact .no
       · exact .no
     · exact .no
   · exact .no
 · exact .no
theorem nH (hm:MemR Φ Γ m st) {x:TV}{a:AVal} (hx:R Γ x.t x.v false [a]):OkM Φ d Γ m st (fu a st) (pb x m):=by
 unfold pb
 split
 · rename_i id _
   split
   · rename_i z e u xs hg
     have hr:=hm.at id
     rw[hg] at hr
     obtain ⟨k1,k2,k3,k4,k5⟩:=hr
     simp only[R] at hx
     rcases k5 with ⟨rfl,b,k5,_⟩ | ⟨r,as,k5,k6,k7,k8⟩
     · rw[k5] at hx
       have hk:MemR Φ Γ (setM m id .gone) st:={
         reg:=fun j hj=>by
           rw[cf] at hj
           by_cases ej:id=j
           · subst ej; rw[bG hj]; trivial
           · rw[bF ej]; exact hm.reg j hj
         out:=fun j hj=>hm.out j (by rw[cf] at hj; exact hj)
         inj:=hm.inj
         lt:=hm.lt
         old:=hm.old
         dis:=hm.dis }
       rcases hx with hx | ⟨_,n',hx⟩
       · cases hx
         exact .ok (a:=.nil) (st':=st) Γ rfl (.inr ⟨rfl,.inl ⟨rfl,rfl⟩⟩) hk (fun _ _ _ h=>h) (.set (by intro _ _ _ h; cases h) (by intro _ _ h; cases h))
       · cases hx
         exact .ok (a:=.tree true n' []) (st':=st) Γ rfl (.inr ⟨rfl,.inr ⟨true,n',[],rfl,.inl rfl,trivial⟩⟩) hk (fun _ _ _ h=>h) (.set (by intro _ _ _ h; cases h) (by intro _ _ h; cases h))
     · rw[k5] at hx
       cases hx
       have hal:=bq k7
       have hra:EM.rowAt st r u.size xs.length=some as:=by simp only[EM.rowAt,k6,hal,and_self,if_true]
       refine .ok (a:=.tree false u.size as) (st':=st.set r .dead) Γ ?_ (.inr ⟨rfl,.inr ⟨false,u.size,as,rfl,.inr rfl,k7⟩⟩) (hm.set (dQ hg (by simp)) k5 trivial) (fun _ _ _ h=>h) (.set (by intro _ _ _ h; cases h) (by intro _ _ h; cases h))
       simp only[fu]
       rw[if_pos ⟨trivial,trivial⟩,hra]
       rfl
   · exact .no
 · rename_i u v
   have hx':=hx
   simp only[R] at hx
   have e:fu a st=some (a,st):=by
     rcases hx with ⟨_,hx⟩ | ⟨_,_,_,hx,_⟩<;>cases hx<;>rfl
   exact .ok (a:=a) (st':=st) Γ e (.inr ⟨rfl,hx'⟩) hm (fun _ _ _ h=>h) (.refl m)
 · rename_i v
   have hx':=hx
   simp only[R] at hx
   cases hx
   exact .ok (a:=.nil) (st':=st) Γ rfl (.inr ⟨rfl,hx'⟩) hm (fun _ _ _ h=>h) (.refl m)
 · exact .no
theorem aiq (hm:MemR Φ Γ m st) {x w:TV}{a:AVal}{m':Mem} (hx:R Γ x.t x.v false [a]) (h:frzP x m=some (w,m')) :
   ∃ b st',lI a st=some (b,st')∧w.t.isV=true∧R Γ w.t w.v false [b]∧MemR Φ Γ m' st'∧Pers m m':=by
 unfold frzP at h
 split at h
 · rename_i id _
   split at h
   · rename_i e t v hg
     cases h
     have hr:=hm.at id
     rw[hg] at hr
     obtain ⟨_,_,_,r,b,h1,h2,h3⟩:=hr
     simp only[R] at hx
     obtain ⟨r',n',k1,k2⟩:=hx
     rw[h1] at k1
     cases k1; cases k2
     have hc:bb st r 1 0=some (t.size,[b],b):=by simp[bb,h2]
     refine ⟨.rptr b.cells,st.set r .dead,by simp only[lI,hc,Option.map_some],rfl,?_,hm.set (dQ hg (by simp)) h1 trivial,.set (by intro _ _ _ h; cases h) (by intro _ _ h; cases h)⟩
     simp only[R]
     exact ⟨b,[],h3,fun _=>rfl,by rw[List.append_nil,List.drop_zero]⟩
   · cases h
 · cases h
end
end Go.TY
