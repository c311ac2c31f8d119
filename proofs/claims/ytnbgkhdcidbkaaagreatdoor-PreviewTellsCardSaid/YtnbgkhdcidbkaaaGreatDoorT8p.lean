import Derived.Test.YtnbgkhdcidbkaaaGreatDoorT5
set_option linter.unusedVariables false
set_option linter.unusedSimpArgs false
namespace Go.TY
open Go.EM
structure Pers (m m':Mem):Prop where
 len:m.length≤m'.length
 cbox:∀ j,j<m.length→∀ e t v,getM m' j = .cbox e t v→getM m j = .cbox e t v
 iter:∀ j,j<m.length→∀ s p,getM m' j = .iter s p→∃ p0,getM m j = .iter s p0
theorem Pers.refl (m:Mem):Pers m m:=⟨qAD _,fun _ _ _ _ _ h=>h,fun _ _ _ p h=>⟨p,h⟩⟩
theorem Pers.trans {m m' m'':Mem} (h:Pers m m') (k:Pers m' m''):Pers m m'' :=
 ⟨qB9 h.len k.len,fun j hj e t v he=>h.cbox j hj e t v (k.cbox j (qBJ hj h.len) e t v he),fun j hj s p he=>by
   obtain ⟨p',h'⟩:=k.iter j (qBJ hj h.len) s p he;exact h.iter j hj s p' h'⟩
def OkM (Φ:Frame) (d:Option Nat) (Γ:Ctx) (m:Mem) (st:aC) (ares:Option (AVal×aC)) (res:OR):Prop :=
 ∀ (X:Type) (K:TV→Mem→Option Nat→Option X) (x:X),res.go K=some x→∃ w m' k a st' Γ',K w m' k=some x∧ares=some (a,st')∧(d=none∨(w.t.isV=true∧R Γ' w.t w.v false [a]))∧MemR Φ Γ' m' st' ∧
   (∀ j y,k≠some j→Γ j=some y→Γ' j=some y)∧Pers m m'
section
variable {Φ:Frame}{Γ:Ctx}{m:Mem}{st:aC}{P:Program}{d:Option Nat}
theorem OkM.no {ares:Option (AVal×aC)}:OkM Φ d Γ m st ares .no:=fun X K x h=>by cases h
theorem OkM.opt {A:Type}{y:Option A}{k:A→OR}{ares:Option (AVal×aC)} (h:∀ z,y=some z→OkM Φ d Γ m st ares (k z)):OkM Φ d Γ m st ares (.opt A y k):=fun X K x hx=>by
 simp only[OR.go,qAB] at hx;obtain ⟨z,hz,hx⟩:=hx;exact h z hz X K x hx
theorem OkM.br {b:Bool}{p q:OR}{ares:Option (AVal×aC)} (h1:b=true→OkM Φ d Γ m st ares p) (h2:b=false→OkM Φ d Γ m st ares q):OkM Φ d Γ m st ares (.br b p q):=fun X K x hx=>by
 simp only[OR.go] at hx;cases b
 · exact h2 rfl X K x hx
 · exact h1 rfl X K x hx
theorem OkM.ofP (hm:MemR Φ Γ m st) {av:Option AVal}{res:OR} (h:OkP Γ m av res):OkM Φ d Γ m st (av.map fun v=>(v,st)) res:=fun X K x hx=>by
 obtain ⟨w,a,h1,h2,h3,h4⟩:=h X K x hx;exact ⟨w,m,none,a,st,Γ,h1,by rw[h2]; rfl,.inr ⟨h3,h4⟩,hm,fun _ _ _ h=>h,.refl m⟩
theorem OkM.ok {w:TV}{m':Mem}{k:Option Nat}{ares:Option (AVal×aC)}{a:AVal}{st':aC} (Γ':Ctx) (ha:ares=some (a,st')) (hr:d=none∨(w.t.isV=true∧R Γ' w.t w.v false [a])) (hm:MemR Φ Γ' m' st')
   (he:∀ j y,k≠some j→Γ j=some y→Γ' j=some y) (hp:Pers m m'):OkM Φ d Γ m st ares (.ok w m' k):=fun X K x hx=>⟨w,m',k,a,st',Γ',hx,ha,hr,hm,he,hp⟩
theorem dI:∀ {m:Mem}{g:Reg}{i:Nat},i<m.length→getM (m++[g]) i=getM m i
 | _::m,g,0,_=>rfl
 | _::m,g,i+1,h=>dI (m:=m) (by simpa using h)
 | [],g,i,h=>by simp at h
theorem fT:∀ {m:Mem}{g:Reg},getM (m++[g]) m.length=g
 | [],g=>rfl
 | _::m,g=>fT (m:=m)
theorem bU:∀ {m:Mem}{i:Nat}{g:Reg},i<m.length→getM (setM m i g) i=g
 | _::m,0,g,_=>rfl
 | _::m,i+1,g,h=>bU (m:=m) (by simpa using h)
 | [],i,g,h=>by simp at h
theorem bT:∀ {m:Mem}{i j:Nat}{g:Reg},i≠j→getM (setM m i g) j=getM m j
 | [],i,j,g,_=>rfl
 | _::m,0,0,g,h=>absurd rfl h
 | _::m,0,j+1,g,h=>rfl
 | _::m,i+1,0,g,h=>rfl
 | _::m,i+1,j+1,g,h=>bT (m:=m) (by omega)
theorem cm:∀ {m:Mem}{i:Nat}{g:Reg},(setM m i g).length=m.length
 | [],i,g=>rfl
 | _::m,0,g=>rfl
 | _::m,i+1,g=>by simp[setM,cm]
theorem ic {Γ Γ':Ctx}{st st':aC}{id:Nat}{g:Reg} (he:∀ j y,Γ j=some y→Γ' j=some y) (hs:∀ r n l,Γ id=some (.inr (r,n,l))→st'[r]? = st[r]?) (h:RegR Γ st id g):RegR Γ' st' id g:=by
 cases g with
 | box e t v =>
   obtain ⟨h1,h2,h3,r,a,h4,h5,h6⟩:=h;exact ⟨h1,h2,h3,r,a,he _ _ h4,by rw[hs _ _ _ h4]; exact h5,bR (fun j x _ hx=>he j x hx) h6⟩
 | cbox e t v =>
   obtain ⟨h1,h0,h2,h3,r,a,h4,h5,h6⟩:=h;exact ⟨h1,h0,h2,h3,r,a,he _ _ h4,by rw[hs _ _ _ h4]; exact h5,bR (fun j x _ hx=>he j x hx) h6⟩
 | row z e t xs =>
   obtain ⟨h1,h2,h3,h4,h5⟩:=h;refine ⟨h1,h2,h3,h4,?_⟩;rcases h5 with ⟨h5,h6⟩ | ⟨r,as,h5,h6,h7,h8⟩
   · obtain ⟨b,h6,h7⟩:=h6; exact .inl ⟨h5,b,he _ _ h6,h7⟩
   · exact .inr ⟨r,as,he _ _ h5,by rw[hs _ _ _ h5]; exact h6,aM (p:=fun x a=>R Γ t x false [a]) (fun x a hx=>bR (fun j y _ hy=>he j y hy) hx) h7,h8⟩
 | iter s pos =>
   obtain ⟨r,h1,h2⟩:=h;exact ⟨r,he _ _ h1,by rw[hs _ _ _ h1]; exact h2⟩
 | map k v xs =>
   obtain ⟨h1,h2,h3,h4,r,es,h5,h6,h7⟩:=h
   exact ⟨h1,h2,h3,h4,r,es,he _ _ h5,by rw[hs _ _ _ h5]; exact h6,aM (p:=fun (p:k.V×v.V) (e:AVal×AVal)=>R Γ k p.1 false [e.1]∧R Γ v p.2 false [e.2]) (fun x a hx=>⟨bR (fun j y _ hy=>he j y hy) hx.1,bR (fun j y _ hy=>he j y hy) hx.2⟩) h7⟩
 | gone=>trivial
def more (Γ:Ctx) (n:Nat) (y:Bool⊕(Nat×Nat×Nat)):Ctx:=fun j=>if j=n then some y else Γ j
theorem b9 (hm:MemR Φ Γ m st) {y:Bool⊕(Nat×Nat×Nat)}:∀ j x,Γ j=some x→more Γ m.length y j=some x:=by
 intro j x hx;unfold more
 split
 · rename_i e;rw[e,hm.out _ (qAD _)] at hx; cases hx
 · exact hx
theorem bG {n:Nat}{y:Bool⊕(Nat×Nat×Nat)}:more Γ n y n=some y:=by simp[more]
theorem MemR.more (hm:MemR Φ Γ m st) {g:Reg}{ag:AReg}{n l:Nat} (hg:RegR (more Γ m.length (.inr (st.length,n,l))) (st++[ag]) m.length g):MemR Φ (more Γ m.length (.inr (st.length,n,l))) (m++[g]) (st++[ag]) where
 reg id hid:=by
   rcases qAV id m.length with h | h
   · rw[dI h];exact ic (b9 hm) (fun r n l hr=>qAI (hm.lt _ _ _ _ hr)) (hm.reg id h)
   · have e:id=m.length:=(by simp at hid; omega);subst e;rw[fT]; exact hg
 out id hid:=by
   simp at hid;simp only[TY.more];rw[if_neg (by omega)];exact hm.out id (by omega)
 inj i j r n' l' n'' l'' hi hj:=by
   simp only[TY.more] at hi hj
   split at hi<;>split at hj
   · rename_i e1 e2; rw[e1,e2]
   · cases hi; have:=hm.lt _ _ _ _ hj; omega
   · cases hj; have:=hm.lt _ _ _ _ hi; omega
   · exact hm.inj _ _ _ _ _ _ _ hi hj
 lt i r n' l' hi:=by
   simp only[TY.more] at hi
   split at hi
   · cases hi; simp
   · have:=hm.lt _ _ _ _ hi; simp; omega
 old r g h:=by
   have h1:=hm.old r g h;have h2:r<st.length:=by
     rcases qAV r st.length with h' | h'
     · exact h'
     · rw[qAH h'] at h1; cases h1
   rw[qAI h2]; exact h1
 dis r g i n' l' h hi:=by
   simp only[TY.more] at hi
   split at hi
   · cases hi;have h1:=hm.old _ g h;rw[qAH (qAD _)] at h1; cases h1
   · exact hm.dis r g i n' l' h hi
theorem MemR.moreNil (hm:MemR Φ Γ m st) {g:Reg}{b:Bool} (hg:RegR (TY.more Γ m.length (.inl b)) st m.length g):MemR Φ (TY.more Γ m.length (.inl b)) (m++[g]) st where
 reg id hid:=by
   rcases qAV id m.length with h | h
   · rw[dI h];exact ic (b9 hm) (fun r n l hr=>rfl) (hm.reg id h)
   · have e:id=m.length:=(by simp at hid; omega);subst e;rw[fT]; exact hg
 out id hid:=by
   simp at hid;simp only[TY.more];rw[if_neg (by omega)];exact hm.out id (by omega)
 inj i j r n' l' n'' l'' hi hj:=by
   simp only[TY.more] at hi hj
   split at hi
   · cases hi
   · split at hj
     · cases hj
     · exact hm.inj _ _ _ _ _ _ _ hi hj
 lt i r n' l' hi:=by
   simp only[TY.more] at hi
   split at hi
   · cases hi
   · exact hm.lt _ _ _ _ hi
 old:=hm.old
 dis r g i n' l' h hi:=by
   simp only[TY.more] at hi
   split at hi
   · cases hi
   · exact hm.dis r g i n' l' h hi
theorem Pers.more {g:Reg}:Pers m (m++[g]) where
 len:=by simp
 cbox j hj e t v h:=by rw[dI hj] at h; exact h
 iter j hj s p h:=by rw[dI hj] at h; exact ⟨p,h⟩
theorem MemR.set (hm:MemR Φ Γ m st) {id:Nat}{g:Reg}{ag:AReg}{r n l:Nat} (hid:id<m.length) (hr:Γ id=some (.inr (r,n,l))) (hg:RegR Γ (st.set r ag) id g):MemR Φ Γ (setM m id g) (st.set r ag) where
 reg j hj:=by
   rw[cm] at hj;by_cases e:id=j
   · subst e; rw[bU hid]; exact hg
   · rw[bT e];refine ic (fun _ _ h=>h) (fun r' n' l' hr' => ?_) (hm.reg j hj);have:r≠r':=fun e'=>e (hm.inj _ _ _ _ _ _ _ hr (e' ▸ hr'));rw[qBH this]
 out j hj:=hm.out j (by rw[cm] at hj; exact hj)
 inj:=hm.inj
 lt i r' n' l' hi:=by have:=hm.lt _ _ _ _ hi; simpa using this
 old r' g' h:=by
   have:r≠r':=fun e=>hm.dis r' g' id n l h (e ▸ hr);rw[qBH this]; exact hm.old r' g' h
 dis:=hm.dis
theorem Pers.set {id:Nat}{g:Reg} (h1:∀ e t v,g ≠ .cbox e t v) (h2:∀ s p,g = .iter s p→∃ p0,getM m id = .iter s p0):Pers m (setM m id g) where
 len:=by rw[cm]; exact qAD _
 cbox j hj e t v h:=by
   by_cases e':id=j
   · subst e'; rw[bU hj] at h; exact absurd h (h1 _ _ _)
   · rw[bT e'] at h; exact h
 iter j hj s p h:=by
   by_cases e':id=j
   · subst e'; rw[bU hj] at h; exact h2 s p h
   · rw[bT e'] at h; exact ⟨p,h⟩
theorem oY {cs l:List AVal}{off k:Nat} (h:iY cs off k true=some (.agg l)):∃ pre post,cs=pre++(l++post)∧pre.length=off∧l.length=k:=by
 unfold iY at h;simp only[cond_true] at h;cases hb:Nat.ble (off+k) cs.length with
 | false=>rw[hb] at h; cases h
 | true =>
   rw[hb,cond_true] at h;cases h;rw[qBS] at hb;refine ⟨cs.take off,(cs.drop off).drop k,?_,?_,?_⟩
   · rw[qCH,qCH]
   · rw[qAP]; omega
   · rw[qAP,qA2]; omega
theorem zq {t:TypeId}{u:Ty}{v:u.V}{b:AVal}{off n len k:Nat} (hv:u.isV=true) (hb:R Γ u v false [b]):OkP Γ m (cY P t b.cells (off+k*n)) (aiQ P t ⟨u,v⟩ off n len k m):=by
 unfold aiQ
 split
 · rename_i len' w xs hp;cases hc:(Nat.beq w.size n&&Nat.beq len len'&&gf P t w) with
   | false=>exact .no
   | true =>
     simp only[k9,qAG] at hc;obtain ⟨⟨hc1,hc2⟩,hc3⟩:=hc;refine .opt fun z hz => ?_;obtain ⟨aa,ha1,ha2⟩:=jb (w0:=⟨u,v⟩) (b7 hv hb) hp rfl;simp only[R] at ha1
     obtain ⟨cs,ha3,hlen,ls,hls,hall⟩:=ha1;cases ha3;obtain ⟨pre,post,q1,q2,q3⟩:=oY ha2;obtain ⟨a,g1,g2,g3⟩:=lJ (P:=P) (off:=off) (pre:=pre) (post:=post) hc1 hc3 hall hz;refine .ok g1 g2 ?_;rw[q1,hls]
     exact g3 q2
 · exact .no
theorem gW (hm:MemR Φ Γ m st) {t:TypeId}{x:TV}{a:AVal} (hxv:x.t.isV=true) (hx:R Γ x.t x.v false [a]):OkP Γ m (jE P t a st) (loadT P t x m):=by
 unfold loadT
 split
 · rename_i u off v;simp only[R] at hx; obtain ⟨b,rest,hb,_,hx⟩:=hx; cases hx;cases hv:u.isV with
   | false=>exact .no
   | true =>
   refine .ofO fun w hw => ?_;obtain ⟨h1,a,h2,h3⟩:=gw (w0:=⟨u,v⟩) (b7 hv hb) hw;refine ⟨h1,a,h2,?_⟩;simp only[jE];exact partA_drop (partA_more (rest:=rest) h3)
 · rename_i u off v;simp only[R] at hx;cases hv:u.isV with
   | false=>exact .no
   | true =>
   refine .opt fun y hy => ?_;rcases hx with ⟨e0,_⟩ | ⟨z,b,rest,e0,hb,_,hx⟩
   · rw[e0] at hy; cases hy
   rw[e0] at hy; cases hy;cases hx;refine .ofO fun w hw => ?_;obtain ⟨h1,a,h2,h3⟩:=gw (w0:=⟨u,y⟩) (b7 hv hb) hw;refine ⟨h1,a,h2,?_⟩;simp only[jE];exact partA_drop (partA_more (rest:=rest) h3)
 · rename_i id off n len k;simp only[R] at hx; obtain ⟨r,n0,l0,hg,hx⟩:=hx; cases hx;have hr:=hm.at id
   split
   · rename_i e u v hreg;rw[hreg] at hr;obtain ⟨k1,k2,k3,r',b,k4,k5,k6⟩:=hr;rw[hg] at k4; cases k4;have:=zq (P:=P) (m:=m) (t:=t) (off:=off) (n:=n) (len:=len) (k:=k) k1 k6
     simpa only[jE,bA,k5,qAM,qAQ,if_true,qBR,qAF] using this
   · rename_i e u v hreg;rw[hreg] at hr;obtain ⟨k1,k0,k2,k3,r',b,k4,k5,k6⟩:=hr;rw[hg] at k4; cases k4;have:=zq (P:=P) (m:=m) (t:=t) (off:=off) (n:=n) (len:=len) (k:=k) k1 k6
     simpa only[jE,bA,k5,qAM,qAQ,if_true,qBR,qAF] using this
   · exact .no
 · rename_i id off _;simp only[R] at hx; obtain ⟨r,n,hg,hx⟩:=hx; cases hx;have hr:=hm.at id
   split
   · rename_i e u v hreg;rw[hreg] at hr;obtain ⟨k1,k2,k3,r',b,k4,k5,k6⟩:=hr;rw[hg] at k4; cases k4;refine .ofO fun w hw => ?_;obtain ⟨h1,a,h2,h3⟩:=gw (w0:=⟨u,v⟩) (b7 k1 k6) hw
     exact ⟨h1,a,h2,by simp only[jE,bA,k5,qAM,qAQ,if_true,qBR,qAF,h3]⟩
   · rename_i e u v hreg;rw[hreg] at hr;obtain ⟨k1,k0,k2,k3,r',b,k4,k5,k6⟩:=hr;rw[hg] at k4; cases k4;refine .ofO fun w hw => ?_;obtain ⟨h1,a,h2,h3⟩:=gw (w0:=⟨u,v⟩) (b7 k1 k6) hw
     exact ⟨h1,a,h2,by simp only[jE,bA,k5,qAM,qAQ,if_true,qBR,qAF,h3]⟩
   · exact .no
 · rename_i id off i;simp only[R] at hx; obtain ⟨r,n,len,hg,hx⟩:=hx; cases hx;have hr:=hm.at id
   split
   · rename_i e u xs hreg;rw[hreg] at hr;obtain ⟨k1,k2,k3,k4,k5⟩:=hr;refine .opt fun z hz=>.ofO fun w hw => ?_;rcases k5 with ⟨rfl,k5⟩ | ⟨r',as,k5,k6,k7,k8⟩
     · simp at hz
     · rw[hg] at k5; cases k5;obtain ⟨b,hb1,hb2⟩:=f8 k7 hz;obtain ⟨h1,a,h2,h3⟩:=gw (w0:=⟨u,z⟩) (b7 k1 hb2) hw;exact ⟨h1,a,h2,by simp only[jE,bA,k6,bc k7,if_true,hb1,qAF,h3]⟩
   · exact .no
 · exact .no
where
 partA_more {P:Program}{t:TypeId}{cs rest:List AVal}{off:Nat}{a:AVal} (h:cY P t cs off=some a):cY P t (cs++rest) off=some a:=by
   unfold cY at h ⊢
   split at h
   · rename_i n d hn hd
     try simp only[hn,hd]
     exact oZ (n:=n) (ag:=eY d) h
   · cases h
 partA_drop {P:Program}{t:TypeId}{cs:List AVal}{off:Nat}{a:AVal} (h:cY P t cs off=some a):cY P t (cs.drop off) 0=some a:=by
   unfold cY at h ⊢
   split at h
   · rename_i n d hn hd
     try simp only[hn,hd]
     cases hg:eY d with
     | true =>
       rw[hg,cond_true] at h;cases hb:Nat.ble (off+n) cs.length with
       | true =>
         rw[hb,cond_true] at h;rw[qBS] at hb;have:Nat.ble (0+n) (cs.drop off).length=true:=(by rw[qBS,qA2]; omega);rw[this,qB3];exact h
       | false=>rw[hb] at h; cases h
     | false =>
       rw[hg,cond_false] at h;simp only[cond_false];rw[qBY,qB1]; exact h
   · cases h
theorem aip {t:TypeId}{x:TV}{a:AVal} (hx:R Γ x.t x.v false [a]):OkP Γ m (nB P t a) (arE P t x m):=by
 unfold arE
 split
 · rename_i u off v;simp only[R] at hx; obtain ⟨b,rest,hb,_,hx⟩:=hx; cases hx;cases hv:u.isV with
   | false=>exact .no
   | true =>
   refine .ofO fun w hw => ?_;obtain ⟨h1,a,h2,h3⟩:=gw (w0:=⟨u,v⟩) (b7 hv hb) hw;refine ⟨h1,a,h2,?_⟩;simp only[nB];exact gW.partA_drop (gW.partA_more (rest:=rest) h3)
 · rename_i u off v;simp only[R] at hx;cases hv:u.isV with
   | false=>exact .no
   | true =>
   refine .opt fun y hy => ?_;rcases hx with ⟨e0,_⟩ | ⟨z,b,rest,e0,hb,_,hx⟩
   · rw[e0] at hy; cases hy
   rw[e0] at hy; cases hy;cases hx;refine .ofO fun w hw => ?_;obtain ⟨h1,a,h2,h3⟩:=gw (w0:=⟨u,y⟩) (b7 hv hb) hw;refine ⟨h1,a,h2,?_⟩;simp only[nB];exact gW.partA_drop (gW.partA_more (rest:=rest) h3)
 · exact .no
theorem tH {t:TypeId}{u:Ty} (h:li P t u=true):u.isV=true∧u.okRow=true∧u.size≠0:=by
 unfold li at h
 split at h
 · simp only[k9,qAG,qBD] at h;obtain ⟨⟨⟨⟨h1,h2⟩,h3⟩,h4⟩,h5⟩:=h;exact ⟨h4,h3,by rw[← h1]; exact gh h5⟩
 · cases h
theorem jn {t:Ty}{sz:Nat} (hs:t.size=sz) {y:t.V}{wc:List AVal} (hy:R Γ t y true wc):∀ {xs:List t.V}{ls:List (List AVal)}{i:Nat},All2 (fun x c=>R Γ t x true c) xs ls→i<xs.length →
   ∃ ls',All2 (fun x c=>R Γ t x true c) (xs.set i y) ls'∧ls'.flatten=ls.flatten.take (i*sz)++wc++ls.flatten.drop (i*sz+sz)∧i*sz+sz≤ls.flatten.length
 | x::xs,c::ls,0,h,_=>by
   have hl:=ec h.1;have e:c.length=sz:=by omega
   refine ⟨wc::ls,⟨hy,h.2⟩,?_,?_⟩
   · simp only[qCA,qAO,qDN,qBB,qBQ];rw[← e,List.drop_left' rfl]
   · simp only[qCA,qAO,qBQ,qAA]; omega
 | x::xs,c::ls,i+1,h,hi=>by
   obtain ⟨ls',h1,h2,h3⟩:=jn hs hy (i:=i) h.2 (by simpa using hi);have hl:=ec h.1;have e:c.length=sz:=by omega
   have e2:(i+1)*sz=c.length+i*sz:=by rw[qB4]; omega
   refine ⟨c::ls',⟨h.1,h1⟩,?_,?_⟩
   · rw[e2,qBQ,qBQ,h2,List.take_length_add_append,qCG,qC5];simp only[qAT]
   · rw[e2]; simp only[qBQ,qAA]; omega
 | [],[],i,h,hi=>by simp at hi
theorem aro {pre post l wc:List AVal}{off a n:Nat} (hl:pre.length=off) (hw:wc.length=n) (hle:a+n≤l.length) :
   (pre++(l++post)).take off++(l.take a++wc++l.drop (a+n))++(pre++(l++post)).drop (off+(l.take a++wc++l.drop (a+n)).length)=(pre++(l++post)).take (off+a)++wc++(pre++(l++post)).drop (off+a+wc.length):=by
 have e1:(l.take a++wc++l.drop (a+n)).length=l.length:=by simp only[qAA,qAP,qA2]; omega
 rw[e1];subst hl;have e2:(l++post).drop l.length=post:=List.drop_left' rfl
 rw[List.take_left' rfl,qC5,e2,List.take_length_add_append,qCG,qC5,hw,qB7 (by omega),qCF (by omega)]
 simp only[qAT]
theorem aet (hm:MemR Φ Γ m st) {t:TypeId}{x w:TV}{a b:AVal} (hx:R Γ x.t x.v false [a]) (hw:R Γ w.t w.v false [b]):OkM Φ none Γ m st ((kS P t a b st).map fun s=>(AVal.any,s)) (storeT P t x w m):=by
 unfold storeT;cases hf:li P t w.t with
 | false=>exact .no
 | true =>
   have hfit:=afX hf hw;obtain ⟨f1,f2,f3⟩:=tH hf;simp only[cond_true]
   split
   · rename_i id off _;simp only[R] at hx; obtain ⟨r,n,hg,hx⟩:=hx; cases hx;have hr:=hm.at id
     split
     · rename_i e u v hreg;rw[hreg] at hr;obtain ⟨k1,k2,k3,r',c,k4,k5,k6⟩:=hr;rw[hg] at k4; cases k4
       split
       · rename_i y hy;cases hc:(y.t.isV&&y.t.okRow&&Nat.beq y.t.size u.size) with
         | false=>exact .no
         | true =>
           simp only[k9,qAG] at hc;obtain ⟨⟨c1,c2⟩,c3⟩:=hc;obtain ⟨g1,g2,g3,g4,g5,g6⟩:=lz (u:=⟨u,v⟩) k6 k1 k2 hw f1 hy
           refine .ok (a:=.any) (st':=st.set r (.row e u.size [putCells c off b])) Γ ?_ (.inl rfl) (hm.set (eJ hreg (by simp)) hg ?_) (fun _ _ _ h=>h) (.set (by intro _ _ _ h; cases h) (by intro _ _ h; cases h))
           · simp only[kS,bA,k5,qAM,qAQ,if_true,qBR,qAF,rowTy];rw[if_pos ⟨hfit,g5,by rcases g6 with h | h<;>simp[h]⟩];simp
           · refine ⟨c1,c2,by rw[c3]; exact k3,r,putCells c off b,by rw[c3]; exact hg,?_,g1⟩;rw[qAY (hm.lt _ _ _ _ hg),c3]
       · exact .no
     · exact .no
   · rename_i id off i;simp only[R] at hx; obtain ⟨r,n,len,hg,hx⟩:=hx; cases hx;have hr:=hm.at id
     split
     · rename_i e u xs hreg;rw[hreg] at hr;obtain ⟨k1,k2,k3,k4,k5⟩:=hr;refine .opt fun z hz => ?_;rcases k5 with ⟨rfl,k5⟩ | ⟨r',as,k5,k6,k7,k8⟩
       · simp at hz
       · rw[hg] at k5; cases k5;obtain ⟨c,hb1,hb2⟩:=f8 k7 hz
         split
         · rename_i y hy
           split
           · rename_i q hq;obtain ⟨g1,g2,g3,g4,g5,g6⟩:=lz (u:=⟨u,z⟩) hb2 k1 k3 hw f1 hy
             refine .ok (a:=.any) (st':=st.set r (.row e u.size (as.set i (putCells c off b)))) Γ ?_ (.inl rfl) (hm.set (eJ hreg (by simp)) hg ?_) (fun _ _ _ h=>h) (.set (by intro _ _ _ h; cases h) (by intro _ _ h; cases h))
             · simp only[kS,bA,k6,bc k7,if_true,hb1,qAF,rowTy];rw[if_pos ⟨hfit,g5,by rcases g6 with h | h<;>simp[h]⟩];rfl
             · refine ⟨k1,k2,k3,k4,.inr ⟨r,_,by rw[qDJ]; exact hg,qAY (hm.lt _ _ _ _ hg),?_,fun hz e=>k8 hz (by simpa using e)⟩⟩;exact re k7 (cr hq g1)
           · exact .no
         · exact .no
     · exact .no
   · rename_i id off n len k;simp only[R] at hx; obtain ⟨r,n0,l0,hg,hx⟩:=hx; cases hx;have hr:=hm.at id
     split
     · rename_i e u v hreg;rw[hreg] at hr;obtain ⟨k1,k2,k3,r',c,k4,k5,k6⟩:=hr;rw[hg] at k4; cases k4
       split
       · rename_i len' u' xs hp
         split
         · rename_i y hy
           split
           · rename_i x hxx;cases hc:(Nat.beq u'.size n&&Nat.beq len len'&&u'.okRow&&u'.isV&&Nat.beq w.t.size n&&isB w.t.isAgg u'.isAgg&&x.t.isV&&x.t.okRow&&Nat.beq x.t.size u.size) with
             | false=>exact .no
             | true =>
               simp only[k9,qAG] at hc;obtain ⟨⟨⟨⟨⟨⟨⟨⟨c1,c2⟩,c3⟩,c4⟩,c5⟩,c6⟩,c7⟩,c8⟩,c9⟩:=hc;have c6:=kM c6;refine .opt fun z hz => ?_;have hi:=(List.getElem?_eq_some_iff.1 hz).1
               obtain ⟨aa,ha1,ha2⟩:=jb (w0:=⟨u,v⟩) (b7 k1 k6) hp rfl;simp only[R] at ha1;obtain ⟨cs,ha3,hlen,ls,hls,hall⟩:=ha1;cases ha3;obtain ⟨pre,post,q1,q2,q3⟩:=oY ha2;have hyr:=cr hy hw
               have hbc:=b7 c4 hyr;have hbl:=ec hbc;obtain ⟨ls',s1,s2,s3⟩:=jn c1 hbc hall hi
               have hnew:R Γ (.arr len' u') (xs.set k y) false [.agg ls'.flatten]:=⟨_,rfl,by rw[qDJ]; exact hlen,ls',rfl,s1⟩
               obtain ⟨g1,g2,g3,g4,g5,g6⟩:=lz (u:=⟨u,v⟩) (w:=⟨.arr len' u',xs.set k y⟩) k6 k1 k2 hnew rfl hxx;have hag:c.isAgg=true:=by rcases g6 with h | h<;>simp_all [AVal.isAgg]
               have hpc:putCells c off (.agg ls'.flatten)=putCells c (off+k*n) b:=by
                 cases c<;>first | (cases hag; done) | skip
                 rename_i cc;simp only[putCells];congr 1;have q1':cc=pre++(cs++post):=q1
                 have:=aro (pre:=pre) (post:=post) (l:=cs) (wc:=b.cells) (off:=off) (a:=k*n) (n:=n) q2 (by omega) (by rw[hls]; exact s3);rw[q1'];rw[hls] at this ⊢;simp only[AVal.cells,s2];exact this
               have hle:off+k*n+b.cells.length≤c.cells.length:=by
                 rw[q1]; simp only[qAA]; rw[hls]; omega
               refine .ok (a:=.any) (st':=st.set r (.row e u.size [putCells c (off+k*n) b])) Γ ?_ (.inl rfl) (hm.set (eJ hreg (by simp)) hg ?_) (fun _ _ _ h=>h) (.set (by intro _ _ _ h; cases h) (by intro _ _ h; cases h))
               · simp only[kS,bA,k5,qAM,qAQ,if_true,qBR,qAF,rowTy];rw[if_pos ⟨hfit,hle,.inl hag⟩];simp
               · refine ⟨c7,c8,by rw[c9]; exact k3,r,putCells c (off+k*n) b,by rw[c9]; exact hg,?_,by rw[← hpc]; exact g1⟩;rw[qAY (hm.lt _ _ _ _ hg),c9]
           · exact .no
         · exact .no
       · exact .no
     · exact .no
   · exact .no
theorem wH (hm:MemR Φ Γ m st) {ro:Bool}{t:TypeId}{w:TV}{b:AVal} (hw:R Γ w.t w.v false [b]):OkM Φ d Γ m st (abox P t b st) (boxT P ro t w m):=by
 unfold boxT;cases hf:(li P t w.t&&(!ro||w.t.closed)) with
 | false=>exact .no
 | true =>
   rw[k9] at hf;obtain ⟨hf,hc⟩:=hf;have hfit:=afX hf hw;obtain ⟨f1,f2,f3⟩:=tH hf;have hl:=ec (b7 f1 hw)
   refine .ok (a:=.ptr st.length 1 0 0) (st':=st++[.row t b.cells.length [b]]) (more Γ m.length (.inr (st.length,w.t.size,1))) ?_ (.inr ⟨rfl,st.length,w.t.size,bG,rfl⟩) (hm.more ?_) (fun j y _ h=>b9 hm j y h) .more
   · simp only[abox,hfit,if_true]
   · rw[hl];have hat:(st++[AReg.row t w.t.size [b]])[st.length]? = some (.row t w.t.size [b]):=(by simp);cases ro with
     | false=>exact ⟨f1,f2,f3,st.length,b,bG,hat,bR (fun j x _ hx=>b9 hm j x hx) hw⟩
     | true=>exact ⟨f1,by simpa using hc,f2,f3,st.length,b,bG,hat,bR (fun j x _ hx=>b9 hm j x hx) hw⟩
theorem agA (hm:MemR Φ Γ m st) {ro:Bool}{t:TypeId}:OkM Φ d Γ m st (kU P t st) (agB P ro t m):=by
 unfold agB
 split
 · rename_i z hz;obtain ⟨h1,a,h2,h3⟩:=iv (Γ:=Γ) hz;have:=wH (d:=d) (P:=P) (ro:=ro) (t:=t) hm h3;unfold kU;rw[h2,qAJ];exact this
 · exact .no
theorem ss:∀ {rows:List (Nat×Ty)}{Γ:Ctx}{m:Mem},mz rows=true→MemR Φ Γ m st →
   ∃ Γ',MemR Φ Γ' (m++iT rows) st∧(∀ j y,Γ j=some y→Γ' j=some y)∧Pers m (m++iT rows)∧(∀ j,m.length≤j→j<m.length+rows.length→Γ' j=some (.inl false))
 | [],Γ,m,h,hm=>⟨Γ,by simpa [iT] using hm,fun _ _ h=>h,by simpa [iT] using Pers.refl m,fun j h1 h2=>by simp at h2; omega⟩
 | (e,u)::l,Γ,m,h,hm=>by
   simp only[mz,k9,qBD] at h;obtain ⟨⟨⟨⟨h1,h2⟩,h3⟩,h4⟩,h5⟩:=h
   have hm':=hm.moreNil (g:=.row true e u []) ⟨h1,h2,h3,(by intro e; rw[e] at h4; cases h4),.inl ⟨rfl,false,bG,fun _=>rfl⟩⟩;obtain ⟨Γ',k1,k2,k3,k4⟩:=ss h5 hm'
   have e2:m++iT ((e,u)::l)=(m++[.row true e u []])++iT l:=by simp[iT]
   rw[e2];refine ⟨Γ',k1,fun j y hy=>k2 j y (b9 hm j y hy),Pers.more.trans k3,fun j g1 g2 => ?_⟩;by_cases hj:j=m.length
   · subst hj; exact k2 _ _ bG
   · refine k4 j ?_ ?_
     · simp only[qAA,qAM,qAQ]; omega
     · simp only[qAA,qAM,qAQ] at g2 ⊢; omega
theorem ary (hm:MemR Φ Γ m st) {t:TypeId}{u:Ty}{rows:List (Nat×Ty)}:OkM Φ d Γ m st (kU P t st) (newT P t u rows m):=by
 unfold newT
 split
 · rename_i z hz;cases hr:mz rows with
   | false=>exact .no
   | true =>
     simp only[cond_true]
     split
     · rename_i x hx;obtain ⟨h1,a,h2,h3⟩:=iv (Γ:=Γ) hz;obtain ⟨Γ1,k1,k2,k3,k4⟩:=ss hr hm;have hxr:R Γ1 u x false [a]:=eK (w:=z) (p:=fun _=>True) (Γ:=Γ) ⟨fun j _ y hy=>k2 j y hy,fun j _ hf=>by
         simp only[k9,qBS] at hf;exact ⟨_,k4 j hf.1 (by omega)⟩⟩ (fun _ _=>trivial) hx h3
       have:=wH (d:=d) (P:=P) (ro:=false) (t:=t) (w:=⟨u,x⟩) k1 hxr;unfold kU;rw[h2,qAJ];intro X K x hx;obtain ⟨w,m',k,a',st',Γ',q1,q2,q3,q4,q5,q6⟩:=this X K x hx
       exact ⟨w,m',k,a',st',Γ',q1,q2,q3,q4,fun j y hk hy=>q5 j y hk (k2 j y hy),k3.trans q6⟩
     · exact .no
 · exact .no
end
end Go.TY
namespace Go.TY
open Go.EM
section
variable {Φ:Frame}{Γ:Ctx}{m:Mem}{st:aC}{P:Program}{d:Option Nat}
theorem mZ {j:Nat}{Γ':Ctx} (he:∀ i y,i≠j→Γ i=some y→Γ' i=some y):∀ {t:Ty}{v:t.V}{c:Bool}{l:List AVal},R Γ t v c l→(cN j t v).t.names j=false→R Γ' (cN j t v).t (cN j t v).v c l
 | .agg t,v,c,l,h,hn=>by
   simp only[cN] at hn ⊢;cases c<;>simp only[R] at h ⊢
   · obtain ⟨cs,rfl,h⟩:=h;exact ⟨cs,rfl,mZ he (t:=t) h hn⟩
   · exact mZ he (t:=t) h hn
 | .cons t ts,v,c,l,h,hn=>by
   simp only[cN,Ty.names,qCR] at hn ⊢;simp only[R] at h ⊢;obtain ⟨l1,l2,rfl,h1,h2⟩:=h;exact ⟨l1,l2,rfl,mZ he h1 hn.1,mZ he h2 hn.2⟩
 | .own i,v,c,l,h,hn=>by
   simp only[cN] at hn ⊢;cases hb:Nat.beq i j with
   | true =>
     simp only[cond_true,R] at h ⊢
     split at h
     · exact ⟨_,h,rfl⟩
     · rcases h with h | ⟨_,_,h⟩<;>exact ⟨_,h,rfl⟩
     · exact h.elim
   | false =>
     rw[hb,cond_false] at hn;exact bR (t:=.own i) (fun k y hk hy=>he k y (fun e=>by rw[e] at hk; rw[hk] at hn; cases hn) hy) h
 | .ptr i off,v,c,l,h,hn=>by
   simp only[cN] at hn ⊢;cases hb:Nat.beq i j with
   | true =>
     simp only[cond_true,R] at h ⊢;obtain ⟨_,_,_,_,h⟩:=h;exact ⟨_,h,rfl⟩
   | false =>
     rw[hb,cond_false] at hn;exact bR (t:=.ptr i off) (fun k y hk hy=>he k y (fun e=>by rw[e] at hk; rw[hk] at hn; cases hn) hy) h
 | .ba i off en ln,v,c,l,h,hn=>by
   simp only[cN] at hn ⊢;cases hb:Nat.beq i j with
   | true =>
     simp only[cond_true,R] at h ⊢;obtain ⟨_,_,_,_,h⟩:=h;exact ⟨_,h,rfl⟩
   | false =>
     rw[hb,cond_false] at hn;exact bR (t:=.ba i off en ln) (fun k y hk hy=>he k y (fun e=>by rw[e] at hk; rw[hk] at hn; cases hn) hy) h
 | .vw i,v,c,l,h,hn=>by
   simp only[cN] at hn ⊢;cases hb:Nat.beq i j with
   | true =>
     simp only[cond_true,R] at h ⊢;obtain ⟨_,_,_,_,h⟩:=h;exact ⟨_,h,rfl⟩
   | false =>
     rw[hb,cond_false] at hn;exact bR (t:=.vw i) (fun k y hk hy=>he k y (fun e=>by rw[e] at hk; rw[hk] at hn; cases hn) hy) h
 | .int _,v,c,l,h,hn=>bR (t:=.int _) (fun k y hk=>by cases hk) h
 | .bool,v,c,l,h,hn=>bR (t:=.bool) (fun k y hk=>by cases hk) h
 | .str,v,c,l,h,hn=>bR (t:=.str) (fun k y hk=>by cases hk) h
 | .sl t,v,c,l,h,hn=>bR (t:=.sl t) (fun k y hk hy=>he k y (fun e=>by rw[e] at hk; simp only[cN] at hn; rw[hk] at hn; cases hn) hy) h
 | .arr n t,v,c,l,h,hn=>bR (t:=.arr n t) (fun k y hk hy=>he k y (fun e=>by rw[e] at hk; simp only[cN] at hn; rw[hk] at hn; cases hn) hy) h
 | .tup t,v,c,l,h,hn=>bR (t:=.tup t) (fun k y hk hy=>he k y (fun e=>by rw[e] at hk; simp only[cN] at hn; rw[hk] at hn; cases hn) hy) h
 | .unit,v,c,l,h,hn=>bR (t:=.unit) (fun k y hk=>by cases hk) h
 | .nilsl,v,c,l,h,hn=>bR (t:=.nilsl) (fun k y hk=>by cases hk) h
 | .nilp,v,c,l,h,hn=>bR (t:=.nilp) (fun k y hk=>by cases hk) h
 | .fn f,v,c,l,h,hn=>bR (t:=.fn f) (fun k y hk=>by cases hk) h
 | .err,v,c,l,h,hn=>bR (t:=.err) (fun k y hk=>by cases hk) h
 | .undef,v,c,l,h,hn=>bR (t:=.undef) (fun k y hk=>by cases hk) h
 | .any,v,c,l,h,hn=>bR (t:=.any) (fun k y hk=>by cases hk) h
 | .it i,v,c,l,h,hn=>bR (t:=.it i) (fun k y hk hy=>he k y (fun e=>by rw[e] at hk; simp only[cN] at hn; rw[hk] at hn; cases hn) hy) h
 | .mp i,v,c,l,h,hn=>bR (t:=.mp i) (fun k y hk hy=>he k y (fun e=>by rw[e] at hk; simp only[cN] at hn; rw[hk] at hn; cases hn) hy) h
 | .bx i o,v,c,l,h,hn=>bR (t:=.bx i o) (fun k y hk hy=>he k y (fun e=>by rw[e] at hk; simp only[cN] at hn; rw[hk] at hn; cases hn) hy) h
 | .op i,v,c,l,h,hn=>bR (t:=.op i) (fun k y hk hy=>he k y (fun e=>by rw[e] at hk; simp only[cN] at hn; rw[hk] at hn; cases hn) hy) h
 | .rp t o,v,c,l,h,hn=>bR (t:=.rp t o) (fun k y hk hy=>he k y (fun e=>by rw[e] at hk; simp only[cN] at hn; rw[hk] at hn; cases hn) hy) h
 | .orp t o,v,c,l,h,hn=>bR (t:=.orp t o) (fun k y hk hy=>he k y (fun e=>by rw[e] at hk; simp only[cN] at hn; rw[hk] at hn; cases hn) hy) h
 | .cl o t,v,c,l,h,hn=>bR (t:=.cl o t) (fun k y hk hy=>he k y (fun e=>by rw[e] at hk; simp only[cN] at hn; rw[hk] at hn; cases hn) hy) h
theorem fR {j:Nat}:∀ {t:Ty}{v:t.V},(cN j t v).t.size=t.size∧(cN j t v).t.isV=t.isV∧(t.okRow=true→(cN j t v).t.okRow=true)
 | .agg t,v=>by
   obtain ⟨h1,h2,h3⟩:=fR (j:=j) (t:=t) (v:=v);simp only[cN];refine ⟨h1,rfl,fun h => ?_⟩;simp only[Ty.okRow,k9,qBD] at h ⊢;exact ⟨by rw[h2]; exact h.1,h3 h.2⟩
 | .cons t ts,v=>by
   obtain ⟨h1,h2,h3⟩:=fR (j:=j) (t:=t) (v:=v.1);obtain ⟨g1,g2,g3⟩:=fR (j:=j) (t:=ts) (v:=v.2);simp only[cN];refine ⟨by simp only[Ty.size,h1,g1],rfl,fun h => ?_⟩
   simp only[Ty.okRow,k9] at h ⊢;exact ⟨⟨by rw[h2]; exact h.1.1,h3 h.1.2⟩,g3 h.2⟩
 | .own i,v=>by
   simp only[cN];cases Nat.beq i j<;>exact ⟨rfl,rfl,fun _=>rfl⟩
 | .ptr i o,v=>by
   simp only[cN];cases Nat.beq i j<;>exact ⟨rfl,rfl,fun _=>rfl⟩
 | .ba i o en ln,v=>by
   simp only[cN];cases Nat.beq i j<;>exact ⟨rfl,rfl,fun _=>rfl⟩
 | .vw i,v=>by
   simp only[cN];cases Nat.beq i j<;>exact ⟨rfl,rfl,fun _=>rfl⟩
 | .int _,v=>⟨rfl,rfl,fun h=>h⟩
 | .bool,v=>⟨rfl,rfl,fun h=>h⟩
 | .str,v=>⟨rfl,rfl,fun h=>h⟩
 | .sl t,v=>⟨rfl,rfl,fun h=>h⟩
 | .arr _ t,v=>⟨rfl,rfl,fun h=>h⟩
 | .tup t,v=>⟨rfl,rfl,fun h=>h⟩
 | .unit,v=>⟨rfl,rfl,fun h=>h⟩
 | .nilsl,v=>⟨rfl,rfl,fun h=>h⟩
 | .nilp,v=>⟨rfl,rfl,fun h=>h⟩
 | .fn f,v=>⟨rfl,rfl,fun h=>h⟩
 | .err,v=>⟨rfl,rfl,fun h=>h⟩
 | .undef,v=>⟨rfl,rfl,fun h=>h⟩
 | .any,v=>⟨rfl,rfl,fun h=>h⟩
 | .it i,v=>⟨rfl,rfl,fun h=>h⟩
 | .mp i,v=>⟨rfl,rfl,fun h=>h⟩
 | .bx i o,v=>⟨rfl,rfl,fun h=>h⟩
 | .op i,v=>⟨rfl,rfl,fun h=>h⟩
 | .rp t o,v=>⟨rfl,rfl,fun h=>h⟩
 | .orp t o,v=>⟨rfl,rfl,fun h=>h⟩
 | .cl o t,v=>⟨rfl,rfl,fun h=>h⟩
theorem qv {j id:Nat}{Γ':Ctx}{st':aC}{g:Reg} (he:∀ i y,i≠j→Γ i=some y→Γ' i=some y) (hne:id≠j) (hs:∀ r n l,Γ id=some (.inr (r,n,l))→st'[r]? = st[r]?) (h:RegR Γ st id g):RegR Γ' st' id (qw j g):=by
 cases g with
 | box e t v =>
   obtain ⟨h1,h2,h3,r,a,h4,h5,h6⟩:=h;simp only[qw];cases hn:t.names j with
   | false =>
     exact ⟨h1,h2,h3,r,a,he _ _ hne h4,by rw[hs _ _ _ h4]; exact h5,bR (fun k y hk hy=>he k y (fun e=>by rw[e] at hk; rw[hk] at hn; cases hn) hy) h6⟩
   | true =>
     simp only[cond_true];cases hk:(cN j t v).t.names j with
     | true=>trivial
     | false =>
       obtain ⟨k1,k2,k3⟩:=fR (j:=j) (t:=t) (v:=v);refine ⟨by rw[k2]; exact h1,k3 h2,by rw[k1]; exact h3,r,a,by rw[k1]; exact he _ _ hne h4,by rw[hs _ _ _ h4,k1]; exact h5,mZ he h6 hk⟩
 | cbox e t v =>
   obtain ⟨h1,h0,h2,h3,r,a,h4,h5,h6⟩:=h;exact ⟨h1,h0,h2,h3,r,a,he _ _ hne h4,by rw[hs _ _ _ h4]; exact h5,aX h0 h6⟩
 | row z e t xs =>
   simp only[qw];cases hn:t.names j with
   | true=>trivial
   | false =>
     obtain ⟨h1,h2,h3,h4,h5⟩:=h;refine ⟨h1,h2,h3,h4,?_⟩;rcases h5 with ⟨h5,h6⟩ | ⟨r,as,h5,h6,h7,h8⟩
     · obtain ⟨b,h6,h7⟩:=h6; exact .inl ⟨h5,b,he _ _ hne h6,h7⟩
     · exact .inr ⟨r,as,he _ _ hne h5,by rw[hs _ _ _ h5]; exact h6,aM (p:=fun x a=>R Γ t x false [a]) (fun x a hx=>aX h2 hx) h7,h8⟩
 | iter s pos =>
   obtain ⟨r,h1,h2⟩:=h;exact ⟨r,he _ _ hne h1,by rw[hs _ _ _ h1]; exact h2⟩
 | map k v xs =>
   obtain ⟨h1,h2,h3,h4,r,es,h5,h6,h7⟩:=h
   exact ⟨h1,h2,h3,h4,r,es,he _ _ hne h5,by rw[hs _ _ _ h5]; exact h6,aM (p:=fun (p:k.V×v.V) (e:AVal×AVal)=>R Γ k p.1 false [e.1]∧R Γ v p.2 false [e.2]) (fun x a hx=>⟨aX h3 hx.1,aX h4 hx.2⟩) h7⟩
 | gone=>trivial
theorem eX:∀ {m:Mem}{i j:Nat},i<m.length→getM (na j m) i=qw j (getM m i)
 | _::m,0,j,_=>rfl
 | _::m,i+1,j,h=>eX (m:=m) (by simpa using h)
 | [],i,j,h=>by simp at h
theorem bS:∀ {m:Mem}{j:Nat},(na j m).length=m.length
 | [],j=>rfl
 | _::m,j=>by simp[na,bS]
def grown (Γ:Ctx) (id:Nat) (y:Nat×Nat×Nat):Ctx:=fun j=>if j=id then some (.inr y) else Γ j
theorem qI {id:Nat}{y:Nat×Nat×Nat}:∀ i x,i≠id→Γ i=some x→grown Γ id y i=some x:=by
 intro i x hi hx;simp only[grown,if_neg hi]; exact hx
theorem ka {j:Nat}{g:Reg}:(∀ e t v,qw j g = .cbox e t v→g = .cbox e t v)∧(∀ s p,qw j g = .iter s p→g = .iter s p):=by
 cases g with
 | box e t v =>
   simp only[qw];cases t.names j with
   | false=>exact ⟨(fun _ _ _ h=>by cases h),(fun _ _ h=>by cases h)⟩
   | true =>
     simp only[cond_true];cases (cN j t v).t.names j with
     | false=>exact ⟨(fun _ _ _ h=>by cases h),(fun _ _ h=>by cases h)⟩
     | true=>exact ⟨(fun _ _ _ h=>by cases h),(fun _ _ h=>by cases h)⟩
 | cbox e t v=>exact ⟨(fun _ _ _ h=>h),(fun _ _ h=>by cases h)⟩
 | row z e t xs =>
   simp only[qw];cases t.names j with
   | false=>exact ⟨(fun _ _ _ h=>by cases h),(fun _ _ h=>by cases h)⟩
   | true=>exact ⟨(fun _ _ _ h=>by cases h),(fun _ _ h=>by cases h)⟩
 | iter s p=>exact ⟨(fun _ _ _ h=>by cases h),(fun _ _ h=>h)⟩
 | map k v xs=>exact ⟨(fun _ _ _ h=>by cases h),(fun _ _ h=>by cases h)⟩
 | gone=>exact ⟨(fun _ _ _ h=>by cases h),(fun _ _ h=>by cases h)⟩
theorem Pers.kill {id:Nat}{g:Reg} (h1:∀ e t v,g ≠ .cbox e t v) (h2:∀ s p,g ≠ .iter s p):Pers m (setM (na id m) id g) where
 len:=by rw[cm,bS]; exact qAD _
 cbox j hj e t v h:=by
   by_cases e':id=j
   · subst e'; rw[bU (by rw[bS]; exact hj)] at h; exact absurd h (h1 _ _ _)
   · rw[bT e',eX hj] at h; exact ka.1 _ _ _ h
 iter j hj s p h:=by
   by_cases e':id=j
   · subst e'; rw[bU (by rw[bS]; exact hj)] at h; exact absurd h (h2 _ _)
   · rw[bT e',eX hj] at h; exact ⟨p,ka.2 _ _ h⟩
theorem MemR.grow (hm:MemR Φ Γ m st) {id:Nat}{g:Reg}{r n l:Nat}{st':aC} (hid:id<m.length) (hst:st.length≤st'.length)
   (hs:∀ i r' n' l',i≠id→Γ i=some (.inr (r',n',l'))→st'[r']? = st[r']?) (hr:r<st'.length) (hfr:∀ i r' n' l',i≠id→Γ i=some (.inr (r',n',l'))→r'≠r) (hg:RegR (grown Γ id (r,n,l)) st' id g) (hΦ:∀ r' g,Φ r'=some g→st'[r']? = some g) (hd:∀ g,Φ r≠some g):MemR Φ (grown Γ id (r,n,l)) (setM (na id m) id g) st' where
 reg j hj:=by
   rw[cm,bS] at hj;by_cases e:id=j
   · subst e; rw[bU (by rw[bS]; exact hid)]; exact hg
   · rw[bT e,eX hj];exact qv qI (fun e'=>e e'.symm) (fun r' n' l' h=>hs j r' n' l' (fun e'=>e e'.symm) h) (hm.reg j hj)
 out j hj:=by
   rw[cm,bS] at hj;simp only[grown];rw[if_neg (by omega)];exact hm.out j hj
 inj i j r' n' l' n'' l'' hi hj:=by
   simp only[grown] at hi hj
   split at hi<;>split at hj
   · rename_i e1 e2; rw[e1,e2]
   · rename_i e1 e2; cases hi; exact absurd rfl (hfr _ _ _ _ e2 hj)
   · rename_i e1 e2; cases hj; exact absurd rfl (hfr _ _ _ _ e1 hi)
   · exact hm.inj _ _ _ _ _ _ _ hi hj
 lt i r' n' l' hi:=by
   simp only[grown] at hi
   split at hi
   · cases hi; exact hr
   · have:=hm.lt _ _ _ _ hi; omega
 old:=hΦ
 dis r' g i n' l' h hi:=by
   simp only[grown] at hi
   split at hi
   · cases hi; exact hd g h
   · exact hm.dis r' g i n' l' h hi
theorem ww (hm:MemR Φ Γ m st) {u:Ty}{y:TV}{ys:List u.V}{b:AVal}{n:Nat} (hn:u.size=n) (h:agh m u y=some ys) (hy:R Γ y.t y.v false [b]):∃ bs,bK st n b=some bs∧All2 (fun x a=>R Γ u x false [a]) ys bs:=by
 unfold agh at h
 split at h
 · cases h; simp only[R] at hy; cases hy; exact ⟨[],rfl,trivial⟩
 · rename_i t xs;obtain ⟨e,hx⟩:=bg h;cases e;subst hx;simp only[R] at hy;rcases hy with ⟨rfl,hy⟩ | ⟨f,n',as,hy,hn',h2⟩
   · cases hy; exact ⟨[],rfl,trivial⟩
   · cases hy;refine ⟨as,?_,h2⟩;simp only[bK];rw[if_pos];rcases hn' with rfl | hn'
     · right; rw[bc h2]; rfl
     · left; exact hn'.trans hn
 · rename_i id _
   split at h
   · rename_i e t xs hg;obtain ⟨e',hx⟩:=bg h;cases e';subst hx;have hr:=hm.at id;rw[hg] at hr;obtain ⟨k1,k2,k3,k4,k5⟩:=hr;simp only[R] at hy;rcases k5 with ⟨rfl,k5⟩ | ⟨r,as,k5,k6,k7,k8⟩
     · obtain ⟨_,k5,_⟩:=k5;rw[k5] at hy;rcases hy with hy | ⟨_,n',hy⟩
       · cases hy; exact ⟨[],rfl,trivial⟩
       · cases hy; exact ⟨[],by simp[bK],trivial⟩
     · rw[k5] at hy; cases hy;refine ⟨as,?_,k7⟩;have hl:=bc k7;simp only[bK,if_pos hn,EM.rowAt,k6,hl,and_self,if_true,qAF,qB3];rw[qBI (by omega)]
   · cases h
 · split at h
   · cases h;simp only[R] at hy; cases hy;rename_i s _;have hn1:n=1:=hn.symm;refine ⟨s.map fun b=>.int .u8 b.toNat,by simp only[bK,if_pos hn1],?_⟩;clear hn1
     induction s with
     | nil=>trivial
     | cons c s ih=>exact ⟨rfl,ih⟩
   · cases h
 · cases h
theorem oT {n:Nat}{u:Unit} (h:bh n=some u):n<most:=(dj h).1
theorem fX {t:TypeId}{n:Nat}{z:AVal} (h:cP P t=some (n,z)):zeroOf P (bE P t)=some z∧n≠0:=by
 unfold cP at h
 split at h
 · rename_i e hu
   split at h
   · rename_i i hi
     split at h
     · rename_i z' hz
       split at h
       · rename_i hc;cases h;refine ⟨?_,hc.1⟩;have:bE P t=e:=(by simp only[bE,hu]);rw[this];simp only[zeroOf,hi,qAJ,hz,qAF]
       · cases h
     · cases h
   · cases h
 · cases h
theorem arj (hm:MemR Φ Γ m st) {z:Bool}{e:Nat}{u:Ty}{xs:List u.V}{as:List AVal} (h1:u.isV=true) (h2:u.closed=true) (h3:u.okRow=true) (h4:u.size≠0) (hr:All2 (fun x a=>R Γ u x false [a]) xs as) (hz:z=true→xs≠[]) :
   RegR (more Γ m.length (.inr (st.length,u.size,xs.length))) (st++[.row e u.size as]) m.length (.row z e u xs) :=
 ⟨h1,h2,h3,h4,.inr ⟨st.length,as,bG,by simp,aM (p:=fun x a=>R Γ u x false [a]) (fun x a hx=>aX h2 hx) hr,hz⟩⟩
theorem jm (hm:MemR Φ Γ m st) {z:Bool}{e n:Nat}{u:Ty}{xs:List u.V}{as:List AVal}{ares:Option (AVal×aC)} (hn:u.size=n) (h1:u.isV=true) (h2:u.closed=true) (h3:u.okRow=true) (h4:u.size≠0) (hr:All2 (fun x a=>R Γ u x false [a]) xs as) (hz:z=true→xs≠[])
   (ha:ares=some (bt st e n as)):OkM Φ d Γ m st ares (.ok ⟨.own m.length,()⟩ (m++[.row z e u xs]) none):=by
 subst hn
 refine .ok (a:=.own st.length u.size xs.length 0 xs.length) (st':=st++[.row e u.size as]) (more Γ m.length (.inr (st.length,u.size,xs.length))) (by rw[ha,bt,bc hr]) (.inr ⟨rfl,by simp only[R,bG]⟩) (hm.more (arj hm h1 h2 h3 h4 hr hz)) (fun j y _ h=>b9 hm j y h) .more
theorem fS {A:Type}{l:List A}:l.isEmpty=true→l=[]:=by cases l<;>simp
theorem abo (hm:MemR Φ Γ m st) {ty:List (Nat×Ty)}{tys:List TypeId}{x y:TV}{a b:AVal} (hx:R Γ x.t x.v false [a]) (hy:R Γ y.t y.v false [b]):OkM Φ d Γ m st (cJ P tys a b st) (wL P ty tys x y m):=by
 unfold wL
 split
 · rename_i t u
   split
   · rename_i n z du et he hu hl;cases hc:(!ajX du&&Nat.beq et.size n&&et.isV&&et.closed&&et.okRow) with
     | false=>exact .no
     | true =>
       simp only[k9,qAG,qBD] at hc;obtain ⟨⟨⟨⟨c0,c1⟩,c2⟩,c3⟩,c4⟩:=hc;have hn0:=(fX he).2;have c5:et.size≠0:=(by rw[c1]; exact hn0);simp only[cond_true]
       split
       · rename_i ys hys;obtain ⟨bs,hb1,hb2⟩:=ww hm c1 hys hy;have hbl:=bc hb2;have hop:cJ P [t,u] a b st=dO P t a bs st:=by
           unfold cJ;simp only[he,hu];cases du<;>first | (cases c0; done) | (simp only[hb1,qAJ])
         rw[hop]
         split
         · simp only[R] at hx; cases hx;refine .opt fun _ hroom => ?_;have hroom:=oT hroom;cases hem:bs.isEmpty with
           | true =>
             have hbs:=fS hem;have hys':ys=[]:=by cases ys with | nil=>rfl | cons _ _=>rw[hbs] at hbl; simp at hbl
             subst hys'
             refine .ok (a:=.nil) (st':=st) (more Γ m.length (.inl false)) (by simp only[dO,he,hem,cond_true]) (.inr ⟨rfl,by simp only[R,bG]; exact .inl trivial⟩) (hm.moreNil ⟨c2,c3,c4,c5,.inl ⟨rfl,false,bG,fun _=>rfl⟩⟩) (fun j y _ h=>b9 hm j y h) .more
           | false =>
             refine jm hm c1 c2 c3 c4 c5 hb2 (fun _ e=>by subst e; cases bs with | nil=>simp at hem | cons _ _=>exact hb2.elim) ?_;simp only[dO,he,hem,cond_false];rw[if_pos (by omega)]
         · rename_i id _
           split
           · rename_i zf e t' xs hg;cases hcc:(Nat.beq e (bE P t)&&Nat.ble (id+1) m.length) with
             | false=>exact .no
             | true =>
               simp only[k9,qAG,qBS] at hcc;obtain ⟨hce,hid⟩:=hcc;subst hce;simp only[cond_true]
               split
               · rename_i xs' hxs;obtain ⟨e',hxx⟩:=bg hxs;cases e';subst hxx;refine .opt fun _ hroom => ?_;have hroom:=oT hroom;have hr:=hm.at id;rw[hg] at hr;obtain ⟨k1,k2,k3,k4,k5⟩:=hr
                 have hp:Pers m (setM (na id m) id (.row zf (bE P t) et (xs'++ys))):=.kill (by intro _ _ _ h; cases h) (by intro _ _ h; cases h);simp only[R] at hx
                 rcases k5 with ⟨rfl,k5⟩ | ⟨r,as,k5,k6,k7,k8⟩
                 · obtain ⟨bz,k5,kz⟩:=k5;rw[k5] at hx;have haE:bs.isEmpty=true→dO P t a bs st=some (a,st):=fun hem=>by
                     rcases hx with hx | ⟨_,n',hx⟩<;>cases hx<;>simp[dO,he,hem]
                   have haN:bs.isEmpty=false→bs.length<most→dO P t a bs st=some (bt st (bE P t) n bs):=fun hem hl=>by
                     rcases hx with hx | ⟨_,n',hx⟩<;>cases hx<;>simp[dO,he,hem,hl]
                   cases hem:bs.isEmpty with
                   | true =>
                     have hbs:=fS hem;have hys':ys=[]:=by cases ys with | nil=>rfl | cons _ _=>rw[hbs] at hbl; simp at hbl
                     subst hys';have hk:MemR Φ Γ (setM (na id m) id (.row zf (bE P t) et ([]++[]))) st:={
                       reg:=fun j hj=>by
                         rw[cm,bS] at hj;by_cases ej:id=j
                         · subst ej; rw[bU (by rw[bS]; omega)]; exact ⟨k1,k2,k3,k4,.inl ⟨rfl,bz,k5,kz⟩⟩
                         · rw[bT ej,eX hj];exact qv (fun i y _ h=>h) (fun e'=>ej e'.symm) (fun r' n' l' h=>rfl) (hm.reg j hj)
                       out:=fun j hj=>hm.out j (by rw[cm,bS] at hj; exact hj)
                       inj:=hm.inj
                       lt:=hm.lt
                       old:=hm.old
                       dis:=hm.dis }
                     exact .ok (a:=a) (st':=st) Γ (haE hem) (.inr ⟨rfl,by simp only[R,k5]; exact hx⟩) hk (fun j y _ h=>h) hp
                   | false =>
                     have hne:ys≠[]:=fun e=>by subst e; cases bs with | nil=>simp at hem | cons _ _=>exact hb2.elim
                     have hlt:st.length<(st++[AReg.row (bE P t) et.size bs]).length:=by simp
                     refine .ok (a:=.own st.length n bs.length 0 bs.length) (st':=st++[.row (bE P t) n bs]) (grown Γ id (st.length,et.size,ys.length)) ?_ (.inr ⟨rfl,?_⟩) (hm.grow (by omega) (by simp) ?_ (by simp) ?_ ⟨k1,k2,k3,k4,.inr ⟨st.length,bs,?_,?_,aM (p:=fun x a=>R Γ et x false [a]) (fun x a hx=>aX k2 hx) hb2,fun _ e=>hne (by simpa using e)⟩⟩ (fun r' g h=>by rw[qAI (hm.oldlt h)]; exact hm.old r' g h) (fun g h=>Nat.lt_irrefl _ (hm.oldlt h))) (fun j y hj h=>qI j y (fun e'=>hj (by rw[e'])) h) hp
                     · rw[haN hem (by simp at hroom; omega)];rfl
                     · simp only[R,grown,if_true,hbl,c1]
                     · intro i r' n' l' _ h;exact qAI (hm.lt _ _ _ _ h)
                     · intro i r' n' l' _ h e';have:=hm.lt _ _ _ _ h;omega
                     · simp[grown]
                     · simp[c1]
                 · rw[k5] at hx; cases hx;have hal:=bc k7;have hrow:EM.rowAt st r et.size xs'.length=some as:=by simp only[EM.rowAt,k6,hal,and_self,if_true]
                   have hty:EM.rowTy st r=bE P t:=(by simp only[EM.rowTy,k6]);cases hem:bs.isEmpty with
                   | true =>
                     have hbs:=fS hem;have hys':ys=[]:=by cases ys with | nil=>rfl | cons _ _=>rw[hbs] at hbl; simp at hbl
                     subst hys';have hk:MemR Φ Γ (setM (na id m) id (.row zf (bE P t) et (xs'++[]))) st:={
                       reg:=fun j hj=>by
                         rw[cm,bS] at hj;by_cases ej:id=j
                         · subst ej; rw[bU (by rw[bS]; omega),qAR]; exact ⟨k1,k2,k3,k4,.inr ⟨r,as,k5,k6,k7,k8⟩⟩
                         · rw[bT ej,eX hj];exact qv (fun i y _ h=>h) (fun e'=>ej e'.symm) (fun r' n' l' h=>rfl) (hm.reg j hj)
                       out:=fun j hj=>hm.out j (by rw[cm,bS] at hj; exact hj)
                       inj:=hm.inj
                       lt:=hm.lt
                       old:=hm.old
                       dis:=hm.dis }
                     refine .ok (a:=.own r et.size xs'.length 0 xs'.length) (st':=st) Γ ?_ (.inr ⟨rfl,by simp only[R,k5]⟩) hk (fun j y _ h=>h) hp;rw[c1] at hrow
                     simp only[dO,he,c1,hty,hrow,and_self,if_true,hem,cond_true]
                   | false =>
                     have hrl:=hm.lt _ _ _ _ k5
                     refine .ok (a:=.own r et.size (xs'.length+bs.length) 0 (xs'.length+bs.length)) (st':=st.set r (.row (bE P t) et.size (as++bs))) (grown Γ id (r,et.size,(xs'++ys).length)) ?_ (.inr ⟨rfl,?_⟩) (hm.grow (by omega) (by simp) ?_ (by simpa using hrl) ?_ ⟨k1,k2,k3,k4,.inr ⟨r,as++bs,?_,?_,cD (aM (p:=fun x a=>R Γ et x false [a]) (fun x a hx=>aX k2 hx) k7) (aM (p:=fun x a=>R Γ et x false [a]) (fun x a hx=>aX k2 hx) hb2),fun hz e=>k8 hz (List.append_eq_nil_iff.1 e).1⟩⟩ (fun r' g h=>by
                       have:r≠r':=fun e'=>hm.dis r' g id _ _ h (e' ▸ k5)
                       rw[qBH this]; exact hm.old r' g h) (fun g h=>hm.dis r g id _ _ h k5)) (fun j y hj h=>qI j y (fun e'=>hj (by rw[e'])) h) hp
                     · rw[c1] at hrow;simp only[dO,he,c1,hty,hrow,and_self,if_true,hem,cond_false];rw[if_pos (by omega)]
                     · simp only[R,grown,if_true,qAA,hbl]
                     · intro i r' n' l' hi h;have:r≠r':=fun e'=>hi (hm.inj _ _ _ _ _ _ _ (e' ▸ h) k5);exact qBH this
                     · intro i r' n' l' hi h e';exact hi (hm.inj _ _ _ _ _ _ _ (e' ▸ h) k5)
                     · simp[grown]
                     · rw[qAY hrl]
               · exact .no
           · exact .no
         · exact .no
       · exact .no
   · exact .no
 · exact .no
end
end Go.TY
namespace Go.TY
open Go.EM
section
variable {Φ:Frame}{Γ:Ctx}{m:Mem}{st:aC}{P:Program}{d:Option Nat}
theorem aik (hm:MemR Φ Γ m st) {ty:List (Nat×Ty)}{t:TypeId}{l c:TV}{a b:AVal} (hl:R Γ l.t l.v false [a]) (hc:R Γ c.t c.v false [b]):OkM Φ d Γ m st (abp P t a b st) (arB P ty t l c m):=by
 unfold arB
 split
 · rename_i n z et l' c' he het;simp only[R] at hl hc; cases hl; cases hc
   split
   · rename_i z' hz';rw[qAB] at hz';obtain ⟨zt,hz1,hz2⟩:=hz';cases hcc:(Nat.beq et.size n&&et.isV&&et.closed&&et.okRow) with
     | false=>exact .no
     | true =>
       simp only[k9,qAG] at hcc;obtain ⟨⟨⟨c1,c2⟩,c3⟩,c4⟩:=hcc;obtain ⟨hzo,hn0⟩:=fX he;obtain ⟨g1,za,g2,g3⟩:=iv (Γ:=Γ) hz1;rw[hzo] at g2; cases g2;have hz:=cr hz2 g3
       refine .opt fun _ hmk => ?_;obtain ⟨⟨h1,h2,h3⟩,_⟩:=dj hmk;refine jm hm c1 c2 c3 c4 (by rw[c1]; exact hn0) (rf (p:=fun x a=>R Γ et x false [a]) hz l'.toNat) (by simp) ?_
       have hcell:=eq c4 (b7 c2 hz);simp only[abp,he];rw[if_pos ⟨h1,h2,by simpa [most] using h3,hcell⟩]
   · exact .no
 · exact .no
theorem ym (s:List UInt8):∀ (b i:Nat) (acc:Array Value),(Conv.runesFrom ⟨s.toArray⟩ b i acc).toList=acc.toList++(fq s b i).map fun n=>Value.int .i32 n
 | 0,i,acc=>by simp[Conv.runesFrom,fq]
 | b+1,i,acc=>by
   unfold Conv.runesFrom fq;have hs:(⟨s.toArray⟩:ByteArray).size=s.length:=by simp[ByteArray.size]
   rw[hs];by_cases h:i<s.length
   · simp only[h,if_true];rw[ym s b];simp
   · simp only[h,if_false,qCP,qAR]
theorem aaA (s:List UInt8):jT s=(aeH s).map fun n=>AVal.int .i32 n:=by
 unfold jT aeH;rw[ym];simp only[Array.toList_empty,qBB,List.map_map];rfl
theorem rg {A B:Type}{p:A→B→Prop}{f:A→B} (h:∀ x,p x (f x)):∀ l:List A,All2 p l (l.map f)
 | []=>trivial
 | x::l=>⟨h x,rg h l⟩
theorem wO:∀ {xs:List Int}{as:List AVal},All2 (fun x a=>R Γ (.int .u8) x false [a]) xs as→cu as=some (xs.map fun n=>UInt8.ofNat n.toNat)
 | [],[],_=>rfl
 | x::xs,a::as,h=>by
   have h1:=h.1; simp only[R] at h1; cases h1;simp only[cu,wO h.2,qAF,qBE]
theorem agx:∀ {xs:List Int}{as:List AVal},All2 (fun x a=>R Γ (.int .i32) x false [a]) xs as→cU as=some (xs.flatMap fun n=>(Utf8.encode n).data.toList)
 | [],[],_=>rfl
 | x::xs,a::as,h=>by
   have h1:=h.1; simp only[R] at h1; cases h1;simp only[cU,agx h.2,qAF,qA5]
theorem aj3 (hm:MemR Φ Γ m st) {id:Nat}{e:Nat}{u:Ty}{v:u.V} (h:getM m id = .box e u v):∃ r a,Γ id=some (.inr (r,u.size,1))∧bA st r 1 0=some (u.size,[a],a):=by
 have hr:=hm.at id;rw[h] at hr;obtain ⟨_,_,_,r,a,h1,h2,_⟩:=hr;exact ⟨r,a,h1,by simp[bA,h2]⟩
theorem aDs (hm:MemR Φ Γ m st) {id:Nat}{e:Nat}{u:Ty}{v:u.V} (h:getM m id = .box e u v) {r n:Nat} (hg:Γ id=some (.inr (r,n,1))):rowTy st r=e:=by
 have hr:=hm.at id;rw[h] at hr;obtain ⟨_,_,_,r',a,h1,h2,_⟩:=hr;rw[hg] at h1; cases h1;simp[rowTy,h2]
theorem f0 (hm:MemR Φ Γ m st) {id:Nat} (h:ed m id=true):∃ r n xs a,Γ id=some (.inr (r,n,1))∧bA st r 1 0=some (n,xs,a):=by
 have hr:=hm.at id;unfold ed at h
 split at h
 · rename_i e t v hg;rw[hg] at hr;obtain ⟨_,_,_,r,a,h1,h2,_⟩:=hr;exact ⟨r,t.size,[a],a,h1,by simp[bA,h2]⟩
 · rename_i e t v hg;rw[hg] at hr;obtain ⟨_,_,_,_,r,a,h1,h2,_⟩:=hr;exact ⟨r,t.size,[a],a,h1,by simp[bA,h2]⟩
 · cases h
theorem aiX (hm:MemR Φ Γ m st) {src dst:TypeId}{x:TV}{a:AVal} (hx:R Γ x.t x.v false [a]):OkM Φ d Γ m st (gI P src dst a st) (ar7 P src dst x m):=by
 unfold ar7
 split
 · rename_i e h1 h2
   split
   · rename_i s h3;simp only[R] at hx; cases hx
     refine jm hm (n:=1) rfl rfl rfl rfl (by simp[Ty.size]) (rg (p:=fun (x:Int) a=>R Γ (.int .u8) x false [a]) (f:=fun n=>AVal.int .u8 n) (fun x=>rfl) _) (by simp) ?_
     simp only[gI,h1,h2,h3,List.map_map];rfl
   · rename_i s h3;simp only[R] at hx; cases hx
     refine jm hm (n:=1) rfl rfl rfl rfl (by simp[Ty.size]) (rg (p:=fun (x:Int) a=>R Γ (.int .i32) x false [a]) (f:=fun n=>AVal.int .i32 n) (fun x=>rfl) _) (by simp) ?_;simp only[gI,h1,h2,h3,aaA]
   · exact .no
 · rename_i e h1 h2
   split
   · rename_i h3
     split
     · rename_i xs hxs;obtain ⟨bs,hb1,hb2⟩:=ww hm (n:=1) rfl hxs hx;refine .ok (a:=.str _) (st':=st) Γ ?_ (.inr ⟨rfl,rfl⟩) hm (fun _ _ _ h=>h) (.refl m)
       simp only[gI,h1,h2,h3,hb1,qAJ,wO hb2,qAF]
     · exact .no
   · rename_i h3
     split
     · rename_i xs hxs;obtain ⟨bs,hb1,hb2⟩:=ww hm (n:=1) rfl hxs hx;refine .ok (a:=.str _) (st':=st) Γ ?_ (.inr ⟨rfl,rfl⟩) hm (fun _ _ _ h=>h) (.refl m)
       simp only[gI,h1,h2,h3,hb1,qAJ,agx hb2,qAF]
     · exact .no
   · exact .no
 · rename_i t h1 h2
   split
   · rename_i id off _
     split
     · rename_i e u v hreg;cases hc:(Nat.ble (off+1) u.size&&sized P t) with
       | false=>exact .no
       | true =>
         rw[k9] at hc;have hb:=aj3 hm hreg;obtain ⟨r,a',g1,g2⟩:=hb;have hx':=hx;simp only[R] at hx; obtain ⟨r',n,h3,h4⟩:=hx;rw[g1] at h3; cases h3; cases h4
         refine .ok (a:=.ptr r 1 0 off) (st':=st) Γ ?_ (.inr ⟨rfl,hx'⟩) hm (fun _ _ _ h=>h) (.refl m);have hs:=hc.2;unfold sized at hs
         split at hs
         · rename_i k hk;simp only[gI,h1,h2,g2,hk,hc.1,cond_true]
         · cases hs
     · exact .no
   · exact .no
 · rename_i t h1 h2
   split
   · rename_i id off _
     split
     · rename_i e u v hreg
       split
       · rename_i k hk;cases hc:(Nat.beq k u.size&&Nat.beq e t&&Nat.beq off 0) with
         | false=>exact .no
         | true =>
           simp only[k9,qAG] at hc;obtain ⟨⟨c1,c2⟩,c3⟩:=hc;subst c3;obtain ⟨r,a',g1,g2⟩:=aj3 hm hreg;have hty:=aDs hm hreg g1;have hx':=hx
           simp only[R] at hx; obtain ⟨r',n,h3,h4⟩:=hx;rw[g1] at h3; cases h3; cases h4;refine .ok (a:=.ptr r 1 0 0) (st':=st) Γ ?_ (.inr ⟨rfl,hx'⟩) hm (fun _ _ _ h=>h) (.refl m)
           have e1:Nat.beq k u.size=true:=(by rw[qAG]; exact c1);have e2:Nat.beq (rowTy st r) t=true:=(by rw[qAG,hty]; exact c2);simp only[gI,h1,h2,g2,hk,e1,e2,qCD,cond_true]
       · exact .no
     · exact .no
   · exact .no
 · exact .no
theorem aeY (hm:MemR Φ Γ m st) {t:TypeId}{x:TV}{a:AVal} (hx:R Γ x.t x.v false [a]):OkM Φ d Γ m st (pD P t a st) (aeZ P t x m):=by
 unfold aeZ
 split
 · rename_i hu
   split
   · rename_i s;simp only[R] at hx; cases hx
     exact .ok (a:=.ptr st.length 0 0 0) (st':=st++[.iter s 0]) (more Γ m.length (.inr (st.length,0,0))) (by simp only[pD,hu]) (.inr ⟨rfl,st.length,bG,rfl⟩) (hm.more ⟨st.length,bG,by simp⟩) (fun j y _ h=>b9 hm j y h) .more
   · exact .no
 · exact .no
theorem aih (hm:MemR Φ Γ m st) {x:TV}{b:Bool}{a:AVal} (hx:R Γ x.t x.v false [a]):OkM Φ d Γ m st (wM a b st) (arw x b m):=by
 unfold arw
 split
 · rename_i id _;simp only[R] at hx; obtain ⟨r,hg,hx⟩:=hx; cases hx;have hr:=hm.at id
   split
   · rename_i s pos hreg;rw[hreg] at hr;obtain ⟨r',h1,h2⟩:=hr;rw[hg] at h1; cases h1;cases b with
     | false=>exact .no
     | true =>
       simp only[cond_true];refine .br (fun hlt => ?_) (fun hge => ?_)
       · have hlt:=of_decide_eq_true hlt
         refine .ok (a:=.tup [.bool true,.int .i64 pos,.int .i32 (Utf8.decode ⟨s.toArray⟩ pos).1]) (st':=st.set r (.iter s (pos+(Utf8.decode ⟨s.toArray⟩ pos).2))) Γ ?_ (.inr ⟨rfl,_,rfl,?_⟩) (hm.set (eJ hreg (by simp)) hg ⟨r,hg,?_⟩) (fun _ _ _ h=>h) (.set (by intro _ _ _ h; cases h) (by intro _ _ h; cases h; exact ⟨_,hreg⟩))
         · simp only[wM,h2,cond_true,if_pos hlt]
         · exact ⟨[_],[_,_],rfl,rfl,[_],[_],rfl,rfl,[_],[],rfl,rfl,rfl⟩
         · rw[qAY (hm.lt _ _ _ _ hg)]
       · have hge:=of_decide_eq_false hge;refine .ok (a:=.tup [.bool false]) (st':=st) Γ ?_ (.inr ⟨rfl,_,rfl,?_⟩) hm (fun _ _ _ h=>h) (.refl m)
         · simp only[wM,h2,cond_true,if_neg hge]
         · exact ⟨[_],[],rfl,rfl,rfl⟩
   · exact .no
 · exact .no
theorem fw {st:aC}:∀ {l1 l2 k1 k2:List AVal},cF st l1=some k1→cF st l2=some k2→cF st (l1++l2)=some (k1++k2)
 | [],l2,k1,k2,h1,h2=>by simp only[cF] at h1; cases h1; exact h2
 | v::l,l2,k1,k2,h1,h2=>by
   simp only[cF,qAB,x0] at h1;obtain ⟨x,hx,y,hy,rfl⟩:=h1;simp only[qBV,cF,hx,fw hy h2,qAJ,qAF]
theorem ql {Γ':Ctx}:∀ {t:Ty}{v:t.V}{c:Bool}{l:List AVal},t.closed=true→R Γ t v c l→∃ l',cF st l=some l'∧R Γ' t v c l'
 | .int k,v,c,l,_,h=>by simp only[R] at h; subst h; exact ⟨_,rfl,rfl⟩
 | .bool,v,c,l,_,h=>by simp only[R] at h; subst h; exact ⟨_,rfl,rfl⟩
 | .str,v,c,l,_,h=>by simp only[R] at h; subst h; exact ⟨_,rfl,rfl⟩
 | .sl t,v,c,l,hc,h=>by
   have hcl:=bF hc h;simp only[Ty.closed,k9] at hc;simp only[R] at h;rcases h with ⟨rfl,rfl⟩ | ⟨f,n,as,rfl,hn,h⟩
   · exact ⟨_,rfl,.inr ⟨false,0,[],rfl,.inl rfl,trivial⟩⟩
   · rw[aZ] at hcl;simp only[closed] at hcl;cases as with
     | nil =>
       refine ⟨[.tree false 0 []],by simp[cF,bW,hcl],.inr ⟨false,0,[],rfl,.inl ?_,?_⟩⟩
       · cases v with
         | nil=>rfl
         | cons _ _=>exact h.elim
       · cases v with
         | nil=>trivial
         | cons _ _=>exact h.elim
     | cons a as =>
       refine ⟨[.tree false n (a::as)],by simp[cF,bW,hcl],.inr ⟨false,n,a::as,rfl,hn,aM (p:=fun x a=>R Γ t x false [a]) (fun x a hx=>aX hc.2 hx) h⟩⟩
 | .agg t,v,c,l,hc,h=>by
   cases c<;>simp only[R] at h ⊢
   · obtain ⟨cs,rfl,h⟩:=h;obtain ⟨l',h1,h2⟩:=ql (Γ':=Γ') (t:=t) hc h;exact ⟨[.agg l'],by simp only[cF,bW,h1,qAF,qAJ],l',rfl,h2⟩
   · exact ql (t:=t) hc h
 | .arr n t,v,c,l,hc,h=>by
   simp only[Ty.closed,k9] at hc
   have:∀ (v:List t.V) (ls:List (List AVal)),All2 (fun x c=>R Γ t x true c) v ls→∃ ls',cF st ls.flatten=some (List.flatten ls')∧All2 (fun x c=>R Γ' t x true c) v ls':=by
     intro v
     induction v with
     | nil=>intro ls h; cases ls with | nil=>exact ⟨[],rfl,trivial⟩ | cons _ _=>exact h.elim
     | cons x v ih =>
       intro ls h;cases ls with
       | nil=>exact h.elim
       | cons c ls =>
         obtain ⟨c',g1,g2⟩:=ql (Γ':=Γ') hc.2 h.1;obtain ⟨ls',g3,g4⟩:=ih ls h.2;exact ⟨c'::ls',by rw[qBQ,qBQ]; exact fw g1 g3,g2,g4⟩
   cases c<;>simp only[R] at h ⊢
   · obtain ⟨cs,rfl,hn,ls,rfl,h⟩:=h;obtain ⟨ls',g1,g2⟩:=this v ls h;exact ⟨[.agg ls'.flatten],by simp only[cF,bW,g1,qAF,qAJ],_,rfl,hn,ls',rfl,g2⟩
   · obtain ⟨hn,ls,rfl,h⟩:=h;obtain ⟨ls',g1,g2⟩:=this v ls h;exact ⟨_,g1,hn,ls',rfl,g2⟩
 | .tup t,v,c,l,hc,h=>by
   simp only[R] at h ⊢; obtain ⟨as,rfl,h⟩:=h;obtain ⟨l',h1,h2⟩:=ql (Γ':=Γ') (t:=t) hc h;exact ⟨[.tup l'],by simp only[cF,bW,h1,qAF,qAJ],l',rfl,h2⟩
 | .unit,v,c,l,_,h=>by simp only[R] at h; subst h; exact ⟨_,rfl,rfl⟩
 | .cons t ts,v,c,l,hc,h=>by
   simp only[Ty.closed,k9] at hc;simp only[R] at h ⊢;obtain ⟨l1,l2,rfl,h1,h2⟩:=h;obtain ⟨k1,g1,g2⟩:=ql (Γ':=Γ') hc.1 h1;obtain ⟨k2,g3,g4⟩:=ql (Γ':=Γ') hc.2 h2
   exact ⟨k1++k2,fw g1 g3,k1,k2,rfl,g2,g4⟩
 | .nilsl,v,c,l,hc,h=>by cases hc
 | .nilp,v,c,l,_,h=>by simp only[R] at h; subst h; exact ⟨_,rfl,rfl⟩
 | .fn f,v,c,l,_,h=>by simp only[R] at h; subst h; exact ⟨_,rfl,rfl⟩
 | .err,v,c,l,_,h=>by simp only[R] at h ⊢; obtain ⟨a,rfl,h1⟩:=h; rcases h1 with ⟨e,rfl⟩ | ⟨e,t,rfl⟩; exact ⟨_,rfl,_,rfl,.inl ⟨e,rfl⟩⟩; exact ⟨_,rfl,_,rfl,.inr ⟨e,t,rfl⟩⟩
 | .undef,v,c,l,_,h=>by simp only[R] at h; subst h; exact ⟨_,rfl,rfl⟩
 | .any,v,c,l,hc,h=>by cases hc
 | .own id,v,c,l,hc,h=>by cases hc
 | .it id,v,c,l,hc,h=>by cases hc
 | .mp id,v,c,l,hc,h=>by cases hc
 | .bx id off,v,c,l,hc,h=>by cases hc
 | .op id,v,c,l,hc,h=>by cases hc
 | .ptr id off,v,c,l,hc,h=>by cases hc
 | .ba id off en ln,v,c,l,hc,h=>by cases hc
 | .vw id,v,c,l,hc,h=>by cases hc
 | .rp t off,v,c,l,hc,h=>by
   have hcl:=bF (t:=.rp t off) hc h;have h':=aX (Γ':=Γ') (t:=.rp t off) hc h;simp only[R] at h;obtain ⟨a,rest,h,hr,rfl⟩:=h;rw[aZ] at hcl;simp only[closed] at hcl;exact ⟨_,by simp[cF,bW,hcl],h'⟩
 | .orp t off,v,c,l,hc,h=>by
   have hcl:=bF (t:=.orp t off) hc h;have h':=aX (Γ':=Γ') (t:=.orp t off) hc h;simp only[R] at h;rcases h with ⟨_,rfl⟩ | ⟨x,a,rest,_,h,hr,rfl⟩
   · exact ⟨_,rfl,h'⟩
   · rw[aZ] at hcl;simp only[closed] at hcl;exact ⟨_,by simp[cF,bW,hcl],h'⟩
 | .cl f t,v,c,l,hc,h=>by
   have hcl:=bF (t:=.cl f t) hc h;have h':=aX (Γ':=Γ') (t:=.cl f t) hc h;simp only[R] at h;obtain ⟨as,rfl,h⟩:=h;rw[aZ] at hcl;simp only[closed,aJ,qBK] at hcl
   exact ⟨_,by simp[cF,bW,closed,aJ,hcl],h'⟩
theorem dflt {t u:Ty}{v:t.V}{x:u.V}{c:Bool}{l:List AVal} (h:cond t.closed (dp t v u id) none=some x) (hr:R Γ t v c l):∃ l',cF st l=some l'∧R Γ0 u x c l':=by
 cases hc:t.closed with
 | false=>rw[hc] at h; cases h
 | true =>
   rw[hc,cond_true] at h;obtain ⟨e,hx⟩:=bg h;subst e; subst hx;exact ql hc hr
theorem ud (hm:MemR Φ Γ m st):∀ {t:Ty}{v:t.V}{u:Ty}{x:u.V}{c:Bool}{l:List AVal},u.closed=true→bZ m t v u=some x→R Γ t v c l→∃ l',cF st l=some l'∧R Γ0 u x c l':=by
 intro t
 induction t with
 | own id =>
   intro v u x c l hu h hr;cases u
   case sl u' =>
     simp only[bZ] at h
     split at h
     · rename_i e t' xs hg;obtain ⟨e',hx⟩:=bg h;cases e';subst hx;have hreg:=hm.at id;rw[hg] at hreg;obtain ⟨k1,k2,k3,k4,k5⟩:=hreg;simp only[R] at hr;rcases k5 with ⟨rfl,_,k5,_⟩ | ⟨r,as,k5,k6,k7,k8⟩
       · rw[k5] at hr;rcases hr with hr | ⟨_,n',hr⟩
         · subst hr;exact ⟨[.tree false 0 []],rfl,.inr ⟨false,0,[],rfl,.inl rfl,trivial⟩⟩
         · subst hr;exact ⟨[.tree false 0 []],rfl,.inr ⟨false,0,[],rfl,.inl rfl,trivial⟩⟩
       · rw[k5] at hr; subst hr;have hal:=bc k7;have hcl:aJ as=true:=d5 (fun x a hx=>by rw[← aZ]; exact bF k2 hx) k7
         have hrow:EM.rowAt st r u'.size x.length=some as:=(by simp only[EM.rowAt,k6,hal,and_self,if_true]);have hble:Nat.ble (0+x.length) as.length=true:=(by rw[qBS]; omega);cases x with
         | nil =>
           refine ⟨[.tree false 0 []],?_,.inr ⟨false,0,[],rfl,.inl rfl,trivial⟩⟩;simp only[cF,bW,qk];rw[hrow];simp only[hcl,hble,qCD,cond_true];rfl
         | cons y ys =>
           refine ⟨[.tree false u'.size as],?_,.inr ⟨false,u'.size,as,rfl,.inr rfl,aM (p:=fun x a=>R Γ u' x false [a]) (fun x a hx=>aX k2 hx) k7⟩⟩;simp only[cF,bW,qk];rw[hrow]
           have h0:Nat.beq (y::ys).length 0=false:=rfl;simp only[hcl,hble,qCD,cond_true,h0,cond_false,qB3,qAJ,qAF];rw[qBI (by omega)]
     · cases h
   all_goals (simp only[bZ] at h; exact dflt h hr)
 | nilsl =>
   intro v u x c l hu h hr;cases u
   case sl u' =>
     simp only[bZ] at h;cases h;simp only[R] at hr; subst hr;exact ⟨[.tree false 0 []],rfl,.inr ⟨false,0,[],rfl,.inl rfl,trivial⟩⟩
   all_goals (simp only[bZ] at h; exact dflt h hr)
 | agg t ih =>
   intro v u x c l hu h hr;cases u
   case agg u =>
     simp only[bZ] at h;cases hb:t.beq u with
     | true =>
       rw[hb,cond_true] at h;obtain ⟨e,hx⟩:=bg h;subst e; subst hx;exact ql (t:=.agg t) hu hr
     | false =>
       rw[hb,cond_false] at h;cases c<;>simp only[R] at hr ⊢
       · obtain ⟨cs,rfl,hr⟩:=hr;obtain ⟨l',h1,h2⟩:=ih (u:=u) hu h hr;exact ⟨[.agg l'],by simp only[cF,bW,h1,qAF,qAJ],l',rfl,h2⟩
       · exact ih (u:=u) hu h hr
   all_goals (simp only[bZ] at h; exact dflt h hr)
 | arr n t ih =>
   intro v u x c l hu h hr;cases u
   case arr k u =>
     simp only[Ty.closed,k9] at hu
     have main:∀ ls:List (List AVal),v.length=n→All2 (fun x c=>R Γ t x true c) v ls→∃ ls',cF st ls.flatten=some (List.flatten ls')∧x.length=k∧All2 (fun x c=>R Γ0 u x true c) x ls':=by
       intro ls hn hall;simp only[bZ] at h;cases hb:(t.beq u&&Nat.beq n k) with
       | true =>
         rw[hb,cond_true] at h;simp only[k9,qAG] at hb;obtain ⟨e,hx⟩:=bg h;cases e;subst hx
         have hp:=ql (st:=st) (Γ':=Γ0) (t:=.arr n t) (v:=x) (c:=true) (l:=ls.flatten) (by simp only[Ty.closed,k9]; exact hu) (by simp only[R]; exact ⟨hn,ls,rfl,hall⟩)
         obtain ⟨l',g1,g2⟩:=hp;simp only[R] at g2;obtain ⟨g3,ls',rfl,g4⟩:=g2;exact ⟨ls',g1,g3.trans hb.2,g4⟩
       | false =>
         rw[hb,cond_false] at h;cases hk:Nat.beq n k with
         | false=>rw[hk] at h; cases h
         | true =>
           rw[hk,cond_true] at h;rw[qAG] at hk;clear hb
           have:∀ (v:List t.V) (x:List u.V) (ls:List (List AVal)),qo (fun y=>bZ m t y u) v=some x→All2 (fun x c=>R Γ t x true c) v ls→∃ ls',cF st ls.flatten=some (List.flatten ls')∧x.length=v.length∧All2 (fun x c=>R Γ0 u x true c) x ls':=by
             intro v
             induction v with
             | nil =>
               intro x ls h hl;simp only[qo] at h; cases h;cases ls with
               | nil=>exact ⟨[],rfl,rfl,trivial⟩
               | cons _ _=>exact hl.elim
             | cons y v ihv =>
               intro x ls h hl;simp only[qo,qAB,x0] at h;obtain ⟨z,h1,zs,h2,rfl⟩:=h;cases ls with
               | nil=>exact hl.elim
               | cons c ls =>
                 obtain ⟨c',q1,q2⟩:=ih hu.2 h1 hl.1;obtain ⟨ls',q3,q4,q5⟩:=ihv zs ls h2 hl.2;exact ⟨c'::ls',by rw[qBQ,qBQ]; exact fw q1 q3,by simp[q4],q2,q5⟩
           obtain ⟨ls',q1,q2,q3⟩:=this v x ls h hall;exact ⟨ls',q1,by rw[q2,hn,hk],q3⟩
     cases c<;>simp only[R] at hr ⊢
     · obtain ⟨cs,rfl,hn,ls,rfl,hall⟩:=hr;obtain ⟨ls',q1,q2,q3⟩:=main ls hn hall;exact ⟨[.agg ls'.flatten],by simp only[cF,bW,q1,qAF,qAJ],_,rfl,q2,ls',rfl,q3⟩
     · obtain ⟨hn,ls,rfl,hall⟩:=hr;obtain ⟨ls',q1,q2,q3⟩:=main ls hn hall;exact ⟨_,q1,q2,ls',rfl,q3⟩
   all_goals (simp only[bZ] at h; exact dflt h hr)
 | tup t ih =>
   intro v u x c l hu h hr;cases u
   case tup u =>
     simp only[bZ] at h;simp only[R] at hr ⊢;obtain ⟨as,rfl,hr⟩:=hr;obtain ⟨l',h1,h2⟩:=ih (u:=u) hu h hr;exact ⟨[.tup l'],by simp only[cF,bW,h1,qAF,qAJ],l',rfl,h2⟩
   all_goals (simp only[bZ] at h; exact dflt h hr)
 | cons t ts ih1 ih2 =>
   intro v u x c l hu h hr;cases u
   case cons u us =>
     simp only[bZ,qAB,x0] at h;obtain ⟨y,hy,z,hz,rfl⟩:=h;simp only[Ty.closed,k9] at hu;simp only[R] at hr ⊢;obtain ⟨l1,l2,rfl,h1,h2⟩:=hr
     obtain ⟨k1,g1,g2⟩:=ih1 hu.1 hy h1;obtain ⟨k2,g3,g4⟩:=ih2 hu.2 hz h2;exact ⟨k1++k2,fw g1 g3,k1,k2,rfl,g2,g4⟩
   all_goals (simp only[bZ] at h; exact dflt h hr)
 | _ =>
   intro v u x c l hu h hr;cases u<;>(simp only[bZ] at h; exact dflt h hr)
end
end Go.TY
namespace Go.TY
open Go.EM
section
variable {Φ:Frame}{Γ:Ctx}{m:Mem}{st:aC}{P:Program}{d:Option Nat}
theorem qx:∀ {a b c e:List AVal},keyL a b=true→keyL c e=true→keyL (a++c) (b++e)=true
 | [],[],c,e,_,h=>h
 | [],_::_,_,_,h,_=>by cases h
 | _::_,[],_,_,h,_=>by cases h
 | x::a,y::b,c,e,h,h2=>by
   simp only[keyL,k9] at h;simp only[qBV,keyL,h.1,qx h.2 h2,qCD]
theorem afE {t:Ty} (hf:∀ {x y:t.V}{c1 c2:List AVal},eqV t x y=true→R Γ t x true c1→R Γ t y true c2→keyL c2 c1=true):∀ {v1 v2:List t.V}{l1 l2:List (List AVal)},eqVL (eqV t) v1 v2=true→All2 (fun x c=>R Γ t x true c) v1 l1→All2 (fun x c=>R Γ t x true c) v2 l2→keyL l2.flatten l1.flatten=true
 | [],[],[],[],_,_,_=>rfl
 | x::v1,y::v2,c1::l1,c2::l2,h,h1,h2=>by
   simp only[eqVL,k9] at h;exact qx (hf h.1 h1.1 h2.1) (afE hf h.2 h1.2 h2.2)
theorem sY:∀ {t:Ty}{x y:t.V}{c1 c2:List AVal},eqV t x y=true→R Γ t x true c1→R Γ t y true c2→keyL c2 c1=true
 | .int k,x,y,c1,c2,h,h1,h2=>by
   simp only[R] at h1 h2; subst h1; subst h2;simp only[eqV,decide_eq_true_eq] at h;simp[keyL,keyC,h]
 | .bool,x,y,c1,c2,h,h1,h2=>by
   simp only[R] at h1 h2; subst h1; subst h2;simp only[eqV,beq_iff_eq] at h;simp[keyL,keyC,h]
 | .str,x,y,c1,c2,h,h1,h2=>by
   simp only[R] at h1 h2; subst h1; subst h2;simp only[eqV,decide_eq_true_eq] at h;simp[keyL,keyC,h]
 | .agg t,x,y,c1,c2,h,h1,h2=>by
   simp only[R] at h1 h2;exact sY (t:=t) h h1 h2
 | .cons t ts,x,y,c1,c2,h,h1,h2=>by
   simp only[R] at h1 h2;obtain ⟨a1,a2,rfl,p1,p2⟩:=h1;obtain ⟨b1,b2,rfl,q1,q2⟩:=h2;simp only[eqV,k9] at h;exact qx (sY h.1 p1 q1) (sY h.2 p2 q2)
 | .unit,x,y,c1,c2,h,h1,h2=>by
   simp only[R] at h1 h2; subst h1; subst h2; rfl
 | .sl _,_,_,_,_,h,_,_=>by cases h
 | .arr n t,x,y,c1,c2,h,h1,h2=>by
   simp only[R] at h1 h2;obtain ⟨_,l1,rfl,h1⟩:=h1;obtain ⟨_,l2,rfl,h2⟩:=h2;exact afE (fun h h1 h2=>sY (t:=t) h h1 h2) h h1 h2
 | .tup _,_,_,_,_,h,_,_=>by cases h
 | .nilsl,_,_,_,_,h,_,_=>by cases h
 | .nilp,_,_,_,_,h,_,_=>by cases h
 | .err,_,_,_,_,h,_,_=>by cases h
 | .fn _,_,_,_,_,h,_,_=>by cases h
 | .undef,_,_,_,_,h,_,_=>by cases h
 | .any,_,_,_,_,h,_,_=>by cases h
 | .own _,_,_,_,_,h,_,_=>by cases h
 | .it _,_,_,_,_,h,_,_=>by cases h
 | .mp _,_,_,_,_,h,_,_=>by cases h
 | .bx _ _,_,_,_,_,h,_,_=>by cases h
 | .op _,_,_,_,_,h,_,_=>by cases h
 | .ptr _ _,_,_,_,_,h,_,_=>by cases h
 | .ba _ _ _ _,_,_,_,_,h,_,_=>by cases h
 | .vw _,_,_,_,_,h,_,_=>by cases h
 | .rp _ _,_,_,_,_,h,_,_=>by cases h
 | .orp _ _,_,_,_,_,h,_,_=>by cases h
 | .cl _ _,_,_,_,_,h,_,_=>by cases h
theorem aDa {t:Ty}{x y:t.V}{a b:AVal} (hv:t.isV=true) (h:eqV t x y=true) (h1:R Γ t x false [a]) (h2:R Γ t y false [b]):keyB b a=true:=by
 have hk:=sY h (b7 hv h1) (b7 hv h2);cases t<;>first
   | (cases h; done)
   | (simp only[R] at h1 h2; cases h1; cases h2; simpa [AVal.cells,keyL,keyB] using hk)
   | (simp only[R] at h1 h2; obtain ⟨_,e,_⟩:=h1; cases e; obtain ⟨_,e,_⟩:=h2; cases e; exact hk)
   | (cases hv; done)
theorem zJ {f:TypeId→AVal→Bool}{g:TypeId→Ty→Bool} (hf:∀ t ty (x:ty.V) a,g t ty=true→R Γ ty x false [a]→f t a=true) :
   ∀ {fs:List Field}{row:Ty}{off:Nat}{x:row.V}{p1 c1:List AVal},eqFs P g fs row off=true→R Γ row x true c1→p1.length=off →
     (fs.all fun fd=>decide (fd.name = "_")||(match cY P fd.type (p1++c1) fd.offset with
       | some a=>f fd.type a
       | none=>false))=true
 | [],row,off,x,p1,c1,h,_,_=>rfl
 | fd::fs,row,off,x,p1,c1,h,hx,h1=>by
   cases row<;>first
     | (cases h; done)
     | skip
   rename_i t ts;simp only[eqFs,k9,qAG,qBD] at h;obtain ⟨⟨⟨⟨hn,ho⟩,hp⟩,hg⟩,hr⟩:=h;simp only[R] at hx;obtain ⟨l1,l2,rfl,x1,x2⟩:=hx
   obtain ⟨a,ha,ra⟩:=mQ (pre:=p1) (l2:=l2) hp x1;simp only[qDA,k9,qBL];refine ⟨.inr ?_,?_⟩
   · rw[ho,show cY P fd.type (p1++(l1++l2)) off=some a by rw[← h1]; exact ha];exact hf _ _ _ _ hg ra
   · have ih:=zJ hf (p1:=p1++l1) hr x2 (by rw[qAA,ec x1,h1]);rw[qAT] at ih;exact ih
theorem agC:∀ (d:Nat) (t:TypeId) (ty:Ty) (x:ty.V) (a:AVal),fV P d t ty=true→R Γ ty x false [a]→akey P d t a=true
 | 0,t,ty,x,a,h,_=>by cases h
 | d+1,t,ty,x,a,h,hx=>by
   unfold fV at h;unfold akey
   split at h
   · rename_i hu
     split at h
     · simp only[R] at hx; cases hx;simp only[hu]
     · cases h
   · rename_i k hu
     split at h
     · simp only[R] at hx; cases hx;simp only[hu]
     · cases h
   · rename_i hu
     split at h
     · simp only[R] at hx; cases hx;simp only[hu]
     · cases h
   · rename_i fs hu
     split at h
     · rename_i row;simp only[k9,qBD] at h;simp only[R] at hx;obtain ⟨xs,e1,hx⟩:=hx;cases e1;simp only[hu]
       exact zJ (P:=P) (f:=fun t a=>akey P d t a) (g:=fV P d) (fun t ty x a=>agC d t ty x a) (p1:=[]) h.2 hx rfl
     · cases h
   · cases h
theorem wm {k v:Ty}{kt:TypeId} (hk:fV P 8 kt k=true) (hkv:k.isV=true) {x:k.V}{b:AVal} (hx:R Γ k x false [b]):∀ {xs:List (k.V×v.V)}{es:List (AVal×AVal)} (i:Nat),All2 (fun (p:k.V×v.V) (e:AVal×AVal)=>R Γ k p.1 false [e.1]∧R Γ v p.2 false [e.2]) xs es →
   (fj k x xs=none∧kl P kt b es i=some none∧∀ y:v.V,putK k x y xs=xs++[(x,y)]) ∨
   ∃ j a y0,fj k x xs=some y0∧kl P kt b es i=some (some (i+j,a))∧R Γ v y0 false [a]∧∀ y:v.V,putK k x y xs=xs.set j (x,y)
 | [],[],i,_=>.inl ⟨rfl,rfl,fun _=>rfl⟩
 | e::xs,a::es,i,h=>by
   have he:=abq 8 kt k x e.1 b a.1 hk hx h.1.1;simp only[kl,fj,putK,he,qAJ];cases hq:eqV k x e.1 with
   | true =>
     have hb:=aDa hkv hq hx h.1.1;refine .inr ⟨0,a.2,e.2,rfl,?_,h.1.2,fun y=>rfl⟩;simp only[cond_true,hb,qB1]
   | false =>
     simp only[cond_false];rcases wm hk hkv hx (i+1) h.2 with ⟨g1,g2,g3⟩ | ⟨j,a',y0,g1,g2,g3,g4⟩
     · exact .inl ⟨g1,g2,fun y=>by rw[g3]; rfl⟩
     · exact .inr ⟨j+1,a',y0,g1,by rw[g2]; congr 3; omega,g3,fun y=>by rw[g4]; rfl⟩
theorem vS (hm:MemR Φ Γ m st) {ty:List (Nat×Ty)}{t:TypeId}{r:Option Operand}:OkM Φ d Γ m st (cond r.isNone (some (AVal.map st.length,st++[AReg.map []])) none) (qr P ty t r.isNone m):=by
 unfold qr
 split
 · split
   · rename_i k v _ _;cases hc:(r.isNone&&k.isV&&v.isV&&k.closed&&v.closed) with
     | false=>exact .no
     | true =>
       simp only[k9] at hc;obtain ⟨⟨⟨⟨c0,c1⟩,c2⟩,c3⟩,c4⟩:=hc;simp only[c0,cond_true]
       exact .ok (a:=.map st.length) (st':=st++[.map []]) (more Γ m.length (.inr (st.length,0,0))) rfl (.inr ⟨rfl,st.length,bG,rfl⟩) (hm.more ⟨c1,c2,c3,c4,st.length,[],bG,by simp,trivial⟩) (fun j y _ h=>b9 hm j y h) .more
   · exact .no
 · exact .no
theorem vU (hm:MemR Φ Γ m st) {t:TypeId}{x y:TV}{ok:Bool}{a b:AVal} (hx:R Γ x.t x.v false [a]) (hy:R Γ y.t y.v false [b]):OkM Φ d Γ m st ((iL P t a b ok st).map fun v=>(v,st)) (qt P t x y ok m):=by
 unfold qt
 split
 · rename_i kt et hu
   split
   · rename_i id _;simp only[R] at hx; obtain ⟨r,hg,hx⟩:=hx; cases hx;have hr:=hm.at id
     split
     · rename_i k v xs hreg;rw[hreg] at hr;obtain ⟨h1,h2,h3,h4,r',es,h5,h6,h7⟩:=hr;rw[hg] at h5; cases h5;cases hk:fV P 8 kt k with
       | false=>exact .no
       | true =>
         simp only[cond_true]
         split
         · rename_i w hw
           split
           · rename_i z hz;rw[qAB] at hz;obtain ⟨zt,hz1,hz2⟩:=hz;obtain ⟨g1,za,g2,g3⟩:=iv (Γ:=Γ) hz1;have hzr:=cr hz2 g3;have hwr:=cr hw hy;have hak:=agC (P:=P) 8 kt k w b hk hwr
             have key:∃ av,iL P t (.map r) b ok st=some (cond ok (.tup [av,.bool (getK k z w xs).2]) av)∧R Γ v (getK k z w xs).1 false [av]:=by
               unfold iL getK;simp only[hu,hak,cond_true,yH,h6,qAJ];rcases wm (P:=P) hk h1 hwr 0 h7 with ⟨f1,f2,_⟩ | ⟨j,a',y0,f1,f2,f3,_⟩
               · rw[f1,f2];simp only[qAJ,g2,qAF];exact ⟨za,rfl,hzr⟩
               · rw[f1,f2];simp only[qAJ];exact ⟨a',rfl,f3⟩
             obtain ⟨av,k1,k2⟩:=key;cases ok with
             | true =>
               simp only[cond_true] at k1 ⊢
               exact .ok (a:=.tup [av,.bool (getK k z w xs).2]) (st':=st) Γ (by rw[k1]; rfl) (.inr ⟨rfl,_,rfl,[av],[.bool (getK k z w xs).2],rfl,k2,[_],[],rfl,rfl,rfl⟩) hm (fun _ _ _ h=>h) (.refl m)
             | false =>
               simp only[cond_false] at k1 ⊢;exact .ok (a:=av) (st':=st) Γ (by rw[k1]; rfl) (.inr ⟨h2,k2⟩) hm (fun _ _ _ h=>h) (.refl m)
           · exact .no
         · exact .no
     · exact .no
   · exact .no
 · exact .no
theorem aaS (hm:MemR Φ Γ m st) {t:TypeId}{x y z:TV}{a b c:AVal} (hx:R Γ x.t x.v false [a]) (hy:R Γ y.t y.v false [b]) (hz:R Γ z.t z.v false [c]):OkM Φ none Γ m st ((fY P t a b c st).map fun s=>(AVal.any,s)) (vE P t x y z m):=by
 unfold vE
 split
 · rename_i kt et hu
   split
   · rename_i id _;simp only[R] at hx; obtain ⟨r,hg,hx⟩:=hx; cases hx;have hr:=hm.at id
     split
     · rename_i k v xs hreg;rw[hreg] at hr;obtain ⟨h1,h2,h3,h4,r',es,h5,h6,h7⟩:=hr;rw[hg] at h5; cases h5;cases hk:fV P 8 kt k with
       | false=>exact .no
       | true =>
         simp only[cond_true]
         split
         · rename_i w u hw hu2;have hwr:=cr hw hy;have hur:=cr hu2 hz;have hak:=agC (P:=P) 8 kt k w b hk hwr;have hlt:=hm.lt _ _ _ _ hg
           have fin : ∀ es', fY P t (.map r) b c st = some (st.set r (.map es')) → All2 (fun (p : k.V × v.V) (e : AVal × AVal) => R Γ k p.1 false [e.1] ∧ R Γ v p.2 false [e.2]) (putK k w u xs) es' →
               OkM Φ none Γ m st ((fY P t (.map r) b c st).map fun s=>(AVal.any,s)) (.ok ⟨.any,()⟩ (setM m id (.map k v (putK k w u xs))) none):=by
             intro es' e1 e2
             exact .ok (a:=.any) (st':=st.set r (.map es')) Γ (by rw[e1]; rfl) (.inl rfl) (hm.set (eJ hreg (by simp)) hg ⟨h1,h2,h3,h4,r,es',hg,qAY hlt,e2⟩) (fun _ _ _ h=>h) (.set (by simp) (by simp))
           rcases wm (P:=P) hk h1 hwr 0 h7 with ⟨_,f2,f3⟩ | ⟨j,a',y0,_,f2,_,f4⟩
           · refine fin (es++[(b,c)]) ?_ ?_
             · unfold fY;simp only[hu,hak,cond_true,h6,f2,qAF]
             · rw[f3];exact cD h7 ⟨⟨hwr,hur⟩,trivial⟩
           · refine fin (es.set j (b,c)) ?_ ?_
             · unfold fY;simp only[hu,hak,cond_true,h6,f2,qAF,qAO]
             · rw[f4];exact re h7 ⟨hwr,hur⟩
         · exact .no
     · exact .no
   · exact .no
 · exact .no
theorem agk (hm:MemR Φ Γ m st) {tys:List TypeId}{x:TV}{a:AVal} (hx:R Γ x.t x.v false [a]):OkM Φ d Γ m st (pH P tys a st) (agl P tys x m):=by
 unfold agl
 split
 · rename_i t
   split
   · rename_i id v
     split
     · rename_i n z0 hei
       split
       · rename_i z e u xs hreg
         split
         · rename_i zv hz;rw[qAB] at hz;obtain ⟨zt,hz1,hz2⟩:=hz;cases hc:Nat.beq u.size n with
           | false=>exact .no
           | true =>
             rw[qAG] at hc;refine .br (fun _=>.no) (fun hne => ?_);refine .opt fun _ hle => ?_;have hle:v.1+v.2≤xs.length:=(dj hle).1;have hr:=hm.at id;rw[hreg] at hr
             obtain ⟨h1,h2,h3,h4,hr⟩:=hr;simp only[R] at hx;obtain ⟨r0,n0,l0,q1,hx⟩:=hx;cases hx;rcases hr with ⟨rfl,_⟩ | ⟨r,bs,k1,k2,k3,k4⟩
             · cases hne
             · rw[k1] at q1;cases q1;obtain ⟨hzo,hn0⟩:=fX hei;obtain ⟨g1,za,g2,g3⟩:=iv (Γ:=Γ) hz1;rw[hzo] at g2; cases g2;have hzr:=cr hz2 g3;have hcell:=eq h3 (b7 h1 hzr);have hal:=bc k3
               have hlt:=hm.lt _ _ _ _ k1;have hll:(xs.take v.1++List.replicate v.2 zv++xs.drop (v.1+v.2)).length=xs.length:=by
                 simp only[qAA,qAP,qCI,qA2]; omega
               have hrow:EM.rowAt st r0 u.size xs.length=some bs:=by simp only[EM.rowAt,k2,hal,and_self,if_true]
               refine .ok (a:=.tup []) (st':=st.set r0 (.row e u.size (bs.take v.1++List.replicate v.2 z0++bs.drop (v.1+v.2)))) Γ ?_ (.inr ⟨rfl,[],rfl,rfl⟩) (hm.set (eJ hreg (by simp)) k1 ⟨h1,h2,h3,h4,.inr ⟨r0,_,by rw[hll]; exact k1,qAY hlt,cD (cD (gM _ k3) (rf (p:=fun x a=>R Γ u x false [a]) hzr _)) (gN _ k3),fun hz e'=>by
                 rw[e'] at hll;simp only[qAQ] at hll;rw[qCK.1 hll.symm] at hne;cases hne⟩⟩) (fun _ _ _ h=>h) (.set (by simp) (by simp))
               simp only[pH,hei];rw[if_pos ⟨hc,hle,hcell⟩,hrow];simp only[qAF,EM.rowTy,k2]
         · exact .no
       · exact .no
     · exact .no
   · exact .no
 · exact .no
end
end Go.TY
namespace Go.TY
open Go.EM
section
variable {Φ:Frame}{Γ:Ctx}{m:Mem}{st:aC}{P:Program}{d:Option Nat}
theorem yx (hm:MemR Φ Γ m st) {x y:TV}{a b:AVal} (hx:R Γ x.t x.v false [a]) (hy:R Γ y.t y.v false [b]) {r:Bool} (h:yy m x y=some r):e9 st a b=some r:=by
 unfold yy at h
 split at h
 · simp only[R] at hx hy; cases hx; cases hy; cases h; rfl
 · rename_i i _ _ _;cases hc:ed m i with
   | false=>rw[hc] at h; cases h
   | true =>
     rw[hc] at h; cases h;obtain ⟨r,n,xs,z,g1,g2⟩:=f0 hm hc;simp only[R] at hx hy; obtain ⟨r',n',h1,h2⟩:=hx;rw[g1] at h1; cases h1; cases h2; cases hy;simp only[e9,g2,qAF]
 · rename_i i _ _;cases hc:ed m i with
   | false=>rw[hc] at h; cases h
   | true =>
     rw[hc] at h; cases h;obtain ⟨r,n,xs,z,g1,g2⟩:=f0 hm hc;simp only[R] at hx hy; obtain ⟨r',n',h1,h2⟩:=hy;rw[g1] at h1; cases h1; cases h2; cases hx;simp only[e9,g2,qAF]
 · rename_i i v _;cases hc:ed m i with
   | false=>rw[hc] at h; cases h
   | true =>
     rw[hc] at h; cases h;obtain ⟨r,n,xs,z,g1,g2⟩:=f0 hm hc;simp only[R] at hx hy;cases hy;obtain ⟨c,e,hx⟩:=hx;cases e;rcases hx with ⟨e,rfl⟩ | ⟨e,r',n',h1,rfl⟩
     · rw[e]; rfl
     · rw[g1] at h1; cases h1;rw[e];simp only[e9,g2,qAF,qAN]
 · rename_i i v;cases hc:ed m i with
   | false=>rw[hc] at h; cases h
   | true =>
     rw[hc] at h; cases h;obtain ⟨r,n,xs,z,g1,g2⟩:=f0 hm hc;simp only[R] at hx hy;cases hx;obtain ⟨c,e,hy⟩:=hy;cases e;rcases hy with ⟨e,rfl⟩ | ⟨e,r',n',h1,rfl⟩
     · rw[e]; rfl
     · rw[g1] at h1; cases h1;rw[e];simp only[e9,g2,qAF,qAN]
 · rename_i i o _ j o' _;cases hc:(Nat.beq i j&&Nat.beq o o'&&ed m i) with
   | false=>rw[hc] at h; cases h
   | true =>
     rw[hc] at h; cases h;simp only[k9,qAG] at hc;obtain ⟨⟨rfl,rfl⟩,hc⟩:=hc;obtain ⟨r,n,xs,z,g1,g2⟩:=f0 hm hc;simp only[R] at hx hy;obtain ⟨r',n',h1,h2⟩:=hx
     obtain ⟨r'',n'',h3,h4⟩:=hy;rw[g1] at h1 h3; cases h1; cases h3; cases h2; cases h4;simp only[e9,and_self,if_true,g2,qAF]
 · rename_i i v j o _;cases hc:(Nat.beq i j&&Nat.beq o 0&&ed m i) with
   | false=>rw[hc] at h; cases h
   | true =>
     rw[hc] at h; cases h;simp only[k9,qAG] at hc;obtain ⟨⟨rfl,rfl⟩,hc⟩:=hc;obtain ⟨r,n,xs,z,g1,g2⟩:=f0 hm hc;simp only[R] at hx hy;obtain ⟨r'',n'',h3,h4⟩:=hy
     rw[g1] at h3; cases h3; cases h4;obtain ⟨c,e,hx⟩:=hx;cases e;rcases hx with ⟨e,rfl⟩ | ⟨e,r',n',h1,rfl⟩
     · rw[e];simp only[e9,g2,qAF]
     · rw[g1] at h1; cases h1;rw[e];simp only[e9,and_self,if_true,g2,qAF]
 · rename_i j o _ i v;cases hc:(Nat.beq i j&&Nat.beq o 0&&ed m i) with
   | false=>rw[hc] at h; cases h
   | true =>
     rw[hc] at h; cases h;simp only[k9,qAG] at hc;obtain ⟨⟨rfl,rfl⟩,hc⟩:=hc;obtain ⟨r,n,xs,z,g1,g2⟩:=f0 hm hc;simp only[R] at hx hy;obtain ⟨r'',n'',h3,h4⟩:=hx
     rw[g1] at h3; cases h3; cases h4;obtain ⟨c,e,hy⟩:=hy;cases e;rcases hy with ⟨e,rfl⟩ | ⟨e,r',n',h1,rfl⟩
     · rw[e];simp only[e9,g2,qAF]
     · rw[g1] at h1; cases h1;rw[e];simp only[e9,and_self,if_true,g2,qAF]
 · cases h
theorem arq (hm:MemR Φ Γ m st) {op:BinOp}{t:TypeId}{x y:TV}{a b:AVal} (hx:R Γ x.t x.v false [a]) (hy:R Γ y.t y.v false [b]):OkM Φ d Γ m st ((pE P op t st a b).map fun v=>(v,st)) (ptrT P op t x y m):=by
 unfold ptrT pE;cases Nat.beq (mL P t) 0 with
 | true=>exact .no
 | false =>
   simp only[cond_false];cases op<;>dsimp only<;>try exact .no
   · split
     · rename_i r hr;exact .ok (a:=.bool r) (st':=st) Γ (by simp only[yx hm hx hy hr,qAF]) (.inr ⟨rfl,rfl⟩) hm (fun _ _ _ h=>h) (.refl m)
     · exact .no
   · split
     · rename_i r hr;exact .ok (a:=.bool !r) (st':=st) Γ (by simp only[yx hm hx hy hr,qAF]) (.inr ⟨rfl,rfl⟩) hm (fun _ _ _ h=>h) (.refl m)
     · exact .no
theorem p8 (hm:MemR Φ Γ m st) {x:TV}{a:AVal} (hx:R Γ x.t x.v false [a]):OkM Φ d Γ m st ((er a st).map fun v=>(v,st)) (jS x m):=by
 unfold jS
 split
 · simp only[R] at hx; cases hx;exact .ok (a:=.nilptr) (st':=st) Γ rfl (.inr ⟨rfl,rfl⟩) hm (fun _ _ _ h=>h) (.refl m)
 · rename_i id _
   split
   · rename_i z e t xs hg;cases z with
     | false=>exact .no
     | true =>
       have hr:=hm.at id;rw[hg] at hr;obtain ⟨k1,k2,k3,k4,k5⟩:=hr;refine .br (fun he => ?_) (fun he => ?_)
       · have hnil:xs=[]:=fS he;rcases k5 with ⟨_,b,k5,kb⟩ | ⟨r,as,k5,k6,k7,k8⟩
         · have kb:=kb rfl;subst kb;simp only[R,k5] at hx;rcases hx with hx | ⟨hx,_⟩
           rotate_left
           · cases hx
           cases hx;exact .ok (a:=.nilptr) (st':=st) Γ rfl (.inr ⟨rfl,rfl⟩) hm (fun _ _ _ h=>h) (.refl m)
         · exact absurd hnil (k8 rfl)
       · rcases k5 with ⟨k5,_⟩ | ⟨r,as,k5,k6,k7,k8⟩
         · subst k5; simp at he
         · simp only[R,k5] at hx; cases hx;have hlen:Nat.beq xs.length 0=false:=by
             cases xs with
             | nil=>simp at he
             | cons _ _=>rfl
           have hra:EM.rowAt st r t.size xs.length=some as:=by simp only[EM.rowAt,k6,bc k7,and_self,if_true]
           refine .ok (a:=.ptr r xs.length 0 0) (st':=st) Γ ?_ (.inr ⟨rfl,r,t.size,xs.length,k5,rfl⟩) hm (fun _ _ _ h=>h) (.refl m);simp only[er,hra,hlen,cond_false,qAF]
   · exact .no
 · exact .no
theorem pU (hm:MemR Φ Γ m st) {tys:List TypeId}{p l:TV}{a b:AVal} (hp:R Γ p.t p.v false [a]) (hl:R Γ l.t l.v false [b]):OkM Φ d Γ m st (dN P tys a b st) (jO P tys p l m):=by
 unfold jO
 split
 · rename_i pt it
   split
   · rename_i n;simp only[R] at hp hl; cases hp; cases hl;refine .opt fun _ hz => ?_;unfold akB at hz;obtain ⟨hz,_⟩:=dj hz
     exact .ok (a:=.str []) (st':=st) Γ (by simp only[dN,hz,if_true]) (.inr ⟨rfl,rfl⟩) hm (fun _ _ _ h=>h) (.refl m)
   · rename_i id off i n
     split
     · rename_i z e u xs hg
       split
       · rename_i el hpt
         split
         · rename_i xs' hsz hcv;obtain ⟨ee,hxx⟩:=bg hcv;cases ee;subst hxx;cases hc:(Nat.beq e el&&Nat.beq off 0) with
           | false=>exact .no
           | true =>
             simp only[k9,qAG] at hc;obtain ⟨rfl,rfl⟩:=hc;refine .opt fun _ hw => ?_;unfold rJ at hw;obtain ⟨⟨rfl,rfl,w3,w4⟩,_⟩:=dj hw;have hr:=hm.at id;rw[hg] at hr
             obtain ⟨k1,k2,k3,k4,k5⟩:=hr;simp only[R] at hl; cases hl;rcases k5 with ⟨k5,_⟩ | ⟨r,as,k5,k6,k7,k8⟩
             · subst k5; simp at w3
             · simp only[R] at hp;obtain ⟨r',n',len,h1,h2⟩:=hp;rw[k5] at h1; cases h1; cases h2;have hal:=bc k7;have hra:EM.rowAt st r 1 xs'.length=some as:=by
                 have:Ty.size (.int .u8)=1:=rfl;rw[this] at k6;simp only[EM.rowAt,k6,hal,and_self,if_true]
               have hty:EM.rowTy st r=e:=(by simp only[EM.rowTy,k6]);have ht:as.take ((xs'.length:Nat):Int).toNat=as:=(by rw[qDB,← hal,List.take_length]);have hb:=wO k7
               refine .ok (a:=.str (xs'.map fun (n:Int)=>UInt8.ofNat n.toNat)) (st':=st.set r .dead) Γ ?_ (.inr ⟨rfl,rfl⟩) (hm.set (eJ hg (by simp)) k5 trivial) (fun _ _ _ h=>h) (.set (by intro _ _ _ h; cases h) (by intro _ _ h; cases h))
               simp only[dN,hra,hpt,hsz,hty,ht,hb,qAF];rw[if_pos ⟨w3,by omega,w4,trivial⟩]
         · exact .no
       · exact .no
     · exact .no
   · exact .no
 · exact .no
theorem pi (hm:MemR Φ Γ m st) {x:TV}{a:AVal} (hx:R Γ x.t x.v false [a]):OkM Φ d Γ m st (fU a st) (qL x m):=by
 unfold qL
 split
 · rename_i id _
   split
   · rename_i z e u xs hg;have hr:=hm.at id;rw[hg] at hr;obtain ⟨k1,k2,k3,k4,k5⟩:=hr;simp only[R] at hx;rcases k5 with ⟨rfl,b,k5,_⟩ | ⟨r,as,k5,k6,k7,k8⟩
     · rw[k5] at hx;have hk:MemR Φ Γ (setM m id .gone) st:={
         reg:=fun j hj=>by
           rw[cm] at hj;by_cases ej:id=j
           · subst ej; rw[bU hj]; trivial
           · rw[bT ej]; exact hm.reg j hj
         out:=fun j hj=>hm.out j (by rw[cm] at hj; exact hj)
         inj:=hm.inj
         lt:=hm.lt
         old:=hm.old
         dis:=hm.dis }
       rcases hx with hx | ⟨_,n',hx⟩
       · cases hx;exact .ok (a:=.nil) (st':=st) Γ rfl (.inr ⟨rfl,.inl ⟨rfl,rfl⟩⟩) hk (fun _ _ _ h=>h) (.set (by intro _ _ _ h; cases h) (by intro _ _ h; cases h))
       · cases hx;exact .ok (a:=.tree true n' []) (st':=st) Γ rfl (.inr ⟨rfl,.inr ⟨true,n',[],rfl,.inl rfl,trivial⟩⟩) hk (fun _ _ _ h=>h) (.set (by intro _ _ _ h; cases h) (by intro _ _ h; cases h))
     · rw[k5] at hx;cases hx;have hal:=bc k7;have hra:EM.rowAt st r u.size xs.length=some as:=by simp only[EM.rowAt,k6,hal,and_self,if_true]
       refine .ok (a:=.tree false u.size as) (st':=st.set r .dead) Γ ?_ (.inr ⟨rfl,.inr ⟨false,u.size,as,rfl,.inr rfl,k7⟩⟩) (hm.set (eJ hg (by simp)) k5 trivial) (fun _ _ _ h=>h) (.set (by intro _ _ _ h; cases h) (by intro _ _ h; cases h))
       simp only[fU];rw[if_pos ⟨trivial,trivial⟩,hra];rfl
   · exact .no
 · rename_i u v;have hx':=hx;simp only[R] at hx;have e:fU a st=some (a,st):=by
     rcases hx with ⟨_,hx⟩ | ⟨_,_,_,hx,_⟩<;>cases hx<;>rfl
   exact .ok (a:=a) (st':=st) Γ e (.inr ⟨rfl,hx'⟩) hm (fun _ _ _ h=>h) (.refl m)
 · rename_i v;have hx':=hx;simp only[R] at hx;cases hx;exact .ok (a:=.nil) (st':=st) Γ rfl (.inr ⟨rfl,hx'⟩) hm (fun _ _ _ h=>h) (.refl m)
 · exact .no
theorem arU (hm:MemR Φ Γ m st) {x w:TV}{a:AVal}{m':Mem} (hx:R Γ x.t x.v false [a]) (h:frzP x m=some (w,m')) :
   ∃ b st',nc a st=some (b,st')∧w.t.isV=true∧R Γ w.t w.v false [b]∧MemR Φ Γ m' st'∧Pers m m':=by
 unfold frzP at h
 split at h
 · rename_i id _
   split at h
   · rename_i e t v hg;cases h;have hr:=hm.at id;rw[hg] at hr;obtain ⟨_,_,_,r,b,h1,h2,h3⟩:=hr;simp only[R] at hx;obtain ⟨r',n',k1,k2⟩:=hx;rw[h1] at k1;cases k1; cases k2
     have hc:bA st r 1 0=some (t.size,[b],b):=by simp[bA,h2]
     refine ⟨.rptr b.cells,st.set r .dead,by simp only[nc,hc,qAF],rfl,?_,hm.set (eJ hg (by simp)) h1 trivial,.set (by intro _ _ _ h; cases h) (by intro _ _ h; cases h)⟩;simp only[R]
     exact ⟨b,[],h3,fun _=>rfl,by rw[qAR,qB3]⟩
   · cases h
 · cases h
end
end Go.TY
