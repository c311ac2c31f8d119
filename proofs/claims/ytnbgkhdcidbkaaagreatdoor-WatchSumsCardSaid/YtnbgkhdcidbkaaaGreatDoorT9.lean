import Derived.Test.YtnbgkhdcidbkaaaGreatDoorT8p
import Derived.Test.YtnbgkhdcidbkaaaGreatDoorE19
set_option linter.unusedVariables false
set_option linter.unusedSimpArgs false
namespace Go.TY
open Go.EM
section
variable {Φ:Frame}{Γ:Ctx}{m m0:Mem}{st:aq}{P:Program}
theorem cU:∀ {t:Ty}{n j:Nat},t.lows n=true→t.names j=true→j<n
 | .sl t,n,j,h,k=>cU (t:=t) h k
 | .agg t,n,j,h,k=>cU (t:=t) h k
 | .arr _ t,n,j,h,k=>cU (t:=t) h k
 | .tup t,n,j,h,k=>cU (t:=t) h k
 | .rp t _,n,j,h,k=>cU (t:=t) h k
 | .orp t _,n,j,h,k=>cU (t:=t) h k
 | .cl _ t,n,j,h,k=>cU (t:=t) h k
 | .cons t ts,n,j,h,k=>by
   simp only[Ty.lows,Ty.names,Bool.and_eq_true,Bool.or_eq_true] at h k
   rcases k with k | k
   · exact cU h.1 k
   · exact cU h.2 k
 | .own i,n,j,h,k=>by simp only[Ty.lows,Ty.names,Nat.beq_eq,Nat.ble_eq] at h k; omega
 | .it i,n,j,h,k=>by simp only[Ty.lows,Ty.names,Nat.beq_eq,Nat.ble_eq] at h k; omega
 | .mp i,n,j,h,k=>by simp only[Ty.lows,Ty.names,Nat.beq_eq,Nat.ble_eq] at h k; omega
 | .bx i _,n,j,h,k=>by simp only[Ty.lows,Ty.names,Nat.beq_eq,Nat.ble_eq] at h k; omega
 | .op i,n,j,h,k=>by simp only[Ty.lows,Ty.names,Nat.beq_eq,Nat.ble_eq] at h k; omega
 | .ptr i _,n,j,h,k=>by simp only[Ty.lows,Ty.names,Nat.beq_eq,Nat.ble_eq] at h k; omega
 | .ba i _ _ _,n,j,h,k=>by simp only[Ty.lows,Ty.names,Nat.beq_eq,Nat.ble_eq] at h k; omega
 | .vw i,n,j,h,k=>by simp only[Ty.lows,Ty.names,Nat.beq_eq,Nat.ble_eq] at h k; omega
 | .int _,n,j,h,k=>by cases k
 | .bool,n,j,h,k=>by cases k
 | .str,n,j,h,k=>by cases k
 | .unit,n,j,h,k=>by cases k
 | .nilsl,n,j,h,k=>by cases k
 | .nilp,n,j,h,k=>by cases k
 | .fn f,n,j,h,k=>by cases k
 | .err,n,j,h,k=>by cases k
 | .undef,n,j,h,k=>by cases k
 | .any,n,j,h,k=>by cases k
def anew (Γ:Ctx) (l:List (Nat×Nat)) (k n:Nat):Ctx:=fun i=>if i<n then (if k≤muF l i then some (.inl false) else Γ (muF l i)) else none
theorem gN (hm:MemR Φ Γ m st) {l:List (Nat×Nat)}{n:Nat}:Moved (cfM l m) (fun j=>j<n) Γ (anew Γ l m.length n) where
 mu j hj y hy:=by
   simp only[anew,if_pos hj]
   simp only[cfM] at hy
   rw[if_neg]
   · exact hy
   · intro hle; rw[hm.out _ hle] at hy; cases hy
 fr j hj hf:=by
   simp only[anew,if_pos hj]
   simp only[cfM,Nat.ble_eq] at hf
   rw[if_pos hf]
   exact ⟨_,rfl⟩
theorem vF {l:List (Nat×Nat)}{n:Nat}:∀ {j:Nat},abs l j n=true→∀ a b,a<n→b<j→muF l a=muF l b→a=b
 | 0,_,a,b,_,hb,_=>by omega
 | j+1,h,a,b,ha,hb,e=>by
   simp only[abs,Bool.and_eq_true,List.all_eq_true,List.mem_range] at h
   by_cases hbj:b=j
   · subst hbj
     have:=h.1 a ha
     simp only[Bool.or_eq_true,Nat.beq_eq,Bool.not_eq_true'] at this
     rcases this with h1 | h1
     · exact h1
     · have:Nat.beq (muF l a) (muF l b)=true:=by rw[Nat.beq_eq]; exact e
       rw[this] at h1; cases h1
   · exact vF h.2 a b ha (by omega) e
theorem bE:∀ {rs:List RS}{v:jpM rs}{j:Nat},(aL m0 rs v j).length=rs.length
 | [],v,j=>rfl
 | .same::rs,v,j=>by simp only[aL,List.length_cons]; rw[bE (rs:=rs)]
 | .box e t::rs,v,j=>by simp only[aL,List.length_cons,bE]
 | .row _ e t::rs,v,j=>by simp only[aL,List.length_cons,bE]
 | .iter::rs,v,j=>by simp only[aL,List.length_cons,bE]
 | .map _ _::rs,v,j=>by simp only[aL,List.length_cons,bE]
 | .gone::rs,v,j=>by simp only[aL,List.length_cons]; rw[bE (rs:=rs)]
theorem iY (hm:MemR Φ Γ m st) (hp:Pers m0 m) {l:List (Nat×Nat)}{n:Nat}:∀ {rs:List RS}{j:Nat}{v:jpM rs},j+rs.length≤n→(∀ g∈rs,tg n g=true)→dw l m0 m rs j=some v →
   ∀ i,i<rs.length→RegR (anew Γ l m.length n) st (j+i) (getM (aL m0 rs v j) i)
 | [],j,v,hn,hb,h,i,hi=>by simp at hi
 | g::rs,j,v,hn,hb,h,i,hi=>by
   simp only[List.length_cons] at hn hi
   have hjn:j<n:=by omega
   have rest:∀ {v':jpM rs},dw l m0 m rs (j+1)=some v'→∀ i,i<rs.length→RegR (anew Γ l m.length n) st (j+(i+1)) (getM (aL m0 rs v' (j+1)) i):=by
     intro v' h' i hi
     have:=iY hm hp (j:=j+1) (by omega) (fun g hg=>hb g (List.mem_cons_of_mem _ hg)) h' i hi
     rw[show j+(i+1)=j+1+i by omega]; exact this
   have hgb:=hb g (List.mem_cons_self ..)
   have hmv:=gN (l:=l) (n:=n) hm
   cases g with
   | same =>
     simp only[dw] at h
     cases hmu:Nat.beq (muF l j) j with
     | false=>rw[hmu] at h; cases h
     | true =>
       rw[hmu,cond_true] at h
       rw[Nat.beq_eq] at hmu
       split at h
       · rename_i e t w hg0
         split at h
         · rename_i e' t' w' hg1
           cases i with
           | succ i=>exact rest h i (by omega)
           | zero =>
             simp only[aL,getM]
             have h0:=hp.cbox j (eB hg0 (by simp)) _ _ _ hg1
             have hr:=hm.at j
             rw[hg1] at hr
             rw[h0]
             obtain ⟨k1,k0,k2,k3,r,a,k4,k5,k6⟩:=hr
             refine ⟨k1,k0,k2,k3,r,a,?_,k5,aP k0 k6⟩
             have:=hmv.mu j hjn _ (by simp only[cfM]; rw[hmu]; exact k4)
             exact this
         · cases h
       · cases h
   | box e t =>
     simp only[dw] at h
     split at h
     · rename_i e' t' w hg
       cases hc:(Nat.beq e e'&&t.isV&&t.okRow&&Nat.beq t.size t'.size) with
       | false=>rw[hc] at h; cases h
       | true =>
         rw[hc,cond_true] at h
         simp only[Bool.and_eq_true,Nat.beq_eq] at hc
         obtain ⟨⟨⟨c1,c2⟩,c3⟩,c4⟩:=hc
         simp only[Option.bind_eq_some_iff,Option.map_eq_some_iff] at h
         obtain ⟨x,hx,y,hy,rfl⟩:=h
         cases i with
         | succ i=>exact rest hy i (by omega)
         | zero =>
           simp only[aL,getM]
           have hr:=hm.at (muF l j)
           rw[hg] at hr
           obtain ⟨k1,k2,k3,r,a,k4,k5,k6⟩:=hr
           refine ⟨c2,c3,by rw[c4]; exact k3,r,a,hmv.mu j hjn _ (by rw[c4]; exact k4),by rw[c4,c1]; exact k5,?_⟩
           exact eD (w:=⟨t',w⟩) hmv (fun i hi=>cU hgb hi) hx k6
     · cases h
   | row z e t =>
     simp only[dw] at h
     cases hle:Nat.ble m.length (muF l j) with
     | true =>
       rw[hle,cond_true] at h
       cases hc:(t.isV&&t.closed&&t.okRow && !(Nat.beq t.size 0)) with
       | false=>rw[hc] at h; cases h
       | true =>
         rw[hc,cond_true,Option.map_eq_some_iff] at h
         simp only[Bool.and_eq_true,Bool.not_eq_true'] at hc
         obtain ⟨⟨⟨c1,c2⟩,c3⟩,c4⟩:=hc
         obtain ⟨y,hy,rfl⟩:=h
         cases i with
         | succ i=>exact rest hy i (by omega)
         | zero =>
           simp only[aL,getM]
           exact ⟨c1,c2,c3,fY c4,.inl ⟨rfl,false,(by simp only[anew,Nat.add_zero,if_pos hjn]; rw[if_pos (Nat.le_of_ble_eq_true hle)]),fun _=>rfl⟩⟩
     | false =>
       rw[hle,cond_false] at h
       split at h
       · rename_i z' e' t' xs hg
         cases hcz:(Nat.beq e e'&&(!z||z')) with
         | false=>rw[hcz] at h; cases h
         | true =>
           rw[hcz,cond_true] at h
           rw[Bool.and_eq_true,Nat.beq_eq] at hcz
           obtain ⟨hc,hzz⟩:=hcz
           simp only[Option.bind_eq_some_iff,Option.map_eq_some_iff] at h
           obtain ⟨x,hx,y,hy,rfl⟩:=h
           obtain ⟨ee,hxx⟩:=aV hx
           cases ee
           subst hxx
           cases i with
           | succ i=>exact rest hy i (by omega)
           | zero =>
             simp only[aL,getM]
             have hr:=hm.at (muF l j)
             rw[hg] at hr
             obtain ⟨k1,k2,k3,k4,k5⟩:=hr
             refine ⟨k1,k2,k3,k4,?_⟩
             rcases k5 with ⟨k5,k6⟩ | ⟨r,as,k5,k6,k7,k8⟩
             · obtain ⟨b,k6,k7⟩:=k6; exact .inl ⟨k5,b,hmv.mu j hjn _ k6,fun hz=>k7 (by subst hz; simpa using hzz)⟩
             · exact .inr ⟨r,as,hmv.mu j hjn _ k5,by rw[hc]; exact k6,aG (p:=fun x a=>R Γ t x false [a]) (fun x a hx=>aP k2 hx) k7,fun hz=>k8 (by subst hz; simpa using hzz)⟩
       · cases h
   | iter =>
     simp only[dw] at h
     cases hmu:Nat.beq (muF l j) j with
     | false=>rw[hmu] at h; cases h
     | true =>
       rw[hmu,cond_true] at h
       rw[Nat.beq_eq] at hmu
       split at h
       · rename_i s0 p0 hg0
         split at h
         · rename_i s p hg1
           rw[Option.map_eq_some_iff] at h
           obtain ⟨y,hy,rfl⟩:=h
           cases i with
           | succ i=>exact rest hy i (by omega)
           | zero =>
             simp only[aL,getM]
             obtain ⟨p0',h0⟩:=hp.iter j (eB hg0 (by simp)) _ _ hg1
             rw[h0] at hg0
             have e:s0=s:=by cases hg0; rfl
             simp only[h0]
             have hr:=hm.at j
             rw[hg1] at hr
             obtain ⟨r,k1,k2⟩:=hr
             exact ⟨r,hmv.mu j hjn _ (by simp only[cfM]; rw[hmu]; exact k1),k2⟩
         · cases h
       · cases h
   | map k u =>
     simp only[dw] at h
     cases hmu:Nat.beq (muF l j) j with
     | false=>rw[hmu] at h; cases h
     | true =>
       rw[hmu,cond_true] at h
       rw[Nat.beq_eq] at hmu
       split at h
       · rename_i k' u' xs hg1
         simp only[Option.bind_eq_some_iff,Option.map_eq_some_iff] at h
         obtain ⟨x,hx,y,hy,rfl⟩:=h
         obtain ⟨ee,hxx⟩:=aV hx
         cases ee
         subst hxx
         cases i with
         | succ i=>exact rest hy i (by omega)
         | zero =>
           simp only[aL,getM]
           have hr:=hm.at j
           rw[hg1] at hr
           obtain ⟨k1,k2,k3,k4,r,es,k5,k6,k7⟩:=hr
           exact ⟨k1,k2,k3,k4,r,es,hmv.mu j hjn _ (by simp only[cfM]; rw[hmu]; exact k5),k6,aG (p:=fun (p:k.V×u.V) (e:AVal×AVal)=>R Γ k p.1 false [e.1]∧R Γ u p.2 false [e.2]) (fun x a hx=>⟨aP k3 hx.1,aP k4 hx.2⟩) k7⟩
       · cases h
   | gone =>
     simp only[dw] at h
     cases i with
     | succ i=>exact rest h i (by omega)
     | zero=>simp only[aL,getM]; trivial
theorem ii:∀ {rs:List RS}{v:jpM rs}{j i:Nat},i<rs.length→(∀ e t w,getM (aL m0 rs v j) i = .cbox e t w→getM m0 (j+i) = .cbox e t w)∧(∀ s p,getM (aL m0 rs v j) i = .iter s p→∃ p0,getM m0 (j+i) = .iter s p0)
 | [],v,j,i,hi=>by simp at hi
 | g::rs,v,j,i+1,hi=>by
   simp only[List.length_cons] at hi
   have e:j+(i+1)=j+1+i:=by omega
   rw[e]
   cases g<;>(simp only[aL,getM]; exact ii (by omega))
 | .same::rs,v,j,0,hi=>by
   simp only[aL,getM]
   exact ⟨fun e t w h=>h,fun s p h=>⟨p,h⟩⟩
 | .box _ _::rs,v,j,0,hi=>by
   simp only[aL,getM]
   exact ⟨(fun e t w h=>by cases h),(fun s p h=>by cases h)⟩
 | .row _ _ _::rs,v,j,0,hi=>by
   simp only[aL,getM]
   exact ⟨(fun e t w h=>by cases h),(fun s p h=>by cases h)⟩
 | .iter::rs,v,j,0,hi=>by
   simp only[aL,getM]
   split
   · rename_i s p hg
     exact ⟨(fun e t w h=>by cases h),(fun s' p' h=>by cases h; exact ⟨p,hg⟩)⟩
   · exact ⟨(fun e t w h=>by cases h),(fun s' p' h=>by cases h)⟩
 | .map _ _::rs,v,j,0,hi=>by
   simp only[aL,getM]
   exact ⟨(fun e t w h=>by cases h),(fun s p h=>by cases h)⟩
 | .gone::rs,v,j,0,hi=>by
   simp only[aL,getM]
   exact ⟨(fun e t w h=>by cases h),(fun s p h=>by cases h)⟩
end
end Go.TY
namespace Go.TY
open Go.EM
theorem cA {f:Nat→Nat}:∀ {t:Ty}{j:Nat},(t.ren f).names j=true→∃ a,t.names a=true∧f a=j
 | .sl t,j,h=>cA (t:=t) h
 | .agg t,j,h=>cA (t:=t) h
 | .arr _ t,j,h=>cA (t:=t) h
 | .tup t,j,h=>cA (t:=t) h
 | .rp t _,j,h=>cA (t:=t) h
 | .orp t _,j,h=>cA (t:=t) h
 | .cl _ t,j,h=>cA (t:=t) h
 | .cons t ts,j,h=>by
   simp only[Ty.ren,Ty.names,Bool.or_eq_true] at h ⊢
   rcases h with h | h
   · obtain ⟨a,h1,h2⟩:=cA h; exact ⟨a,.inl h1,h2⟩
   · obtain ⟨a,h1,h2⟩:=cA h; exact ⟨a,.inr h1,h2⟩
 | .own i,j,h=>⟨i,by simp[Ty.names],by simpa [Ty.ren,Ty.names,Nat.beq_eq] using h⟩
 | .it i,j,h=>⟨i,by simp[Ty.names],by simpa [Ty.ren,Ty.names,Nat.beq_eq] using h⟩
 | .mp i,j,h=>⟨i,by simp[Ty.names],by simpa [Ty.ren,Ty.names,Nat.beq_eq] using h⟩
 | .bx i _,j,h=>⟨i,by simp[Ty.names],by simpa [Ty.ren,Ty.names,Nat.beq_eq] using h⟩
 | .op i,j,h=>⟨i,by simp[Ty.names],by simpa [Ty.ren,Ty.names,Nat.beq_eq] using h⟩
 | .ptr i _,j,h=>⟨i,by simp[Ty.names],by simpa [Ty.ren,Ty.names,Nat.beq_eq] using h⟩
 | .ba i _ _ _,j,h=>⟨i,by simp[Ty.names],by simpa [Ty.ren,Ty.names,Nat.beq_eq] using h⟩
 | .vw i,j,h=>⟨i,by simp[Ty.names],by simpa [Ty.ren,Ty.names,Nat.beq_eq] using h⟩
 | .int _,j,h=>by cases h
 | .bool,j,h=>by cases h
 | .str,j,h=>by cases h
 | .unit,j,h=>by cases h
 | .nilsl,j,h=>by cases h
 | .nilp,j,h=>by cases h
 | .fn f,j,h=>by cases h
 | .err,j,h=>by cases h
 | .undef,j,h=>by cases h
 | .any,j,h=>by cases h
theorem bc {f:Nat→Nat}:∀ {t:Ty},(t.ren f).size=t.size∧(t.ren f).isV=t.isV∧(t.ren f).okRow=t.okRow∧(t.ren f).closed=t.closed
 | .sl t=>⟨rfl,rfl,rfl,by simp only[Ty.ren,Ty.closed,(bc (t:=t)).2.1,(bc (t:=t)).2.2.2]⟩
 | .agg t=>⟨(bc (t:=t)).1,rfl,by simp only[Ty.ren,Ty.okRow,(bc (t:=t)).2.1,(bc (t:=t)).2.2.1],(bc (t:=t)).2.2.2⟩
 | .arr n t=>⟨by simp only[Ty.ren,Ty.size,(bc (t:=t)).1],rfl,by simp only[Ty.ren,Ty.okRow,(bc (t:=t)).2.1,(bc (t:=t)).2.2.1],by simp only[Ty.ren,Ty.closed,(bc (t:=t)).2.1,(bc (t:=t)).2.2.2]⟩
 | .tup t=>⟨rfl,rfl,rfl,(bc (t:=t)).2.2.2⟩
 | .rp t _=>⟨rfl,rfl,rfl,(bc (t:=t)).2.2.2⟩
 | .orp t _=>⟨rfl,rfl,rfl,(bc (t:=t)).2.2.2⟩
 | .cl _ t=>⟨rfl,rfl,rfl,(bc (t:=t)).2.2.2⟩
 | .cons t ts=>⟨by simp only[Ty.ren,Ty.size,(bc (t:=t)).1,(bc (t:=ts)).1],rfl,by simp only[Ty.ren,Ty.okRow,(bc (t:=t)).2.1,(bc (t:=t)).2.2.1,(bc (t:=ts)).2.2.1],by simp only[Ty.ren,Ty.closed,(bc (t:=t)).2.2.2,(bc (t:=ts)).2.2.2]⟩
 | .own _=>⟨rfl,rfl,rfl,rfl⟩
 | .it _=>⟨rfl,rfl,rfl,rfl⟩
 | .mp _=>⟨rfl,rfl,rfl,rfl⟩
 | .bx _ _=>⟨rfl,rfl,rfl,rfl⟩
 | .op _=>⟨rfl,rfl,rfl,rfl⟩
 | .ptr _ _=>⟨rfl,rfl,rfl,rfl⟩
 | .ba _ _ _ _=>⟨rfl,rfl,rfl,rfl⟩
 | .vw _=>⟨rfl,rfl,rfl,rfl⟩
 | .int _=>⟨rfl,rfl,rfl,rfl⟩
 | .bool=>⟨rfl,rfl,rfl,rfl⟩
 | .str=>⟨rfl,rfl,rfl,rfl⟩
 | .unit=>⟨rfl,rfl,rfl,rfl⟩
 | .nilsl=>⟨rfl,rfl,rfl,rfl⟩
 | .nilp=>⟨rfl,rfl,rfl,rfl⟩
 | .fn f=>⟨rfl,rfl,rfl,rfl⟩
 | .err=>⟨rfl,rfl,rfl,rfl⟩
 | .undef=>⟨rfl,rfl,rfl,rfl⟩
 | .any=>⟨rfl,rfl,rfl,rfl⟩
theorem vN {l:List (Nat×Nat)}:∀ {n:Nat},abG l n=true→∀ j,j<n→invF l (muF l j)=j
 | 0,_,j,h=>by omega
 | n+1,h,j,hj=>by
   simp only[abG,Bool.and_eq_true,Nat.beq_eq] at h
   by_cases e:j=n
   · subst e; exact h.1
   · exact vN h.2 j (by omega)
theorem rq {l:List (Nat×Nat)}{k:Nat}:∀ {n:Nat},rr l k n=true→∀ j,j<n→muF l j<k
 | 0,_,j,h=>by omega
 | n+1,h,j,hj=>by
   simp only[rr,Bool.and_eq_true,Nat.ble_eq] at h
   by_cases e:j=n
   · subst e; omega
   · exact rq h.2 j (by omega)
theorem jf {l:List (Nat×Nat)}:∀ {gs:Mem}{j:Nat}{m m':Mem},jT l gs j m=some m'→m'.length=m.length
 | [],j,m,m',h=>by simp only[jT] at h; cases h; rfl
 | g::gs,j,m,m',h=>by
   simp only[jT,Option.bind_eq_some_iff] at h
   obtain ⟨g',_,h⟩:=h
   rw[jf h,ce]
theorem kF {l:List (Nat×Nat)}{k:Nat}:∀ {gs:Mem}{j:Nat}{m m':Mem},(∀ i,i<gs.length→muF l (j+i)≠k)→jT l gs j m=some m'→getM m' k=getM m k
 | [],j,m,m',hk,h=>by simp only[jT] at h; cases h; rfl
 | g::gs,j,m,m',hk,h=>by
   simp only[jT,Option.bind_eq_some_iff] at h
   obtain ⟨g',_,h⟩:=h
   rw[kF (fun i hi=>by have:=hk (i+1) (by simp; omega); rw[Nat.add_assoc,Nat.add_comm 1 i]; exact this) h,bI (by have:=hk 0 (by simp); simpa using this)]
theorem qb {l:List (Nat×Nat)}{n:Nat} (hi:∀ a b,a<n→b<n→muF l a=muF l b→a=b):∀ {gs:Mem}{j:Nat}{m m':Mem},j+gs.length≤n→(∀ i,i<gs.length→muF l (j+i)<m.length)→jT l gs j m=some m' →
   ∀ i,i<gs.length→mY l (getM gs i)=some (getM m' (muF l (j+i)))
 | [],j,m,m',hn,hl,h,i,hx=>by simp at hx
 | g::gs,j,m,m',hn,hl,h,i,hx=>by
   simp only[List.length_cons] at hn hx
   simp only[jT,Option.bind_eq_some_iff] at h
   obtain ⟨g',hg,h⟩:=h
   cases i with
   | zero =>
     have e:getM m' (muF l (j+0))=g':=by
       rw[kF (k:=muF l (j+0)) (fun i hi' e=>by have:=hi _ _ (by omega) (by omega) e; omega) h]
       exact bJ (by simpa using hl 0 (by simp))
     rw[e]; exact hg
   | succ i =>
     have e:j+(i+1)=j+1+i:=by omega
     rw[e]
     refine qb hi (by omega) (fun i hi' => ?_) h i (by omega)
     rw[ce]
     have:=hl (i+1) (by simp; omega)
     have e2:j+1+i=j+(i+1):=by omega
     rw[e2]; exact this
theorem fj {n:Nat}{m0 m1:Mem}:∀ {rs:List RS}{v:jpM rs}{j:Nat},d5 n rs=true→aL m0 rs v j=aL m1 rs v j
 | [],v,j,h=>rfl
 | .box e t::rs,v,j,h=>by simp only[d5,Bool.and_eq_true] at h; simp only[aL]; rw[fj h.2]
 | .row z e t::rs,v,j,h=>by simp only[d5,Bool.and_eq_true] at h; simp only[aL]; rw[fj h.2]
 | .gone::rs,v,j,h=>by simp only[d5] at h; simp only[aL]; rw[fj h]
 | .same::rs,v,j,h=>by cases h
 | .iter::rs,v,j,h=>by cases h
 | .map _ _::rs,v,j,h=>by cases h
theorem ep {n:Nat}:∀ {rs:List RS},d5 n rs=true→∀ g∈rs,tg n g=true
 | [],h,g,hg=>by cases hg
 | .box e t::rs,h,g,hg=>by
   simp only[d5,Bool.and_eq_true] at h
   rcases List.mem_cons.1 hg with rfl | hg
   · exact h.1
   · exact ep h.2 g hg
 | .row z e t::rs,h,g,hg=>by
   simp only[d5,Bool.and_eq_true] at h
   rcases List.mem_cons.1 hg with rfl | hg
   · exact h.1
   · exact ep h.2 g hg
 | .gone::rs,h,g,hg=>by
   simp only[d5] at h
   rcases List.mem_cons.1 hg with rfl | hg
   · rfl
   · exact ep h g hg
 | .same::rs,h,g,hg=>by cases h
 | .iter::rs,h,g,hg=>by cases h
 | .map _ _::rs,h,g,hg=>by cases h
def uo:List RS→Nat→Bool
 | .box _ _::_,0=>true
 | _::l,j+1=>uo l j
 | _,_=>false
theorem gG {l:List (Nat×Nat)}:∀ {rs:List RS}{j:Nat},pE rs=true→∀ i,i<rs.length→uo rs i=true∨muF l (j+i)∈rowsOf l rs j
 | [],j,h,i,hi=>by simp at hi
 | .box e t::rs,j,h,0,hi=>.inl rfl
 | .row z e t::rs,j,h,0,hi=>.inr (by simp[rowsOf])
 | .box e t::rs,j,h,i+1,hi=>by
   simp only[pE] at h
   simp only[List.length_cons] at hi
   rcases gG (l:=l) (j:=j+1) h i (by omega) with h1 | h1
   · exact .inl h1
   · refine .inr ?_
     have e:j+(i+1)=j+1+i:=by omega
     rw[e]; exact h1
 | .row z e t::rs,j,h,i+1,hi=>by
   simp only[pE] at h
   simp only[List.length_cons] at hi
   rcases gG (l:=l) (j:=j+1) h i (by omega) with h1 | h1
   · exact .inl h1
   · refine .inr ?_
     have e:j+(i+1)=j+1+i:=by omega
     rw[e]; exact List.mem_cons_of_mem _ h1
 | .same::rs,j,h,_,hi=>by cases h
 | .iter::rs,j,h,_,hi=>by cases h
 | .map _ _::rs,j,h,_,hi=>by cases h
 | .gone::rs,j,h,_,hi=>by cases h
structure TRawOk (F:SFn) (tr:TRaw):Prop where
 run:∀ (Φ:Frame) (Γ:Ctx) (st:aq) (pv:tr.ps.V) (v:jpM tr.ins) (as:List AVal) (r:tr.res.V) (w:jpM tr.outs),
   MemR Φ Γ (aL [] tr.ins v 0) st→R Γ tr.ps pv false as→tr.fn pv v=some (r,w) →
   ∃ a st' Γ',F as st=some (a,st')∧R Γ' tr.res r false [a]∧MemR Φ Γ' (aL [] tr.outs w 0) st'∧∀ j y,(uo tr.ins j=true∨tr.stay=true)→Γ j=some y→Γ' j=some y
theorem TRawOk.ofBox {F:SFn}{tr:TRaw} (hs:tr.stay=false) (h:∀ (Φ:Frame) (Γ:Ctx) (st:aq) (pv:tr.ps.V) (v:jpM tr.ins) (as:List AVal) (r:tr.res.V) (w:jpM tr.outs),
   MemR Φ Γ (aL [] tr.ins v 0) st→R Γ tr.ps pv false as→tr.fn pv v=some (r,w) →
   ∃ a st' Γ',F as st=some (a,st')∧R Γ' tr.res r false [a]∧MemR Φ Γ' (aL [] tr.outs w 0) st'∧∀ j y,uo tr.ins j=true→Γ j=some y→Γ' j=some y):TRawOk F tr :=
 ⟨fun Φ Γ st pv v as r w h1 h2 h3=>by
   obtain ⟨a,st',Γ',g1,g2,g3,g4⟩:=h Φ Γ st pv v as r w h1 h2 h3
   refine ⟨a,st',Γ',g1,g2,g3,fun j y hj=>g4 j y ?_⟩
   rcases hj with hj | hj
   · exact hj
   · rw[hs] at hj; cases hj⟩
theorem rJ {Γ Γ':Ctx}:∀ {t:Ty}{v:t.V}{c:Bool}{l:List AVal},t.free=true→R Γ t v c l→R Γ' t v c l
 | .any,v,c,l,h,hr=>by simp only[R] at hr ⊢; exact hr
 | .tup t,v,c,l,h,hr=>by
   simp only[R] at hr ⊢
   obtain ⟨as,e,hr⟩:=hr
   exact ⟨as,e,rJ (t:=t) h hr⟩
 | .cons t ts,v,c,l,h,hr=>by
   simp only[Ty.free,Bool.and_eq_true] at h
   simp only[R] at hr ⊢
   obtain ⟨l1,l2,e,h1,h2⟩:=hr
   exact ⟨l1,l2,e,rJ h.1 h1,rJ h.2 h2⟩
 | .int k,v,c,l,h,hr=>aP (t:=.int k) h hr
 | .bool,v,c,l,h,hr=>aP (t:=.bool) h hr
 | .str,v,c,l,h,hr=>aP (t:=.str) h hr
 | .sl t,v,c,l,h,hr=>aP (t:=.sl t) h hr
 | .agg t,v,c,l,h,hr=>aP (t:=.agg t) h hr
 | .arr n t,v,c,l,h,hr=>aP (t:=.arr n t) h hr
 | .unit,v,c,l,h,hr=>aP (t:=.unit) h hr
 | .nilsl,v,c,l,h,hr=>aP (t:=.nilsl) h hr
 | .nilp,v,c,l,h,hr=>aP (t:=.nilp) h hr
 | .fn f,v,c,l,h,hr=>aP (t:=.fn f) h hr
 | .err,v,c,l,h,hr=>aP (t:=.err) h hr
 | .undef,v,c,l,h,hr=>aP (t:=.undef) h hr
 | .own i,v,c,l,h,hr=>by cases h
 | .it i,v,c,l,h,hr=>by cases h
 | .mp i,v,c,l,h,hr=>by cases h
 | .bx i o,v,c,l,h,hr=>by cases h
 | .op i,v,c,l,h,hr=>by cases h
 | .ptr i o,v,c,l,h,hr=>by cases h
 | .ba i o en ln,v,c,l,h,hr=>by cases h
 | .vw i,v,c,l,h,hr=>by cases h
 | .rp t o,v,c,l,h,hr=>aP (t:=.rp t o) h hr
 | .orp t o,v,c,l,h,hr=>aP (t:=.orp t o) h hr
 | .cl o t,v,c,l,h,hr=>aP (t:=.cl o t) h hr
theorem rX {f:CF}{p:Nat→Prop}{Γ Γ':Ctx} (hm:Moved f p Γ Γ'):∀ {u:Ty}{l:List TV}{x:u.V}{as:List AVal},(∀ j,u.names j=true→p j)→bd f u l=some x→ip Γ l as→R Γ' u x false as
 | .cons t ts,w::l,x,a::as,hp,h,hr=>by
   simp only[bd,Option.bind_eq_some_iff,Option.map_eq_some_iff] at h
   obtain ⟨y,hy,z,hz,rfl⟩:=h
   simp only[R]
   exact ⟨[a],as,rfl,eD hm (fun j hj=>hp j (by simp[Ty.names,hj])) hy hr.1.2,rX hm (fun j hj=>hp j (by simp[Ty.names,hj])) hz hr.2⟩
 | .unit,[],x,[],hp,h,hr=>by simp only[R]
 | .cons _ _,[],x,as,hp,h,hr=>by simp[bd] at h
 | .unit,_::_,x,as,hp,h,hr=>by simp[bd] at h
 | .int _,l,x,as,hp,h,hr=>by simp[bd] at h
 | .bool,l,x,as,hp,h,hr=>by simp[bd] at h
 | .str,l,x,as,hp,h,hr=>by simp[bd] at h
 | .sl _,l,x,as,hp,h,hr=>by simp[bd] at h
 | .agg _,l,x,as,hp,h,hr=>by simp[bd] at h
 | .arr _ _,l,x,as,hp,h,hr=>by simp[bd] at h
 | .tup _,l,x,as,hp,h,hr=>by simp[bd] at h
 | .nilsl,l,x,as,hp,h,hr=>by simp[bd] at h
 | .nilp,l,x,as,hp,h,hr=>by simp[bd] at h
 | .fn f,l,x,as,hp,h,hr=>by simp[bd] at h
 | .err,l,x,as,hp,h,hr=>by simp[bd] at h
 | .undef,l,x,as,hp,h,hr=>by simp[bd] at h
 | .any,l,x,as,hp,h,hr=>by simp[bd] at h
 | .own _,l,x,as,hp,h,hr=>by simp[bd] at h
 | .it _,l,x,as,hp,h,hr=>by simp[bd] at h
 | .mp _,l,x,as,hp,h,hr=>by simp[bd] at h
 | .bx _ _,l,x,as,hp,h,hr=>by simp[bd] at h
 | .op _,l,x,as,hp,h,hr=>by simp[bd] at h
 | .ptr _ _,l,x,as,hp,h,hr=>by simp[bd] at h
 | .ba _ _ _ _,l,x,as,hp,h,hr=>by simp[bd] at h
 | .vw _,l,x,as,hp,h,hr=>by simp[bd] at h
 | .rp _ _,l,x,as,hp,h,hr=>by simp[bd] at h
 | .orp _ _,l,x,as,hp,h,hr=>by simp[bd] at h
 | .cl _ _,l,x,as,hp,h,hr=>by simp[bd] at h
end Go.TY
namespace Go.TY
open Go.EM
def kq (Γ Γc:Ctx) (l:List (Nat×Nat)) (n:Nat):Ctx:=fun id=>if invF l id<n∧muF l (invF l id)=id then Γc (invF l id) else Γ id
open Classical in
noncomputable def outF (Γc:Ctx) (st:aq):Frame:=fun r=>if ∃ i n l,Γc i=some (.inr (r,n,l)) then none else st[r]?
section
variable {Φ:Frame}{Γ Γc':Ctx}{m mo m1 m':Mem}{st st':aq}{l:List (Nat×Nat)}{n:Nat}
theorem dl (h:∀ j,j<n→invF l (muF l j)=j) {j:Nat} (hj:j<n):kq Γ Γc' l n (muF l j)=Γc' j:=by
 unfold kq
 rw[h j hj,if_pos ⟨hj,rfl⟩]
theorem dj {id:Nat} (h:∀ j,j<n→muF l j≠id):kq Γ Γc' l n id=Γ id:=by
 unfold kq
 rw[if_neg]
 rintro ⟨h1,h2⟩
 exact h _ h1 h2
theorem dP (l:List (Nat×Nat)) (n id:Nat):(∃ j,j<n∧muF l j=id)∨∀ j,j<n→muF l j≠id:=by
 by_cases h:∃ j,j<n∧muF l j=id
 · exact .inl h
 · exact .inr fun j hj e=>h ⟨j,hj,e⟩
theorem gw (hl:∀ j,j<n→muF l j<m.length) {j:Nat} (hj:j<n):anew Γ l m.length n j=Γ (muF l j):=by
 have:=hl j hj
 unfold anew
 rw[if_pos hj,if_neg (by omega)]
theorem yf (hm:MemR Φ Γ m st) (hi:∀ j,j<n→invF l (muF l j)=j) (hl:∀ j,j<n→muF l j<m.length) {mc:Mem} (hn:mc.length=n) (hr:∀ i,i<n→RegR (anew Γ l m.length n) st i (getM mc i)) :
   MemR (outF (anew Γ l m.length n) st) (anew Γ l m.length n) mc st where
 reg id hid:=hr id (by omega)
 out id hid:=by unfold anew; rw[if_neg (by omega)]
 inj i j r a b a' b' h1 h2:=by
   have hil:i<n:=by
     by_cases h:i<n
     · exact h
     · unfold anew at h1; rw[if_neg h] at h1; cases h1
   have hjl:j<n:=by
     by_cases h:j<n
     · exact h
     · unfold anew at h2; rw[if_neg h] at h2; cases h2
   rw[gw hl hil] at h1
   rw[gw hl hjl] at h2
   have:=hm.inj _ _ _ _ _ _ _ h1 h2
   rw[← hi i hil,← hi j hjl,this]
 lt i r a b h:=by
   have hil:i<n:=by
     by_cases h':i<n
     · exact h'
     · unfold anew at h; rw[if_neg h'] at h; cases h
   rw[gw hl hil] at h
   exact hm.lt _ _ _ _ h
 old r g h:=by
   unfold outF at h
   split at h
   · cases h
   · exact h
 dis r g i a b h hg:=by
   unfold outF at h
   rw[if_pos ⟨i,a,b,hg⟩] at h
   cases h
theorem iA (hm:MemR Φ Γ m st) (hl:∀ j,j<n→muF l j<m.length) (hc:MemR (outF (anew Γ l m.length n) st) Γc' mo st') {id r a b:Nat} (ho:∀ j,j<n→muF l j≠id) (hg:Γ id=some (.inr (r,a,b))):(outF (anew Γ l m.length n) st r=st[r]?)∧st'[r]? = st[r]? := by
 have hno:¬ ∃ i n' l',anew Γ l m.length n i=some (.inr (r,n',l')):=by
   rintro ⟨i,n',l',h⟩
   have hil:i<n:=by
     by_cases h':i<n
     · exact h'
     · unfold anew at h; rw[if_neg h'] at h; cases h
   rw[gw hl hil] at h
   exact ho i hil (hm.inj _ _ _ _ _ _ _ h hg)
 have e:outF (anew Γ l m.length n) st r=st[r]? := by unfold outF; rw[if_neg hno]
 have hr:=hm.lt _ _ _ _ hg
 refine ⟨e,?_⟩
 rw[List.getElem?_eq_getElem hr]
 exact hc.old r _ (by rw[e,List.getElem?_eq_getElem hr])
theorem wr (hm:MemR Φ Γ m st) (hi:∀ j,j<n→invF l (muF l j)=j) (hl:∀ j,j<n→muF l j<m.length) (hmo:mo.length=n) (hc:MemR (outF (anew Γ l m.length n) st) Γc' mo st') (hlow:∀ j e t v,getM mo j = .box e t v→t.lows n=true)
   (h1:m1.length=m.length) (ho:∀ id,id<m.length→(∀ j,j<n→muF l j≠id)→RegR (kq Γ Γc' l n) st' id (getM m1 id)) (hb:jT l mo 0 m1=some m') :
   MemR Φ (kq Γ Γc' l n) m' st' where
 reg id hid:=by
   rw[jf hb,h1] at hid
   rcases dP l n id with ⟨j,hj,rfl⟩ | hout
   · have hat:=qb (n:=n) (fun a b ha hb' e=>by rw[← hi a ha,← hi b hb',e]) (by omega) (fun i hi'=>by rw[h1]; exact hl _ (by omega)) hb j (by omega)
     rw[Nat.zero_add] at hat
     have hr:=hc.reg j (by omega)
     have hG:kq Γ Γc' l n (muF l j)=Γc' j:=dl hi hj
     generalize hgj:getM mo j=g at hat hr
     cases g with
     | box e t v =>
       simp only[mY,Option.map_eq_some_iff] at hat
       obtain ⟨x,hx,hx2⟩:=hat
       rw[← hx2]
       obtain ⟨k1,k2,k3,r,a,k4,k5,k6⟩:=hr
       obtain ⟨s1,s2,s3,s4⟩:=bc (f:=muF l) (t:=t)
       refine ⟨by rw[s2]; exact k1,by rw[s3]; exact k2,by rw[s1]; exact k3,r,a,by rw[hG,s1]; exact k4,by rw[s1]; exact k5,?_⟩
       refine eD (w:=⟨t,v⟩) (Γ:=Γc') (p:=fun i=>∃ a,a<n∧muF l a=i) ⟨?_,?_⟩ ?_ hx k6
       · rintro i ⟨a,ha,rfl⟩ y hy
         simp only at hy
         rw[hi a ha] at hy
         rw[dl hi ha]; exact hy
       · intro i _ h; cases h
       · intro i hn
         obtain ⟨a,ha,rfl⟩:=cA hn
         exact ⟨a,cU (hlow j e t v hgj) ha,rfl⟩
     | cbox e t v=>cases hat
     | row z e t xs =>
       simp only[mY,Option.some.injEq] at hat
       rw[← hat]
       obtain ⟨k1,k2,k3,k4,k5⟩:=hr
       refine ⟨k1,k2,k3,k4,?_⟩
       rcases k5 with ⟨k5,k6⟩ | ⟨r,as,k5,k6,k7,k8⟩
       · obtain ⟨b,k6,k7⟩:=k6; exact .inl ⟨k5,b,by rw[hG]; exact k6,k7⟩
       · exact .inr ⟨r,as,by rw[hG]; exact k5,k6,aG (p:=fun x a=>R Γc' t x false [a]) (fun x a hx=>aP k2 hx) k7,k8⟩
     | iter s p=>cases hat
     | map k u xs=>cases hat
     | gone =>
       simp only[mY,Option.some.injEq] at hat
       rw[← hat]; trivial
   · rw[kF (fun i hi'=>by rw[Nat.zero_add]; exact hout i (by omega)) hb]
     exact ho id hid hout
 out id hid:=by
   rw[jf hb,h1] at hid
   rw[dj (fun j hj e=>by have:=hl j hj; omega)]
   exact hm.out id hid
 inj i j r a b a' b' g1 g2:=by
   rcases dP l n i with ⟨x,hx,rfl⟩ | hx<;>rcases dP l n j with ⟨y,hy,rfl⟩ | hy
   · rw[dl hi hx] at g1; rw[dl hi hy] at g2
     rw[hc.inj _ _ _ _ _ _ _ g1 g2]
   · rw[dl hi hx] at g1; rw[dj hy] at g2
     have:=(iA hm hl hc hy g2).1
     have hr:=hm.lt _ _ _ _ g2
     rw[List.getElem?_eq_getElem hr] at this
     exact absurd g1 (hc.dis r _ x _ _ this)
   · rw[dj hx] at g1; rw[dl hi hy] at g2
     have:=(iA hm hl hc hx g1).1
     have hr:=hm.lt _ _ _ _ g1
     rw[List.getElem?_eq_getElem hr] at this
     exact absurd g2 (hc.dis r _ y _ _ this)
   · rw[dj hx] at g1; rw[dj hy] at g2
     exact hm.inj _ _ _ _ _ _ _ g1 g2
 lt i r a b g:=by
   rcases dP l n i with ⟨x,hx,rfl⟩ | hx
   · rw[dl hi hx] at g; exact hc.lt _ _ _ _ g
   · rw[dj hx] at g
     have:=(iA hm hl hc hx g).2
     have hr:=hm.lt _ _ _ _ g
     rw[List.getElem?_eq_getElem hr] at this
     rcases Nat.lt_or_ge r st'.length with h' | h'
     · exact h'
     · rw[List.getElem?_eq_none h'] at this; cases this
 old r g hg:=by
   have e:outF (anew Γ l m.length n) st r=st[r]? := by
     unfold outF
     rw[if_neg]
     rintro ⟨i,n',l',h⟩
     have hil:i<n:=by
       by_cases h':i<n
       · exact h'
       · unfold anew at h; rw[if_neg h'] at h; cases h
     rw[gw hl hil] at h
     exact hm.dis r g _ _ _ hg h
   exact hc.old r g (by rw[e]; exact hm.old r g hg)
 dis r g i a b hg h:=by
   rcases dP l n i with ⟨x,hx,rfl⟩ | hx
   · rw[dl hi hx] at h
     have e:outF (anew Γ l m.length n) st r=st[r]? := by
       unfold outF
       rw[if_neg]
       rintro ⟨i,n',l',h⟩
       have hil:i<n:=by
         by_cases h':i<n
         · exact h'
         · unfold anew at h; rw[if_neg h'] at h; cases h
       rw[gw hl hil] at h
       exact hm.dis r g _ _ _ hg h
     exact hc.dis r g x _ _ (by rw[e]; exact hm.old r g hg) h
   · rw[dj hx] at h
     exact hm.dis r g _ _ _ hg h
theorem sk (hi:∀ j,j<n→invF l (muF l j)=j) (hl:∀ j,j<n→muF l j<m.length) (hmo:mo.length=n) (h1:m1.length=m.length)
   (hk:∀ j,j<m.length→(∀ e t v,getM m1 j = .cbox e t v→getM m j = .cbox e t v)∧(∀ s p,getM m1 j = .iter s p→getM m j = .iter s p)) (hb:jT l mo 0 m1=some m'):Pers m m':=by
 have key:∀ j,j<m.length→(∃ g,mY l g=some (getM m' j))∨getM m' j=getM m1 j:=by
   intro id hid
   rcases dP l n id with ⟨j,hj,rfl⟩ | hout
   · have hat:=qb (n:=n) (fun a b ha hb' e=>by rw[← hi a ha,← hi b hb',e]) (by omega) (fun i hi'=>by rw[h1]; exact hl _ (by omega)) hb j (by omega)
     rw[Nat.zero_add] at hat
     exact .inl ⟨_,hat⟩
   · exact .inr (kF (fun i hi'=>by rw[Nat.zero_add]; exact hout i (by omega)) hb)
 have hno:∀ g r,mY l g=some r→(∀ e t v,r ≠ .cbox e t v)∧(∀ s p,r ≠ .iter s p):=by
   intro g r h
   cases g with
   | box e t v =>
     simp only[mY,Option.map_eq_some_iff] at h
     obtain ⟨x,_,rfl⟩:=h
     exact ⟨(fun _ _ _ e=>by cases e),(fun _ _ e=>by cases e)⟩
   | row z e t xs=>simp only[mY,Option.some.injEq] at h; subst h; exact ⟨(fun _ _ _ e=>by cases e),(fun _ _ e=>by cases e)⟩
   | gone=>simp only[mY,Option.some.injEq] at h; subst h; exact ⟨(fun _ _ _ e=>by cases e),(fun _ _ e=>by cases e)⟩
   | cbox e t v=>cases h
   | iter s p=>cases h
   | map k u xs=>cases h
 refine ⟨by rw[jf hb,h1]; exact Nat.le_refl _,fun j hj e t v h => ?_,fun j hj s p h => ?_⟩
 · rcases key j hj with ⟨g,hg⟩ | hg
   · exact absurd h ((hno g _ hg).1 e t v)
   · exact (hk j hj).1 e t v (by rw[← hg]; exact h)
 · rcases key j hj with ⟨g,hg⟩ | hg
   · exact absurd h ((hno g _ hg).2 s p)
   · exact ⟨p,(hk j hj).2 s p (by rw[← hg]; exact h)⟩
theorem ex {k:Nat}{m0:Mem}:∀ {rs:List RS}{v:jpM rs}{j i:Nat},d5 k rs=true→∀ e t w,getM (aL m0 rs v j) i = .box e t w→t.lows k=true
 | [],v,j,i,h,e,t,w,hg=>by simp[aL,getM] at hg
 | .box e' t'::rs,v,j,0,h,e,t,w,hg=>by
   simp only[d5,Bool.and_eq_true] at h
   simp only[aL,getM] at hg
   cases hg; exact h.1
 | .box e' t'::rs,v,j,i+1,h,e,t,w,hg=>by
   simp only[d5,Bool.and_eq_true] at h
   simp only[aL,getM] at hg
   exact ex h.2 e t w hg
 | .row z' e' t'::rs,v,j,0,h,e,t,w,hg=>by simp only[aL,getM] at hg; cases hg
 | .row z' e' t'::rs,v,j,i+1,h,e,t,w,hg=>by
   simp only[d5,Bool.and_eq_true] at h
   simp only[aL,getM] at hg
   exact ex h.2 e t w hg
 | .gone::rs,v,j,0,h,e,t,w,hg=>by simp only[aL,getM] at hg; cases hg
 | .gone::rs,v,j,i+1,h,e,t,w,hg=>by
   simp only[d5] at h
   simp only[aL,getM] at hg
   exact ex h e t w hg
 | .same::rs,v,j,i,h,e,t,w,hg=>by cases h
 | .iter::rs,v,j,i,h,e,t,w,hg=>by cases h
 | .map _ _::rs,v,j,i,h,e,t,w,hg=>by cases h
theorem ia {l:List (Nat×Nat)}{k:Nat}:∀ {rs:List RS}{j:Nat},k∈rowsOf l rs j→∃ x,x<rs.length∧muF l (j+x)=k
 | [],j,h=>by cases h
 | .row z e t::rs,j,h=>by
   simp only[rowsOf,List.mem_cons] at h
   rcases h with h | h
   · exact ⟨0,by simp,by rw[h]; rfl⟩
   · obtain ⟨x,hx,he⟩:=ia h
     exact ⟨x+1,by simp; omega,by rw[← he]; congr 1; omega⟩
 | .box e t::rs,j,h=>by
   simp only[rowsOf] at h
   obtain ⟨x,hx,he⟩:=ia h
   exact ⟨x+1,by simp; omega,by rw[← he]; congr 1; omega⟩
 | .gone::rs,j,h=>by
   simp only[rowsOf] at h
   obtain ⟨x,hx,he⟩:=ia h
   exact ⟨x+1,by simp; omega,by rw[← he]; congr 1; omega⟩
 | .same::rs,j,h=>by
   simp only[rowsOf] at h
   obtain ⟨x,hx,he⟩:=ia h
   exact ⟨x+1,by simp; omega,by rw[← he]; congr 1; omega⟩
 | .iter::rs,j,h=>by
   simp only[rowsOf] at h
   obtain ⟨x,hx,he⟩:=ia h
   exact ⟨x+1,by simp; omega,by rw[← he]; congr 1; omega⟩
 | .map _ _::rs,j,h=>by
   simp only[rowsOf] at h
   obtain ⟨x,hx,he⟩:=ia h
   exact ⟨x+1,by simp; omega,by rw[← he]; congr 1; omega⟩
theorem aeZ (hi:∀ j,j<n→invF l (muF l j)=j) {t:Ty}{v:t.V}{w:TV}{a:AVal} (hf:(t.free||t.lows n)=true) (ht:t.isV=true) (h:resB l t v=some w) (hr:R Γc' t v false [a]):w.t.isV=true∧R (kq Γ Γc' l n) w.t w.v false [a]:=by
 unfold resB at h
 cases hc:t.free with
 | true=>rw[hc,cond_true] at h; cases h; exact ⟨ht,rJ hc hr⟩
 | false =>
   rw[hc,Bool.false_or] at hf
   rw[hc,cond_false,Option.map_eq_some_iff] at h
   obtain ⟨x,hx,rfl⟩:=h
   refine ⟨by rw[bc.2.1]; exact ht,?_⟩
   refine eD (w:=⟨t,v⟩) (Γ:=Γc') (p:=fun i=>∃ a,a<n∧muF l a=i) ⟨?_,?_⟩ ?_ hx hr
   · rintro i ⟨a,ha,rfl⟩ y hy
     simp only at hy
     rw[hi a ha] at hy
     rw[dl hi ha]; exact hy
   · intro i _ h; cases h
   · intro i hn
     obtain ⟨a,ha,rfl⟩:=cA hn
     exact ⟨a,cU hf ha,rfl⟩
theorem ajo {F:SFn}{tr:TRaw}{d:Option Nat} (hF:TRawOk F tr) (hm:MemR Φ Γ m st) {ws:List TV}{as:List AVal} (hw:ip Γ ws as):OkM Φ d Γ m st (F as st) (rawT tr ws m):=by
 unfold rawT
 generalize hC tr ws m=l
 cases hc:(abG l tr.ins.length&&rr l m.length tr.ins.length&&d5 tr.ins.length tr.ins&&d5 tr.ins.length tr.outs&&Nat.beq tr.outs.length tr.ins.length&&(tr.res.free||tr.res.lows tr.ins.length)&&tr.res.isV&&pE tr.ins&&tr.ps.lows tr.ins.length) with
 | false=>exact .no
 | true =>
   simp only[Bool.and_eq_true,Nat.beq_eq] at hc
   obtain ⟨⟨⟨⟨⟨⟨⟨⟨c1,c2⟩,c3⟩,c4⟩,c5⟩,c6⟩,c7⟩,c8⟩,c9⟩:=hc
   simp only[cond_true]
   have hi:=vN c1
   have hl:=rq c2
   split
   · rename_i v pv hv hpv
     have hregs:=iY hm (.refl m) (l:=l) (n:=tr.ins.length) (j:=0) (by omega) (ep c3) hv
     have hmc:=yf (n:=tr.ins.length) hm hi hl (mc:=aL [] tr.ins v 0) bE (fun i hi'=>by
       have:=hregs i hi'
       rw[Nat.zero_add] at this
       rw[fj (m1:=m) c3]; exact this)
     have hps:=rX (gN hm (l:=l) (n:=tr.ins.length)) (fun j hj=>cU c9 hj) hpv hw
     have call:∀ q,tr.fn pv v=some q→_:=fun q hq=>hF.run _ _ _ pv v as q.1 q.2 hmc hps hq
     have hmo:∀ q:tr.res.V×jpM tr.outs,(aL [] tr.outs q.2 0).length=tr.ins.length:=fun q=>by rw[bE]; exact c5
     split
     · rename_i hrows
       refine .opt fun q hq => ?_
       obtain ⟨a,st',Γc',h1,h2,h3,h4⟩:=call q hq
       have hbox:∀ j,j<tr.ins.length→(uo tr.ins j=true∨tr.stay=true):=fun j hj=>by
         rcases gG (l:=l) (j:=0) c8 j hj with h | h
         · exact .inl h
         · cases hs:tr.stay with
           | true=>exact .inr rfl
           | false=>rw[hs,cond_false] at hrows; rw[hrows] at h; cases h
       have hext:∀ i y,Γ i=some y→kq Γ Γc' l tr.ins.length i=some y:=by
         intro i y hy
         rcases dP l tr.ins.length i with ⟨x,hx,rfl⟩ | hx
         · rw[dl hi hx]; exact h4 x y (hbox x hx) (by rw[gw hl hx]; exact hy)
         · rw[dj hx]; exact hy
       split
       · rename_i m' w hb hw
         refine .ok (a:=a) (st':=st') (kq Γ Γc' l tr.ins.length) h1 (.inr (aeZ hi c6 c7 hw h2)) (wr hm hi hl (hmo q) h3 (fun j e t v hg=>ex c4 e t v hg) rfl (fun id hid ho => ?_) hb) (fun j y _ h=>hext j y h) (sk hi hl (hmo q) rfl (fun j hj=>⟨fun _ _ _ h=>h,fun _ _ h=>h⟩) hb)
         exact gR hext (fun r a b hg=>(iA hm hl h3 ho hg).2) (hm.reg id hid)
       · exact .no
     · rename_i k hrows
       have hrows:rowsOf l tr.ins 0=[k]:=by
         cases hs:tr.stay with
         | true=>rw[hs,cond_true] at hrows; cases hrows
         | false=>rw[hs,cond_false] at hrows; exact hrows
       refine .opt fun q hq => ?_
       obtain ⟨a,st',Γc',h1,h2,h3,h4⟩:=call q hq
       have hext:∀ i y,i≠k→Γ i=some y→kq Γ Γc' l tr.ins.length i=some y:=by
         intro i y hne hy
         rcases dP l tr.ins.length i with ⟨x,hx,rfl⟩ | hx
         · rw[dl hi hx]
           rcases gG (l:=l) (j:=0) c8 x hx with h | h
           · exact h4 x y (.inl h) (by rw[gw hl hx]; exact hy)
           · rw[hrows,Nat.zero_add] at h
             simp only[List.mem_cons,List.mem_nil_iff,or_false] at h
             exact absurd h hne
         · rw[dj hx]; exact hy
       have hkin:∃ x,x<tr.ins.length∧muF l x=k:=by
         have:=ia (l:=l) (k:=k) (rs:=tr.ins) (j:=0) (by rw[hrows]; simp)
         simpa using this
       split
       · rename_i m' w hb hw
         refine .ok (a:=a) (st':=st') (kq Γ Γc' l tr.ins.length) h1 (.inr (aeZ hi c6 c7 hw h2)) (wr hm hi hl (hmo q) h3 (fun j e t v hg=>ex c4 e t v hg) bH (fun id hid ho => ?_) hb) (fun j y hne h=>hext j y (fun e=>hne (by rw[e])) h) (sk hi hl (hmo q) bH (fun j hj=>by rw[eP hj]; exact jJ) hb)
         rw[eP hid]
         refine px hext (fun e => ?_) (fun r a b hg=>(iA hm hl h3 ho hg).2) (hm.reg id hid)
         obtain ⟨x,hx,hxe⟩:=hkin
         exact ho x hx (by rw[hxe,e])
       · exact .no
     · exact .no
   · exact .no
end
end Go.TY
namespace Go.TY
open Go.EM
def aff (F:SFn) (e:Nat) (as:List AVal) (st:aq):(t:Ty)→t.V→Prop
 | .sl u, xs => ∃ st', (∀ q, q < st.length → st'[q]? = st[q]?) ∧ ((xs = [] ∧ (F as st = some (.nil, st') ∨ ∃ k, F as st = some (.tree true k [], st'))) ∨
     ∃ r bs,F as st=some (.own r u.size bs.length 0 bs.length,st')∧st.length≤r∧st'[r]? = some (.row e u.size bs)∧All2 (fun x a=>R Γ0 u x false [a]) xs bs)
 | _,_=>False
def aqT (F:SFn) (as:List AVal) (st:aq):(t:Ty)→t.V→Prop
 | .sl (.cons k v), xs => ∃ r es st', F as st = some (.map r, st') ∧ (∀ q, q < st.length → st'[q]? = st[q]?) ∧ st.length ≤ r ∧ st'[r]? = some (.map es) ∧
     All2 (fun (p:k.V×v.V) (e:AVal×AVal)=>R Γ0 k p.1 false [e.1]∧R Γ0 v p.2 false [e.2]) xs es
 | _,_=>False
def akn (F:SFn) (e:Nat) (as:List AVal) (st:aq):(t:Ty)→t.V→Prop
 | .cons (.sl u) rs, v => ∃ bs st', (∀ q, q < st.length → st'[q]? = st[q]?) ∧ R Γ0 rs v.2 false bs ∧ ((v.1 = [] ∧ F as st = some (.tup (.nilptr :: bs), st')) ∨
     ∃ x r a,v.1=[x]∧F as st=some (.tup (.ptr r 1 0 0::bs),st')∧st.length≤r∧st'[r]? = some (.row e u.size [a])∧R Γ0 u x false [a])
 | _,_=>False
structure TNewOk (F:SFn) (tn:TNew):Prop where
 prun:tn.pair=true→∀ (st:aq) (pv:tn.ps.V) (v:tn.t.V) (as:List AVal) (Γ:Ctx),R Γ tn.ps pv false as→tn.fn pv=some v→akn F tn.e as st tn.t v
 rrun:tn.pair=false→tn.row=true→∀ (st:aq) (pv:tn.ps.V) (v:tn.t.V) (as:List AVal) (Γ:Ctx),R Γ tn.ps pv false as→tn.fn pv=some v→aff F tn.e as st tn.t v
 mrun:tn.pair=false→tn.mp=true→∀ (st:aq) (pv:tn.ps.V) (v:tn.t.V) (as:List AVal) (Γ:Ctx),R Γ tn.ps pv false as→tn.fn pv=some v→aqT F as st tn.t v
 run:tn.pair=false→tn.row=false→tn.mp=false→∀ (st:aq) (pv:tn.ps.V) (v:tn.t.V) (as:List AVal) (Γ:Ctx),R Γ tn.ps pv false as→tn.fn pv=some v →
   ∃ r a st',F as st=some (.ptr r 1 0 0,st')∧(∀ q,q<st.length→st'[q]? = st[q]?)∧st.length≤r∧st'[r]? = some (.row tn.e tn.t.size [a])∧R Γ0 tn.t v false [a]
section
variable {Φ:Frame}{Γ:Ctx}{m:Mem}{st st':aq}
theorem gJ (hm:MemR Φ Γ m st) {g:Reg}{r n l:Nat} (hs:∀ q,q<st.length→st'[q]? = st[q]?) (hr:st.length≤r) (hr2:r<st'.length) (hg:RegR (more Γ m.length (.inr (r,n,l))) st' m.length g):MemR Φ (more Γ m.length (.inr (r,n,l))) (m++[g]) st' where
 reg id hid:=by
   rw[List.length_append,List.length_cons,List.length_nil] at hid
   rcases Nat.lt_or_ge id m.length with h | h
   · rw[dB h]
     exact gR (bR hm) (fun r n l hq=>hs _ (hm.lt _ _ _ _ hq)) (hm.reg id h)
   · have:id=m.length:=by omega
     subst this
     rw[fI]; exact hg
 out id hid:=by
   rw[List.length_append,List.length_cons,List.length_nil] at hid
   unfold more
   rw[if_neg (by omega)]
   exact hm.out id (by omega)
 inj i j q a b a' b' h1 h2:=by
   unfold more at h1 h2
   split at h1<;>split at h2
   · omega
   · cases h1
     have:=hm.lt _ _ _ _ h2
     omega
   · cases h2
     have:=hm.lt _ _ _ _ h1
     omega
   · exact hm.inj _ _ _ _ _ _ _ h1 h2
 lt i q a b h:=by
   unfold more at h
   split at h
   · cases h; exact hr2
   · have h1:=hm.lt _ _ _ _ h
     have h2:=hs q h1
     rw[List.getElem?_eq_getElem h1] at h2
     rcases Nat.lt_or_ge q st'.length with h' | h'
     · exact h'
     · rw[List.getElem?_eq_none h'] at h2; cases h2
 old q g hg:=by
   have h1:=hm.old q g hg
   have h2:q<st.length:=hm.oldlt hg
   rw[hs q h2]; exact h1
 dis q g i a b hg h:=by
   unfold more at h
   split at h
   · cases h
     have:=hm.oldlt hg
     omega
   · exact hm.dis _ _ _ _ _ hg h
theorem lI (hm:MemR Φ Γ m st) (hs:∀ q,q<st.length→st'[q]? = st[q]?):MemR Φ Γ m st' where
 reg id hid:=gR (fun _ _ h=>h) (fun r n l hq=>hs _ (hm.lt _ _ _ _ hq)) (hm.reg id hid)
 out:=hm.out
 inj:=hm.inj
 lt i q a b h:=by
   have h1:=hm.lt _ _ _ _ h
   have h2:=hs q h1
   rw[List.getElem?_eq_getElem h1] at h2
   rcases Nat.lt_or_ge q st'.length with h' | h'
   · exact h'
   · rw[List.getElem?_eq_none h'] at h2; cases h2
 old q g hg:=by rw[hs q (hm.oldlt hg)]; exact hm.old q g hg
 dis:=hm.dis
theorem ur {A:Type}{l:List A}{r:Nat}{x:A} (h:l[r]? = some x):r<l.length:=by
 rcases Nat.lt_or_ge r l.length with h' | h'
 · exact h'
 · rw[List.getElem?_eq_none h'] at h; cases h
theorem ad0 {F:SFn}{tn:TNew}{d:Option Nat} (hF:TNewOk F tn) (hm:MemR Φ Γ m st) {ws:List TV}{as:List AVal} (hw:ip Γ ws as):OkM Φ d Γ m st (F as st) (ajx tn ws m):=by
 unfold ajx
 cases hpr:tn.pair with
 | true =>
   simp only[cond_true]
   split
   · rename_i pv hpv
     obtain ⟨ps,e,t,fn,row,mp,pair⟩:=tn
     simp only at hpr
     subst hpr
     have hrun:=fun v hv=>hF.prun rfl st pv v as Γ (dR hpv hw) hv
     simp only at hrun ⊢
     match t,fn,hrun with
     | .cons (.sl u) rs,fn,hrun =>
       simp only[vE]
       cases hc:(u.isV&&u.closed&&u.okRow && !(Nat.beq u.size 0)&&rs.closed&&rowV rs) with
       | false=>exact .no
       | true =>
         simp only[Bool.and_eq_true,Bool.not_eq_true'] at hc
         obtain ⟨⟨⟨⟨⟨c1,c2⟩,c3⟩,c4⟩,c5⟩,c6⟩:=hc
         refine .opt fun v hv => ?_
         obtain ⟨bs,st',hs,hb,⟨hv1,h⟩ | ⟨x,r,a,hv1,h,h2,h3,h4⟩⟩:=hrun v hv
         · rw[hv1]
           refine .br (fun _ => ?_) (fun hf=>by cases hf)
           exact .ok (a:=.tup (.nilptr::bs)) (st':=st') Γ h (.inr ⟨rfl,_,rfl,[.nilptr],bs,rfl,rfl,aP c5 hb⟩) (lI hm hs) (fun _ _ _ h=>h) (.refl _)
         · rw[hv1]
           refine .br (fun hf=>by cases hf) (fun _=>.opt fun y hy => ?_)
           cases hy
           have hr2:=ur h3
           refine .ok (a:=.tup (.ptr r 1 0 0::bs)) (st':=st') (more Γ m.length (.inr (r,u.size,1))) h (.inr ⟨rfl,_,rfl,[.ptr r 1 0 0],bs,rfl,⟨r,u.size,bt,rfl⟩,aP c5 hb⟩) (gJ hm hs h2 hr2 ?_) (fun j y _ h=>bR hm j y h) .more
           exact ⟨c1,c3,fY c4,r,a,bt,h3,aP c2 h4⟩
     | .sl _,fn,hrun=>exact .no
     | .int _,fn,hrun=>exact .no
     | .bool,fn,hrun=>exact .no
     | .str,fn,hrun=>exact .no
     | .agg _,fn,hrun=>exact .no
     | .arr _ _,fn,hrun=>exact .no
     | .tup _,fn,hrun=>exact .no
     | .unit,fn,hrun=>exact .no
     | .nilsl,fn,hrun=>exact .no
     | .nilp,fn,hrun=>exact .no
     | .err,fn,hrun=>exact .no
     | .fn _,fn,hrun=>exact .no
     | .undef,fn,hrun=>exact .no
     | .any,fn,hrun=>exact .no
     | .own _,fn,hrun=>exact .no
     | .it _,fn,hrun=>exact .no
     | .mp _,fn,hrun=>exact .no
     | .bx _ _,fn,hrun=>exact .no
     | .op _,fn,hrun=>exact .no
     | .ptr _ _,fn,hrun=>exact .no
     | .ba _ _ _ _,fn,hrun=>exact .no
     | .vw _,fn,hrun=>exact .no
     | .rp _ _,fn,hrun=>exact .no
     | .orp _ _,fn,hrun=>exact .no
     | .cl _ _,fn,hrun=>exact .no
     | .cons (.int _) _,fn,hrun=>exact .no
     | .cons .bool _,fn,hrun=>exact .no
     | .cons .str _,fn,hrun=>exact .no
     | .cons (.agg _) _,fn,hrun=>exact .no
     | .cons (.arr _ _) _,fn,hrun=>exact .no
     | .cons (.tup _) _,fn,hrun=>exact .no
     | .cons .unit _,fn,hrun=>exact .no
     | .cons (.cons _ _) _,fn,hrun=>exact .no
     | .cons .nilsl _,fn,hrun=>exact .no
     | .cons .nilp _,fn,hrun=>exact .no
     | .cons .err _,fn,hrun=>exact .no
     | .cons (.fn _) _,fn,hrun=>exact .no
     | .cons .undef _,fn,hrun=>exact .no
     | .cons .any _,fn,hrun=>exact .no
     | .cons (.own _) _,fn,hrun=>exact .no
     | .cons (.it _) _,fn,hrun=>exact .no
     | .cons (.mp _) _,fn,hrun=>exact .no
     | .cons (.bx _ _) _,fn,hrun=>exact .no
     | .cons (.op _) _,fn,hrun=>exact .no
     | .cons (.ptr _ _) _,fn,hrun=>exact .no
     | .cons (.ba _ _ _ _) _,fn,hrun=>exact .no
     | .cons (.vw _) _,fn,hrun=>exact .no
     | .cons (.rp _ _) _,fn,hrun=>exact .no
     | .cons (.orp _ _) _,fn,hrun=>exact .no
     | .cons (.cl _ _) _,fn,hrun=>exact .no
   · exact .no
 | false =>
 simp only[cond_false]
 cases hmp:tn.mp with
 | true =>
   simp only[cond_true]
   split
   · rename_i pv hpv
     obtain ⟨ps,e,t,fn,row,mp,pair⟩:=tn
     simp only at hmp hpr
     subst hmp
     have hrun:=fun v hv=>hF.mrun hpr rfl st pv v as Γ (dR hpv hw) hv
     simp only at hrun ⊢
     match t,fn,hrun with
     | .sl (.cons k u),fn,hrun =>
       simp only[abq]
       cases hc:(k.isV&&u.isV&&k.closed&&u.closed) with
       | false=>exact .no
       | true =>
         simp only[Bool.and_eq_true] at hc
         obtain ⟨⟨⟨c1,c2⟩,c3⟩,c4⟩:=hc
         refine .opt fun v hv => ?_
         obtain ⟨r,es,st',h1,h2,h3,h4,h5⟩:=hrun v hv
         refine .ok (a:=.map r) (st':=st') (more Γ m.length (.inr (r,0,0))) h1 (.inr ⟨rfl,r,bt,rfl⟩) (gJ hm h2 h3 (ur h4) ?_) (fun j y _ h=>bR hm j y h) .more
         exact ⟨c1,c2,c3,c4,r,es,bt,h4,aG (p:=fun (p:k.V×u.V) (e:AVal×AVal)=>R Γ0 k p.1 false [e.1]∧R Γ0 u p.2 false [e.2]) (fun x a hx=>⟨aP c3 hx.1,aP c4 hx.2⟩) h5⟩
     | .sl (.int _),fn,hrun=>exact .no
     | .sl .bool,fn,hrun=>exact .no
     | .sl .str,fn,hrun=>exact .no
     | .sl (.sl _),fn,hrun=>exact .no
     | .sl (.agg _),fn,hrun=>exact .no
     | .sl (.arr _ _),fn,hrun=>exact .no
     | .sl (.tup _),fn,hrun=>exact .no
     | .sl .unit,fn,hrun=>exact .no
     | .sl .nilsl,fn,hrun=>exact .no
     | .sl .nilp,fn,hrun=>exact .no
     | .sl .err,fn,hrun=>exact .no
     | .sl (.fn _),fn,hrun=>exact .no
     | .sl .undef,fn,hrun=>exact .no
     | .sl .any,fn,hrun=>exact .no
     | .sl (.own _),fn,hrun=>exact .no
     | .sl (.it _),fn,hrun=>exact .no
     | .sl (.mp _),fn,hrun=>exact .no
     | .sl (.bx _ _),fn,hrun=>exact .no
     | .sl (.op _),fn,hrun=>exact .no
     | .sl (.ptr _ _),fn,hrun=>exact .no
     | .sl (.ba _ _ _ _),fn,hrun=>exact .no
     | .sl (.vw _),fn,hrun=>exact .no
     | .sl (.rp _ _),fn,hrun=>exact .no
     | .sl (.orp _ _),fn,hrun=>exact .no
     | .sl (.cl _ _),fn,hrun=>exact .no
     | .int _,fn,hrun=>exact .no
     | .bool,fn,hrun=>exact .no
     | .str,fn,hrun=>exact .no
     | .agg _,fn,hrun=>exact .no
     | .arr _ _,fn,hrun=>exact .no
     | .tup _,fn,hrun=>exact .no
     | .unit,fn,hrun=>exact .no
     | .cons _ _,fn,hrun=>exact .no
     | .nilsl,fn,hrun=>exact .no
     | .nilp,fn,hrun=>exact .no
     | .err,fn,hrun=>exact .no
     | .fn _,fn,hrun=>exact .no
     | .undef,fn,hrun=>exact .no
     | .any,fn,hrun=>exact .no
     | .own _,fn,hrun=>exact .no
     | .it _,fn,hrun=>exact .no
     | .mp _,fn,hrun=>exact .no
     | .bx _ _,fn,hrun=>exact .no
     | .op _,fn,hrun=>exact .no
     | .ptr _ _,fn,hrun=>exact .no
     | .ba _ _ _ _,fn,hrun=>exact .no
     | .vw _,fn,hrun=>exact .no
     | .rp _ _,fn,hrun=>exact .no
     | .orp _ _,fn,hrun=>exact .no
     | .cl _ _,fn,hrun=>exact .no
   · exact .no
 | false =>
 simp only[cond_false]
 cases hrow:tn.row with
 | true =>
   simp only[cond_true]
   split
   · rename_i pv hpv
     obtain ⟨ps,e,t,fn,row,mp,pair⟩:=tn
     simp only at hrow hpr
     subst hrow
     have hrun:=fun v hv=>hF.rrun hpr rfl st pv v as Γ (dR hpv hw) hv
     simp only at hrun ⊢
     match t,fn,hrun with
     | .sl u,fn,hrun =>
       simp only[abp]
       cases hc:(u.isV&&u.closed&&u.okRow && !(Nat.beq u.size 0)) with
       | false=>exact .no
       | true =>
         simp only[Bool.and_eq_true,Bool.not_eq_true'] at hc
         obtain ⟨⟨⟨c1,c2⟩,c3⟩,c4⟩:=hc
         refine .opt fun v hv => ?_
         obtain ⟨st',hs,⟨rfl,h⟩ | ⟨r,bs,h,h2,h3,h4⟩⟩:=hrun v hv
         · have hm':=lI hm hs
           rcases h with h | ⟨k,h⟩
           · exact .ok (a:=.nil) (st':=st') (more Γ m.length (.inl false)) h (.inr ⟨rfl,by simp only[R,bt]; exact .inl trivial⟩) (hm'.moreNil ⟨c1,c2,c3,fY c4,.inl ⟨rfl,false,bt,fun _=>rfl⟩⟩) (fun j y _ h=>bR hm j y h) .more
           · exact .ok (a:=.tree true k []) (st':=st') (more Γ m.length (.inl true)) h (.inr ⟨rfl,by simp only[R,bt]; exact .inr ⟨trivial,k,rfl⟩⟩) (hm'.moreNil ⟨c1,c2,c3,fY c4,.inl ⟨rfl,true,bt,fun h=>by cases h⟩⟩) (fun j y _ h=>bR hm j y h) .more
         · have hl:=aU h4
           refine .ok (a:=.own r u.size bs.length 0 bs.length) (st':=st') (more Γ m.length (.inr (r,u.size,v.length))) h (.inr ⟨rfl,by simp only[R,bt,hl]⟩) (gJ hm hs h2 (ur h3) ?_) (fun j y _ h=>bR hm j y h) .more
           exact ⟨c1,c2,c3,fY c4,.inr ⟨r,bs,bt,h3,aG (p:=fun x a=>R Γ0 u x false [a]) (fun x a hx=>aP c2 hx) h4,fun h=>by cases h⟩⟩
     | .int _,fn,hrun=>exact .no
     | .bool,fn,hrun=>exact .no
     | .str,fn,hrun=>exact .no
     | .agg _,fn,hrun=>exact .no
     | .arr _ _,fn,hrun=>exact .no
     | .tup _,fn,hrun=>exact .no
     | .unit,fn,hrun=>exact .no
     | .cons _ _,fn,hrun=>exact .no
     | .nilsl,fn,hrun=>exact .no
     | .nilp,fn,hrun=>exact .no
     | .err,fn,hrun=>exact .no
     | .fn _,fn,hrun=>exact .no
     | .undef,fn,hrun=>exact .no
     | .any,fn,hrun=>exact .no
     | .own _,fn,hrun=>exact .no
     | .it _,fn,hrun=>exact .no
     | .mp _,fn,hrun=>exact .no
     | .bx _ _,fn,hrun=>exact .no
     | .op _,fn,hrun=>exact .no
     | .ptr _ _,fn,hrun=>exact .no
     | .ba _ _ _ _,fn,hrun=>exact .no
     | .vw _,fn,hrun=>exact .no
     | .rp _ _,fn,hrun=>exact .no
     | .orp _ _,fn,hrun=>exact .no
     | .cl _ _,fn,hrun=>exact .no
   · exact .no
 | false =>
 simp only[cond_false]
 cases hc:(tn.t.isV&&tn.t.closed&&tn.t.okRow && !(Nat.beq tn.t.size 0)) with
 | false=>exact .no
 | true =>
   simp only[Bool.and_eq_true,Bool.not_eq_true'] at hc
   obtain ⟨⟨⟨c1,c2⟩,c3⟩,c4⟩:=hc
   simp only[cond_true]
   split
   · rename_i pv hpv
     refine .opt fun v hv => ?_
     obtain ⟨r,a,st',h1,h2,h3,h4,h5⟩:=hF.run hpr hrow hmp st pv v as Γ (dR hpv hw) hv
     have hr2:r<st'.length:=by
       rcases Nat.lt_or_ge r st'.length with h' | h'
       · exact h'
       · rw[List.getElem?_eq_none h'] at h4; cases h4
     refine .ok (a:=.ptr r 1 0 0) (st':=st') (more Γ m.length (.inr (r,tn.t.size,1))) h1 (.inr ⟨rfl,r,tn.t.size,bt,rfl⟩) (gJ hm h2 h3 hr2 ?_) (fun j y _ h=>bR hm j y h) .more
     exact ⟨c1,c3,fY c4,r,a,bt,h4,aP c2 h5⟩
   · exact .no
end
end Go.TY
namespace Go.TY
open Go.EM
structure EnvT (E:Env) (ET:TEnv):Prop where
 pure:∀ f tf,aK ET.pure f=some tf→∃ F,(aK E.pure f=some F∨aK E.pure f=none∧memN f E.same=false∧aK E.ext f=some F)∧TOk F tf
 look:∀ f tf,aK ET.look f=some tf→aK E.pure f=none∧∃ F,aK E.look f=some F∧TOk F tf
 raw:∀ f tr,aK ET.raw f=some tr→aK E.pure f=none∧aK E.look f=none∧∃ F,aK E.raw f=some F∧TRawOk F tr
 fresh:∀ f tn,aK ET.fresh f=some tn→aK E.pure f=none∧aK E.look f=none∧∃ F,aK E.raw f=some F∧TNewOk F tn
 glob:∀ g w,aK ET.glob g=some w→w.t.isV=true∧w.t.still=true∧R Γ0 w.t w.v false [(aK E.glob g).getD .any]
 quiet:mG E
def co (Γ:Ctx) (σ:TS) (σA:aN):Prop:=∀ k w,getT σ k=some w→w.t.isV=true∧R Γ w.t w.v false [getS σA k]
section
variable {Φ:Frame}{Γ:Ctx}{m:Mem}{st:aq}{P:Program}{d:Option Nat}{E:Env}{ET:TEnv}{h:Hints}{H:TH}{σ:TS}{σA:aN}
theorem aI (hE:EnvT E ET) (hs:co Γ σ σA) {x:Operand}{w:TV} (hw:bn ET σ x=some w):w.t.isV=true∧R Γ w.t w.v false [opnd E σA x]:=by
 cases x with
 | tmp t=>exact hs t w hw
 | const v=>exact wj hw
 | global g=>obtain ⟨h1,h2,h3⟩:=hE.glob g w hw; exact ⟨h1,dn h2 h3⟩
 | func f=>simp only[bn] at hw; cases hw; exact ⟨rfl,rfl⟩
theorem eY (hE:EnvT E ET) (hs:co Γ σ σA):∀ {xs:List Operand}{ws:List TV},jG ET σ xs=some ws→ip Γ ws (args E σA xs)
 | [],ws,h=>by simp only[jG] at h; cases h; trivial
 | x::xs,ws,h=>by
   simp only[jG,Option.bind_eq_some_iff,Option.map_eq_some_iff] at h
   obtain ⟨w,hw,ws',hws,rfl⟩:=h
   exact ⟨aI hE hs hw,eY hE hs hws⟩
theorem kw (hE:EnvT E ET) (hs:co Γ σ σA):∀ {xs:List (Nat×Operand)}{ws:List (Nat×TV)},lE ET σ xs=some ws→oG Γ ws (xs.map fun p=>(p.1,opnd E σA p.2))
 | [],ws,h=>by simp only[lE] at h; cases h; trivial
 | (i,x)::xs,ws,h=>by
   simp only[lE,Option.bind_eq_some_iff,Option.map_eq_some_iff] at h
   obtain ⟨w,hw,ws',hws,rfl⟩:=h
   exact ⟨⟨rfl,aI hE hs hw⟩,kw hE hs hws⟩
theorem abe (hE:EnvT E ET) (hs:co Γ σ σA) {x:Option Operand}{w:Option TV} (hw:optT ET σ x=some w):OptR Γ w (x.map (opnd E σA)):=by
 cases x with
 | none=>simp only[optT] at hw; cases hw; trivial
 | some x =>
   simp only[optT,Option.map_eq_some_iff] at hw
   obtain ⟨y,hy,rfl⟩:=hw
   exact (aI hE hs hy).2
theorem ajW {op:BinOp}{t:TypeId}{x y:Operand}{w:TV}{a:AVal} (hn:nilI y=true) (hw:R Γ w.t w.v false [a]):OkP Γ m (abin P op t (isConst x||isConst y) a (opnd E σA y)) (errT P op t w m):=by
 cases y with
 | const v =>
   simp only[nilI] at hn
   split at hn
   · rename_i hv
     have hy:opnd E σA (.const v) = .niliface:=hv
     have hl:(isConst x||isConst (.const v))=true:=by simp[isConst]
     rw[hy,hl]
     unfold errT
     split
     · rename_i b
       simp only[R] at hw
       obtain ⟨a',e,h1⟩:=hw
       cases e
       split
       · rename_i hu
         split
         · refine .ok rfl rfl ?_
           rcases h1 with ⟨rfl,rfl⟩ | ⟨rfl,t',rfl⟩
           · simp[abin,eqOk,aeq,hu]
           · simp[abin,eqOk,aeq,hu]
         · refine .ok rfl rfl ?_
           rcases h1 with ⟨rfl,rfl⟩ | ⟨rfl,t',rfl⟩
           · simp[abin,eqOk,aeq,hu]
           · simp[abin,eqOk,aeq,hu]
         · exact .no
       · exact .no
     · exact .no
   · cases hn
 | tmp t=>cases hn
 | global g=>cases hn
 | func f=>cases hn
theorem w1_P {x:Option TV}{f:TV→OR}{av:Option AVal} (hf:∀ w,x=some w→OkP Γ m av (f w)):OkP Γ m av (w1 x f):=by
 cases x with
 | none=>exact .no
 | some w=>exact hf w rfl
theorem w1_M {x:Option TV}{f:TV→OR}{ares:Option (AVal×aq)} (hf:∀ w,x=some w→OkM Φ d Γ m st ares (f w)):OkM Φ d Γ m st ares (w1 x f):=by
 cases x with
 | none=>exact .no
 | some w=>exact hf w rfl
theorem aeV:∀ {l:List TV}{as:List AVal},ip Γ l as→R Γ (tyL l) (valL l) false as
 | [],[],_=>rfl
 | w::l,a::as,h=>⟨[a],as,rfl,h.1.2,aeV h.2⟩
 | [],_::_,h=>h.elim
 | _::_,[],h=>h.elim
theorem ast:∀ (t:Ty) (v:t.V) (l:List TV) (as:List AVal),unL t v=some l→R Γ t v false as→ip Γ l as:=by
 intro t
 induction t with
 | cons t ts _ ih =>
   intro v l as h hr
   simp only[unL] at h
   cases hv:t.isV with
   | false=>rw[hv] at h; cases h
   | true =>
     rw[hv,cond_true,Option.map_eq_some_iff] at h
     obtain ⟨l',h1,rfl⟩:=h
     simp only[R] at hr
     obtain ⟨a1,a2,rfl,h2,h3⟩:=hr
     obtain ⟨a,rfl⟩:=eL hv h2
     exact ⟨⟨hv,h2⟩,ih v.2 l' a2 h1 h3⟩
 | unit =>
   intro v l as h hr
   simp only[unL] at h
   cases h
   simp only[R] at hr
   subst hr
   trivial
 | _=>intro v l as h; simp[unL] at h
theorem ajv (hE:EnvT E ET) (hs:co Γ σ σA) (hm:MemR Φ Γ m st) (o:Oper):OkP Γ m (opP P E σA o) (opPT P E ET σ m o):=by
 unfold opPT
 split
 · rename_i f a c ho
   split
   · rename_i hal
     split
     · rename_i l hl
       exact .ok rfl (a:=.func (.func f) [] (args E σA c.toList)) ⟨_,rfl,aeV (eY hE hs hl)⟩ (by simp only[opP,ho,hal,args])
     · exact .no
   · exact .no
 · rename_i x ho
   refine .ofO fun w hw => ?_
   obtain ⟨h1,h2⟩:=aI hE hs hw
   exact ⟨h1,_,h2,by simp only[opP,ho]⟩
 · rename_i x ho
   refine .ofO fun w hw => ?_
   obtain ⟨h1,h2⟩:=aI hE hs hw
   exact ⟨h1,_,h2,by simp only[opP,ho]⟩
 · rename_i c a b ho
   refine w1_P fun c' hc=>w1_P fun a' ha=>w1_P fun b' hb => ?_
   have e:opP P E σA o=acB (opnd E σA c) (opnd E σA a) (opnd E σA b):=by simp only[opP,ho]
   rw[e]
   exact adW (aI hE hs hc).2 (aI hE hs ha).2 (aI hE hs hb).2 (aI hE hs ha).1 (aI hE hs hb).1
 · rename_i op t x y yt ho
   refine w1_P fun x' hx=>w1_P fun y' hy => ?_
   have e:opP P E σA o=abin P op t (isConst x||isConst y) (opnd E σA x) (opnd E σA y):=by simp only[opP,ho]
   rw[e]
   cases hn:nilI y with
   | false=>exact akb (aI hE hs hx).2 (aI hE hs hy).2 (aI hE hs hx).1 (aI hE hs hy).1
   | true=>exact ajW hn (aI hE hs hx).2
 · rename_i op t x ho
   refine w1_P fun x' hx => ?_
   have e:opP P E σA o=aun op (opnd E σA x):=by simp only[opP,ho]
   rw[e]
   exact aqd (aI hE hs hx).2
 · rename_i src dst x ho
   refine w1_P fun x' hx => ?_
   have e:opP P E σA o=ss P src dst (opnd E σA x):=by simp only[opP,ho]
   rw[e]
   exact aev (aI hE hs hx).2
 · rename_i t x i ho
   refine w1_P fun x' hx=>w1_P fun i' hi => ?_
   have e:opP P E σA o=my P t (opnd E σA x) (opnd E σA i):=by simp only[opP,ho]
   rw[e]
   exact abL (aI hE hs hx).2 (aI hE hs hi).2
 · rename_i t x i ho
   refine w1_P fun x' hx=>w1_P fun i' hi => ?_
   have e:opP P E σA o=aidx P t (opnd E σA x) (opnd E σA i):=by simp only[opP,ho]
   rw[e]
   exact ajP hm (aI hE hs hx).2 (aI hE hs hi).2
 · rename_i s x f ho
   refine w1_P fun x' hx => ?_
   have e:opP P E σA o=ji P s (opnd E σA x) f:=by simp only[opP,ho]
   rw[e]
   exact ab2 (aI hE hs hx).2
 · rename_i s x f ho
   refine w1_P fun x' hx => ?_
   have e:opP P E σA o=oC P s (opnd E σA x) f:=by simp only[opP,ho]
   rw[e]
   exact ab0 (aI hE hs hx).1 (aI hE hs hx).2
 · rename_i x i ho
   refine w1_P fun x' hx => ?_
   have e:opP P E σA o=jj (opnd E σA x) i:=by simp only[opP,ho]
   rw[e]
   exact tW (aI hE hs hx).2
 · rename_i t x lo hi mx ho
   refine w1_P fun x' hx => ?_
   have e:opP P E σA o=hX P t (opnd E σA x) (lo.map (opnd E σA)) (hi.map (opnd E σA)) (mx.map (opnd E σA)):=by simp only[opP,ho]
   rw[e]
   split
   · rename_i l' h' m' h1 h2 h3
     exact aaE hm (aI hE hs hx).2 (abe hE hs h1) (abe hE hs h2) (abe hE hs h3)
   · exact .no
 · rename_i t parts ho
   split
   · rename_i ps hps
     have e:opP P E σA o=oE P t (parts.toList.map fun p=>(p.1,opnd E σA p.2)):=by simp only[opP,ho]
     rw[e]
     exact acu (kw hE hs hps)
   · exact .no
 · rename_i t len parts ho
   split
   · rename_i ps hps
     split
     · rename_i u xs hb
       obtain ⟨g1,g2,g3,g4,g5⟩:=ot (kw hE hs hps) hb
       refine .ok rfl (a:=.tree true u.size _) (.inr ⟨true,u.size,_,rfl,.inr rfl,g5⟩) ?_
       simp only[opP,ho,g4,Option.map_some]
     · exact .no
   · exact .no
 · rename_i x ho
   refine w1_P fun x' hx => ?_
   have e:opP P E σA o=wy (opnd E σA x):=by simp only[opP,ho]
   rw[e]
   exact abn (aI hE hs hx).1 (aI hE hs hx).2
 · rename_i t x ho
   refine w1_P fun x' hx => ?_
   have e:opP P E σA o=mw P t (opnd E σA x):=by simp only[opP,ho]
   rw[e]
   exact ad8 (aI hE hs hx).2
 · rename_i c ho
   split
   · rename_i hc
     split
     · rename_i x t h1 h2
       refine w1_P fun x' hx => ?_
       have e:opP P E σA o=alen P t (opnd E σA x):=by simp only[opP,ho,hc,h1,h2]
       rw[e]
       exact ajE hm (aI hE hs hx).2
     · exact .no
   · rename_i hc
     split
     · rename_i l hl
       have e:opP P E σA o=gx true (args E σA c.args.toList):=by simp only[opP,ho,hc]
       rw[e]
       exact nM (eY hE hs hl)
     · exact .no
   · rename_i hc
     split
     · rename_i l hl
       have e:opP P E σA o=gx false (args E σA c.args.toList):=by simp only[opP,ho,hc]
       rw[e]
       exact nM (eY hE hs hl)
     · exact .no
   · rename_i f hc
     split
     · rename_i tf htf
       split
       · rename_i l hl
         obtain ⟨F,hF,hok⟩:=hE.pure f tf htf
         have e:opP P E σA o=kp F (args E σA c.args.toList):=by
           rcases hF with hF | ⟨hF1,hF2,hF⟩
           · simp only[opP,ho,hc,hF]
           · simp only[opP,ho,hc,hF1,hF2,hF,cond_false]
         rw[e]
         exact pZ hok (eY hE hs hl)
       · exact .no
     · split
       · exact .no
       · rename_i hpn
         cases hsm:memN f E.same with
         | false=>exact .no
         | true =>
           simp only[cond_true]
           split
           · rename_i x hx1
             refine .ofO fun w hw => ?_
             obtain ⟨h1,h2⟩:=aI hE hs hw
             exact ⟨h1,_,h2,by simp only[opP,ho,hc,hpn,hsm,cond_true,hx1,args]⟩
           · exact .no
   · exact .no
 · exact .no
theorem vr:∀ {t:Ty}{v:t.V}{c:Bool}{l:List AVal},t.scal=true→R Γ t v c l→ek l=true
 | .int _,v,c,l,_,h=>by simp only[R] at h; subst h; rfl
 | .bool,v,c,l,_,h=>by simp only[R] at h; subst h; rfl
 | .str,v,c,l,_,h=>by simp only[R] at h; subst h; rfl
 | .tup t,v,c,l,hk,h=>by
   simp only[R] at h; obtain ⟨as,rfl,h⟩:=h
   have:=vr (t:=t) hk h
   simp only[ek,scalar,this,Bool.and_self]
 | .unit,v,c,l,_,h=>by simp only[R] at h; subst h; rfl
 | .cons t ts,v,c,l,hk,h=>by
   simp only[Ty.scal,Bool.and_eq_true] at hk
   simp only[R] at h; obtain ⟨l1,l2,rfl,h1,h2⟩:=h
   exact app (vr hk.1 h1) (vr hk.2 h2)
 | .sl _,v,c,l,hk,h=>by cases hk
 | .agg _,v,c,l,hk,h=>by cases hk
 | .arr _ _,v,c,l,hk,h=>by cases hk
 | .nilsl,v,c,l,hk,h=>by cases hk
 | .nilp,v,c,l,hk,h=>by cases hk
 | .fn f,v,c,l,hk,h=>by cases hk
 | .err,v,c,l,hk,h=>by cases hk
 | .undef,v,c,l,hk,h=>by cases hk
 | .any,v,c,l,hk,h=>by cases hk
 | .own _,v,c,l,hk,h=>by cases hk
 | .it _,v,c,l,hk,h=>by cases hk
 | .mp _,v,c,l,hk,h=>by cases hk
 | .bx _ _,v,c,l,hk,h=>by cases hk
 | .op _,v,c,l,hk,h=>by cases hk
 | .ptr _ _,v,c,l,hk,h=>by cases hk
 | .ba _ _ _ _,v,c,l,hk,h=>by cases hk
 | .vw _,v,c,l,hk,h=>by cases hk
 | .rp _ _,v,c,l,hk,h=>by cases hk
 | .orp _ _,v,c,l,hk,h=>by cases hk
 | .cl _ _,v,c,l,hk,h=>by cases hk
where
 app:∀ {a b:List AVal},ek a=true→ek b=true→ek (a++b)=true
   | [],b,_,h=>h
   | x::a,b,h,k=>by
     simp only[ek,Bool.and_eq_true,List.cons_append] at h ⊢
     exact ⟨h.1,app h.2 k⟩
theorem pW (hm:MemR Φ Γ m st):∀ {u:Ty}{l:List TV}{x:u.V}{as:List AVal},u.closed=true→bK m u l=some x→ip Γ l as→∃ as',cz st as=some as'∧R Γ0 u x false as'
 | .cons t ts,w::l,x,a::as,hc,h,hr=>by
   simp only[bK,Option.bind_eq_some_iff,Option.map_eq_some_iff] at h
   obtain ⟨y,h1,z,h2,rfl⟩:=h
   simp only[Ty.closed,Bool.and_eq_true] at hc
   obtain ⟨k1,g1,g2⟩:=sd hm hc.1 h1 hr.1.2
   obtain ⟨k2,g3,g4⟩:=pW hm hc.2 h2 hr.2
   exact ⟨k1++k2,fg g1 g3,k1,k2,rfl,g2,g4⟩
 | .cons t ts,w::l,x,[],hc,h,hr=>hr.elim
 | .cons t ts,[],x,as,hc,h,hr=>by simp[bK] at h
 | .unit,[],x,[],hc,h,hr=>⟨[],rfl,rfl⟩
 | .unit,[],x,a::as,hc,h,hr=>hr.elim
 | .unit,w::l,x,as,hc,h,hr=>by simp[bK] at h
 | .int _,l,x,as,hc,h,hr=>by simp[bK] at h
 | .bool,l,x,as,hc,h,hr=>by simp[bK] at h
 | .str,l,x,as,hc,h,hr=>by simp[bK] at h
 | .sl _,l,x,as,hc,h,hr=>by simp[bK] at h
 | .agg _,l,x,as,hc,h,hr=>by simp[bK] at h
 | .arr _ _,l,x,as,hc,h,hr=>by simp[bK] at h
 | .tup _,l,x,as,hc,h,hr=>by simp[bK] at h
 | .nilsl,l,x,as,hc,h,hr=>by simp[bK] at h
 | .nilp,l,x,as,hc,h,hr=>by simp[bK] at h
 | .fn f,l,x,as,hc,h,hr=>by simp[bK] at h
 | .err,l,x,as,hc,h,hr=>by simp[bK] at h
 | .undef,l,x,as,hc,h,hr=>by simp[bK] at h
 | .any,l,x,as,hc,h,hr=>by simp[bK] at h
 | .own _,l,x,as,hc,h,hr=>by simp[bK] at h
 | .it _,l,x,as,hc,h,hr=>by simp[bK] at h
 | .mp _,l,x,as,hc,h,hr=>by simp[bK] at h
 | .bx _ _,l,x,as,hc,h,hr=>by simp[bK] at h
 | .op _,l,x,as,hc,h,hr=>by simp[bK] at h
 | .ptr _ _,l,x,as,hc,h,hr=>by simp[bK] at h
 | .ba _ _ _ _,l,x,as,hc,h,hr=>by simp[bK] at h
 | .vw _,l,x,as,hc,h,hr=>by simp[bK] at h
 | .rp _ _,l,x,as,hc,h,hr=>by simp[bK] at h
 | .orp _ _,l,x,as,hc,h,hr=>by simp[bK] at h
 | .cl _ _,l,x,as,hc,h,hr=>by simp[bK] at h
theorem ad7 (hm:MemR Φ Γ m st) {F:PFn}{tf:TFn}{l:List TV}{as:List AVal} (hF:TOk F tf) (h:ip Γ l as):OkP Γ m (yh F as st) (ajC tf l m):=by
 unfold ajC
 cases hsc:tf.res.scal with
 | false=>exact .no
 | true =>
   simp only[cond_true]
   split
   · rename_i v hv
     refine .opt fun r hr => ?_
     obtain ⟨as',h1,h2⟩:=pW hm hF.ps hv h
     obtain ⟨a,h3,h4⟩:=hF.run v r as' hr h2
     have hs:=vr hsc h4
     simp only[ek,Bool.and_true] at hs
     refine .ok hF.isV (aP hF.res h4) ?_
     simp only[yh,h1,Option.bind_some,h3,hs,cond_true]
   · exact .no
theorem abm {t:TypeId}{x:Operand}{w:TV}{a:AVal} (hv:w.t.isV=true) (hr:R Γ w.t w.v false [a]):(xG P t x w).t.isV=true∧R Γ (xG P t x w).t (xG P t x w).v false [a]:=by
 unfold xG
 cases isConst x with
 | false=>exact ⟨hv,hr⟩
 | true=>exact tD hv hr
theorem pf (hE:EnvT E ET) {o:Oper}{c:Call}{f:Nat} (ho:o.op = .call c) (hc:c.callee = .value (.func f)):opS P E σA st o=il E f (args E σA c.args.toList) st:=by
 simp only[opS,ho,hc]
 cases hq:memN f E.quiet with
 | false=>rfl
 | true=>exact aa0 (hE.quiet f hq _ _)
theorem aju (hE:EnvT E ET) (hs:co Γ σ σA) (hm:MemR Φ Γ m st) (o:Oper):OkM Φ o.dst Γ m st (opS P E σA st o) (opST P ET H σ m o):=by
 unfold opST
 split
 · rename_i op t x y lit ho
   refine w1_M fun x' hx=>w1_M fun y' hy => ?_
   have e:opS P E σA st o=(oy P op t st (opnd E σA x) (opnd E σA y)).map fun v=>(v,st):=by simp only[opS,ho]
   rw[e]
   exact ajs hm (aI hE hs hx).2 (aI hE hs hy).2
 · rename_i src dst x ho
   refine w1_M fun x' hx => ?_
   have e:opS P E σA st o=gy P src dst (opnd E σA x) st:=by simp only[opS,ho]
   rw[e]
   exact aew hm (aI hE hs hx).2
 · rename_i t len parts ho
   split
   · rename_i ps hps
     split
     · rename_i u xs hb
       obtain ⟨g1,g2,g3,g4,g5⟩:=ot (kw hE hs hps) hb
       cases hk:u.okRow with
       | false=>exact .no
       | true =>
         refine iT hm rfl g1 g2 hk g3 g5 (by simp) ?_
         simp only[opS,ho,g4,Option.map_some]
     · exact .no
   · exact .no
 · rename_i t a ho
   refine w1_M fun a' ha => ?_
   have e:opS P E σA st o=(jg P t (opnd E σA a) st).map fun v=>(v,st):=by simp only[opS,ho]
   rw[e]
   exact .ofP hm (gL hm (aI hE hs ha).1 (aI hE hs ha).2)
 · rename_i t a v ho
   split
   · exact .no
   · rename_i hd
     refine w1_M fun a' ha=>w1_M fun v' hv => ?_
     have e:opS P E σA st o=(kd P t (opnd E σA a) (opnd E σA v) st).map fun s=>(.any,s):=by simp only[opS,ho]
     rw[e,hd]
     exact aaz hm (aI hE hs ha).2 (abm (aI hE hs hv).1 (aI hE hs hv).2).2
 · rename_i t ho
   have e:opS P E σA st o=kf P t st:=by simp only[opS,ho]
   rw[e]
   split
   · exact ajy hm
   · exact acD hm
 · rename_i t v ho
   refine w1_M fun v' hv => ?_
   have e:opS P E σA st o=abox P t (opnd E σA v) st:=by simp only[opS,ho]
   rw[e]
   exact un hm (abm (aI hE hs hv).1 (aI hE hs hv).2).2
 · rename_i t l c ho
   refine w1_M fun l' hl=>w1_M fun c' hc => ?_
   have e:opS P E σA st o=yk P t (opnd E σA l) (opnd E σA c) st:=by simp only[opS,ho]
   rw[e]
   exact ad3 hm (aI hE hs hl).2 (aI hE hs hc).2
 · rename_i t x ho
   refine w1_M fun x' hx => ?_
   have e:opS P E σA st o=ox P t (opnd E σA x) st:=by simp only[opS,ho]
   rw[e]
   exact aaY hm (aI hE hs hx).2
 · rename_i it b ho
   refine w1_M fun x' hx => ?_
   have e:opS P E σA st o=uw (opnd E σA it) b st:=by simp only[opS,ho]
   rw[e]
   exact adZ hm (aI hE hs hx).2
 · rename_i x ho
   refine w1_M fun x' hx => ?_
   have e:opS P E σA st o=fJ (opnd E σA x) st:=by simp only[opS,ho]
   rw[e]
   exact oc hm (aI hE hs hx).2
 · rename_i x ho
   refine w1_M fun x' hx => ?_
   have e:opS P E σA st o=fJ (opnd E σA x) st:=by simp only[opS,ho]
   rw[e]
   exact oc hm (aI hE hs hx).2
 · rename_i t r ho
   have e:opS P E σA st o=cond r.isNone (some (AVal.map st.length,st++[AReg.map []])) none:=by simp only[opS,ho]
   rw[e]
   exact tJ hm
 · rename_i t x y ok ho
   refine w1_M fun x' hx=>w1_M fun y' hy => ?_
   have e:opS P E σA st o=(io P t (opnd E σA x) (opnd E σA y) ok st).map fun v=>(v,st):=by simp only[opS,ho]
   rw[e]
   exact tK hm (aI hE hs hx).2 (aI hE hs hy).2
 · rename_i t x y z ho
   split
   · exact .no
   · rename_i hd
     refine w1_M fun x' hx=>w1_M fun y' hy=>w1_M fun z' hz => ?_
     have e:opS P E σA st o=(fO P t (opnd E σA x) (opnd E σA y) (opnd E σA z) st).map fun s=>(.any,s):=by simp only[opS,ho]
     rw[e,hd]
     exact xz hm (aI hE hs hx).2 (aI hE hs hy).2 (aI hE hs hz).2
 · rename_i c ho
   split
   · rename_i hc
     split
     · rename_i x y hxy
       refine w1_M fun x' hx=>w1_M fun y' hy => ?_
       have e:opS P E σA st o=cD P c.argTypes.toList (opnd E σA x) (opnd E σA y) st:=by simp only[opS,ho,hc,hxy]
       rw[e]
       exact yj hm (aI hE hs hx).2 (aI hE hs hy).2
     · exact .no
   · rename_i hc
     split
     · rename_i x hxy
       refine w1_M fun x' hx => ?_
       have e:opS P E σA st o=(ed (opnd E σA x) st).map fun v=>(v,st):=by simp only[opS,ho,hc,hxy,args]
       rw[e]
       exact oU hm (aI hE hs hx).2
     · exact .no
   · rename_i hc
     split
     · rename_i x y hxy
       refine w1_M fun x' hx=>w1_M fun y' hy => ?_
       have e:opS P E σA st o=dD P c.argTypes.toList (opnd E σA x) (opnd E σA y) st:=by simp only[opS,ho,hc,hxy,args]
       rw[e]
       exact oP hm (aI hE hs hx).2 (aI hE hs hy).2
     · exact .no
   · rename_i hc
     split
     · rename_i x hxy
       refine w1_M fun x' hx => ?_
       have e:opS P E σA st o=oD P c.argTypes.toList (opnd E σA x) st:=by simp only[opS,ho,hc,hxy,args]
       rw[e]
       exact aco hm (aI hE hs hx).2
     · exact .no
   · rename_i f hc
     split
     · rename_i tf htf
       split
       · rename_i l hl
         obtain ⟨hn,F,hF,hok⟩:=hE.look f tf htf
         have e:opS P E σA st o=(yh F (args E σA c.args.toList) st).map fun v=>(v,st):=by rw[pf hE ho hc]; simp only[il,hn,hF]
         rw[e]
         exact .ofP hm (ad7 hm hok (eY hE hs hl))
       · exact .no
     · split
       · rename_i tr htr
         split
         · rename_i l hl
           obtain ⟨hn,hn2,F,hF,hok⟩:=hE.raw f tr htr
           have e:opS P E σA st o=F (args E σA c.args.toList) st:=by rw[pf hE ho hc]; simp only[il,hn,hn2,hF]
           rw[e]
           exact ajo hok hm (eY hE hs hl)
         · exact .no
       · split
         · rename_i tn htn
           split
           · rename_i l hl
             obtain ⟨hn,hn2,F,hF,hok⟩:=hE.fresh f tn htn
             have e:opS P E σA st o=F (args E σA c.args.toList) st:=by rw[pf hE ho hc]; simp only[il,hn,hn2,hF]
             rw[e]
             exact ad0 hok hm (eY hE hs hl)
           · exact .no
         · exact .no
   · exact .no
 · exact .no
noncomputable def aop (P:Program) (E:Env) (h:Hints) (σA:aN) (st:aq) (o:Oper):Option (AVal×aq) :=
 match Nat.beq (cls E h o) 0 with
 | true=>(opP P E σA o).map fun v=>(v,st)
 | false=>opS P E σA st o
theorem aqp (hE:EnvT E ET) (hs:co Γ σ σA) (hm:MemR Φ Γ m st) (o:Oper):OkM Φ o.dst Γ m st (aop P E h σA st o) (opT P E h ET H σ m o):=by
 unfold opT aop
 cases Nat.beq (cls E h o) 0 with
 | true=>exact .ofP hm (ajv hE hs hm o)
 | false =>
   simp only
   cases hf:fnOf ET σ o with
   | none=>exact aju hE hs hm o
   | some q =>
     obtain ⟨f,xs,cap⟩:=q
     simp only
     cases hp:aK E.pure f with
     | none=>exact .no
     | some F0 =>
       simp only
       cases ht:aK ET.pure f with
       | none=>exact .no
       | some tf =>
         simp only
         cases hl:jG ET σ xs with
         | none=>exact .no
         | some l =>
           simp only
           obtain ⟨F,hF,hok⟩:=hE.pure f tf ht
           have hF:aK E.pure f=some F:=by
             rcases hF with hF | ⟨hF1,_⟩
             · exact hF
             · rw[hF1] at hp; cases hp
           unfold fnOf at hf
           split at hf
           · rename_i c ho
             split at hf
             · cases hf
             · rename_i x hx hc
               split at hf
               · rename_i f' u hv
                 cases hf
                 have hR:=(aI hE hs hv).2
                 simp only[R,List.cons.injEq,and_true] at hR
                 have e:opS P E σA st o=(kp F (args E σA c.args.toList)).map fun v=>(v,st):=by
                   have hd:opS P E σA st o=yg E (opnd E σA x) (args E σA c.args.toList) st:=by
                     simp only[opS,ho,hc]
                   rw[hd,hR]
                   simp only[yg,il,hF,List.nil_append,List.append_nil]
                 rw[e,List.append_nil]
                 exact .ofP hm (pZ hok (eY hE hs hl))
               · rename_i f' t v hv
                 rw[Option.map_eq_some_iff] at hf
                 obtain ⟨l',hl',hf⟩:=hf
                 cases hf
                 have hR:=(aI hE hs hv).2
                 simp only[R,List.cons.injEq,and_true] at hR
                 obtain ⟨as,hR,hRa⟩:=hR
                 have e:opS P E σA st o=(kp F (args E σA c.args.toList++as)).map fun v=>(v,st):=by
                   have hd:opS P E σA st o=yg E (opnd E σA x) (args E σA c.args.toList) st:=by
                     simp only[opS,ho,hc]
                   rw[hd,hR]
                   simp only[yg,il,hF,List.nil_append]
                 rw[e]
                 exact .ofP hm (pZ hok (ch (eY hE hs hl) (ast t v _ as hl' hRa)))
               · cases hf
             · cases hf
           · cases hf
def qY (d:Option Nat) (a:AVal) (σA:aN):aN :=
 match d with
 | some d=>(d,a)::σA
 | none=>σA
theorem eA {p:Nat→Bool}:∀ {σ:TS}{k:Nat}{w:TV},getT (σ.filter fun q=>p q.1) k=some w→getT σ k=some w∧p k=true
 | [],k,w,h=>by cases h
 | (j,v)::σ,k,w,h=>by
   simp only[List.filter_cons] at h
   cases hp:p j with
   | true =>
     simp only[hp,if_true,getT] at h
     cases hj:Nat.beq j k with
     | true =>
       rw[hj,cond_true] at h
       rw[Nat.beq_eq] at hj
       subst hj
       simp only[getT]
       have:Nat.beq j j=true:=by simp
       rw[this,cond_true]
       exact ⟨h,hp⟩
     | false =>
       rw[hj,cond_false] at h
       simp only[getT,hj,cond_false]
       exact eA h
   | false =>
     simp only[hp,Bool.false_eq_true,if_false] at h
     obtain ⟨h1,h2⟩:=eA h
     cases hj:Nat.beq j k with
     | true =>
       rw[Nat.beq_eq] at hj
       subst hj
       rw[hp] at h2; cases h2
     | false =>
       simp only[getT,hj,cond_false]
       exact ⟨h1,h2⟩
theorem abC {kk:Option Nat}{k:Nat}{w:TV} (hg:getT (abD kk σ) k=some w):getT σ k=some w∧∀ j,kk=some j→w.t.names j=false:=by
 unfold abD at hg
 split at hg
 · exact ⟨hg,fun j hj=>by cases hj⟩
 · rename_i j
   obtain ⟨h1,h2⟩:=eA (p:=fun q=>match getT σ q with | some w => !(w.t.names j) | none=>false) hg
   refine ⟨h1,fun i hi => ?_⟩
   cases hi
   rw[h1] at h2
   simpa using h2
theorem nt {w:TV}{a:AVal}{Γ':Ctx}{kk:Option Nat} (hs:co Γ σ σA) (he:∀ j y,kk≠some j→Γ j=some y→Γ' j=some y) (hr:d=none∨(w.t.isV=true∧R Γ' w.t w.v false [a])):co Γ' (adV d w (abD kk σ)) (qY d a σA):=by
 have base:∀ k v,getT (abD kk σ) k=some v→v.t.isV=true∧R Γ' v.t v.v false [getS σA k]:=by
   intro k v hv
   obtain ⟨h1,h2⟩:=abC hv
   obtain ⟨h3,h4⟩:=hs k v h1
   refine ⟨h3,bG (fun j y hj hy=>he j y (fun e => ?_) hy) h4⟩
   rw[h2 j e] at hj; cases hj
 cases d with
 | none=>exact base
 | some d =>
   intro k v hv
   simp only[adV,getT] at hv
   simp only[qY,getS]
   cases hk:Nat.beq d k with
   | true =>
     simp only[hk,cond_true] at hv ⊢
     cases hv
     rcases hr with hr | hr
     · cases hr
     · exact hr
   | false =>
     simp only[hk,cond_false] at hv ⊢
     exact base k v hv
theorem aa4 {d:Option Nat}{a:AVal}{k:Nat} (hk:∀ j,d=some j→j≠k):getS (qY d a σA) k=getS σA k:=by
 cases d with
 | none=>rfl
 | some j =>
   have:Nat.beq j k=false:=by
     cases hb:Nat.beq j k with
     | false=>rfl
     | true=>rw[Nat.beq_eq] at hb; exact absurd hb (hk j rfl)
   simp only[qY,getS,this,cond_false]
def aqU (P:Program) (E:Env) (h:Hints) (ops os:List Oper) (m:Mem) (σA:aN) (st:aq) (Q:TS→Mem→Prop):Prop :=
 ∃ σ' m' σA' st' Γ',Q σ' m'∧co Γ' σ' σA'∧MemR Φ Γ' m' st'∧Pers m m'∧(∀ k,j4 os k=true→getS σA' k=getS σA k) ∧
   ∀ (R:Type) (K:aN→aq→Option R),bl P E h ops os σA st K=K σA' st'
theorem rN {R:Type}{ops os:List Oper}{o:Oper}{K:aN→aq→Option R}{v:AVal}{st':aq}
   (hr:(match o.guard with
     | none=>aop P E h σA st o
     | some (j,want)=>lV (guardOf ops j σA) want st fun _=>aop P E h σA st o)=some (v,st')) :
   bl P E h ops (o::os) σA st K=bl P E h ops os (qY o.dst v σA) st' K:=by
 conv=>lhs; unfold bl
 unfold aop at hr
 cases hc:Nat.beq (cls E h o) 0 with
 | true =>
   simp only[hc] at hr ⊢
   cases hg:o.guard with
   | none =>
     simp only[hg] at hr ⊢
     rw[Option.map_eq_some_iff] at hr
     obtain ⟨a,ha,e⟩:=hr
     cases e
     simp only[ha,Option.bind_some]
     cases o.dst<;>rfl
   | some p =>
     obtain ⟨j,want⟩:=p
     simp only[hg] at hr ⊢
     have:rE (guardOf ops j σA) want (fun _=>opP P E σA o)=some v∧st'=st:=by
       unfold lV at hr
       unfold rE
       split at hr
       · rename_i b _
         cases want<;>cases b<;>simp only[cond_true,cond_false] at hr ⊢
         · rw[Option.map_eq_some_iff] at hr; obtain ⟨a,ha,e⟩:=hr; cases e; exact ⟨ha,rfl⟩
         · cases hr; exact ⟨rfl,rfl⟩
         · cases hr; exact ⟨rfl,rfl⟩
         · rw[Option.map_eq_some_iff] at hr; obtain ⟨a,ha,e⟩:=hr; cases e; exact ⟨ha,rfl⟩
       · cases hr; exact ⟨rfl,rfl⟩
       · cases hr
     obtain ⟨h1,rfl⟩:=this
     simp only[h1,Option.bind_some]
     cases o.dst<;>rfl
 | false =>
   simp only[hc] at hr ⊢
   cases hg:o.guard with
   | none =>
     simp only[hg] at hr ⊢
     simp only[hr,Option.bind_some]
     cases o.dst<;>rfl
   | some p =>
     obtain ⟨j,want⟩:=p
     simp only[hg] at hr ⊢
     simp only[hr,Option.bind_some]
     cases o.dst<;>rfl
theorem adz (hE:EnvT E ET) (hs:co Γ σ σA) (hm:MemR Φ Γ m st) {ops:List Oper}{o:Oper}{X:Type}{K:TS→Mem→Option X}{x:X} (hx:stepT P E h ET H ops σ m o K=some x) :
   ∃ σ' m' a st' Γ',K σ' m'=some x∧co Γ' σ' (qY o.dst a σA)∧MemR Φ Γ' m' st'∧Pers m m' ∧
     (match o.guard with
       | none=>aop P E h σA st o
       | some (j,want)=>lV (guardOf ops j σA) want st fun _=>aop P E h σA st o)=some (a,st'):=by
 have dok:∀ {σ:TS},co Γ σ σA→doT P E h ET H σ m o K=some x→∃ σ' m' a st' Γ',K σ' m'=some x∧co Γ' σ' (qY o.dst a σA)∧MemR Φ Γ' m' st'∧Pers m m'∧aop P E h σA st o=some (a,st'):=by
   intro σ hs hx
   unfold doT at hx
   obtain ⟨w,m',k,a,st',Γ',h1,h2,h3,h4,h5,h6⟩:=aqp (P:=P) (h:=h) (H:=H) hE hs hm o X _ x hx
   exact ⟨_,m',a,st',Γ',h1,nt hs h5 h3,h4,h6,h2⟩
 have sok:∀ {σ:TS},co Γ σ σA→aaG σ m o K=some x→∃ σ' m' a st' Γ',K σ' m'=some x∧co Γ' σ' (qY o.dst a σA)∧MemR Φ Γ' m' st'∧Pers m m'∧some ((AVal.tup []),st)=some (a,st'):=by
   intro σ hs hx
   unfold aaG at hx
   exact ⟨_,m,.tup [],st,Γ,hx,nt (kk:=none) hs (fun _ _ _ h=>h) (.inr ⟨rfl,rfl⟩),hm,.refl m,rfl⟩
 unfold stepT at hx
 split at hx
 · rename_i hg
   rw[hg]
   exact dok hs hx
 · rename_i j want hg
   rw[hg]
   simp only
   split at hx
   · rename_i g hgd
     have hgo:guardOf ops j σA=getS σA g:=by
       unfold guardOf; rw[hgd]
     split at hx
     · rename_i b hb
       have hbr:=(hs g _ hb).2
       simp only[R] at hbr
       have hbr:=(List.cons.inj hbr).1
       rw[hgo,hbr]
       have hs':∀ c,b=c→co Γ ((g,⟨.bool,c⟩)::σ) σA:=by
         intro c hc k v hv
         simp only[getT] at hv
         cases hk:Nat.beq g k with
         | true =>
           rw[hk,cond_true] at hv
           rw[Nat.beq_eq] at hk
           cases hv
           subst hk
           exact ⟨rfl,by simp only[R]; rw[hbr,hc]⟩
         | false=>rw[hk,cond_false] at hv; exact hs k v hv
       cases b with
       | true =>
         simp only[cond_true] at hx
         cases want with
         | true=>exact dok (hs' true rfl) hx
         | false=>exact sok (hs' true rfl) hx
       | false =>
         simp only[cond_false] at hx
         cases want with
         | true=>exact sok (hs' false rfl) hx
         | false=>exact dok (hs' false rfl) hx
     · rename_i u hb
       have hbr:=(hs g _ hb).2
       simp only[R] at hbr
       have hbr:=(List.cons.inj hbr).1
       rw[hgo,hbr]
       exact sok hs hx
     · cases hx
   · cases hx
theorem tz (hE:EnvT E ET) {ops:List Oper}{X:Type}{K:TS→Mem→Option X}{x:X}:∀ {os:List Oper}{σ:TS}{m:Mem}{σA:aN}{st:aq}{Γ:Ctx},co Γ σ σA→MemR Φ Γ m st→opsT P E h ET H ops os σ m K=some x →
   aqU (Φ:=Φ) P E h ops os m σA st (fun σ' m'=>K σ' m'=some x)
 | [],σ,m,σA,st,Γ,hs,hm,hx=>⟨σ,m,σA,st,Γ,hx,hs,hm,.refl m,fun _ _=>rfl,fun _ _=>rfl⟩
 | o::os,σ,m,σA,st,Γ,hs,hm,hx=>by
   simp only[opsT] at hx
   obtain ⟨σ1,m1,a,st1,Γ1,h1,h2,h3,h4,h5⟩:=adz hE hs hm hx
   obtain ⟨σ2,m2,σA2,st2,Γ2,g1,g2,g3,g4,g5,g6⟩:=tz hE h2 h3 h1
   refine ⟨σ2,m2,σA2,st2,Γ2,g1,g2,g3,h4.trans g4,fun k hk => ?_,fun R K => ?_⟩
   · simp only[j4,List.all_cons,Bool.and_eq_true] at hk
     rw[g5 k hk.2]
     refine aa4 fun j hj e => ?_
     rw[hj] at hk
     subst e
     simp at hk
   · rw[rN h5]; exact g6 R K
end
end Go.TY
