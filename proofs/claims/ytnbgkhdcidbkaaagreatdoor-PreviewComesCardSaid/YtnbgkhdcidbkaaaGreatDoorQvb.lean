import Derived.Test.YtnbgkhdcidbkaaaGreatDoorQva
set_option linter.unusedVariables false
set_option linter.unusedSimpArgs false
set_option maxRecDepth 100000
namespace Go.Proofs.YtnbgkhdcidbkaaaGreatDoor.Q
open Go.EM Go.TY Go.Proofs Go.Proofs.YtnbgkhdcidbkaaaGreatDoor.Y
theorem ahY {a b:List Ent} (ha:∀ e∈a,gU e∧inR e.2.2.2.1) (hb:∀ e∈b,gU e∧inR e.2.2.2.1):∀ c∈dM a b,fitC c:=fun c hc=>by
 obtain ⟨h1,h2⟩:=ahW _ a b (qAD _) c hc;refine ⟨?_,?_⟩
 · rcases h1 with h1 | h1
   · exact ha _ h1
   · rw[h1]; exact vL
 · rcases h2 with h2 | h2
   · exact hb _ h2
   · rw[h2]; exact vL
theorem acB {l:List Dot1}{user:Int}{u:Ref1}:zck l (ur user u 0)=some l:=by
 unfold zck;rfl
theorem acV {u v:List Ref1}{d:Dot1} (h0:0≤getM u d) (h1:getM v d=getM u d+1):cT v d = !cT u d:=by
 rw[iH h0,iH (by omega),h1];by_cases c:getM u d%2=0
 · rw[zt c,zf (by omega)]; rfl
 · rw[zf c,zt (by omega)]; rfl
theorem yx {u v:List Ref1}{d:Dot1} (h0:0≤getM u d) (h1:getM v d=getM u d+2):cT v d=cT u d:=by
 rw[iH h0,iH (by omega),h1];congr 1;simp only[eq_iff_iff];omega
theorem acy {l:List Ent} (hl:l.length<1000000) (hs:∀ e∈l,lowE e):zem l l=some true:=by rw[pA hl hs,zt rfl]
theorem kp (aw:zc6=some true) {s:St1}{d:Dot1}{redo:Bool} (hw:Wide s):zbl s d redo=some true:=by
 obtain ⟨g,h1,h2⟩:=agO hw;unfold zbl;rw[h1];simp only[zb,aw];cases g with
 | false=>rfl
 | true =>
 have hs:=h2 rfl;have st:=hs.st;obtain ⟨b,hb,hm,hof⟩:=of_t (d:=d) (redo:=redo) st (by omega) hs.txns;rw[qAU,cond_false,hof];simp only[zb,bd];by_cases c:fY s d redo b=0
 rotate_left
 · rw[zn c];simp only;rw[zn c];rfl
 rw[zp c];simp only;rw[zp trivial];obtain ⟨c1,c2,c3,c4,c5⟩:=oB c;subst c2;have ht:=hs.txns;have hp:=(pC ht (by omega)).low;have hu:=st.undos.low (n:=100) (by omega);have uo:=ahH st c4 c5
 have hv:=uo.low (by omega);have ia:=kG (u:=s.2.1) ht;have ib:=kG (u:=upU s d) ht;have va:=pz ia;have vb:=pz ib;have la:=va.len;have lb:=vb.len;have hg0:=mm (d:=d) st.undos.one
 rw[acJ st (by omega) (user:=0) (back:=0) (by omega) (by omega) c4 c5];simp only[zb];have hrl:=hs.rlen;have hk:0<s.2.2.2.2.1.length:=by omega
 have hdone:zct s (ur 0 (d,getM s.2.1 d+1,()) 0)=some (s.1,upU s d,s.2.2.1,s.2.2.2.1,s.2.2.2.2.1.set 0 s.2.2.2.2.1[0],()):=pG st (by omega) (k:=0) (by omega) rfl (zg hk) acB;rw[hdone];simp only[zb]
 unfold zc1;simp only;rw[ahd hp hu,ahd hp hv];simp only[zb];rw[kx ia];simp only[zb];rw[aqe (by omega) (by omega) va.low vb.low va.rise vb.rise];simp only[zb];rw[zp trivial,zp trivial,kx ib]
 simp only[zb];rw[acy (by omega) vb.low];simp only[zb,qAU,cond_false]
 have st':StOk (s.1,upU s d,s.2.2.1,s.2.2.2.1,s.2.2.2.2.1.set 0 s.2.2.2.2.1[0],()) 101:=⟨st.txns,uo,st.vec,st.more,by simp only[qCY]; exact st.rlen⟩
 obtain ⟨b',hb',hm',hof'⟩:=of_t (d:=d) (redo := !redo) st' (by omega) ht;simp only at hb';rw[hb] at hb';cases hb';rw[hof'];simp only[zb];have gu:getM (upU s d) d=getM s.2.1 d+1:=by rw[acz st,zp rfl]
 have fl:=acV hg0.1 gu;have hn':fY (s.1,upU s d,s.2.2.1,s.2.2.2.1,s.2.2.2.2.1.set 0 s.2.2.2.2.1[0],()) d (!redo) false=if getM s.2.1 d+1≥64 then 14 else 0:=by
   unfold fY;simp only;rw[c1,fl,c3,c4,gu];cases redo<;>rfl
 by_cases c6:getM s.2.1 d+1≥64
 · rw[hn',zp c6];rfl
 rw[zn c6] at hn';rw[zp hn'];simp only;rw[zp trivial];have ec:allM s.1 (upU (s.1,upU s d,s.2.2.1,s.2.2.2.1,s.2.2.2.2.1.set 0 s.2.2.2.2.1[0],()) d)=allM s.1 s.2.1:=aeV fun x hx=>by
   have g2:=acz (d:=d) (x:=x.1) st';simp only at g2;by_cases e:x.1=d
   · rw[zp e,gu] at g2;exact yx (mm st.undos.one).1 (by rw[g2,e]; omega)
   · rw[zn e,acz st,zn e] at g2;exact acU g2
 rw[ec];have f1:=ahY (gA ia) (gA ib);have f2:=ahY (gA ib) (gA ia);have n1:=ahZ va vb;have n2:=ahZ vb va;rw[gp (by omega) f2];simp only[zb];rw[aAU (by omega),aeO];simp only[zb];rw[gp (by omega) f2]
 simp only[zb,decide_true,cond_true];have hlen:(dM (f0 (allM s.1 (upU s d))) (f0 (allM s.1 s.2.1))).length=(dM (f0 (allM s.1 s.2.1)) (f0 (allM s.1 (upU s d)))).length:=by
   rw[← aeO,qBT]
 rw[hlen];simp
theorem zU:∀ v:tZ.ps.V,okV tZ.ps v→tZ.fn v=some true:=fun v h=>kp aqc (ao8 h.1)
end Go.Proofs.YtnbgkhdcidbkaaaGreatDoor.Q
