import Derived.Test.YtnbgkhdcidbkaaaGreatDoorQpa
set_option linter.unusedVariables false
set_option linter.unusedSimpArgs false
set_option maxRecDepth 100000
namespace Go.Proofs.YtnbgkhdcidbkaaaGreatDoor.Q
open Go.EM Go.TY Go.Proofs Go.Proofs.YtnbgkhdcidbkaaaGreatDoor.Y
abbrev loT (d:Dot1) (l:List Txn1):List Txn1:=lo cmpD (·.1) d l
abbrev hiT (d:Dot1) (l:List Txn1):List Txn1:=hi cmpD (·.1) d l
theorem ags {R X:Type}{key:X→Dot1}{f:Int×Int×Unit→Option ((Int×Int×Unit)⊕((Int×Unit)⊕R))}{l:List X}{d:Dot1} (hr:ep cmpD key l)
   (hturn:∀ i j:Nat,i<j→j≤l.length→∀ h:(i+j)/2<l.length,f ((i:Int),(j:Int),())=some (.inl (if cmpD (key l[(i+j)/2]) d<0 then ((((i+j)/2+1:Nat):Int),(j:Int),()) else ((i:Int),(((i+j)/2:Nat):Int),()))))
   (hend:∀ i:Nat,f ((i:Int),(i:Int),())=some (.inr (.inl ((i:Int),())))) :
   aH f ((0:Int),(l.length:Int),())=some (.inl (((lo cmpD key d l).length:Int),())):=by
 have hlen:(lo cmpD key d l).length≤l.length:=by
   have e:lo cmpD key d l++hi cmpD key d l=l:=lohi;have:=congrArg List.length e;rw[qAA] at this; omega
 have key:∀ (q i j:Nat),j-i≤q→i≤(lo cmpD key d l).length→(lo cmpD key d l).length≤j→j≤l.length→aH f ((i:Int),(j:Int),())=some (.inl (((lo cmpD key d l).length:Int),())):=by
   intro q
   induction q with
   | zero =>
     intro i j h1 h2 h3 h4;have e:i=j:=(by omega);subst e;rw[aD (hend i),show (lo cmpD key d l).length=i by omega]
   | succ q ih =>
     intro i j h1 h2 h3 h4;by_cases hij:i<j
     · have hh:(i+j)/2<l.length:=(by omega);have ht:=hturn i j hij h4 hh;by_cases hn:(i+j)/2<(lo cmpD key d l).length
       · rw[zp (ai3 hh hn)] at ht;rw[aG ht];exact ih _ _ (by omega) (by omega) h3 h4
       · have:=ai4 cd hr hh (k:=d) (Nat.le_of_not_lt hn);rw[zn (by omega)] at ht;rw[aG ht];exact ih _ _ (by omega) h2 (by omega) (by omega)
     · have e:i=j:=(by omega);subst e;rw[aD (hend i),show (lo cmpD key d l).length=i by omega]
 exact key l.length 0 l.length (by omega) (by omega) hlen (qAD _)
def we (q:List Txn1) (d:Dot1):Bool:=match q with
 | []=>false
 | x::_=>decide (cmpD x.1 d=0)
theorem afu {l:List Txn1}{d:Dot1}{x:Txn1}{q:List Txn1} (h:hiT d l=x::q):∃ hk:(loT d l).length<l.length,l[(loT d l).length]=x:=by
 have e:loT d l++hiT d l=l:=lohi;rw[h] at e;have hl:=congrArg List.length e;simp only[qAA,zl] at hl;have e3:(loT d l++x::q)[(loT d l).length]? = some x:=by simp
 rw[e] at e3;have hk:(loT d l).length<l.length:=by omega
 rw[zg hk] at e3;exact ⟨hk,qCJ e3⟩
theorem aft {l:List Txn1}{d:Dot1} (h:hiT d l=[]):(loT d l).length=l.length:=by
 have e:loT d l++hiT d l=l:=lohi;rw[h,qAR] at e;rw[e]
theorem tF {l:List Txn1}{d:Dot1} (hl:l.length<1000000) (hr:nT l) :
   zae l d ()=some (((loT d l).length:Int),we (hiT d l) d,()):=by
 have h:aH (rG l d) ((0:Int),(l.length:Int),())=some (.inl (((loT d l).length:Int),())):=ags (key:=fun t:Txn1=>t.1) (f:=rG l d) (d:=d) hr (fun i j hij hj hh=>by
   unfold rG zdq;simp only[ah];rw[zp (by omega),show (i:Int)+(j:Int)=((i+j:Nat):Int) by omega,pg (by omega)];simp only[zb];rw[wrap64 (n:=(((i+j)/2:Nat):Int)) (by omega) (by omega),aI hh]
   simp only[zb,jt];rw[wrap64 (by omega) (by omega)];by_cases hc:cmpD l[(i+j)/2].1 d<0
   · rw[zp hc,zp hc]; rfl
   · rw[zn hc,zn hc]) (fun i=>by
   unfold rG;simp only[ah];rw[zn (by omega)])
 unfold zae;rw[h,ay];simp only[ah];cases hq:hiT d l with
 | nil=>rw[aft hq,zn (by omega)]; rfl
 | cons x q =>
   obtain ⟨hk,e⟩:=afu hq;rw[zp (by omega),aI hk,e];unfold zdq;simp only[zb,jt];rfl
theorem ae9 {l:List Txn1}{d:Dot1} (hl:l.length<1000000) (hr:nT l) :
   zaf l d ()=some (((loT d l).length:Int),we (hiT d l) d,()):=by
 have h:aH (rF l d) ((0:Int),(l.length:Int),())=some (.inl (((loT d l).length:Int),())):=ags (key:=fun t:Txn1=>t.1) (f:=rF l d) (d:=d) hr (fun i j hij hj hh=>by
   unfold rF zel;simp only[ah];rw[zp (by omega),show (i:Int)+(j:Int)=((i+j:Nat):Int) by omega,pg (by omega)];simp only[zb];rw[wrap64 (n:=(((i+j)/2:Nat):Int)) (by omega) (by omega),aI hh]
   simp only[zb,jt];rw[wrap64 (by omega) (by omega)];by_cases hc:cmpD l[(i+j)/2].1 d<0
   · rw[zp hc,zp hc]; rfl
   · rw[zn hc,zn hc]) (fun i=>by
   unfold rF;simp only[ah];rw[zn (by omega)])
 unfold zaf;rw[h,ay];simp only[ah];cases hq:hiT d l with
 | nil=>rw[aft hq,zn (by omega)]; rfl
 | cons x q =>
   obtain ⟨hk,e⟩:=afu hq;rw[zp (by omega),aI hk,e];unfold zel;simp only[zb,jt];rfl
theorem afO {l:List Txn1}{d:Dot1} (hr:nT l) (h:we (hiT d l) d=false):∀ t∈l,t.1≠d:=by
 intro t ht e;have e2:loT d l++hiT d l=l:=lohi;rw[← e2] at ht;rcases qBF.1 ht with ht | ht
 · have:=gX (c:=cmpD) (key:=fun y:Txn1=>y.1) (k:=d) (l:=l) t ht;have q:cmpD t.1 d<0:=this;rw[e,(cd.zero _ _).2 rfl] at q; omega
 · cases hq:hiT d l with
   | nil=>rw[hq] at ht; cases ht
   | cons x q =>
     rw[hq] at ht h;have ha:=jk cd hr hq;unfold we at h;simp only[decide_eq_false_iff_not] at h;rcases qAS.1 ht with e3 | ht
     · rw[← e3,e] at h; exact h ((cd.zero _ _).2 rfl)
     · have q:0<cmpD t.1 d:=ha.2 t ht;rw[e,(cd.zero _ _).2 rfl] at q; omega
theorem afZ {l:List Txn1}{d:Dot1} (hl:l.length<1000000) (hr:nT l) :
   (ze5 l d=some (-1)∧∀ t∈l,t.1≠d)∨∃ k:Nat,ze5 l d=some (k:Int)∧∃ h:k<l.length,l[k].1=d:=by
 unfold ze5;rw[tF hl hr];simp only[zb];cases hh:we (hiT d l) d with
 | false=>exact .inl ⟨rfl,afO hr hh⟩
 | true =>
   cases hq:hiT d l with
   | nil=>rw[hq] at hh; cases hh
   | cons x q =>
     rw[hq] at hh;obtain ⟨hk,e⟩:=afu hq;exact .inr ⟨_,rfl,hk,by rw[e]; exact (cd.zero _ _).1 (of_decide_eq_true hh)⟩
abbrev rU:Ty:=(.agg (.cons (.int .i64) (.cons (.int .i64) .unit)))
theorem tT {x y:Dot1}{v:Bool}:∀ {m:List (Dot1×Bool)},fj rU x (putK rU y v m)=if x=y then some v else fj rU x m
 | []=>by
   unfold putK fj;rw[gA,ah];unfold fj;rfl
 | e::m=>by
   unfold putK;rw[gA];by_cases hy:y=e.1
   · rw[zt hy,cond_true]
     conv=>lhs; unfold fj
     conv=>rhs; rhs; unfold fj
     rw[gA,gA,ah,ah,← hy];by_cases hx:x=y
     · rw[zp hx,zp hx]
     · rw[zn hx,zn hx,zn hx]
   · rw[zf hy,cond_false]
     conv=>lhs; unfold fj
     conv=>rhs; rhs; unfold fj
     rw[gA,ah,ah,tT];by_cases hx:x=e.1
     · rw[zp hx,zn (fun e'=>hy (by rw[← e',hx])),zp hx]
     · rw[zn hx,zn hx]
def hasD (x:Dot1) (m:List (Dot1×Bool)):Bool:=(getK rU false x m).1
theorem aiC {x y:Dot1}{m:List (Dot1×Bool)}:hasD x (putK rU y true m)=(decide (y=x)||hasD x m):=by
 unfold hasD getK;rw[tT];by_cases h:x=y
 · rw[zp h,zt h.symm]; rfl
 · rw[zn h,zf (fun e=>h e.symm),qCW]
def aeO (m:List (Dot1×Bool)) (l:List Ref1):List (Dot1×Bool):=l.foldl (fun m x=>putK rU x.1 true m) m
def jU (l:List Ref1) (d:Dot1):Bool:=l.any fun r=>decide (r.1=d)
theorem to {x:Dot1}:∀ {l:List Ref1}{m:List (Dot1×Bool)},hasD x (aeO m l)=(jU l x||hasD x m)
 | [],m=>rfl
 | y::l,m=>by
   have:=to (x:=x) (l:=l) (m:=putK rU y.1 true m);unfold aeO jU at this ⊢;rw[qAX,this,aiC,List.any_cons];cases decide (y.1=x)<;>cases l.any (fun r=>decide (r.1=x))<;>rfl
def opsD (m:List (Dot1×Bool)) (l:List Op1):List (Dot1×Bool):=l.foldl (fun m o=>aeO m o.2.2.2.2.1) m
def opsN (l:List Op1) (d:Dot1):Bool:=l.any fun o=>jU o.2.2.2.2.1 d
theorem yR {x:Dot1}:∀ {l:List Op1}{m:List (Dot1×Bool)},hasD x (opsD m l)=(opsN l x||hasD x m)
 | [],m=>rfl
 | o::l,m=>by
   have:=yR (x:=x) (l:=l) (m:=aeO m o.2.2.2.2.1);unfold opsD opsN at this ⊢;rw[qAX,this,to,List.any_cons];cases jU o.2.2.2.2.1 x<;>cases l.any (fun o=>jU o.2.2.2.2.1 x)<;>rfl
structure LowN (l:List Txn1):Prop where
 len:l.length≤1000
 rise:nT l
 ops:∀ t∈l,t.2.2.2.2.1.length≤1000
 refs:∀ t∈l,∀ o∈t.2.2.2.2.1,o.2.2.2.2.1.length<1000000
theorem TxnsOk.lowN {l:List Txn1} (h:TxnsOk l 20):LowN l:=by
 have low:=(lw h (by omega)).low;exact ⟨low.len,h.rise,low.ops,low.seen⟩
theorem aaZ {t:Txn1} (ho:t.2.2.2.2.1.length≤1000) (hs:∀ o∈t.2.2.2.2.1,o.2.2.2.2.1.length<1000000) :
   aH (rD t) (0,[],())=some (.inl (opsD [] t.2.2.2.2.1,())):=by
 have mid:=aS (S:=List (Dot1×Bool)) (R:=((List (Dot1×Bool)×Unit)⊕List Dot1)) (f:=rD t) (l:=t.2.2.2.2.1) (fun k m=>((k:Int),m,())) (fun _ o m=>.inl (aeO m o.2.2.2.2.1)) (fun m'=>.inl (m',())) (fun _ _=>True) (fun k hk m' _=>by
   refine .inl ⟨_,rfl,?_,trivial⟩;have hseen:=hs _ (zm hk);unfold rD;simp only[ah];rw[zp (by omega),aI hk];simp only[zb]
   have inner:=aS (S:=List (Dot1×Bool)) (f:=xJ ((k:Int),m',()) t.2.2.2.2.1[k]) (l:=t.2.2.2.2.1[k].2.2.2.2.1) (fun j m=>((j:Int),m,())) (fun _ x m=>.inl (putK rU x.1 true m)) (fun m''=>(.inl (((k+1:Nat):Int),m'',()):(Int×List (Dot1×Bool)×Unit)⊕((List (Dot1×Bool)×Unit)⊕List Dot1))) (fun _ _=>True) (fun j hj m'' _=>by
     refine .inl ⟨_,rfl,?_,trivial⟩;unfold xJ;simp only[ah];rw[zp (by omega),aI hj];simp only[zb];rw[wrap64 (by omega) (by omega)]; rfl) (fun m'' _=>by
     unfold xJ;simp only[ah];rw[zn (by omega),wrap64 (by omega) (by omega)]; rfl) m' trivial
   rw[show ((0:Int),m',())=(((0:Nat):Int),m',()) from rfl,inner,bi];rfl) (fun m' _=>by
   unfold rD;simp only[ah];rw[zn (by omega)]) [] trivial
 rw[show ((0:Int),([]:List (Dot1×Bool)),())=(((0:Nat):Int),[],()) from rfl,mid,bi];rfl
def vP (l:List Txn1) (t:Txn1):List Dot1:=l.flatMap fun x=>if opsN t.2.2.2.2.1 x.1=true∧x.1≠t.1 then [x.1] else []
def ju (l:List Txn1) (d:Dot1):List Dot1:=l.flatMap fun t=>if t.1≠d∧opsN t.2.2.2.2.1 d=true then [t.1] else []
theorem vN {s:St1}{a:Dot1} (h:LowN s.1) :
   (zbm s a=some []∧∀ t∈s.1,t.1≠a)∨∃ t∈s.1,t.1=a∧zbm s a=some (vP s.1 t):=by
 have hl:=h.len;unfold zbm;rcases afZ (d:=a) (l:=s.1) (by omega) h.rise with ⟨hf,hn⟩ | ⟨k,hf,hk,ha⟩
 · rw[hf];exact .inl ⟨rfl,hn⟩
 · refine .inr ⟨s.1[k],zm hk,ha,?_⟩;rw[hf];simp only[zb,ah];rw[zn (by omega),aI hk];simp only[zb];rw[aaZ (h.ops _ (zm hk)) (h.refs _ (zm hk)),ay]
   have out:=cM (R:=List Dot1) (f:=pO s a) (l:=s.1) (fun i o=>((i:Int),opsD [] s.1[k].2.2.2.2.1,o,())) (fun x=>if opsN s.1[k].2.2.2.2.1 x.1=true∧x.1≠s.1[k].1 then [x.1] else []) (fun o=>o) 1 (fun x _=>by split<;>simp) (fun i hi o ho=>by
     have hh:(getK (.agg (.cons (.int .i64) (.cons (.int .i64) .unit))) false s.1[i].1 (opsD [] s.1[k].2.2.2.2.1)).1=opsN s.1[k].2.2.2.2.1 s.1[i].1:=by
       have:=yR (x:=s.1[i].1) (l:=s.1[k].2.2.2.2.1) (m:=[]);unfold hasD at this;rw[this];show (_||false)=_;rw[Bool.or_false]
     unfold pO;simp only[ah];rw[zp (by omega),aI hi];simp only[zb];rw[hh,wrap64 (by omega) (by omega),gA];cases hx:opsN s.1[k].2.2.2.2.1 s.1[i].1 with
     | false=>simp
     | true =>
       simp only[cond_true,aW];by_cases c:s.1[i].1=a
       · rw[zp c,zn (by rw[ha]; exact fun q=>q.2 c)]; simp
       · rw[zn c,zp ⟨trivial,by rw[ha]; exact c⟩,aL (by simp; omega)];rfl) (fun o _=>by
     unfold pO;simp only[ah];rw[zn (by omega)])
   exact out
theorem qQ {l:List Ref1}{d:Dot1} (h:l.length<1000000):zag l (d,())=some (jU l d):=by
 obtain ⟨r,h1,h2⟩:=cq (S:=Unit) (f:=xZ l (d,())) l.length (fun i _=>((i:Int),())) (fun i _=>∀ k (hk:k<l.length),k<i→l[k].1≠d) (fun r=>(r<0∧jU l d=false)∨(0≤r∧jU l d=true)) (fun i _ hi hv=>by
   unfold xZ za8;simp only[ah,gA];rw[zp (by omega),aI hi,wrap64 (by omega) (by omega)];simp only[zb,ah];by_cases c:l[i].1=d
   · rw[zp c];exact .inr ⟨_,rfl,.inr ⟨by omega,List.any_eq_true.2 ⟨_,zm hi,zt c⟩⟩⟩
   · rw[zn c];exact .inl ⟨(),rfl,fun k hk hki=>by
       by_cases e:k=i
       · subst e; exact c
       · exact hv k hk (by omega)⟩) (fun _ hv=>by
   unfold xZ;simp only[ah];rw[zn (by omega)];exact ⟨_,rfl,.inl ⟨by omega,qDM.2 fun x hx=>by
     obtain ⟨k,hk,rfl⟩:=qCZ.1 hx;simpa using hv k hk hk⟩⟩) () (fun k hk hki=>by omega)
 unfold zag zai;rw[show ((0:Int),())=(((0:Nat):Int),()) from rfl,h1];simp only[zb];rcases h2 with ⟨q,e⟩ | ⟨q,e⟩
 · rw[e,zf (by omega)]
 · rw[e,zt (by omega)]
theorem tU {l:List Op1}{d:Dot1} (h:l.length≤1000) (hs:∀ o∈l,o.2.2.2.2.1.length<1000000):zaj l (d,())=some (opsN l d):=by
 obtain ⟨r,h1,h2⟩:=cq (S:=Unit) (f:=xY l (d,())) l.length (fun i _=>((i:Int),())) (fun i _=>∀ k (hk:k<l.length),k<i→jU l[k].2.2.2.2.1 d=false) (fun r=>(r<0∧opsN l d=false)∨(0≤r∧opsN l d=true)) (fun i _ hi hv=>by
   unfold xY zbc;simp only[ah];rw[zp (by omega),aI hi,wrap64 (by omega) (by omega)];simp only[zb];rw[qQ (hs _ (zm hi))];simp only[zb];cases c:jU l[i].2.2.2.2.1 d with
   | true=>exact .inr ⟨_,rfl,.inr ⟨by omega,List.any_eq_true.2 ⟨_,zm hi,c⟩⟩⟩
   | false =>
     exact .inl ⟨(),rfl,fun k hk hki=>by
       by_cases e:k=i
       · subst e; exact c
       · exact hv k hk (by omega)⟩) (fun _ hv=>by
   unfold xY;simp only[ah];rw[zn (by omega)];exact ⟨_,rfl,.inl ⟨by omega,qDM.2 fun x hx=>by
     obtain ⟨k,hk,rfl⟩:=qCZ.1 hx;simp[hv k hk hk]⟩⟩) () (fun k hk hki=>by omega)
 unfold zaj zam;rw[show ((0:Int),())=(((0:Nat):Int),()) from rfl,h1];simp only[zb];rcases h2 with ⟨q,e⟩ | ⟨q,e⟩
 · rw[e,zf (by omega)]
 · rw[e,zt (by omega)]
theorem po {s:St1}{d:Dot1} (h:LowN s.1):zbg s d=some (ju s.1 d):=by
 have hl:=h.len
 have out:=cM (R:=List Dot1) (f:=xM s d) (l:=s.1) (fun i o=>((i:Int),o,())) (fun t=>if t.1≠d∧opsN t.2.2.2.2.1 d=true then [t.1] else []) (fun o=>o) 1 (fun x _=>by split<;>simp) (fun i hi o ho=>by
   unfold xM;simp only[ah];rw[zp (by omega),aI hi];simp only[zb];rw[tU (h.ops _ (zm hi)) (h.refs _ (zm hi)),wrap64 (by omega) (by omega),gA];simp only[zb,aW];by_cases c:s.1[i].1=d
   · rw[zp c,zn (fun q=>q.1 c)]; simp
   · rw[zn c];cases hx:opsN s.1[i].2.2.2.2.1 d with
     | false=>rw[zn (fun q=>by cases q.2)]; simp
     | true =>
       rw[zp ⟨c,rfl⟩,aL (by simp; omega)];rfl) (fun o _=>by
   unfold xM;simp only[ah];rw[zn (by omega)])
 exact out
theorem jo {A B:Type}{g:A→List B} (h:∀ x,(g x).length≤1):∀ {l:List A},(l.flatMap g).length≤l.length
 | []=>by simp
 | x::l=>by
   have h1:=h x;have h2:=jo h (l:=l);rw[qA5,qAA,zl];omega
theorem vO {l:List Txn1}{t:Txn1}:(vP l t).length≤l.length:=by
 unfold vP;have:=jo (l:=l) (g:=fun x=>if opsN t.2.2.2.2.1 x.1=true∧x.1≠t.1 then [x.1] else []) (fun x=>by split<;>simp);exact this
theorem qR {l:List Txn1}{d:Dot1}:(ju l d).length≤l.length:=by
 unfold ju;have:=jo (l:=l) (g:=fun x=>if x.1≠d∧opsN x.2.2.2.2.1 d=true then [x.1] else []) (fun x=>by split<;>simp);exact this
end Go.Proofs.YtnbgkhdcidbkaaaGreatDoor.Q
namespace Go.Proofs.YtnbgkhdcidbkaaaGreatDoor.Q
open Go.EM Go.TY Go.Proofs Go.Proofs.YtnbgkhdcidbkaaaGreatDoor.Y
end Go.Proofs.YtnbgkhdcidbkaaaGreatDoor.Q
namespace Go.Proofs.YtnbgkhdcidbkaaaGreatDoor.Q
open Go.EM Go.TY Go.Proofs Go.Proofs.YtnbgkhdcidbkaaaGreatDoor.Y
def kF (l:List Txn1) (d:Dot1):Bool:=l.any fun t=>decide (t.1=d)
def bX (s:St1) (d:Dot1) (redo b:Bool):Int:=if kF s.1 d=false then 12 else if b=true then 13 else if dD s.2.1 d=redo then 11 else if bd d=false then 2 else if getM s.2.1 d≥64 then 14 else 0
theorem arA {s:St1}{n:Nat}{d:Dot1}{redo:Bool} (h:StOk s n) (hn:n<100000) (hr:nT s.1):∃ b,ze4 s.2.2.2.1 d=some b∧zci s d redo=some (bX s d redo b):=by
 obtain ⟨b,hb,hm⟩:=ahS (d:=d) h hn;refine ⟨b,hb,?_⟩;have hl:=h.txns;unfold zci bX;have hu:=h.undos.low hn;rw[hb,iy hu.len hu.rise,hm]
 rcases afZ (l:=s.1) (d:=d) (by omega) hr with ⟨hf,hno⟩ | ⟨k,hf,hk,e⟩
 · have:kF s.1 d=false:=qDM.2 fun t ht=>by simpa using hno t ht
   rw[hf,zp this]; rfl
 · have:kF s.1 d=true:=List.any_eq_true.2 ⟨_,zm hk,zt e⟩;rw[hf,zn (show ¬ kF s.1 d=false by rw[this]; decide)];simp only[zb,ah];rw[zn (show ¬ (k:Int)<0 by omega)];cases b with
   | true=>rfl
   | false =>
     simp only[cond_false,qA0,if_false];cases hs:dD s.2.1 d<;>cases redo<;>simp
theorem j4 {s:St1}{d:Dot1}{redo b:Bool} (h:bX s d redo b=0):kF s.1 d=true∧b=false∧dD s.2.1 d = !redo∧bd d=true∧getM s.2.1 d<64:=by
 unfold bX at h
 split at h
 · omega
 split at h
 · omega
 split at h
 · omega
 split at h
 · omega
 split at h
 · omega
 rename_i h1 h2 h3 h4 h5;refine ⟨by simpa using h1,by simpa using h2,?_,by simpa using h4,by omega⟩;cases hs:dD s.2.1 d<;>cases redo<;>simp_all
def upU (s:St1) (d:Dot1):List Ref1:=eH s.2.1 (d,getM s.2.1 d+1,())
theorem agD {s:St1}{n:Nat}{d:Dot1} (h:StOk s n) (hn:n<100000) (hd:bd d=true) (hg:getM s.2.1 d<64):zbt s d=some ((s.1,upU s d,s.2.2.1,s.2.2.2.1,s.2.2.2.2.1,()),0,()):=by
 have hl:=h.undos.len;unfold zbt;rw[fp h.undos hn,zn (by rw[hd]; decide),zn (by omega)];simp only[zb,aW];rw[zp trivial];unfold zcg;rw[arI (by omega)];rfl
theorem aej {s:St1}{n:Nat}{d:Dot1} (h:StOk s n) (hd:bd d=true) (hg:getM s.2.1 d<64):UOk (upU s d) (n+1):=by
 have hg0:=tz (d:=d) h.undos.one;refine h.undos.join ?_;unfold oneM;simp only[k9,decide_eq_true_eq];exact ⟨hd,by omega,by omega⟩
theorem aaq {l:List aQ}:aCU (gj l):=by
 unfold gj;have h:ep bD (fun v=>v) (ci l):=gO e8 _;show List.Pairwise _ _;rw[List.pairwise_map];refine List.Pairwise.imp (fun {a b} hab => ?_) h
 have e:cmpK (keyE (entM l a.1 a.2.1)) (keyE (entM l b.1 b.2.1))=bD a b:=by
   unfold cmpK cmpB bD orI keyE entM;rfl
 rw[e]; exact hab
theorem jN {l:List aQ} (h:ItemsOk l):VOk (gj l) where
 len:=ahJ h
 easy e he:=by
   obtain ⟨y,hy,rfl⟩:=ahI he;have hs:=o8 h hy;exact ⟨arX h hs.1 hs.2,fun x hx=>by have:=hs.2 x hx; omega⟩
 rise:=aaq
theorem of_t {s:St1}{n:Nat}{d:Dot1}{redo:Bool} (h:StOk s n) (hn:n<10000) (ht:TxnsOk s.1 20):∃ b,ze4 s.2.2.2.1 d=some b∧zci s d redo=some (bX s d redo b) ∧
   zd1 s d redo=some (if bX s d redo b=0 then (dM (gj (allM s.1 s.2.1)) (gj (allM s.1 (upU s d))),0,()) else ([],bX s d redo b,())):=by
 obtain ⟨b,hb,hm⟩:=arA (d:=d) (redo:=redo) h (by omega) ht.rise;refine ⟨b,hb,hm,?_⟩;unfold zd1;rw[hm];simp only[zb,aW];by_cases c:bX s d redo b=0
 · obtain ⟨_,_,_,c4,c5⟩:=j4 c;have hp:=(lw ht (by omega)).low;have hu:=h.undos.low (by omega);have hv:=(aej h c4 c5).low (by omega);have ia:=dS (u:=s.2.1) ht;have ib:=dS (u:=upU s d) ht
   rw[zp c,zp c,agD h (by omega) c4 c5];simp only[zb,aW];rw[zp trivial];unfold zcw;simp only;rw[ai7 hp hu,ai7 hp hv];simp only[zb];rw[yb ia];simp only[zb];rw[yb ib];simp only[zb]
   rw[ar4 (jN ia) (jN ib)];rfl
 · rw[zn c,zn c]
def mB (l:List aQ):List Ref1:=l.map (·.1)
theorem aCV {l:List aQ} (h:l.length<100000):zeq l=some (mB l):=by
 have out:=cM (R:=List Ref1) (f:=wX l) (l:=l) (fun i o=>((i:Int),o,())) (fun x=>[x.1]) (fun o=>o) 1 (fun x _=>by simp) (fun i hi o ho=>by
   unfold wX;simp only[ah];rw[zp (by omega),aI hi,wrap64 (by omega) (by omega)];simp only[zb];rw[aL (by simp; omega)];rfl) (fun o _=>by
   unfold wX;simp only[ah];rw[zn (by omega)])
 unfold zeq mB;rw[show ((0:Int),([]:List Ref1),())=(((0:Nat):Int),[],()) from rfl,out];congr 1;clear out h
 induction l with
 | nil=>rfl
 | cons x l ih=>rw[qA5,qBE,ih]; rfl
def hasI (l:List aQ) (x:Ref1):Bool:=l.any fun y=>decide (x=y.1)
def dh (a b:List aQ):List aQ:=a.flatMap fun x=>if hasI b x.1=true then [] else [x]
theorem dV {a b:List aQ}:(dh a b).length≤a.length:=by
 unfold dh;exact jo (fun x=>by split<;>simp)
theorem kD {a b:List aQ}{x:aQ}:x∈dh a b↔x∈a∧hasI b x.1=false:=by
 unfold dh;rw[List.mem_flatMap];constructor
 · rintro ⟨y,hy,h⟩
   split at h
   · cases h
   · rename_i c;rw[qA3] at h;subst h;exact ⟨hy,by simpa using c⟩
 · rintro ⟨h1,h2⟩
   exact ⟨x,h1,by rw[zn (by rw[h2]; decide)]; exact qA3.2 rfl⟩
theorem rI {a b:List aQ} (ha:a.length<100000) (hb:b.length<100000):zbe a b=some (dh a b):=by
 unfold zbe;rw[aCV hb];simp only[zb]
 have mid:=aS (S:=List (Ref1×Bool)) (R:=((List (Ref1×Bool)×Unit)⊕List aQ)) (f:=xO (mB b)) (l:=mB b) (fun k m=>((k:Int),m,())) (fun _ x m=>.inl (putK kZ x true m)) (fun m'=>.inl (m',())) (fun _ _=>True) (fun k hk m' _=>by
   have hk2:(mB b).length=b.length:=by unfold mB; rw[qBU]
   refine .inl ⟨_,rfl,?_,trivial⟩;unfold xO;simp only[ah];rw[zp (by omega),aI hk];simp only[zb];rw[wrap64 (by omega) (by omega)]; rfl) (fun m' _=>by
   unfold xO;simp only[ah];rw[zn (by omega)]) [] trivial
 rw[show ((0:Int),([]:List (Ref1×Bool)),())=(((0:Nat):Int),[],()) from rfl,mid,bi,ay];have hm:∀ x:Ref1,(getK kZ false x (kK [] (mB b))).1=hasI b x:=fun x=>by
   have:=wg (x:=x) (l:=mB b) (m:=[]);unfold hasK at this;rw[this];unfold mB hasI;rw[List.any_map];show (_||false)=_;rw[Bool.or_false]; rfl
 have out:=cM (R:=List aQ) (f:=xN a) (l:=a) (fun i o=>((i:Int),kK [] (mB b),o,())) (fun x=>if hasI b x.1=true then [] else [x]) (fun o=>o) 1 (fun x _=>by split<;>simp) (fun i hi o ho=>by
   have hh:(getK (.agg (.cons (.agg (.cons (.int .i64) (.cons (.int .i64) .unit))) (.cons (.int .i64) .unit))) false a[i].1 (kK [] (mB b))).1=hasI b a[i].1:=hm a[i].1;unfold xN;simp only[ah]
   rw[zp (by omega),aI hi,wrap64 (by omega) (by omega)];simp only[zb];rw[hh,aL (by simp; omega)];cases hasI b a[i].1 with
   | false=>rfl
   | true=>simp) (fun o _=>by
   unfold xN;simp only[ah];rw[zn (by omega)])
 exact out
theorem aiZ {a b:List aQ} (ha:a.length<100000) (hb:b.length<100000):zao [a,b]=some (a++b):=by
 have l1:aH (kC [a,b]) (0,0,())=some (.inl (((a.length+b.length:Nat):Int),())):=by
   have t1:kC [a,b] (0,0,())=some (.inl ((a.length:Int),1,())):=by
     unfold kC;simp only[ah];rw[zp (by simp),show atI [a,b] 0=some a from rfl];simp only[zb];rw[wrap64 (by omega) (by omega),zn (by omega),Int.zero_add]; rfl
   have t2:kC [a,b] ((a.length:Int),1,())=some (.inl (((a.length+b.length:Nat):Int),2,())):=by
     unfold kC;simp only[ah];rw[zp (by simp),show atI [a,b] 1=some b from rfl];simp only[zb];rw[wrap64 (by omega) (by omega),zn (by omega)]; rfl
   have t3:kC [a,b] (((a.length+b.length:Nat):Int),2,())=some (.inr (.inl (((a.length+b.length:Nat):Int),()))):=by
     unfold kC;simp only[ah];rw[zn (by simp)]
   rw[aG t1,aG t2,aD t3]
 have l2:aH (gq [a,b]) (0,[],())=some (a++b):=by
   have t1:gq [a,b] (0,[],())=some (.inl (1,a,())):=by
     unfold gq;simp only[ah];rw[zp (by simp),show atI [a,b] 0=some a from rfl];simp only[zb];rw[aL (by simp; omega)]; rfl
   have t2:gq [a,b] (1,a,())=some (.inl (2,a++b,())):=by
     unfold gq;simp only[ah];rw[zp (by simp),show atI [a,b] 1=some b from rfl];simp only[zb];rw[aL (by omega)]; rfl
   have t3:gq [a,b] (2,a++b,())=some (.inr (a++b)):=by
     unfold gq;simp only[ah];rw[zn (by simp)]
   rw[aG t1,aG t2,aD t3]
 unfold zao;rw[l1,ay];have g:zat () ((a.length+b.length:Nat):Int)=some []:=by
   unfold zat aiE;rw[zp ⟨by omega,by simp only[most]; omega⟩]
 rw[g];exact l2
def aeo (a b:List aQ):List b8:=ci (dh a b++dh b a)
theorem ix {a b:List aQ} (ha:ItemsOk a) (hb:ItemsOk b):LowI (dh a b++dh b a):=by
 have h1:=dV (a:=a) (b:=b);have h2:=dV (a:=b) (b:=a);have h3:=ha.len;have h4:=hb.len;refine ⟨by rw[qAA]; omega,fun x hx => ?_⟩;rcases qBF.1 hx with h | h
 · exact (dH ha).path x (kD.1 h).1
 · exact (dH hb).path x (kD.1 h).1
theorem aen {s:St1}{n:Nat}{d:Dot1}{redo b:Bool} (h:StOk s n) (hn:n<10000) (ht:TxnsOk s.1 20) (hm:zci s d redo=some (bX s d redo b)) :
   zbi s d redo=some (if bX s d redo b=0 then (aeo (allM s.1 s.2.1) (allM s.1 (upU s d)),0,()) else ([],bX s d redo b,())):=by
 unfold zbi;rw[hm];simp only[zb,aW];by_cases c:bX s d redo b=0
 · obtain ⟨_,_,_,c4,c5⟩:=j4 c;have hp:=(lw ht (by omega)).low;have hu:=h.undos.low (by omega);have hv:=(aej h c4 c5).low (by omega);have ia:=dS (u:=s.2.1) ht;have ib:=dS (u:=upU s d) ht
   have la:=ia.len;have lb:=ib.len;rw[zp c,zp c,agD h (by omega) c4 c5];simp only[zb,aW];rw[zp trivial];unfold zcw;simp only;rw[ai7 hp hu,ai7 hp hv];simp only[zb];rw[rI (by omega) (by omega)]
   simp only[zb];rw[rI (by omega) (by omega)];simp only[zb];have w1:=dV (a:=allM s.1 s.2.1) (b:=allM s.1 (upU s d));have w2:=dV (b:=allM s.1 s.2.1) (a:=allM s.1 (upU s d))
   rw[aiZ (by omega) (by omega)];simp only[zb];rw[yK (ix ia ib)];rfl
 · rw[zn c,zn c]
end Go.Proofs.YtnbgkhdcidbkaaaGreatDoor.Q
namespace Go.Proofs.YtnbgkhdcidbkaaaGreatDoor.Q
open Go.EM Go.TY Go.Proofs Go.Proofs.YtnbgkhdcidbkaaaGreatDoor.Y
end Go.Proofs.YtnbgkhdcidbkaaaGreatDoor.Q
namespace Go.Proofs.YtnbgkhdcidbkaaaGreatDoor.Q
open Go.EM Go.TY Go.Proofs Go.Proofs.YtnbgkhdcidbkaaaGreatDoor.Y
theorem ajT {s:St1}{t:Txn1}{n:Nat} (hl:s.1.length≤500) (hr:nT s.1) (hk:DOk s.2.2.1 n) (hn:n<10000) (h:we (hiT t.1 s.1) t.1=false) :
   ∃ kn,zeg s t=some (loT t.1 s.1++t::hiT t.1 s.1,s.2.1,kn,s.2.2.2.1,s.2.2.2.2.1,())∧DOk kn (n+1):=by
 have e2:loT t.1 s.1++hiT t.1 s.1=s.1:=lohi;obtain ⟨kn,d1,d2⟩:=af9 (d:=t.1) hk (by omega);have e1:zay s.1=some s.1:=by
   unfold zay fE;rw[zp (by simp only[most]; omega)]
 have hlen:(loT t.1 s.1).length≤s.1.length:=by
   have:=congrArg List.length e2;rw[qAA] at this; omega
 have e3:zav ((loT t.1 s.1).length:Int) [t] s.1=some ((),loT t.1 s.1++t::hiT t.1 s.1,()):=by
   unfold zav insT;rw[zp ⟨by omega,by omega,by simp,by simp only[most,qBA]; omega⟩];have q1:s.1.take (loT t.1 s.1).length=loT t.1 s.1:=by
     have q:(loT t.1 s.1++hiT t.1 s.1).take (loT t.1 s.1).length=loT t.1 s.1:=List.take_left' rfl;rwa [e2] at q
   have q2:s.1.drop (loT t.1 s.1).length=hiT t.1 s.1:=by
     have q:(loT t.1 s.1++hiT t.1 s.1).drop (loT t.1 s.1).length=hiT t.1 s.1:=List.drop_left' rfl;rwa [e2] at q
   simp[q1,q2]
 refine ⟨kn,?_,d2⟩;unfold zeg ze5 zfa;rw[tF (by omega) hr,ae9 (by omega) hr,h];simp only[zb,qAZ,cond_true,cond_false,ah];rw[zn (by decide),e1];simp only[zb];rw[e3];simp only[zb];rw[d1];rfl
abbrev opA:Op1:=(1,[[97]],(1,1,[],()),0,[],())
abbrev opB:Op1:=(1,[[97]],(1,2,[],()),0,[((0,1,()),0,())],())
abbrev txA:Txn1:=((0,1,()),0,1,false,[opA],())
abbrev txB:Txn1:=((0,2,()),0,2,false,[opB],())
theorem aGo:lf [((0,1,()),0,())]=true:=by
 unfold lf;rw[zp (fun i h=>by
   have:i=0:=by simp at h; omega
   subst this;decide)]
theorem aC2:opM opA=0:=aCX agm
theorem aC1:opM opB=0:=by
 unfold opM;simp[agm,df,aGo]
theorem ajM:TxnsOk [txA,txB] 20 where
 len:=by simp
 rise:=qA9.2 ⟨fun x hx=>by rw[qA3.1 hx]; decide,qCC ..⟩
 all t ht:=by
   rcases qAS.1 ht with rfl | ht
   · exact ⟨by simp,by simp,fun o ho=>by rw[qA3.1 ho]; exact ⟨⟨by simp,by simp,by simp,by simp⟩,.inl aC2⟩,by decide,by decide,by decide⟩
   · rw[qA3.1 ht];exact ⟨by simp,by simp,fun o ho=>by rw[qA3.1 ho]; exact ⟨⟨by simp,by simp,by simp,by simp⟩,.inl aC1⟩,by decide,by decide,by decide⟩
theorem ajN {n:Nat} (h:n<10):jQ (1,(n:Int),[],())=[UInt8.ofNat (48+n)]:=by
 show Lib.itoa (n:Int)=_;rw[aix,np h]
theorem asi:zcu=some true:=by
 have r2:bd (0,2,())=true:=by decide
 unfold zcu;rw[show zet 1 1 []=some txA from rfl,show zet 2 2 [((0,1,()),0,())]=some txB from rfl];simp only[zb]
 obtain ⟨k1,a1,a2⟩:=ajT (s:=(([],[],([0,0,0,0,0,0,0,0,0,0,0,0,0,0,0,0],[],()),([0,0,0,0,0,0,0,0,0,0,0,0,0,0,0,0],[],()),[[],[],[],[],[],[],[],[]],()):St1)) (t:=txA) (n:=0) (by simp) List.Pairwise.nil ⟨rfl,by simp,fun d hd=>by cases hd⟩ (by omega) rfl
 rw[a1];simp only[zb];have c1:loT txA.1 []++txA::hiT txA.1 []=[txA]:=rfl;rw[c1]
 obtain ⟨k2,b1,b2⟩:=ajT (s:=(([txA],[],k1,([0,0,0,0,0,0,0,0,0,0,0,0,0,0,0,0],[],()),[[],[],[],[],[],[],[],[]],()):St1)) (t:=txB) (n:=1) (by simp) (qCC ..) a2 (by omega) (show we (hiT (0,2,()) [txA]) (0,2,())=false from rfl)
 rw[b1];simp only[zb];have c2:loT txB.1 [txA]++txB::hiT txB.1 [txA]=[txA,txB]:=rfl;rw[c2]
 have st:StOk ([txA,txB],[],k2,([0,0,0,0,0,0,0,0,0,0,0,0,0,0,0,0],[],()),[[],[],[],[],[],[],[],[]],()) 100:=⟨by simp,⟨by simp,List.Pairwise.nil,fun x hx=>by cases hx⟩,rfl,by simp,rfl⟩
 have low:LowN [txA,txB]:=ajM.lowN;obtain ⟨b,hb,hm,hof⟩:=of_t (d:=(0,2,())) (redo:=false) st (by omega) ajM;have hbf:ze4 ([0,0,0,0,0,0,0,0,0,0,0,0,0,0,0,0],[],()) (0,2,())=some false:=vm r2
 simp only at hb;rw[hbf] at hb;cases hb;have nz:bX ([txA,txB],[],k2,([0,0,0,0,0,0,0,0,0,0,0,0,0,0,0,0],[],()),[[],[],[],[],[],[],[],[]],()) (0,2,()) false false=0:=by rfl
 rw[hof,zp nz];simp only[zb];have e:dM (gj (allM [txA,txB] [])) (gj (allM [txA,txB] [((0,2,()),1,())]))=[jP ([[97]],1,[(1,2,[],())],0,()) ([[97]],1,[(1,1,[],())],0,())]:=by
   have v1:gj (allM [txA,txB] [])=[([[97]],1,[(1,2,[],())],0,())]:=rfl;have v2:gj (allM [txA,txB] [((0,2,()),1,())])=[([[97]],1,[(1,1,[],())],0,())]:=rfl;rw[v1,v2];unfold dM;rw[dJ.eq_def];simp only
   rw[zn (by decide),zn (by decide),zn (by decide),dJ.eq_def];rfl
 have eu:upU ([txA,txB],[],k2,([0,0,0,0,0,0,0,0,0,0,0,0,0,0,0,0],[],()),[[],[],[],[],[],[],[],[]],()) (0,2,())=[((0,2,()),1,())]:=rfl;rw[eu,e]
 have small:∀ n:Int,-2147483647≤n→n≤2147483647→oM ([[97]],1,[(1,n,[],())],0,()):=fun n h1 h2=>⟨by simp,by simp,by simp,fun v hv=>by
   rw[qA3.1 hv];unfold df; rw[decide_eq_true_eq]; exact .inl ⟨rfl,rfl,h1,h2⟩⟩
 have fit:∀ c∈[jP ([[97]],1,[(1,2,[],())],0,()) ([[97]],1,[(1,1,[],())],0,())],fitC c:=fun c hc=>by
   rw[qA3.1 hc];exact ⟨⟨small 2 (by omega) (by omega),by unfold inR; simp[jP]⟩,small 1 (by omega) (by omega),by unfold inR; simp[jP]⟩
 rw[un (by simp) fit];have t1:jQ (1,1,[],())=[49]:=ajN (n:=1) (by omega);have t2:jQ (1,2,[],())=[50]:=ajN (n:=2) (by omega)
 have tx:([jP ([[97]],1,[(1,2,[],())],0,()) ([[97]],1,[(1,1,[],())],0,())].flatMap je)=[45,32,97,32,61,32,50,10,43,32,97,32,61,32,49,10]:=by
   rw[qA5,List.flatMap_nil,qAR];unfold je jP vV aat;simp only[qBE,qCP,t1,t2];rfl
 rw[tx];simp only[zb,decide_true,cond_true];rcases vN (s:=([txA,txB],[],k2,([0,0,0,0,0,0,0,0,0,0,0,0,0,0,0,0],[],()),[[],[],[],[],[],[],[],[]],())) (a:=(0,2,())) low with ⟨_,hn⟩ | ⟨t,ht,htd,hn⟩
 · exact absurd rfl (hn txB (by simp))
 · have : t = txB := by
     simp only[qAS,qDF,or_false] at ht;rcases ht with rfl | rfl
     · exact absurd htd (by decide)
     · rfl
   subst this;rw[hn,po low];rfl
end Go.Proofs.YtnbgkhdcidbkaaaGreatDoor.Q
namespace Go.Proofs.YtnbgkhdcidbkaaaGreatDoor.Q
open Go.EM Go.TY Go.Proofs Go.Proofs.YtnbgkhdcidbkaaaGreatDoor.Y
theorem afR {s:St1} (h:zd4 s=some true):zco s.2.2.2.1=some true:=by
 unfold zd4 at h;obtain ⟨b,_,h⟩:=qAB.1 h;cases b with
 | false=>cases h
 | true =>
 rw[cond_true] at h;obtain ⟨c,hr,hc⟩:=qAB.1 h;cases hc;unfold zct at hr;cases h1:decide ((s.1.length:Int)>1000) with
 | true=>rw[h1] at hr; cases hr
 | false =>
 rw[h1,cond_false] at hr;obtain ⟨r1,_,hr⟩:=qAB.1 hr;cases r1 with
 | false=>cases hr
 | true =>
 rw[qAN,cond_false] at hr;obtain ⟨r2,_,hr⟩:=qAB.1 hr;cases r2 with
 | false=>cases hr
 | true =>
 rw[qAN,cond_false] at hr;obtain ⟨r3,h3,hr⟩:=qAB.1 hr;cases r3 with
 | false=>cases hr
 | true=>exact h3
abbrev ark (l:List Dot1):Prop:=ep cmpD (fun d=>d) l
theorem sv {s:kw} (hs:DOk s 100) (h:zco s=some true):ark s.2.1:=by
 have hl:=hs.len;obtain ⟨b,hb⟩:=sw hs.vec;unfold zco at h;rw[hb] at h;simp only[zb] at h;cases b with
 | false=>cases h
 | true =>
 simp only[qAN,cond_false,ah] at h;rw[zn (by omega)] at h
 obtain ⟨r,h1,h2⟩:=cq (S:=Unit) (f:=lP) s.2.1.length (fun i _=>((i:Int),s,())) (fun i _=>∀ k (hk:k+1<s.2.1.length),k+1<i→cmpD s.2.1[k] s.2.1[k+1]<0) (fun r=>r=true→∀ k (hk:k+1<s.2.1.length),cmpD s.2.1[k] s.2.1[k+1]<0) (fun i _ hi hv=>by
   have no:∃ r,some (Sum.inr false:(Int×kw×Unit)⊕Bool)=some (.inr r)∧(r=true→∀ k (hk:k+1<s.2.1.length),cmpD s.2.1[k] s.2.1[k+1]<0):=⟨false,rfl,fun q=>by cases q⟩;unfold lP;simp only[ah]
   rw[zp (by omega),aI hi];simp only[zb,cw];have hx:=hs.right _ (zm hi);obtain ⟨k,k1,k2,k3⟩:=fM hx;have hvec:=hs.vec;rw[hx];simp only[qAN,cond_false];rw[k3];simp only[zb]
   rw[zg (by omega),wrap64 (n:=(i:Int)+1) (by omega) (by omega)];simp only[zb];by_cases c1:IntKind.wrap .i64 (s.2.1[i].2.1-1)≤s.1[k]'(by omega)
   · rw[zp c1]; exact .inr no
   rw[zn c1];by_cases c2:(i:Int)>0
   · rw[zp c2,wrap64 (by omega) (by omega),show (i:Int)-1=((i-1:Nat):Int) by omega,aI (by omega)];simp only[zb,fN,aW];by_cases c3:cmpD (s.2.1[i-1]'(by omega)) s.2.1[i] = -1
     · rw[zp c3];exact .inl ⟨(),rfl,fun k hk hki=>by
         by_cases e:k+1=i
         · subst e;simp only[Nat.add_sub_cancel] at c3;omega
         · exact hv k hk (by omega)⟩
     · rw[zn c3]; exact .inr no
   · rw[zn c2];exact .inl ⟨(),rfl,fun k hk hki=>by omega⟩) (fun _ hv=>by
   unfold lP;simp only[ah];rw[zn (by omega)];exact ⟨_,rfl,fun _ k hk=>hv k hk hk⟩) () (fun k hk hki=>by omega)
 rw[show ((0:Int))=((0:Nat):Int) from rfl,h1] at h;exact iU cd (h2 (qCJ h))
theorem af8 {l:List Dot1}{d:Dot1} (hl:l.length<1000000) (hr:ark l):∃ k:Int,zad l d ()=some (k,l.any fun x=>decide (x=d),()):=by
 have h:=ags (key:=fun d:Dot1=>d) (f:=lU l d) (d:=d) hr (fun i j hij hj hh=>by
   unfold lU;simp only[ah];rw[zp (by omega),show (i:Int)+(j:Int)=((i+j:Nat):Int) by omega,pg (by omega)];simp only[zb];rw[wrap64 (n:=(((i+j)/2:Nat):Int)) (by omega) (by omega),aI hh];simp only[zb,jt]
   rw[wrap64 (by omega) (by omega)];by_cases hc:cmpD l[(i+j)/2] d<0
   · rw[zp hc,zp hc]; rfl
   · rw[zn hc,zn hc]) (fun i=>by
   unfold lU;simp only[ah];rw[zn (by omega)])
 unfold zad;rw[h,ay];simp only[ah];have e:lo cmpD (fun d:Dot1=>d) d l++hi cmpD (fun d:Dot1=>d) d l=l:=lohi;have below:∀ x∈lo cmpD (fun d:Dot1=>d) d l,x≠d:=fun x hx=>by
   have q:cmpD x d<0:=gX (c:=cmpD) (key:=fun d:Dot1=>d) (k:=d) (l:=l) x hx;exact fun e=>by rw[e,(cd.zero _ _).2 rfl] at q; omega
 cases hq:hi cmpD (fun d:Dot1=>d) d l with
 | nil =>
   rw[hq,qAR] at e;have el:(lo cmpD (fun d:Dot1=>d) d l).length=l.length:=by rw[e]
   rw[el,zn (by omega)];have:(l.any fun x=>decide (x=d))=false:=qDM.2 fun x hx=>by
     rw[← e] at hx;simpa using below x hx
   rw[this];exact ⟨_,rfl⟩
 | cons x q =>
   rw[hq] at e;have hlen:=congrArg List.length e;simp only[qAA,zl] at hlen;have hk:(lo cmpD (fun d:Dot1=>d) d l).length<l.length:=by omega
   have e3:(lo cmpD (fun d:Dot1=>d) d l++x::q)[(lo cmpD (fun d:Dot1=>d) d l).length]? = some x:=by simp
   rw[e,zg hk] at e3;rw[zp (by omega),aI hk,qCJ e3];simp only[zb,jt];have ha:=jk cd hr hq;have:(l.any fun x=>decide (x=d))=decide (cmpD x d=0):=by
     rw[qDH,List.any_eq_true,decide_eq_true_eq];constructor
     · rintro ⟨y,hy,hyd⟩
       rw[← e] at hy;have hyd:=of_decide_eq_true hyd;rcases qBF.1 hy with hy | hy
       · exact absurd hyd (below y hy)
       · rcases qAS.1 hy with q | hy
         · rw[← q,hyd]; exact (cd.zero _ _).2 rfl
         · have q:0<cmpD y d:=ha.2 y hy;rw[hyd,(cd.zero _ _).2 rfl] at q; omega
     · exact fun h=>⟨x,by rw[← e]; simp,zt ((cd.zero _ _).1 h)⟩
   rw[this];exact ⟨_,rfl⟩
theorem aiB {s:kw}{d:Dot1} (hs:DOk s 100) (hr:ark s.2.1):∃ b,ze4 s d=some b∧zer s d=some b:=by
 have hv:=hs.vec;have hl:=hs.len;obtain ⟨k,hk⟩:=af8 (l:=s.2.1) (d:=d) (by omega) hr;have same:zfb s.1 d=zed s.1 d:=by
   unfold zfb zed;rw[fD,cw]
 obtain ⟨b,hb⟩:=afP (v:=s.1) (d:=d) hv;unfold ze4 zer;rw[same,hb,hk];simp only[zb];cases b with
 | true=>exact ⟨true,rfl,rfl⟩
 | false =>
   refine ⟨_,rfl,?_⟩;have lp:=fQ (f:=lL s d) (l:=s.2.1) (fun i=>((i:Int),())) (fun x=>decide (x=d)) true false (fun i hi=>by
     unfold lL;simp only[ah,gA];rw[zp (by omega),aI hi,wrap64 (by omega) (by omega)];simp only[zb,decide_eq_true_eq];by_cases c:s.2.1[i]=d
     · rw[zp c,zp c]
     · rw[zn c,zn c]; rfl) (by
     unfold lL;simp only[ah];rw[zn (by omega)])
   rw[cond_false,show ((0:Int),())=(((0:Nat):Int),()) from rfl,lp];cases s.2.1.any (fun x=>decide (x=d))<;>rfl
theorem oV {u:List Ref1}{d:Dot1}{n:Nat} (h:UOk u n) (hn:n<100000):zcv u d=zc4 u d:=by
 have hg:=tz (d:=d) h.one;have hl:=(h.low hn).len;rw[fp h hn];unfold zcv;rw[cw,qh hl];simp only[zb,ah];rw[wrap64 (by omega) (by omega)];cases bd d with
 | false=>rfl
 | true =>
   by_cases c:getM u d≥64<;>simp[c]
def putF (x:Ref1):Bool×List Ref1→List Ref1→Bool×List Ref1
 | s,[]=>s
 | s,y::l=>putF x ((s.1||decide (cmpD x.1 y.1≤0)),(s.2++(if (!s.1&&decide (cmpD x.1 y.1≤0))=true then [x] else []))++(if cmpD x.1 y.1≠0 then [y] else [])) l
theorem mK {x:Ref1}:∀ (l o:List Ref1),(∀ y∈l,cmpD x.1 y.1<0)→putF x (true,o) l=(true,o++l)
 | [],o,_=>by simp[putF]
 | y::l,o,h=>by
   have hy:=h y (qAL ..);unfold putF;simp only[Bool.true_or,qAN,qCS,qA0,if_false,qAR]
   rw[zp (by omega),mK l _ fun z hz=>h z (qAK _ hz)];simp
theorem sG {x:Ref1}:∀ (l o:List Ref1),ld l→getM l x.1<x.2.1→0≤x.2.1→(if (putF x (false,o) l).1=true then (putF x (false,o) l).2 else (putF x (false,o) l).2++[x])=o++eH l x
 | [],o,_,_,_=>by simp[putF,eH]
 | y::l,o,h,hg,h0=>by
   have h1:=qA9.1 h;have hn:=cd.neg y.1 x.1;unfold putF eH;by_cases c:cmpD y.1 x.1<0
   · rw[zp c];have c2:¬ cmpD x.1 y.1≤0:=(by omega);simp only[qCW,qAZ,qBK,zf c2,qA0,if_false,qAR]
     rw[show (if cmpD x.1 y.1≠0 then [y] else [])=[y] from zp (by omega)];have hg2:getM l x.1<x.2.1:=by
       unfold getM at hg;rwa [zn (fun e=>by rw[e,(cd.zero _ _).2 rfl] at c; omega)] at hg
     rw[sG l (o++[y]) h1.2 hg2 h0,qAT]; rfl
   · rw[zn c];have c2:cmpD x.1 y.1≤0:=(by omega);simp only[qCW,qAZ,qBK,zt c2,if_true];by_cases c3:0<cmpD y.1 x.1
     · rw [zp c3, show (if cmpD x.1 y.1 ≠ 0 then [y] else []) = [y] from zp (by omega), mK l _ (fun z hz => by
         have q:cmpD y.1 z.1<0:=h1.1 z hz;exact cd.trans _ _ _ (by omega) q)]
       simp
     · rw[zn c3,show (if cmpD x.1 y.1≠0 then [y] else [])=[] from zn (by omega)];have e:y.1=x.1:=(cd.zero _ _).1 (by omega);rw[mK l _ (fun z hz=>by
         have q:cmpD y.1 z.1<0:=h1.1 z hz;rw[← e]; exact q)]
       have hg2:y.2.1<x.2.1:=by
         unfold getM at hg;rwa [zp e] at hg
       have ex:(y.1,max y.2.1 x.2.1,())=x:=by
         rw[e,show max y.2.1 x.2.1=x.2.1 by omega]
       rw[ex];simp
theorem ah7 {u:List Ref1}{x:Ref1} (hl:u.length<100000) (hr:ld u) (hx:oneM x=true) (hg:getM u x.1<x.2.1):zeh u x=some (eH u x):=by
 have h0:0≤x.2.1:=by
   unfold oneM at hx;simp only[k9,decide_eq_true_eq] at hx;omega
 have gen:∀ (l:List Ref1) (i:Nat) (s:Bool×List Ref1),cO (S:=Bool×List Ref1) (R:=(Bool×List Ref1×Unit)⊕List Ref1) (fun _ y s=>.inl ((s.1||decide (cmpD x.1 y.1≤0)),(s.2++(if (!s.1&&decide (cmpD x.1 y.1≤0))=true then [x] else []))++(if cmpD x.1 y.1≠0 then [y] else []))) (fun s=>.inl (s.1,s.2,())) i l s = .inl ((putF x s l).1,(putF x s l).2,()):=by
   intro l
   induction l with
   | nil=>intro i s; rfl
   | cons y l ih=>intro i s; unfold cO putF; exact ih _ _
 have lp:=aS (S:=Bool×List Ref1) (R:=(Bool×List Ref1×Unit)⊕List Ref1) (f:=w5 u x) (l:=u) (fun i s=>(s.1,(i:Int),s.2,())) (fun _ y s=>.inl ((s.1||decide (cmpD x.1 y.1≤0)),(s.2++(if (!s.1&&decide (cmpD x.1 y.1≤0))=true then [x] else []))++(if cmpD x.1 y.1≠0 then [y] else []))) (fun s=>.inl (s.1,s.2,())) (fun i s=>s.2.length≤2*i) (fun i hi s ho=>by
   obtain ⟨b,o⟩:=s;refine .inl ⟨_,rfl,?_,?_⟩
   · simp only at ho;unfold w5;simp only[ah];rw[zp (by omega),aI hi];simp only[zb,fN,aW];rw[wrap64 (n:=(i:Int)+1) (by omega) (by omega)]
     have tail:∀ (b:Bool) (o:List Ref1),o.length≤2*i+1→(if cmpD x.1 u[i].1=0 then some (.inl (b,(i:Int)+1,o,())) else (bh (o.length+[u[i]].length)).bind fun u8=>some (.inl (b,(i:Int)+1,o++[u[i]],())):Option ((Bool×Int×List Ref1×Unit)⊕((Bool×List Ref1×Unit)⊕List Ref1)))=some (.inl (b,((i+1:Nat):Int),o++(if cmpD x.1 u[i].1≠0 then [u[i]] else []),())):=fun b o ho=>by
       by_cases c:cmpD x.1 u[i].1=0
       · rw[zp c,zn (fun q=>q c),qAR]; rfl
       · rw[zn c,zp c,aL (by simp; omega)]; rfl
     cases b with
     | true =>
       simp only[qAN,cond_false];rw[ay];simp only;rw[tail true o (by omega)];simp
     | false =>
       simp only[qAZ,cond_true];by_cases c:cmpD x.1 u[i].1≤0
       · rw[zp c,aL (by simp; omega)];simp only[zb];rw[eG];simp only;rw[tail true (o++[x]) (by simp; omega)];simp[c]
       · rw[zn c,ay];simp only;rw[tail false o (by omega)];simp[c]
   · simp only[qAA];simp only at ho;have l1:(if (!b&&decide (cmpD x.1 u[i].1≤0))=true then [x] else []).length≤1:=by split<;>simp
     have l2:(if cmpD x.1 u[i].1≠0 then [u[i]] else []).length≤1:=(by split<;>simp);omega) (fun s _=>by
   unfold w5;simp only[ah];rw[zn (by omega)]) (false,[]) (by simp)
 unfold zeh;rw[aC3,hx,qh (by omega)];simp only[zb,qAN,cond_false,ah];rw[zn (by omega),show (false,(0:Int),([]:List Ref1),())=(false,((0:Nat):Int),[],()) from rfl,lp,gen,ay]
 have hj:=sG u [] hr hg h0;have hlen:(putF x (false,[]) u).2.length≤2*u.length:=by
   have:∀ (l:List Ref1) (s:Bool×List Ref1),(putF x s l).2.length≤s.2.length+2*l.length:=by
     intro l
     induction l with
     | nil=>intro s; simp[putF]
     | cons y l ih =>
       intro s;unfold putF;refine qB9 (ih _) ?_;have l1:(if (!s.1&&decide (cmpD x.1 y.1≤0))=true then [x] else []).length≤1:=by split<;>simp
       have l2:(if cmpD x.1 y.1≠0 then [y] else []).length≤1:=(by split<;>simp);simp only[qAA,zl];omega
   have:=this u (false,[]);simpa using this
 rw[qBB] at hj;simp only;cases hb:(putF x (false,[]) u).1 with
 | true =>
   rw[hb,zp rfl] at hj;rw[qAN,cond_false,hj]
 | false =>
   rw[hb,zn (by decide)] at hj;rw[qAZ,cond_true,aL (by simp; omega),← hj]; rfl
theorem aeV {u:List Ref1}{x:Ref1} (hl:u.length<100000) (hr:ld u) (hx:oneM x=true) (hg:getM u x.1<x.2.1):zdj u [x]=some (eH u x):=by
 have t1:rq [x] (u,0,())=some (.inl (eH u x,1,())):=by
   unfold rq;rw[show atI [x] 0=some x from rfl];simp only[zb,ah];rw[ah7 hl hr hx hg,zp (by simp)];rfl
 have t2:rq [x] (eH u x,1,())=some (.inr (eH u x)):=by
   unfold rq;rfl
 unfold zdj;rw[aG t1,aD t2]
theorem aaL {s:St1}{n:Nat}{d:Dot1}{redo b:Bool} (h:StOk s n) (hn:n<100000) (hb:zer s.2.2.2.1 d=some b):zcx s d redo=some (bX s d redo b):=by
 have hl:=h.txns;have hu:=h.undos.low hn;have hm:zeb s d=some (if b=true then 13 else if bd d=false then 2 else if getM s.2.1 d≥64 then 14 else 0):=by
   unfold zeb;rw[hb,oV h.undos hn,fp h.undos hn];simp only[zb];cases b with
   | true=>rfl
   | false =>
     by_cases c1:bd d=false<;>by_cases c2:getM s.2.1 d≥64<;>simp[c1,c2]
 unfold zcx bX;rw[hb,iW hu.len,hm];obtain ⟨r,hf,hr⟩:=tJ (l:=s.1) (d:=d) (by omega);rw[hf];simp only[zb,ah];rcases hr with ⟨r0,hno⟩ | ⟨k,rfl,hk,e⟩
 · have:kF s.1 d=false:=qDM.2 fun t ht=>by simpa using hno t ht
   rw[zp r0,zp this]
 · have:kF s.1 d=true:=List.any_eq_true.2 ⟨_,zm hk,zt e⟩;rw[zn (show ¬ (k:Int)<0 by omega),zn (show ¬ kF s.1 d=false by rw[this]; decide)];cases b with
   | true=>rfl
   | false =>
     simp only[cond_false,qA0,if_false];cases hs:dD s.2.1 d<;>cases redo<;>simp
theorem yf {s:St1}{n:Nat}{d:Dot1}{redo b:Bool} (h:StOk s n) (hn:n<10000) (ht:TxnsOk s.1 20) (hb:zer s.2.2.2.1 d=some b) :
   zcb s d redo=some (if bX s d redo b=0 then (allM s.1 s.2.1,allM s.1 (upU s d),0,()) else ([],[],bX s d redo b,())):=by
 unfold zcb;rw[aaL h (by omega) hb];simp only[zb,aW];by_cases c:bX s d redo b=0
 · obtain ⟨_,_,_,c4,c5⟩:=j4 c;have hp:=(lw ht (by omega)).low;have hu:=h.undos.low (by omega);have hv:=(aej h c4 c5).low (by omega);have hg0:=tz (d:=d) h.undos.one;have hl:=h.undos.len
   have h1:oneM (d,getM s.2.1 d+1,())=true:=by
     unfold oneM;simp only[k9,decide_eq_true_eq];exact ⟨c4,by omega,by omega⟩
   rw[zp c,zp c,oV h.undos (by omega),fp h.undos (by omega),zn (by rw[c4]; decide),zn (by omega)];simp only[zb,aW];rw[zp trivial];unfold zcs;rw[aeV (by omega) h.undos.rise h1 (by simp only; omega)]
   simp only[zb];rw[yq hp hu];simp only[zb];have:=yq hp hv;unfold upU at this;rw[this];rfl
 · rw[zn c,zn c]
end Go.Proofs.YtnbgkhdcidbkaaaGreatDoor.Q
namespace Go.Proofs.YtnbgkhdcidbkaaaGreatDoor.Q
open Go.EM Go.TY Go.Proofs Go.Proofs.YtnbgkhdcidbkaaaGreatDoor.Y
theorem aeU {s:St1}{n:Nat}{d:Dot1}{redo b:Bool} (h:StOk s n) (hn:n<10000) (ht:TxnsOk s.1 20) (hb:zer s.2.2.2.1 d=some b) :
   zex s d redo=some (if bX s d redo b=0 then (dM (gj (allM s.1 s.2.1)) (gj (allM s.1 (upU s d))),0,()) else ([],bX s d redo b,())):=by
 unfold zex;rw[yf h hn ht hb];simp only[zb,aW];have ia:=dS (u:=s.2.1) ht;have ib:=dS (u:=upU s d) ht;by_cases c:bX s d redo b=0
 · rw[zp c,zp c];simp only;rw[zp trivial,aeT ia];simp only[zb];rw[aeT ib];simp only[zb];rw[ar3 (jN ia) (jN ib)];rfl
 · rw[zn c,zn c];simp only;rw[zn c]
theorem yU {l:List aQ}{x:Ref1} (h:l.length<100000):zec l x=some (hasI l x):=by
 have:=fQ (f:=w8 l x) (l:=l) (fun i=>((i:Int),())) (fun y=>decide (x=y.1)) true false (fun i hi=>by
   unfold w8;simp only[ah];rw[zp (by omega),aI hi,wrap64 (by omega) (by omega)];simp only[zb]
   rw[show eqV (.agg (.cons (.agg (.cons (.int .i64) (.cons (.int .i64) .unit))) (.cons (.int .i64) .unit))) l[i].1 x=decide (l[i].1=x) from wq _ _,ah];by_cases c:l[i].1=x
   · rw[zp c,zp (zt c.symm)]
   · rw[zn c,zn (by simpa using fun e=>c e.symm)]; rfl) (by
   unfold w8;simp only[ah];rw[zn (by omega)])
 unfold zec hasI;rw[show ((0:Int),())=(((0:Nat):Int),()) from rfl,this];cases l.any (fun y=>decide (x=y.1))<;>rfl
theorem foldl_flat {A B:Type}{g:A→List B}:∀ (l:List A) (o:List B),l.foldl (fun s x=>s++g x) o=o++l.flatMap g
 | [],o=>by simp
 | x::l,o=>by rw[qAX,foldl_flat l,qA5,qAT]
theorem aeR {a b:List aQ}{e:Int} (ha:a.length<10000) (hb:b.length<10000):aH (rB (a,b,e,())) (0,[],())=some (.inl (dh a b,())):=by
 have lp:=aS (S:=List aQ) (R:=(List aQ×Unit)⊕(List b8×Int×Unit)) (f:=rB (a,b,e,())) (l:=a) (fun i o=>((i:Int),o,())) (fun _ x o=>.inl (o++(if hasI b x.1=true then [] else [x]))) (fun o=>.inl (o,())) (fun i o=>o.length≤i) (fun i hi o ho=>by
   refine .inl ⟨_,rfl,?_,?_⟩
   · unfold rB;simp only[ah];rw[zp (by omega),aI hi];simp only[zb];rw[yU (by omega),wrap64 (by omega) (by omega),aL (by simp; omega)];simp only[zb];cases hasI b a[i].1 with
     | false=>rfl
     | true=>simp
   · rw[qAA];have:(if hasI b a[i].1=true then [] else [a[i]]).length≤1:=(by split<;>simp);omega) (fun o _=>by
   unfold rB;simp only[ah];rw[zn (by omega)]) [] (by simp)
 rw[show ((0:Int),([]:List aQ),())=(((0:Nat):Int),[],()) from rfl,lp,bi,foldl_flat];rfl
theorem aeQ {a b:List aQ}{e:Int}{o:List aQ} (ha:a.length<10000) (hb:b.length<10000) (ho:o.length<10000):aH (lQ (a,b,e,())) (0,o,())=some (.inl (o++dh b a,())):=by
 have lp:=aS (S:=List aQ) (R:=(List aQ×Unit)⊕(List b8×Int×Unit)) (f:=lQ (a,b,e,())) (l:=b) (fun i o=>((i:Int),o,())) (fun _ x o=>.inl (o++(if hasI a x.1=true then [] else [x]))) (fun o=>.inl (o,())) (fun i o=>o.length≤i+10000) (fun i hi o ho=>by
   refine .inl ⟨_,rfl,?_,?_⟩
   · unfold lQ;simp only[ah];rw[zp (by omega),aI hi];simp only[zb];rw[yU (by omega),wrap64 (by omega) (by omega),aL (by simp; omega)];simp only[zb];cases hasI a b[i].1 with
     | false=>rfl
     | true=>simp
   · rw[qAA];have:(if hasI a b[i].1=true then [] else [b[i]]).length≤1:=(by split<;>simp);omega) (fun o _=>by
   unfold lQ;simp only[ah];rw[zn (by omega)]) o (by omega)
 rw[show ((0:Int),o,())=(((0:Nat):Int),o,()) from rfl,lp,bi,foldl_flat];rfl
theorem sA {s:St1}{n:Nat}{d:Dot1}{redo b:Bool} (h:StOk s n) (hn:n<10000) (ht:TxnsOk s.1 20) (hb:zer s.2.2.2.1 d=some b) :
   zbx s d redo=some (if bX s d redo b=0 then (aeo (allM s.1 s.2.1) (allM s.1 (upU s d)),0,()) else ([],bX s d redo b,())):=by
 unfold zbx;rw[yf h hn ht hb];simp only[zb,aW];have ia:=dS (u:=s.2.1) ht;have ib:=dS (u:=upU s d) ht;have la:=ia.len;have lb:=ib.len;have w1:=dV (a:=allM s.1 s.2.1) (b:=allM s.1 (upU s d))
 by_cases c:bX s d redo b=0
 · rw[zp c,zp c];simp only;rw[zp trivial,aeR (by omega) (by omega),ay];simp only;rw[aeQ (by omega) (by omega) (by omega),ay];simp only;rw[mD (ix ia ib)];rfl
 · rw[zn c,zn c];simp only;rw[zn c]
theorem yl {l:List Chg} (h:l.length<100000) (hl:∀ c∈l,lowE c.2.1∧lowE c.2.2.1):zd6 l l=some true:=by
 have lp:=eW (f:=xl l l) (l:=l) (fun i=>((i:Int),())) (fun _=>true) true false (fun i hi=>by
   have hc:=hl _ (zm hi);unfold xl;simp only[ah];rw[zp (by omega),aI hi];simp only[zb,decide_true,qAN,cond_false];rw[ahO (by simp)];simp only[zb];rw[mG (by simp) (fun e he=>by
     simp only[qAS,qDF,or_false] at he;rcases he with rfl | rfl
     · exact hc.1
     · exact hc.2),wrap64 (by omega) (by omega)]
   simp) (by
   unfold xl;simp only[ah];rw[zn (by omega)])
 rw[zp (by simp)] at lp;unfold zd6;simp only[decide_true,qAN,cond_false];exact lp
theorem o7 {l:List b8} (h:l.length<1000000) (hl:∀ y∈l,y.1.length<1000000):zb0 l l=some true:=by
 have lp:=eW (f:=xV l l) (l:=l) (fun i=>((i:Int),())) (fun _=>true) true false (fun i hi=>by
   unfold xV;simp only[ah];rw[zp (by omega),aI hi];simp only[zb,decide_true,qAN,cond_false];rw[mC (hl _ (zm hi)),wrap64 (by omega) (by omega)];simp) (by
   unfold xV;simp only[ah];rw[zn (by omega)])
 rw[zp (by simp)] at lp;unfold zb0;simp only[decide_true,qAN,cond_false];exact lp
theorem mn {l:List Dot1} (h:l.length<1000000):zdw l l=some true:=by
 have lp:=eW (f:=lN l l) (l:=l) (fun i=>((i:Int),())) (fun _=>true) true false (fun i hi=>by
   unfold lN;simp only[ah,gA];rw[zp (by omega),aI hi,wrap64 (by omega) (by omega)];simp) (by
   unfold lN;simp only[ah];rw[zn (by omega)])
 rw[zp (by simp)] at lp;unfold zdw;simp only[decide_true,qAN,cond_false];exact lp
theorem afp {t:Txn1}{d:Dot1} (ho:t.2.2.2.2.1.length≤1000) (hs:∀ o∈t.2.2.2.2.1,o.2.2.2.2.1.length<1000000):zcz t d=some (opsN t.2.2.2.2.1 d):=by
 have lp:=fQ (f:=xr t d) (l:=t.2.2.2.2.1) (fun i=>((i:Int),())) (fun o=>jU o.2.2.2.2.1 d) true false (fun i hi=>by
   have hso:=hs _ (zm hi)
   have inner:=fQ (f:=xq ((i:Int),()) t d) (l:=t.2.2.2.2.1[i].2.2.2.2.1) (fun j=>((j:Int),())) (fun r=>decide (r.1=d)) (.inr true:(Int×Unit)⊕Bool) (.inl (((i+1:Nat):Int),())) (fun j hj=>by
     unfold xq;rw[aI hi];simp only[zb,ah,gA];rw[zp (by omega),aI hj,wrap64 (n:=(j:Int)+1) (by omega) (by omega)];simp only[zb,decide_eq_true_eq];by_cases c:t.2.2.2.2.1[i].2.2.2.2.1[j].1=d
     · rw[zp c,zp c]
     · rw[zn c,zn c]; rfl) (by
     unfold xq;rw[aI hi];simp only[zb,ah];rw[zn (by omega),wrap64 (by omega) (by omega)]; rfl)
   unfold xr;simp only[ah];rw[zp (by omega),show ((0:Int),())=(((0:Nat):Int),()) from rfl,inner];unfold jU;cases t.2.2.2.2.1[i].2.2.2.2.1.any (fun r=>decide (r.1=d))<;>rfl) (by
   unfold xr;simp only[ah];rw[zn (by omega)])
 unfold zcz opsN;rw[show ((0:Int),())=(((0:Nat):Int),()) from rfl,lp];cases t.2.2.2.2.1.any (fun o=>jU o.2.2.2.2.1 d)<;>rfl
theorem aaJ {l:List Txn1} (h:nT l) {i k:Nat} (hi:i<l.length) (hk:k<l.length) (e:l[i].1=l[k].1):i=k:=by
 rcases Nat.lt_trichotomy i k with q | q | q
 · have:=List.pairwise_iff_getElem.1 h i k hi hk q;have q2:cmpD l[i].1 l[k].1<0:=this;rw[e,(cd.zero _ _).2 rfl] at q2; omega
 · exact q
 · have:=List.pairwise_iff_getElem.1 h k i hk hi q;have q2:cmpD l[k].1 l[i].1<0:=this;rw[e,(cd.zero _ _).2 rfl] at q2; omega
theorem sB {s:St1}{a:Dot1}{l:List Dot1} (h:LowN s.1) (hp:zbm s a=some l):zde s a=some l:=by
 have hl:=h.len;unfold zde;obtain ⟨r,hf,hr⟩:=tJ (l:=s.1) (d:=a) (by omega);rw[hf];simp only[zb];rcases vN (a:=a) h with ⟨e,hn⟩ | ⟨t,ht,hta,e⟩
 · rw[e] at hp;cases hp;rcases hr with ⟨r0,_⟩ | ⟨k,_,hk,e2⟩
   · refine aD ?_;unfold rt;simp only[ah];by_cases c:(0:Int)<(s.1.length:Int)
     · rw[zp c,zn (by omega)]
     · rw[zn c]
   · exact absurd e2 (hn _ (zm hk))
 · rw[e] at hp;cases hp;rcases hr with ⟨_,hno⟩ | ⟨k,rfl,hk,e2⟩
   · exact absurd hta (hno t ht)
   · have et:s.1[k]=t:=ah3 h.rise (zm hk) ht (by rw[e2,hta])
     have out:=cM (R:=List Dot1) (f:=rt s (k:Int)) (l:=s.1) (fun i o=>((i:Int),o,())) (fun x=>if opsN t.2.2.2.2.1 x.1=true∧x.1≠t.1 then [x.1] else []) (fun o=>o) 1 (fun x _=>by split<;>simp) (fun i hi o ho=>by
       unfold rt;simp only[ah,aW];rw[zp (by omega),zp (by omega),wrap64 (by omega) (by omega)];by_cases c:(i:Int)=(k:Int)
       · have:i=k:=(by omega);subst this;rw[zp c,zn (by rw[et]; exact fun q=>q.2 rfl)]; simp
       · have ne:s.1[i].1≠t.1:=fun q=>c (by rw[aaJ h.rise hi hk (by rw[et]; exact q)]);rw[zn c,aI hk,aI hi,et];simp only[zb];rw[afp (h.ops _ ht) (h.refs _ ht),aL (by simp; omega)];simp only[zb]
         cases hx:opsN t.2.2.2.2.1 s.1[i].1 with
         | false=>rw[zn (fun q=>by cases q.1)]; simp
         | true=>rw[zp ⟨rfl,ne⟩]; rfl) (fun o _=>by
       unfold rt;simp only[ah];rw[zn (by omega)])
     exact out
theorem nV {s:St1}{d:Dot1} (h:LowN s.1):zby s d=some (ju s.1 d):=by
 have hl:=h.len
 have out:=cM (R:=List Dot1) (f:=xG s d) (l:=s.1) (fun i o=>((i:Int),o,())) (fun t=>if t.1≠d∧opsN t.2.2.2.2.1 d=true then [t.1] else []) (fun o=>o) 1 (fun x _=>by split<;>simp) (fun i hi o ho=>by
   unfold xG;simp only[ah];rw[zp (by omega),aI hi];simp only[zb];rw[afp (h.ops _ (zm hi)) (h.refs _ (zm hi)),wrap64 (by omega) (by omega),gA];simp only[zb,aW];by_cases c:s.1[i].1=d
   · rw[zp c,zn (fun q=>q.1 c)]; simp
   · rw[zn c];cases hx:opsN s.1[i].2.2.2.2.1 d with
     | false=>rw[zn (fun q=>by cases q.2)]; simp
     | true =>
       rw[zp ⟨c,rfl⟩,aL (by simp; omega)];rfl) (fun o _=>by
   unfold xG;simp only[ah];rw[zn (by omega)])
 exact out
theorem lg (aw:zcu=some true) {s:St1}{d:Dot1}{redo:Bool} (hw:Wide s):zba s d redo=some true:=by
 obtain ⟨g,h1,h2⟩:=aiG hw;unfold zba;rw[h1];simp only[zb,aw];cases g with
 | false=>rfl
 | true =>
 have hs:=h2 rfl;have st:=hs.st;have hlow:=hs.txns.lowN;have hll:=hlow.len;obtain ⟨b,hb,hb6⟩:=aiB (d:=d) hs.fast (sv hs.fast (afR h1))
 obtain ⟨b',hb',hm,hof⟩:=of_t (d:=d) (redo:=redo) st (by omega) hs.txns;rw[hb] at hb';cases hb';have ia:=dS (u:=s.2.1) hs.txns;have ib:=dS (u:=upU s d) hs.txns;have va:=jN ia;have vb:=jN ib
 have hfew:=aDo va vb;have hdl:=aDm va.low vb.low;have hwl:=ix ia ib;rw[qAN,cond_false,hof];simp only[zb];rw[aeU st (by omega) hs.txns hb6];simp only[zb];rw[aen st (by omega) hs.txns hm]
 simp only[zb];rw[sA st (by omega) hs.txns hb6];simp only[zb]
 have same:∀ x:List Chg×Int×Unit,x=(if bX s d redo b=0 then (dM (gj (allM s.1 s.2.1)) (gj (allM s.1 (upU s d))),0,()) else ([],bX s d redo b,()))→zd6 x.1 x.1=some true:=fun x hx=>by
   by_cases c:bX s d redo b=0
   · rw[zp c] at hx;subst hx;exact yl (by simp only; omega) fun y hy=>hdl y hy
   · rw[zn c] at hx;subst hx;exact yl (by simp) fun y hy=>by cases hy
 have lvs:∀ x:List b8×Int×Unit,x=(if bX s d redo b=0 then (aeo (allM s.1 s.2.1) (allM s.1 (upU s d)),0,()) else ([],bX s d redo b,()))→zb0 x.1 x.1=some true:=fun x hx=>by
   by_cases c:bX s d redo b=0
   · rw[zp c] at hx;subst hx;exact o7 (vW hwl) fun y hy=>(sV hwl y hy).1
   · rw[zn c] at hx;subst hx;exact o7 (by simp) fun y hy=>by cases hy
 rw[same _ rfl];simp only[zb,cond_true,decide_true];rw[lvs _ rfl];simp only[zb,cond_true];have key:∃ l,zbm s d=some l∧l.length≤1000:=by
   rcases vN (a:=d) hlow with ⟨e,_⟩ | ⟨t,_,_,e⟩
   · exact ⟨_,e,by simp⟩
   · exact ⟨_,e,qB9 vO hll⟩
 obtain ⟨l,e,hle⟩:=key;have hc:=qR (l:=s.1) (d:=d);rw[e,sB hlow e];simp only[zb];rw[mn (by omega)];simp only[zb,cond_true];rw[po hlow,nV hlow];simp only[zb];rw[mn (by omega)];rfl
theorem abt:∀ v:u9.ps.V,okV u9.ps v→u9.fn v=some true:=fun v h=>lg asi (ara h.1)
end Go.Proofs.YtnbgkhdcidbkaaaGreatDoor.Q
