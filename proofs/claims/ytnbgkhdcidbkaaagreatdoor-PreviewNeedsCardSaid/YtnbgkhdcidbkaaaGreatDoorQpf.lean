import Derived.Test.YtnbgkhdcidbkaaaGreatDoorQpa
set_option linter.unusedVariables false
set_option linter.unusedSimpArgs false
set_option maxRecDepth 100000
namespace Go.Proofs.YtnbgkhdcidbkaaaGreatDoor.Q
open Go.EM Go.TY Go.Proofs Go.Proofs.YtnbgkhdcidbkaaaGreatDoor.Y
abbrev loT (d:Dot1) (l:List Txn1):List Txn1:=lo cmpD (·.1) d l
abbrev hiT (d:Dot1) (l:List Txn1):List Txn1:=hi cmpD (·.1) d l
theorem agW {R X:Type}{key:X→Dot1}{f:Int×Int×Unit→Option ((Int×Int×Unit)⊕((Int×Unit)⊕R))}{l:List X}{d:Dot1} (hr:iM cmpD key l)
   (hturn:∀ i j:Nat,i<j→j≤l.length→∀ h:(i+j)/2<l.length,f ((i:Int),(j:Int),())=some (.inl (if cmpD (key l[(i+j)/2]) d<0 then ((((i+j)/2+1:Nat):Int),(j:Int),()) else ((i:Int),(((i+j)/2:Nat):Int),()))))
   (hend:∀ i:Nat,f ((i:Int),(i:Int),())=some (.inr (.inl ((i:Int),())))) :
   aK f ((0:Int),(l.length:Int),())=some (.inl (((lo cmpD key d l).length:Int),())):=by
 have hlen:(lo cmpD key d l).length≤l.length:=by
   have e:lo cmpD key d l++hi cmpD key d l=l:=lohi
   have:=congrArg List.length e
   rw[List.length_append] at this; omega
 have key:∀ (q i j:Nat),j-i≤q→i≤(lo cmpD key d l).length→(lo cmpD key d l).length≤j→j≤l.length→aK f ((i:Int),(j:Int),())=some (.inl (((lo cmpD key d l).length:Int),())):=by
   intro q
   induction q with
   | zero =>
     intro i j h1 h2 h3 h4
     have e:i=j:=by omega
     subst e
     rw[aD (hend i),show (lo cmpD key d l).length=i by omega]
   | succ q ih =>
     intro i j h1 h2 h3 h4
     by_cases hij:i<j
     · have hh:(i+j)/2<l.length:=by omega
       have ht:=hturn i j hij h4 hh
       by_cases hn:(i+j)/2<(lo cmpD key d l).length
       · rw[zp (anz hh hn)] at ht
         rw[aJ ht]
         exact ih _ _ (by omega) (by omega) h3 h4
       · have:=anA d5 hr hh (k:=d) (Nat.le_of_not_lt hn)
         rw[zn (by omega)] at ht
         rw[aJ ht]
         exact ih _ _ (by omega) h2 (by omega) (by omega)
     · have e:i=j:=by omega
       subst e
       rw[aD (hend i),show (lo cmpD key d l).length=i by omega]
 exact key l.length 0 l.length (by omega) (by omega) hlen (Nat.le_refl _)
def uT (q:List Txn1) (d:Dot1):Bool:=match q with
 | []=>false
 | x::_=>decide (cmpD x.1 d=0)
theorem ac5 {l:List Txn1}{d:Dot1}{x:Txn1}{q:List Txn1} (h:hiT d l=x::q):∃ hk:(loT d l).length<l.length,l[(loT d l).length]=x:=by
 have e:loT d l++hiT d l=l:=lohi
 rw[h] at e
 have hl:=congrArg List.length e
 simp only[List.length_append,zl] at hl
 have e3:(loT d l++x::q)[(loT d l).length]? = some x:=by simp
 rw[e] at e3
 have hk:(loT d l).length<l.length:=by omega
 rw[zg hk] at e3
 exact ⟨hk,Option.some.inj e3⟩
theorem ac4 {l:List Txn1}{d:Dot1} (h:hiT d l=[]):(loT d l).length=l.length:=by
 have e:loT d l++hiT d l=l:=lohi
 rw[h,List.append_nil] at e
 rw[e]
theorem sH {l:List Txn1}{d:Dot1} (hl:l.length<1000000) (hr:np l) :
   zae l d ()=some (((loT d l).length:Int),uT (hiT d l) d,()):=by
 have h:aK (qT l d) ((0:Int),(l.length:Int),())=some (.inl (((loT d l).length:Int),())):=agW (key:=fun t:Txn1=>t.1) (f:=qT l d) (d:=d) hr (fun i j hij hj hh=>by
   unfold qT zc3
   simp only[ae]
   rw[zp (by omega),show (i:Int)+(j:Int)=((i+j:Nat):Int) by omega,sC (by omega)]
   simp only[zb]
   rw[wrap64 (n:=(((i+j)/2:Nat):Int)) (by omega) (by omega),aP hh]
   simp only[zb,mN]
   rw[wrap64 (by omega) (by omega)]
   by_cases hc:cmpD l[(i+j)/2].1 d<0
   · rw[zp hc,zp hc]; rfl
   · rw[zn hc,zn hc]) (fun i=>by
   unfold qT
   simp only[ae]
   rw[zn (by omega)])
 unfold zae
 rw[h,ay]
 simp only[ae]
 cases hq:hiT d l with
 | nil=>rw[ac4 hq,zn (by omega)]; rfl
 | cons x q =>
   obtain ⟨hk,e⟩:=ac5 hq
   rw[zp (by omega),aP hk,e]
   unfold zc3
   simp only[zb,mN]
   rfl
theorem acI {l:List Txn1}{d:Dot1} (hl:l.length<1000000) (hr:np l) :
   zaf l d ()=some (((loT d l).length:Int),uT (hiT d l) d,()):=by
 have h:aK (qS l d) ((0:Int),(l.length:Int),())=some (.inl (((loT d l).length:Int),())):=agW (key:=fun t:Txn1=>t.1) (f:=qS l d) (d:=d) hr (fun i j hij hj hh=>by
   unfold qS zdc
   simp only[ae]
   rw[zp (by omega),show (i:Int)+(j:Int)=((i+j:Nat):Int) by omega,sC (by omega)]
   simp only[zb]
   rw[wrap64 (n:=(((i+j)/2:Nat):Int)) (by omega) (by omega),aP hh]
   simp only[zb,mN]
   rw[wrap64 (by omega) (by omega)]
   by_cases hc:cmpD l[(i+j)/2].1 d<0
   · rw[zp hc,zp hc]; rfl
   · rw[zn hc,zn hc]) (fun i=>by
   unfold qS
   simp only[ae]
   rw[zn (by omega)])
 unfold zaf
 rw[h,ay]
 simp only[ae]
 cases hq:hiT d l with
 | nil=>rw[ac4 hq,zn (by omega)]; rfl
 | cons x q =>
   obtain ⟨hk,e⟩:=ac5 hq
   rw[zp (by omega),aP hk,e]
   unfold zdc
   simp only[zb,mN]
   rfl
theorem adq {l:List Txn1}{d:Dot1} (hr:np l) (h:uT (hiT d l) d=false):∀ t∈l,t.1≠d:=by
 intro t ht e
 have e2:loT d l++hiT d l=l:=lohi
 rw[← e2] at ht
 rcases List.mem_append.1 ht with ht | ht
 · have:=jf (c:=cmpD) (key:=fun y:Txn1=>y.1) (k:=d) (l:=l) t ht
   have q:cmpD t.1 d<0:=this
   rw[e,(d5.zero _ _).2 rfl] at q; omega
 · cases hq:hiT d l with
   | nil=>rw[hq] at ht; cases ht
   | cons x q =>
     rw[hq] at ht h
     have ha:=kY d5 hr hq
     unfold uT at h
     simp only[decide_eq_false_iff_not] at h
     rcases List.mem_cons.1 ht with e3 | ht
     · rw[← e3,e] at h; exact h ((d5.zero _ _).2 rfl)
     · have q:0<cmpD t.1 d:=ha.2 t ht
       rw[e,(d5.zero _ _).2 rfl] at q; omega
theorem adz {l:List Txn1}{d:Dot1} (hl:l.length<1000000) (hr:np l) :
   (zdw l d=some (-1)∧∀ t∈l,t.1≠d)∨∃ k:Nat,zdw l d=some (k:Int)∧∃ h:k<l.length,l[k].1=d:=by
 unfold zdw
 rw[sH hl hr]
 simp only[zb]
 cases hh:uT (hiT d l) d with
 | false=>exact .inl ⟨rfl,adq hr hh⟩
 | true =>
   cases hq:hiT d l with
   | nil=>rw[hq] at hh; cases hh
   | cons x q =>
     rw[hq] at hh
     obtain ⟨hk,e⟩:=ac5 hq
     exact .inr ⟨_,rfl,hk,by rw[e]; exact (d5.zero _ _).1 (of_decide_eq_true hh)⟩
abbrev ru:Ty:=(.agg (.cons (.int .i64) (.cons (.int .i64) .unit)))
theorem sS {x y:Dot1}{v:Bool}:∀ {m:List (Dot1×Bool)},fv ru x (putK ru y v m)=if x=y then some v else fv ru x m
 | []=>by
   unfold putK fv
   rw[kc,ae]
   unfold fv
   rfl
 | e::m=>by
   unfold putK
   rw[kc]
   by_cases hy:y=e.1
   · rw[zt hy,cond_true]
     conv=>lhs; unfold fv
     conv=>rhs; rhs; unfold fv
     rw[kc,kc,ae,ae,← hy]
     by_cases hx:x=y
     · rw[zp hx,zp hx]
     · rw[zn hx,zn hx,zn hx]
   · rw[zf hy,cond_false]
     conv=>lhs; unfold fv
     conv=>rhs; rhs; unfold fv
     rw[kc,ae,ae,sS]
     by_cases hx:x=e.1
     · rw[zp hx,zn (fun e'=>hy (by rw[← e',hx])),zp hx]
     · rw[zn hx,zn hx]
def hasD (x:Dot1) (m:List (Dot1×Bool)):Bool:=(getK ru false x m).1
theorem afU {x y:Dot1}{m:List (Dot1×Bool)}:hasD x (putK ru y true m)=(decide (y=x)||hasD x m):=by
 unfold hasD getK
 rw[sS]
 by_cases h:x=y
 · rw[zp h,zt h.symm]; rfl
 · rw[zn h,zf (fun e=>h e.symm),Bool.false_or]
def act (m:List (Dot1×Bool)) (l:List Ref1):List (Dot1×Bool):=l.foldl (fun m x=>putK ru x.1 true m) m
def nq (l:List Ref1) (d:Dot1):Bool:=l.any fun r=>decide (r.1=d)
theorem sy {x:Dot1}:∀ {l:List Ref1}{m:List (Dot1×Bool)},hasD x (act m l)=(nq l x||hasD x m)
 | [],m=>rfl
 | y::l,m=>by
   have:=sy (x:=x) (l:=l) (m:=putK ru y.1 true m)
   unfold act nq at this ⊢
   rw[List.foldl_cons,this,afU,List.any_cons]
   cases decide (y.1=x)<;>cases l.any (fun r=>decide (r.1=x))<;>rfl
def opsD (m:List (Dot1×Bool)) (l:List Op1):List (Dot1×Bool):=l.foldl (fun m o=>act m o.2.2.2.2.1) m
def opsN (l:List Op1) (d:Dot1):Bool:=l.any fun o=>nq o.2.2.2.2.1 d
theorem xi {x:Dot1}:∀ {l:List Op1}{m:List (Dot1×Bool)},hasD x (opsD m l)=(opsN l x||hasD x m)
 | [],m=>rfl
 | o::l,m=>by
   have:=xi (x:=x) (l:=l) (m:=act m o.2.2.2.2.1)
   unfold opsD opsN at this ⊢
   rw[List.foldl_cons,this,sy,List.any_cons]
   cases nq o.2.2.2.2.1 x<;>cases l.any (fun o=>nq o.2.2.2.2.1 x)<;>rfl
structure LowN (l:List Txn1):Prop where
 len:l.length≤1000
 rise:np l
 ops:∀ t∈l,t.2.2.2.2.1.length≤1000
 refs:∀ t∈l,∀ o∈t.2.2.2.2.1,o.2.2.2.2.1.length<1000000
theorem TxnsOk.lowN {l:List Txn1} (h:TxnsOk l 20):LowN l:=by
 have low:=(kV h (by omega)).low
 exact ⟨low.len,h.rise,low.ops,low.seen⟩
theorem yV {t:Txn1} (ho:t.2.2.2.2.1.length≤1000) (hs:∀ o∈t.2.2.2.2.1,o.2.2.2.2.1.length<1000000) :
   aK (qN t) (0,[],())=some (.inl (opsD [] t.2.2.2.2.1,())):=by
 have mid:=bG (S:=List (Dot1×Bool)) (R:=((List (Dot1×Bool)×Unit)⊕List Dot1)) (f:=qN t) (l:=t.2.2.2.2.1) (fun k m=>((k:Int),m,())) (fun _ o m=>.inl (act m o.2.2.2.2.1)) (fun m'=>.inl (m',())) (fun _ _=>True) (fun k hk m' _=>by
   refine .inl ⟨_,rfl,?_,trivial⟩
   have hseen:=hs _ (zm hk)
   unfold qN
   simp only[ae]
   rw[zp (by omega),aP hk]
   simp only[zb]
   have inner:=bG (S:=List (Dot1×Bool)) (f:=wk ((k:Int),m',()) t.2.2.2.2.1[k]) (l:=t.2.2.2.2.1[k].2.2.2.2.1) (fun j m=>((j:Int),m,())) (fun _ x m=>.inl (putK ru x.1 true m)) (fun m''=>(.inl (((k+1:Nat):Int),m'',()):(Int×List (Dot1×Bool)×Unit)⊕((List (Dot1×Bool)×Unit)⊕List Dot1))) (fun _ _=>True) (fun j hj m'' _=>by
     refine .inl ⟨_,rfl,?_,trivial⟩
     unfold wk
     simp only[ae]
     rw[zp (by omega),aP hj]
     simp only[zb]
     rw[wrap64 (by omega) (by omega)]; rfl) (fun m'' _=>by
     unfold wk
     simp only[ae]
     rw[zn (by omega),wrap64 (by omega) (by omega)]; rfl) m' trivial
   rw[show ((0:Int),m',())=(((0:Nat):Int),m',()) from rfl,inner,ct]
   rfl) (fun m' _=>by
   unfold qN
   simp only[ae]
   rw[zn (by omega)]) [] trivial
 rw[show ((0:Int),([]:List (Dot1×Bool)),())=(((0:Nat):Int),[],()) from rfl,mid,ct]
 rfl
def jW (l:List Txn1) (t:Txn1):List Dot1:=l.flatMap fun x=>if opsN t.2.2.2.2.1 x.1=true∧x.1≠t.1 then [x.1] else []
def dY (l:List Txn1) (d:Dot1):List Dot1:=l.flatMap fun t=>if t.1≠d∧opsN t.2.2.2.2.1 d=true then [t.1] else []
theorem acZ {s:St1}{a:Dot1} (h:LowN s.1) :
   (zbm s a=some []∧∀ t∈s.1,t.1≠a)∨∃ t∈s.1,t.1=a∧zbm s a=some (jW s.1 t):=by
 have hl:=h.len
 unfold zbm
 rcases adz (d:=a) (l:=s.1) (by omega) h.rise with ⟨hf,hn⟩ | ⟨k,hf,hk,ha⟩
 · rw[hf]
   exact .inl ⟨rfl,hn⟩
 · refine .inr ⟨s.1[k],zm hk,ha,?_⟩
   rw[hf]
   simp only[zb,ae]
   rw[zn (by omega),aP hk]
   simp only[zb]
   rw[yV (h.ops _ (zm hk)) (h.refs _ (zm hk)),ay]
   have out:=eq (R:=List Dot1) (f:=pn s a) (l:=s.1) (fun i o=>((i:Int),opsD [] s.1[k].2.2.2.2.1,o,())) (fun x=>if opsN s.1[k].2.2.2.2.1 x.1=true∧x.1≠s.1[k].1 then [x.1] else []) (fun o=>o) 1 (fun x _=>by split<;>simp) (fun i hi o ho=>by
     have hh:(getK (.agg (.cons (.int .i64) (.cons (.int .i64) .unit))) false s.1[i].1 (opsD [] s.1[k].2.2.2.2.1)).1=opsN s.1[k].2.2.2.2.1 s.1[i].1:=by
       have:=xi (x:=s.1[i].1) (l:=s.1[k].2.2.2.2.1) (m:=[])
       unfold hasD at this
       rw[this]
       show (_||false)=_
       rw[Bool.or_false]
     unfold pn
     simp only[ae]
     rw[zp (by omega),aP hi]
     simp only[zb]
     rw[hh,wrap64 (by omega) (by omega),kc]
     cases hx:opsN s.1[k].2.2.2.2.1 s.1[i].1 with
     | false=>simp
     | true =>
       simp only[cond_true,bm]
       by_cases c:s.1[i].1=a
       · rw[zp c,zn (by rw[ha]; exact fun q=>q.2 c)]; simp
       · rw[zn c,zp ⟨trivial,by rw[ha]; exact c⟩,aW (by simp; omega)]
         rfl) (fun o _=>by
     unfold pn
     simp only[ae]
     rw[zn (by omega)])
   exact out
theorem qt {l:List Ref1}{d:Dot1} (h:l.length<1000000):zag l (d,())=some (nq l d):=by
 obtain ⟨r,h1,h2⟩:=cd (S:=Unit) (f:=wC l (d,())) l.length (fun i _=>((i:Int),())) (fun i _=>∀ k (hk:k<l.length),k<i→l[k].1≠d) (fun r=>(r<0∧nq l d=false)∨(0≤r∧nq l d=true)) (fun i _ hi hv=>by
   unfold wC za6
   simp only[ae,kc]
   rw[zp (by omega),aP hi,wrap64 (by omega) (by omega)]
   simp only[zb,ae]
   by_cases c:l[i].1=d
   · rw[zp c]
     exact .inr ⟨_,rfl,.inr ⟨by omega,List.any_eq_true.2 ⟨_,zm hi,zt c⟩⟩⟩
   · rw[zn c]
     exact .inl ⟨(),rfl,fun k hk hki=>by
       by_cases e:k=i
       · subst e; exact c
       · exact hv k hk (by omega)⟩) (fun _ hv=>by
   unfold wC
   simp only[ae]
   rw[zn (by omega)]
   exact ⟨_,rfl,.inl ⟨by omega,List.any_eq_false.2 fun x hx=>by
     obtain ⟨k,hk,rfl⟩:=List.mem_iff_getElem.1 hx
     simpa using hv k hk hk⟩⟩) () (fun k hk hki=>by omega)
 unfold zag zah
 rw[show ((0:Int),())=(((0:Nat):Int),()) from rfl,h1]
 simp only[zb]
 rcases h2 with ⟨q,e⟩ | ⟨q,e⟩
 · rw[e,zf (by omega)]
 · rw[e,zt (by omega)]
theorem sU {l:List Op1}{d:Dot1} (h:l.length≤1000) (hs:∀ o∈l,o.2.2.2.2.1.length<1000000):zaj l (d,())=some (opsN l d):=by
 obtain ⟨r,h1,h2⟩:=cd (S:=Unit) (f:=wB l (d,())) l.length (fun i _=>((i:Int),())) (fun i _=>∀ k (hk:k<l.length),k<i→nq l[k].2.2.2.2.1 d=false) (fun r=>(r<0∧opsN l d=false)∨(0≤r∧opsN l d=true)) (fun i _ hi hv=>by
   unfold wB zba
   simp only[ae]
   rw[zp (by omega),aP hi,wrap64 (by omega) (by omega)]
   simp only[zb]
   rw[qt (hs _ (zm hi))]
   simp only[zb]
   cases c:nq l[i].2.2.2.2.1 d with
   | true=>exact .inr ⟨_,rfl,.inr ⟨by omega,List.any_eq_true.2 ⟨_,zm hi,c⟩⟩⟩
   | false =>
     exact .inl ⟨(),rfl,fun k hk hki=>by
       by_cases e:k=i
       · subst e; exact c
       · exact hv k hk (by omega)⟩) (fun _ hv=>by
   unfold wB
   simp only[ae]
   rw[zn (by omega)]
   exact ⟨_,rfl,.inl ⟨by omega,List.any_eq_false.2 fun x hx=>by
     obtain ⟨k,hk,rfl⟩:=List.mem_iff_getElem.1 hx
     simp[hv k hk hk]⟩⟩) () (fun k hk hki=>by omega)
 unfold zaj zal
 rw[show ((0:Int),())=(((0:Nat):Int),()) from rfl,h1]
 simp only[zb]
 rcases h2 with ⟨q,e⟩ | ⟨q,e⟩
 · rw[e,zf (by omega)]
 · rw[e,zt (by omega)]
theorem oY {s:St1}{d:Dot1} (h:LowN s.1):zbc s d=some (dY s.1 d):=by
 have hl:=h.len
 have out:=eq (R:=List Dot1) (f:=wo s d) (l:=s.1) (fun i o=>((i:Int),o,())) (fun t=>if t.1≠d∧opsN t.2.2.2.2.1 d=true then [t.1] else []) (fun o=>o) 1 (fun x _=>by split<;>simp) (fun i hi o ho=>by
   unfold wo
   simp only[ae]
   rw[zp (by omega),aP hi]
   simp only[zb]
   rw[sU (h.ops _ (zm hi)) (h.refs _ (zm hi)),wrap64 (by omega) (by omega),kc]
   simp only[zb,bm]
   by_cases c:s.1[i].1=d
   · rw[zp c,zn (fun q=>q.1 c)]; simp
   · rw[zn c]
     cases hx:opsN s.1[i].2.2.2.2.1 d with
     | false=>rw[zn (fun q=>by cases q.2)]; simp
     | true =>
       rw[zp ⟨c,rfl⟩,aW (by simp; omega)]
       rfl) (fun o _=>by
   unfold wo
   simp only[ae]
   rw[zn (by omega)])
 exact out
theorem adr {l:List Dot1}{d:Dot1} (h:l.length<1000000):zdm l d=some (l.any fun x=>decide (x=d)):=by
 have:=afE (f:=vI l d) (l:=l) (fun i=>((i:Int),())) (fun x=>decide (x=d)) true false (fun i hi=>by
   unfold vI
   simp only[ae,kc]
   rw[zp (by omega),aP hi,wrap64 (by omega) (by omega)]
   simp only[zb,decide_eq_true_eq]
   by_cases c:l[i]=d
   · rw[zp c,zp c]
   · rw[zn c,zn c]; rfl) (by
   unfold vI
   simp only[ae]
   rw[zn (by omega)])
 unfold zdm
 rw[show ((0:Int),())=(((0:Nat):Int),()) from rfl,this]
 cases l.any (fun x=>decide (x=d))<;>rfl
theorem gz {A B:Type}{g:A→List B} (h:∀ x,(g x).length≤1):∀ {l:List A},(l.flatMap g).length≤l.length
 | []=>by simp
 | x::l=>by
   have h1:=h x
   have h2:=gz h (l:=l)
   rw[List.flatMap_cons,List.length_append,zl]
   omega
theorem uJ {l:List Txn1}{t:Txn1}:(jW l t).length≤l.length:=by
 unfold jW
 have:=gz (l:=l) (g:=fun x=>if opsN t.2.2.2.2.1 x.1=true∧x.1≠t.1 then [x.1] else []) (fun x=>by split<;>simp)
 exact this
theorem qv {l:List Txn1}{d:Dot1}:(dY l d).length≤l.length:=by
 unfold dY
 have:=gz (l:=l) (g:=fun x=>if x.1≠d∧opsN x.2.2.2.2.1 d=true then [x.1] else []) (fun x=>by split<;>simp)
 exact this
theorem uK {l:List Txn1}{t:Txn1}{b:Dot1}:((jW l t).any fun x=>decide (x=b))=(opsN t.2.2.2.2.1 b&&decide (b≠t.1)&&l.any fun x=>decide (x.1=b)):=by
 unfold jW
 rw[Bool.eq_iff_iff]
 simp only[List.any_eq_true,List.mem_flatMap,Bool.and_eq_true,decide_eq_true_eq]
 constructor
 · rintro ⟨x,⟨y,hy,hx⟩,rfl⟩
   split at hx
   · rename_i c
     rw[List.mem_singleton] at hx
     subst hx
     exact ⟨c,y,hy,rfl⟩
   · cases hx
 · rintro ⟨c,y,hy,rfl⟩
   exact ⟨y.1,⟨y,hy,by rw[zp c]; exact List.mem_singleton.2 rfl⟩,rfl⟩
theorem jq {l:List Txn1}{d a:Dot1}:((dY l d).any fun x=>decide (x=a))=l.any fun t=>decide (t.1=a)&&decide (a≠d)&&opsN t.2.2.2.2.1 d:=by
 unfold dY
 rw[Bool.eq_iff_iff]
 simp only[List.any_eq_true,List.mem_flatMap,Bool.and_eq_true,decide_eq_true_eq]
 constructor
 · rintro ⟨x,⟨y,hy,hx⟩,rfl⟩
   split at hx
   · rename_i c
     rw[List.mem_singleton] at hx
     subst hx
     exact ⟨y,hy,⟨rfl,c.1⟩,c.2⟩
   · cases hx
 · rintro ⟨y,hy,⟨rfl,c1⟩,c2⟩
   exact ⟨y.1,⟨y,hy,by rw[zp ⟨c1,c2⟩]; exact List.mem_singleton.2 rfl⟩,rfl⟩
end Go.Proofs.YtnbgkhdcidbkaaaGreatDoor.Q
namespace Go.Proofs.YtnbgkhdcidbkaaaGreatDoor.Q
open Go.EM Go.TY Go.Proofs Go.Proofs.YtnbgkhdcidbkaaaGreatDoor.Y
def d8 (p:Path) (k:Int) (y:cm):Bool:=iR y.1 p&&(decide (k=0)||decide (y.2.1=k))
def bc (p:Path) (k:Int) (l:List cm):List cm:=l.flatMap fun y=>if d8 p k y=true then [y] else []
theorem t7 {p:Path}{k:Int}{l:List cm}:(bc p k l).length≤l.length:=by
 unfold bc
 exact gz (fun x=>by split<;>simp)
theorem abX {l:List cm}{p:Path}{k:Int} (h:l.length<1000000) (hl:∀ y∈l,y.1.length<1000000):zbh l p k=some (bc p k l):=by
 have out:=eq (R:=List cm) (f:=wl l p k) (l:=l) (fun i o=>((i:Int),o,())) (fun y=>if d8 p k y=true then [y] else []) (fun o=>o) 1 (fun x _=>by split<;>simp) (fun i hi o ho=>by
   have room:bT (o.length+[l[i]].length)=some ():=aW (by simp; omega)
   unfold wl d8
   simp only[ae]
   rw[zp (by omega),aP hi]
   simp only[zb]
   rw[uB (hl _ (zm hi)),wrap64 (by omega) (by omega)]
   simp only[zb]
   cases iR l[i].1 p with
   | false=>simp
   | true =>
     simp only[cond_true,Bool.true_and]
     by_cases c1:k=0
     · rw[zp c1,room]
       simp[c1]
     · rw[zn c1]
       by_cases c2:l[i].2.1=k
       · rw[zp c2,room]
         simp[c2]
       · rw[zn c2]
         simp[c1,c2]) (fun o _=>by
   unfold wl
   simp only[ae]
   rw[zn (by omega)])
 exact out
theorem rt {p:Path}{k:Int}{l:List cm}{i:Nat} (h:i<l.length):bc p k (l.take (i+1))=bc p k (l.take i)++(if d8 p k l[i]=true then [l[i]] else []):=by
 rw[List.take_succ_eq_append_getElem h]
 unfold bc
 rw[List.flatMap_append,List.flatMap_cons,List.flatMap_nil,List.append_nil]
theorem ud {p:Path}{k:Int}{l:List cm}{i:Nat} (h:i<l.length) (hu:d8 p k l[i]=true):∃ hk:(bc p k (l.take i)).length<(bc p k l).length,(bc p k l)[(bc p k (l.take i)).length]=l[i]:=by
 have e:bc p k l=bc p k (l.take i)++(l[i]::bc p k (l.drop (i+1))):=by
   conv=>lhs; rw[← List.take_append_drop i l,List.drop_eq_getElem_cons h]
   unfold bc
   rw[List.flatMap_append,List.flatMap_cons,zp hu]; rfl
 have hk:(bc p k (l.take i)).length<(bc p k l).length:=by rw[e]; simp
 refine ⟨hk,?_⟩
 have q:(bc p k l)[(bc p k (l.take i)).length]? = some l[i]:=by rw[e]; simp
 rw[zg hk] at q
 exact Option.some.inj q
theorem yU {l:List cm}{p:Path}{k:Int} (h:l.length<1000000) (hl:∀ y∈l,y.1.length<1000000) :
   aK (jI p k l (bc p k l)) (0,0,())=some (.inl (((bc p k l).length:Int),())):=by
 obtain ⟨r,h1,h2⟩:=cd (S:=Unit) (f:=jI p k l (bc p k l)) l.length (fun i _=>(((bc p k (l.take i)).length:Int),(i:Int),())) (fun _ _=>True) (fun r=>r = .inl (((bc p k l).length:Int),())) (fun i _ hi _=>by
   refine .inl ⟨(),?_,trivial⟩
   have ht:=rt (p:=p) (k:=k) hi
   have hle:(bc p k (l.take i)).length≤i:=Nat.le_trans t7 (by rw[List.length_take]; omega)
   have hg:=ud (p:=p) (k:=k) hi
   unfold jI
   simp only[ae]
   rw[zp (by omega),aP hi]
   simp only[zb]
   rw[yG (hl _ (zm hi)),wrap64 (n:=(i:Int)+1) (by omega) (by omega)]
   simp only[zb]
   have yes:d8 p k l[i]=true→((if ((bc p k (l.take i)).length:Int)≥((bc p k l).length:Int) then some (true,()) else (atI (bc p k l) ((bc p k (l.take i)).length:Int)).bind fun x17=>some (!decide (x17.2.1=l[i].2.1),())).bind fun v19=>cond v19.1 (some (.inr (.inr false))) ((atI (bc p k l) ((bc p k (l.take i)).length:Int)).bind fun x20=>(zc7 x20.1 l[i].1).bind fun r22=>cond (!r22) (some (.inr (.inr false))) (some (.inl ((IntKind.wrap .i64 (((bc p k (l.take i)).length:Int)+1)),((i:Int)+1),()))):Option ((Int×Int×Unit)⊕((Int×Unit)⊕Bool))))=some (.inl (((bc p k (l.take (i+1))).length:Int),((i+1:Nat):Int),())):=fun hu=>by
     obtain ⟨hk,hx⟩:=hg hu
     rw[zn (by omega),aP hk,hx]
     simp only[zb,decide_true,Bool.not_true,cond_false]
     rw[lW (hl _ (zm hi)),wrap64 (by omega) (by omega),ht,zp hu]
     simp
   cases hu:iR l[i].1 p with
   | false =>
     have no:d8 p k l[i]=false:=by unfold d8; rw[hu]; rfl
     rw[zn (by rw[no]; decide),List.append_nil] at ht
     rw[ht]; rfl
   | true =>
     simp only[cond_true]
     by_cases c1:k=0
     · rw[zp c1]
       exact yes (by unfold d8; rw[hu,zt c1]; rfl)
     · rw[zn c1]
       by_cases c2:l[i].2.1=k
       · rw[zp c2]
         exact yes (by unfold d8; rw[hu,zt c2,Bool.or_true]; rfl)
       · rw[zn c2]
         have no:d8 p k l[i]=false:=by unfold d8; rw[zf c1,zf c2,hu]; rfl
         rw[zn (by rw[no]; decide),List.append_nil] at ht
         rw[ht]; rfl) (fun _ _=>by
   unfold jI
   simp only[ae]
   rw[zn (by omega),List.take_length]
   exact ⟨_,rfl,rfl⟩) () trivial
 have e0:((bc p k (l.take 0)).length:Int)=0:=by simp[bc]
 rw[e0] at h1
 exact h1.trans (congrArg some h2)
theorem yq {s:St1}{b:Dot1} (h:s.1.length≤1000):aK (qU s b) (false,0,())=some (.inl (s.1.any fun x=>decide (x.1=b),())):=by
 obtain ⟨r,h1,c,rfl,h2⟩:=cd (S:=Bool) (f:=qU s b) s.1.length (fun i c=>(c,(i:Int),())) (fun i c=>(c=true↔∃ k,∃ hk:k<s.1.length,k<i∧s.1[k].1=b)) (fun r=>∃ c:Bool,r = .inl (c,())∧(c=true↔∃ x∈s.1,x.1=b)) (fun i c hi hv=>by
   unfold qU
   simp only[ae,kc]
   rw[zp (by omega),aP hi,wrap64 (by omega) (by omega)]
   simp only[zb]
   cases c with
   | true =>
     obtain ⟨k,hk,hki,e⟩:=hv.1 rfl
     exact .inl ⟨true,rfl,fun _=>⟨k,hk,by omega,e⟩,fun _=>rfl⟩
   | false =>
     refine .inl ⟨decide (s.1[i].1=b),rfl,fun q=>⟨i,hi,by omega,of_decide_eq_true q⟩,?_⟩
     rintro ⟨k,hk,hki,e⟩
     by_cases ek:k=i
     · subst ek; exact zt e
     · exact absurd (hv.2 ⟨k,hk,by omega,e⟩) (by decide)) (fun c hv=>by
   unfold qU
   simp only[ae]
   rw[zn (by omega)]
   refine ⟨_,rfl,c,rfl,fun q => ?_,fun q => ?_⟩
   · obtain ⟨k,hk,_,e⟩:=hv.1 q
     exact ⟨_,zm hk,e⟩
   · obtain ⟨x,hx,e⟩:=q
     obtain ⟨k,hk,rfl⟩:=List.mem_iff_getElem.1 hx
     exact hv.2 ⟨k,hk,hk,e⟩) false ⟨(fun q=>by cases q),fun ⟨k,hk,hki,_⟩=>by omega⟩
 rw[show ((0:Int))=((0:Nat):Int) from rfl,h1]
 congr 2
 refine Prod.ext ?_ rfl
 show c=_
 rw[Bool.eq_iff_iff,h2]
 simp
theorem sb {l:List Txn1} (hr:np l) {t:Txn1} (ht:t∈l) {b:Dot1}:((jW l t).any fun x=>decide (x=b))=(((dY l b).any fun x=>decide (x=t.1))&&l.any fun x=>decide (x.1=b)):=by
 rw[uK,jq]
 congr 1
 rw[Bool.eq_iff_iff]
 simp only[List.any_eq_true,Bool.and_eq_true,decide_eq_true_eq]
 constructor
 · rintro ⟨h1,h2⟩
   exact ⟨t,ht,⟨rfl,fun e=>h2 e.symm⟩,h1⟩
 · rintro ⟨x,hx,⟨e,h1⟩,h2⟩
   have:=afk hr hx ht e
   subst this
   exact ⟨h2,fun e=>h1 e.symm⟩
theorem kN (aw:zck=some true) {s:St1}{a b:Dot1}{p:Path}{k:Int} (hw:Wide s):za9 s a b p k=some true:=by
 obtain ⟨g,h1,h2⟩:=xn hw
 unfold za9
 rw[h1]
 simp only[zb,aw]
 cases g with
 | false=>rfl
 | true =>
 have hs:=h2 rfl
 have hlow:=hs.txns.lowN
 have hl:=hlow.len
 rw[Bool.not_true,cond_false,wP]
 simp only[zb]
 cases (decide (p.length≤12)&&p.all fun x=>decide (x.length≤120)) with
 | false=>rfl
 | true =>
 rw[Bool.not_true,cond_false,yq hl,ay]
 simp only
 rw[oY hlow]
 have hc:=qv (l:=s.1) (d:=b)
 have fin:((zci s).bind fun r12=>(zb6 r12).bind fun r13=>(zbh r13 p k).bind fun r14=>(aK (jI p k r13 r14) (0,0,()):Option ((Int×Unit)⊕Bool)).bind (bd fun v30=>cond (decide (v30.1=(r14.length:Int))) (some true) (some false)))=some true:=by
   have hp:=kV hs.txns (by omega)
   have hu:=zB hs.undos
   have hi:=fV (u:=s.2.1) hs.txns
   unfold zci
   rw[aed hp.low hu]
   simp only[zb]
   rw[p9 (de hi)]
   simp only[zb]
   have hn:=mz (de hi)
   have hq:∀ y∈cg (allM s.1 s.2.1),y.1.length<1000000:=fun y hy=>(kr (de hi) y hy).1
   rw[abX hn hq]
   simp only[zb]
   rw[yU hn hq,ay]
   simp
 have step:∀ x y t:Bool,x=(y&&t)→((cond y (cond (!(x==t)) (some (.inr false)) (some (.inl ()))) (cond (!(x==false)) (some (.inr false)) (some (.inl ()))):Option (Unit⊕Bool)))=some (.inl ()):=by
   intro x y t e
   subst e
   cases y<;>cases t<;>rfl
 have key:∃ l,zbm s a=some l∧l.length≤1000∧(l.any fun x=>decide (x=b))=(((dY s.1 b).any fun x=>decide (x=a))&&s.1.any fun x=>decide (x.1=b)):=by
   rcases acZ (a:=a) hlow with ⟨e,hn⟩ | ⟨t,ht,rfl,e⟩
   · refine ⟨_,e,by simp,?_⟩
     have no:((dY s.1 b).any fun x=>decide (x=a))=false:=by
       rw[jq]
       exact List.any_eq_false.2 fun t ht=>by simp[hn t ht]
     rw[no]; rfl
   · exact ⟨_,e,Nat.le_trans uJ hl,sb hlow.rise ht⟩
 obtain ⟨l,e,hle,hany⟩:=key
 rw[e]
 simp only[zb]
 rw[adr (by omega),adr (by omega)]
 simp only[zb]
 rw[step _ _ _ hany,ay]
 exact fin
end Go.Proofs.YtnbgkhdcidbkaaaGreatDoor.Q
namespace Go.Proofs.YtnbgkhdcidbkaaaGreatDoor.Q
open Go.EM Go.TY Go.Proofs Go.Proofs.YtnbgkhdcidbkaaaGreatDoor.Y
def rx (l:List Txn1) (d:Dot1):Bool:=l.any fun t=>decide (t.1=d)
def fc (s:St1) (d:Dot1) (redo b:Bool):Int:=if rx s.1 d=false then 12 else if b=true then 13 else if fQ s.2.1 d=redo then 11 else if bg d=false then 2 else if getM s.2.1 d≥64 then 14 else 0
theorem amP {s:St1}{n:Nat}{d:Dot1}{redo:Bool} (h:StOk s n) (hn:n<100000) (hr:np s.1):∃ b,zdu s.2.2.2.1 d=some b∧zbx s d redo=some (fc s d redo b):=by
 obtain ⟨b,hb,hm⟩:=afb (d:=d) h hn
 refine ⟨b,hb,?_⟩
 have hl:=h.txns
 unfold zbx fc
 have hu:=h.undos.low hn
 rw[hb,ix hu.len hu.rise,hm]
 rcases adz (l:=s.1) (d:=d) (by omega) hr with ⟨hf,hno⟩ | ⟨k,hf,hk,e⟩
 · have:rx s.1 d=false:=List.any_eq_false.2 fun t ht=>by simpa using hno t ht
   rw[hf,zp this]; rfl
 · have:rx s.1 d=true:=List.any_eq_true.2 ⟨_,zm hk,zt e⟩
   rw[hf,zn (show ¬ rx s.1 d=false by rw[this]; decide)]
   simp only[zb,ae]
   rw[zn (show ¬ (k:Int)<0 by omega)]
   cases b with
   | true=>rfl
   | false =>
     simp only[cond_false,Bool.false_eq_true,if_false]
     cases hs:fQ s.2.1 d<;>cases redo<;>simp
theorem jX {s:St1}{d:Dot1}{redo b:Bool} (h:fc s d redo b=0):rx s.1 d=true∧b=false∧fQ s.2.1 d = !redo∧bg d=true∧getM s.2.1 d<64:=by
 unfold fc at h
 split at h
 · omega
 split at h
 · omega
 split at h
 · omega
 split at h
 · omega
 split at h
 · omega
 rename_i h1 h2 h3 h4 h5
 refine ⟨by simpa using h1,by simpa using h2,?_,by simpa using h4,by omega⟩
 cases hs:fQ s.2.1 d<;>cases redo<;>simp_all
def upU (s:St1) (d:Dot1):List Ref1:=iG s.2.1 (d,getM s.2.1 d+1,())
theorem aef {s:St1}{n:Nat}{d:Dot1} (h:StOk s n) (hn:n<100000) (hd:bg d=true) (hg:getM s.2.1 d<64):zbn s d=some ((s.1,upU s d,s.2.2.1,s.2.2.2.1,s.2.2.2.2.1,()),0,()):=by
 have hl:=h.undos.len
 unfold zbn
 rw[od h.undos hn,zn (by rw[hd]; decide),zn (by omega)]
 simp only[zb,bm]
 rw[zp trivial]
 unfold zcd
 rw[amX (by omega)]
 rfl
theorem agG {s:St1}{n:Nat}{d:Dot1} (h:StOk s n) (hd:bg d=true) (hg:getM s.2.1 d<64):UOk (upU s d) (n+1):=by
 have hg0:=adt (d:=d) h.undos.one
 refine h.undos.join ?_
 unfold oneM
 simp only[Bool.and_eq_true,decide_eq_true_eq]
 exact ⟨hd,by omega,by omega⟩
theorem jJ {l:List aZ}:afl (ic l):=by
 unfold ic
 have h:iM nH (fun v=>v) (cg l):=gN iq _
 show List.Pairwise _ _
 rw[List.pairwise_map]
 refine List.Pairwise.imp (fun {a b} hab => ?_) h
 have e:cmpK (keyE (entM l a.1 a.2.1)) (keyE (entM l b.1 b.2.1))=nH a b:=by
   unfold cmpK cmpB nH orI keyE entM
   rfl
 rw[e]; exact hab
theorem pA {l:List aZ} (h:ItemsOk l):VOk (ic l) where
 len:=ae5 h
 easy e he:=by
   obtain ⟨y,hy,rfl⟩:=iQ he
   have hs:=oG h hy
   exact ⟨ane h hs.1 hs.2,fun x hx=>by have:=hs.2 x hx; omega⟩
 rise:=jJ
theorem of_t {s:St1}{n:Nat}{d:Dot1}{redo:Bool} (h:StOk s n) (hn:n<10000) (ht:TxnsOk s.1 20):∃ b,zdu s.2.2.2.1 d=some b∧zbx s d redo=some (fc s d redo b) ∧
   zcy s d redo=some (if fc s d redo b=0 then (dM (ic (allM s.1 s.2.1)) (ic (allM s.1 (upU s d))),0,()) else ([],fc s d redo b,())):=by
 obtain ⟨b,hb,hm⟩:=amP (d:=d) (redo:=redo) h (by omega) ht.rise
 refine ⟨b,hb,hm,?_⟩
 unfold zcy
 rw[hm]
 simp only[zb,bm]
 by_cases c:fc s d redo b=0
 · obtain ⟨_,_,_,c4,c5⟩:=jX c
   have hp:=(kV ht (by omega)).low
   have hu:=h.undos.low (by omega)
   have hv:=(agG h c4 c5).low (by omega)
   have ia:=fV (u:=s.2.1) ht
   have ib:=fV (u:=upU s d) ht
   rw[zp c,zp c,aef h (by omega) c4 c5]
   simp only[zb,bm]
   rw[zp trivial]
   unfold zci
   simp only
   rw[aed hp hu,aed hp hv]
   simp only[zb]
   rw[wF ia]
   simp only[zb]
   rw[wF ib]
   simp only[zb]
   rw[ani (pA ia) (pA ib)]
   rfl
 · rw[zn c,zn c]
def lV (l:List aZ):List Ref1:=l.map (·.1)
theorem avK {l:List aZ} (h:l.length<100000):my l=some (lV l):=by
 have out:=eq (R:=List Ref1) (f:=fe l) (l:=l) (fun i o=>((i:Int),o,())) (fun x=>[x.1]) (fun o=>o) 1 (fun x _=>by simp) (fun i hi o ho=>by
   unfold fe
   simp only[ae]
   rw[zp (by omega),aP hi,wrap64 (by omega) (by omega)]
   simp only[zb]
   rw[aW (by simp; omega)]
   rfl) (fun o _=>by
   unfold fe
   simp only[ae]
   rw[zn (by omega)])
 unfold my lV
 rw[show ((0:Int),([]:List Ref1),())=(((0:Nat):Int),[],()) from rfl,out]
 congr 1
 clear out h
 induction l with
 | nil=>rfl
 | cons x l ih=>rw[List.flatMap_cons,List.map_cons,ih]; rfl
def hasI (l:List aZ) (x:Ref1):Bool:=l.any fun y=>decide (x=y.1)
def eg (a b:List aZ):List aZ:=a.flatMap fun x=>if hasI b x.1=true then [] else [x]
theorem eY {a b:List aZ}:(eg a b).length≤a.length:=by
 unfold eg
 exact gz (fun x=>by split<;>simp)
theorem eX {a b:List aZ}{x:aZ}:x∈eg a b↔x∈a∧hasI b x.1=false:=by
 unfold eg
 rw[List.mem_flatMap]
 constructor
 · rintro ⟨y,hy,h⟩
   split at h
   · cases h
   · rename_i c
     rw[List.mem_singleton] at h
     subst h
     exact ⟨hy,by simpa using c⟩
 · rintro ⟨h1,h2⟩
   exact ⟨x,h1,by rw[zn (by rw[h2]; decide)]; exact List.mem_singleton.2 rfl⟩
theorem qW {a b:List aZ} (ha:a.length<100000) (hb:b.length<100000):dl a b=some (eg a b):=by
 unfold dl
 rw[avK hb]
 simp only[zb]
 have mid:=bG (S:=List (Ref1×Bool)) (R:=((List (Ref1×Bool)×Unit)⊕List aZ)) (f:=cF (lV b)) (l:=lV b) (fun k m=>((k:Int),m,())) (fun _ x m=>.inl (putK kK x true m)) (fun m'=>.inl (m',())) (fun _ _=>True) (fun k hk m' _=>by
   have hk2:(lV b).length=b.length:=by unfold lV; rw[List.length_map]
   refine .inl ⟨_,rfl,?_,trivial⟩
   unfold cF
   simp only[ae]
   rw[zp (by omega),aP hk]
   simp only[zb]
   rw[wrap64 (by omega) (by omega)]; rfl) (fun m' _=>by
   unfold cF
   simp only[ae]
   rw[zn (by omega)]) [] trivial
 rw[show ((0:Int),([]:List (Ref1×Bool)),())=(((0:Nat):Int),[],()) from rfl,mid,ct,ay]
 have hm:∀ x:Ref1,(getK kK false x (kp [] (lV b))).1=hasI b x:=fun x=>by
   have:=uU (x:=x) (l:=lV b) (m:=[])
   unfold hasK at this
   rw[this]
   unfold lV hasI
   rw[List.any_map]
   show (_||false)=_
   rw[Bool.or_false]; rfl
 have out:=eq (R:=List aZ) (f:=cE a) (l:=a) (fun i o=>((i:Int),kp [] (lV b),o,())) (fun x=>if hasI b x.1=true then [] else [x]) (fun o=>o) 1 (fun x _=>by split<;>simp) (fun i hi o ho=>by
   have hh:(getK (.agg (.cons (.agg (.cons (.int .i64) (.cons (.int .i64) .unit))) (.cons (.int .i64) .unit))) false a[i].1 (kp [] (lV b))).1=hasI b a[i].1:=hm a[i].1
   unfold cE
   simp only[ae]
   rw[zp (by omega),aP hi,wrap64 (by omega) (by omega)]
   simp only[zb]
   rw[hh,aW (by simp; omega)]
   cases hasI b a[i].1 with
   | false=>rfl
   | true=>simp) (fun o _=>by
   unfold cE
   simp only[ae]
   rw[zn (by omega)])
 exact out
theorem agb {a b:List aZ} (ha:a.length<100000) (hb:b.length<100000):bh [a,b]=some (a++b):=by
 have l1:aK (aI [a,b]) (0,0,())=some (.inl (((a.length+b.length:Nat):Int),())):=by
   have t1:aI [a,b] (0,0,())=some (.inl ((a.length:Int),1,())):=by
     unfold aI
     simp only[ae]
     rw[zp (by simp),show atI [a,b] 0=some a from rfl]
     simp only[zb]
     rw[wrap64 (by omega) (by omega),zn (by omega),Int.zero_add]; rfl
   have t2:aI [a,b] ((a.length:Int),1,())=some (.inl (((a.length+b.length:Nat):Int),2,())):=by
     unfold aI
     simp only[ae]
     rw[zp (by simp),show atI [a,b] 1=some b from rfl]
     simp only[zb]
     rw[wrap64 (by omega) (by omega),zn (by omega)]; rfl
   have t3:aI [a,b] (((a.length+b.length:Nat):Int),2,())=some (.inr (.inl (((a.length+b.length:Nat):Int),()))):=by
     unfold aI
     simp only[ae]
     rw[zn (by simp)]
   rw[aJ t1,aJ t2,aD t3]
 have l2:aK (aH [a,b]) (0,[],())=some (a++b):=by
   have t1:aH [a,b] (0,[],())=some (.inl (1,a,())):=by
     unfold aH
     simp only[ae]
     rw[zp (by simp),show atI [a,b] 0=some a from rfl]
     simp only[zb]
     rw[aW (by simp; omega)]; rfl
   have t2:aH [a,b] (1,a,())=some (.inl (2,a++b,())):=by
     unfold aH
     simp only[ae]
     rw[zp (by simp),show atI [a,b] 1=some b from rfl]
     simp only[zb]
     rw[aW (by omega)]; rfl
   have t3:aH [a,b] (2,a++b,())=some (.inr (a++b)):=by
     unfold aH
     simp only[ae]
     rw[zn (by simp)]
   rw[aJ t1,aJ t2,aD t3]
 unfold bh
 rw[l1,ay]
 have g:bp () ((a.length+b.length:Nat):Int)=some []:=by
   unfold bp av3
   rw[zp ⟨by omega,by simp only[most]; omega⟩]
 rw[g]
 exact l2
def ab2 (a b:List aZ):List cm:=cg (eg a b++eg b a)
theorem lz {a b:List aZ} (ha:ItemsOk a) (hb:ItemsOk b):LowI (eg a b++eg b a):=by
 have h1:=eY (a:=a) (b:=b)
 have h2:=eY (a:=b) (b:=a)
 have h3:=ha.len
 have h4:=hb.len
 refine ⟨by rw[List.length_append]; omega,fun x hx => ?_⟩
 rcases List.mem_append.1 hx with h | h
 · exact (de ha).path x (eX.1 h).1
 · exact (de hb).path x (eX.1 h).1
theorem ab1 {s:St1}{n:Nat}{d:Dot1}{redo b:Bool} (h:StOk s n) (hn:n<10000) (ht:TxnsOk s.1 20) (hm:zbx s d redo=some (fc s d redo b)) :
   eE s d redo=some (if fc s d redo b=0 then (ab2 (allM s.1 s.2.1) (allM s.1 (upU s d)),0,()) else ([],fc s d redo b,())):=by
 unfold eE
 rw[hm]
 simp only[zb,bm]
 by_cases c:fc s d redo b=0
 · obtain ⟨_,_,_,c4,c5⟩:=jX c
   have hp:=(kV ht (by omega)).low
   have hu:=h.undos.low (by omega)
   have hv:=(agG h c4 c5).low (by omega)
   have ia:=fV (u:=s.2.1) ht
   have ib:=fV (u:=upU s d) ht
   have la:=ia.len
   have lb:=ib.len
   rw[zp c,zp c,aef h (by omega) c4 c5]
   simp only[zb,bm]
   rw[zp trivial]
   unfold zci
   simp only
   rw[aed hp hu,aed hp hv]
   simp only[zb]
   rw[qW (by omega) (by omega)]
   simp only[zb]
   rw[qW (by omega) (by omega)]
   simp only[zb]
   have w1:=eY (a:=allM s.1 s.2.1) (b:=allM s.1 (upU s d))
   have w2:=eY (b:=allM s.1 s.2.1) (a:=allM s.1 (upU s d))
   rw[agb (by omega) (by omega)]
   simp only[zb]
   rw[p9 (lz ia ib)]
   rfl
 · rw[zn c,zn c]
def mm (l:List Txn1):List aZ:=l.flatMap fun t=>eK (fun _=>false) t 0 t.2.2.2.2.1
def cntM (l:List Txn1) (u:List Ref1) (r:Ref1):Bool:=fQ u r.1 && !covM l u r
theorem oC {p:Ref1→Bool}{t:Txn1}{l:List Op1}{k:Nat}{x:aZ} (h:x∈eK p t k l):x.1.1=t.1:=by
 obtain ⟨j,o,_,_,_,rfl⟩:=mE h
 rfl
theorem ew {l:List Txn1}{u:List Ref1}:allM l u=(mm l).filter fun x=>cntM l u x.1:=by
 unfold allM mm
 rw[List.filter_flatMap]
 congr 1
 funext t
 rw[oK (p:=fun _=>false) (q:=covM l u) (c:=covM l u) (fun x=>by simp)]
 split
 · rename_i h
   refine List.filter_congr fun x hx => ?_
   unfold cntM
   rw[oC hx,h,Bool.true_and]
 · rename_i h
   refine (List.filter_eq_nil_iff.2 fun x hx => ?_).symm
   unfold cntM
   rw[oC hx,eq_false_of_ne_true h]
   simp
theorem anx {l:List Txn1}{u v:List Ref1}{p:Path}{k:Int} (h:∀ x∈mm l,isAt p k x=true→cntM l u x.1=cntM l v x.1):atM (allM l u) p k=atM (allM l v) p k:=by
 unfold atM
 rw[ew,ew,List.filter_filter,List.filter_filter]
 refine List.filter_congr fun x hx => ?_
 cases hq:isAt p k x with
 | false=>rfl
 | true=>rw[h x hx hq]
theorem adi {p:Path}{k:Int}{x:aZ}:isAt p k x=true↔eJ x=(p,k,()):=by
 unfold isAt eJ
 simp only[Bool.and_eq_true,decide_eq_true_eq,Prod.mk.injEq,and_true]
 exact And.comm
theorem abW {l:List Txn1}{u v:List Ref1}{y:cm} (h:y∉ab2 (allM l u) (allM l v)):(∀ x∈mm l,eJ x=y→cntM l u x.1=cntM l v x.1):=by
 intro x hx hy
 have no:∀ u v:List Ref1,x∈allM l u→cntM l v x.1=false→hasI (allM l v) x.1=false:=fun u v _ h2=>by
   refine List.any_eq_false.2 fun z hz => ?_
   rw[ew,List.mem_filter] at hz
   intro e
   rw[of_decide_eq_true e,hz.2] at h2
   cases h2
 have inn:∀ u:List Ref1,cntM l u x.1=true→x∈allM l u:=fun u h1=>by
   rw[ew,List.mem_filter]; exact ⟨hx,h1⟩
 cases h1:cntM l u x.1<;>cases h2:cntM l v x.1
 · rfl
 · exfalso
   refine h (dJ.2 ⟨x,List.mem_append.2 (.inr (eX.2 ⟨inn v h2,no v u (inn v h2) h1⟩)),hy⟩)
 · exfalso
   refine h (dJ.2 ⟨x,List.mem_append.2 (.inl (eX.2 ⟨inn u h1,no u v (inn u h1) h2⟩)),hy⟩)
 · rfl
theorem sh {l:List Txn1}{u v:List Ref1}{y:cm} (h:∀ x∈mm l,eJ x=y→cntM l u x.1=cntM l v x.1) (hy:y∈cg (allM l u)):y∈cg (allM l v):=by
 obtain ⟨x,hx,e⟩:=dJ.1 hy
 rw[ew,List.mem_filter] at hx
 exact dJ.2 ⟨x,by rw[ew,List.mem_filter]; exact ⟨hx.1,by rw[← h x hx.1 e]; exact hx.2⟩,e⟩
end Go.Proofs.YtnbgkhdcidbkaaaGreatDoor.Q
namespace Go.Proofs.YtnbgkhdcidbkaaaGreatDoor.Q
open Go.EM Go.TY Go.Proofs Go.Proofs.YtnbgkhdcidbkaaaGreatDoor.Y
theorem af1 {a b:List aZ}{p:Path}{k:Int} (h:atM a p k=atM b p k):entM a p k=entM b p k:=by
 unfold entM rq ad4
 by_cases k1:k=1
 · subst k1; rw[h]; simp
 by_cases k2:k=2
 · subst k2; rw[h]; simp
 by_cases k3:k=3
 · subst k3; rw[h]; simp
 rw[zn k1,zn k1,zn k2,zn k2,zn k3,zn k3]
def Unl (a b:List Ent) (c:Chg):Prop :=
 (∃ x∈a,c=uV x∧∀ y∈b,keyE y≠keyE x)∨(∃ y∈b,c=uO y∧∀ x∈a,keyE x≠keyE y)∨∃ x∈a,∃ y∈b,keyE x=keyE y∧x≠y∧c=kL x y
theorem av8:∀ (n:Nat) (a b:List Ent),a.length+b.length≤n→afl a→afl b→∀ c∈dM a b,Unl a b c:=by
 intro n
 have nilB:∀ b:List Ent,∀ c∈dM [] b,Unl [] b c:=by
   intro b c hc
   unfold dM at hc
   rw[gp.eq_def] at hc
   simp only[List.mem_map] at hc
   obtain ⟨y,hy,rfl⟩:=hc
   exact .inr (.inl ⟨y,hy,rfl,fun x hx=>by cases hx⟩)
 induction n with
 | zero =>
   intro a b h _ _
   have e1:a=[]:=List.eq_nil_of_length_eq_zero (by omega)
   subst e1
   exact nilB b
 | succ n ih =>
   intro a b h ra rb
   match a,b,h,ra,rb with
   | [],b,h,_,_=>exact nilB b
   | x::a,[],h,_,_ =>
     intro c hc
     unfold dM at hc
     rw[gp.eq_def] at hc
     simp only[List.mem_map] at hc
     obtain ⟨y,hy,rfl⟩:=hc
     exact .inl ⟨y,hy,rfl,fun x hx=>by cases hx⟩
   | x::a,y::b,h,ra,rb =>
     simp only[zl] at h
     have ra':=List.pairwise_cons.1 ra
     have rb':=List.pairwise_cons.1 rb
     intro c hc
     have i1:=ih a (y::b) (by simp only[zl]; omega) ra'.2 rb
     have i2:=ih (x::a) b (by simp only[zl]; omega) ra rb'.2
     have i3:=ih a b (by omega) ra'.2 rb'.2
     unfold dM at hc i1 i2 i3
     rw[gp.eq_def] at hc
     simp only at hc
     by_cases c1:cmpK (keyE x) (keyE y)<0
     · rw[zp c1] at hc
       have far:∀ z∈y::b,keyE z≠keyE x:=fun z hz e=>by
         rcases List.mem_cons.1 hz with q | hz
         · subst q; rw[e,(ir.zero _ _).2 rfl] at c1; omega
         · have q:cmpK (keyE y) (keyE z)<0:=rb'.1 z hz
           have q2:=ir.trans _ _ _ c1 q
           rw[e,(ir.zero _ _).2 rfl] at q2; omega
       rcases List.mem_cons.1 hc with e | hc
       · exact .inl ⟨x,List.mem_cons_self ..,e,far⟩
       · rcases i1 c hc with ⟨z,hz,e,hn⟩ | ⟨z,hz,e,hn⟩ | ⟨z,hz,w,hw,e1,e2,e3⟩
         · exact .inl ⟨z,List.mem_cons_of_mem _ hz,e,hn⟩
         · refine .inr (.inl ⟨z,hz,e,fun w hw => ?_⟩)
           rcases List.mem_cons.1 hw with q | hw
           · subst q; exact fun e=>far z hz e.symm
           · exact hn w hw
         · exact .inr (.inr ⟨z,List.mem_cons_of_mem _ hz,w,hw,e1,e2,e3⟩)
     · rw[zn c1] at hc
       by_cases c2:cmpK (keyE x) (keyE y)>0
       · rw[zp c2] at hc
         have c3:cmpK (keyE y) (keyE x)<0:=by have:=ir.neg (keyE y) (keyE x); omega
         have far:∀ z∈x::a,keyE z≠keyE y:=fun z hz e=>by
           rcases List.mem_cons.1 hz with q | hz
           · subst q; rw[e,(ir.zero _ _).2 rfl] at c3; omega
           · have q:cmpK (keyE x) (keyE z)<0:=ra'.1 z hz
             have q2:=ir.trans _ _ _ c3 q
             rw[e,(ir.zero _ _).2 rfl] at q2; omega
         rcases List.mem_cons.1 hc with e | hc
         · exact .inr (.inl ⟨y,List.mem_cons_self ..,e,far⟩)
         · rcases i2 c hc with ⟨z,hz,e,hn⟩ | ⟨z,hz,e,hn⟩ | ⟨z,hz,w,hw,e1,e2,e3⟩
           · refine .inl ⟨z,hz,e,fun w hw => ?_⟩
             rcases List.mem_cons.1 hw with q | hw
             · subst q; exact fun e=>far z hz e.symm
             · exact hn w hw
           · exact .inr (.inl ⟨z,List.mem_cons_of_mem _ hz,e,hn⟩)
           · exact .inr (.inr ⟨z,hz,w,List.mem_cons_of_mem _ hw,e1,e2,e3⟩)
       · rw[zn c2] at hc
         have e0:keyE x=keyE y:=(ir.zero _ _).1 (by omega)
         have fa:∀ z∈a,keyE z≠keyE x:=fun z hz e=>by
           have q:cmpK (keyE x) (keyE z)<0:=ra'.1 z hz
           rw[e,(ir.zero _ _).2 rfl] at q; omega
         have fb:∀ z∈b,keyE z≠keyE y:=fun z hz e=>by
           have q:cmpK (keyE y) (keyE z)<0:=rb'.1 z hz
           rw[e,(ir.zero _ _).2 rfl] at q; omega
         rcases List.mem_append.1 hc with hc | hc
         · by_cases q:uj x y=true
           · rw[zp q] at hc; cases hc
           · rw[zn q] at hc
             rw[List.mem_singleton] at hc
             exact .inr (.inr ⟨x,List.mem_cons_self ..,y,List.mem_cons_self ..,e0,fun e=>q (zt e),hc⟩)
         · rcases i3 c hc with ⟨z,hz,e,hn⟩ | ⟨z,hz,e,hn⟩ | ⟨z,hz,w,hw,e1,e2,e3⟩
           · refine .inl ⟨z,List.mem_cons_of_mem _ hz,e,fun w hw => ?_⟩
             rcases List.mem_cons.1 hw with q | hw
             · subst q; rw[← e0]; exact fun e=>fa z hz e.symm
             · exact hn w hw
           · refine .inr (.inl ⟨z,List.mem_cons_of_mem _ hz,e,fun w hw => ?_⟩)
             rcases List.mem_cons.1 hw with q | hw
             · subst q; rw[e0]; exact fun e=>fb z hz e.symm
             · exact hn w hw
           · exact .inr (.inr ⟨z,List.mem_cons_of_mem _ hz,w,List.mem_cons_of_mem _ hw,e1,e2,e3⟩)
theorem abV {l:List aZ}{y:cm} (h:y∈cg l):entM l y.1 y.2.1∈ic l:=List.mem_map.2 ⟨y,h,rfl⟩
theorem amu {l:List Txn1}{u v:List Ref1}{c:Chg} (hc:c∈dM (ic (allM l u)) (ic (allM l v))):(((j0 c).1,(j0 c).2.1,()):cm)∈ab2 (allM l u) (allM l v):=by
 refine Classical.byContradiction fun hn => ?_
 have hs:=abW hn
 have e3:atM (allM l u) (j0 c).1 (j0 c).2.1=atM (allM l v) (j0 c).1 (j0 c).2.1:=anx fun x hx hq=>hs x hx (adi.1 hq)
 have e4:=af1 e3
 rcases av8 _ _ _ (Nat.le_refl _) jJ jJ c hc with ⟨x,hx,rfl,hf⟩ | ⟨x,hx,rfl,hf⟩ | ⟨x,hx,z,hz,e1,e2,rfl⟩
 · obtain ⟨y,hy,rfl⟩:=iQ hx
   have e:(((j0 (uV (entM (allM l u) y.1 y.2.1))).1,(j0 (uV (entM (allM l u) y.1 y.2.1))).2.1,()):cm)=y:=rfl
   rw[e] at hs
   exact hf _ (abV (sh hs hy)) rfl
 · obtain ⟨y,hy,rfl⟩:=iQ hx
   have e:(((j0 (uO (entM (allM l v) y.1 y.2.1))).1,(j0 (uO (entM (allM l v) y.1 y.2.1))).2.1,()):cm)=y:=rfl
   rw[e] at hs
   exact hf _ (abV (sh (fun x h1 h2=>(hs x h1 h2).symm) hy)) rfl
 · obtain ⟨y,hy,rfl⟩:=iQ hx
   obtain ⟨w,hw,rfl⟩:=iQ hz
   have ey:(y.1,y.2.1)=(w.1,w.2.1):=e1
   have e5:y.1=w.1:=(Prod.mk.inj ey).1
   have e6:y.2.1=w.2.1:=(Prod.mk.inj ey).2
   have e7:entM (allM l u) y.1 y.2.1=entM (allM l v) y.1 y.2.1:=e4
   exact e2 (by rw[e7,e5,e6])
theorem kh {t:List cm}{e:Ent}{i:Nat}{f:Int} (h:t.length<1000000) (hi:i<1000000) (ht:∀ y∈t,y.1.length<1000000) (hy:((e.1,e.2.1,()):cm)∈t) :
   aK (bj ((i:Int),()) (t,f,())) (false,0,e,())=some (.inl (((i+1:Nat):Int),())):=by
 obtain ⟨r,h1,h2⟩:=cd (S:=Bool) (f:=bj ((i:Int),()) (t,f,())) t.length (fun j c=>(c,(j:Int),e,())) (fun j c=>c=true↔∃ k,∃ hk:k<t.length,k<j∧t[k]=(e.1,e.2.1,())) (fun r=>r = .inl (((i+1:Nat):Int),())) (fun j c hj hv=>by
   unfold bj
   simp only[ae]
   rw[zp (by omega),aP hj,wrap64 (n:=(j:Int)+1) (by omega) (by omega)]
   simp only[zb]
   cases c with
   | true =>
     obtain ⟨k,hk,hkj,q⟩:=hv.1 rfl
     exact .inl ⟨true,rfl,fun _=>⟨k,hk,by omega,q⟩,fun _=>rfl⟩
   | false =>
     simp only[cond_false]
     rw[lW (ht _ (zm hj))]
     have iff:∀ c:Bool,(c=true↔t[j]=(e.1,e.2.1,()))→(c=true↔∃ k,∃ hk:k<t.length,k<j+1∧t[k]=(e.1,e.2.1,())):=fun c hc=>by
       constructor
       · exact fun q=>⟨j,hj,by omega,hc.1 q⟩
       · rintro ⟨k,hk,hkj,q⟩
         by_cases ek:k=j
         · subst ek; exact hc.2 q
         · exact absurd (hv.2 ⟨k,hk,by omega,q⟩) (by decide)
     by_cases c1:t[j].2.1=e.2.1
     · rw[zp c1]
       refine .inl ⟨decide (t[j].1=e.1),rfl,iff _ ?_⟩
       rw[decide_eq_true_eq]
       exact ⟨fun q=>Prod.ext q (Prod.ext c1 rfl),fun q=>by rw[q]⟩
     · rw[zn c1]
       exact .inl ⟨false,rfl,iff _ ⟨(fun q=>by cases q),fun q=>absurd (by rw[q]) c1⟩⟩) (fun c hv=>by
   have:c=true:=by
     obtain ⟨k,hk,q⟩:=List.mem_iff_getElem.1 hy
     exact hv.2 ⟨k,hk,hk,q⟩
   subst this
   unfold bj
   simp only[ae]
   rw[zn (by omega),wrap64 (by omega) (by omega)]
   exact ⟨_,rfl,rfl⟩) false ⟨(fun q=>by cases q),fun ⟨k,hk,hki,_⟩=>by omega⟩
 exact h1.trans (congrArg some h2)
theorem iY (aw:zck=some true) {s:St1}{d:Dot1}{redo:Bool} (hw:Wide s):cU s d redo=some true:=by
 obtain ⟨g,h1,h2⟩:=xn hw
 unfold cU
 rw[h1]
 simp only[zb,aw]
 cases g with
 | false=>rfl
 | true =>
 have hs:=h2 rfl
 have st:=hs.st
 obtain ⟨b,hb,hm,hof⟩:=of_t (d:=d) (redo:=redo) st (by omega) hs.txns
 rw[Bool.not_true,cond_false,hof]
 simp only[zb]
 rw[ab1 (d:=d) (redo:=redo) st (by omega) hs.txns hm]
 simp only[zb]
 have loop : ∀ (l : List Chg) (t : List cm) (e f : Int), l.length < 100000 → t.length < 1000000 → (∀ y ∈ t, y.1.length < 1000000) → (∀ c ∈ l, (((j0 c).1, (j0 c).2.1, ()) : cm) ∈ t) →
     aK (bu (l,e,()) (t,f,())) (0,())=some true:=fun l t e f hl ht hy hc=>by
   obtain ⟨r,q1,q2⟩:=cd (S:=Unit) (f:=bu (l,e,()) (t,f,())) l.length (fun i _=>((i:Int),())) (fun _ _=>True) (fun r=>r=true) (fun i _ hi _=>by
     refine .inl ⟨(),?_,trivial⟩
     have hin:=hc _ (zm hi)
     unfold bu
     simp only[ae]
     rw[zp (by omega),aP hi]
     simp only[zb,ae]
     unfold j0 at hin
     by_cases c1:l[i].1=1
     · rw[zp c1] at hin ⊢
       rw[ay]
       exact kh ht (by omega) hy hin
     · rw[zn c1] at hin ⊢
       rw[ay]
       exact kh ht (by omega) hy hin) (fun _ _=>by
     unfold bu
     simp only[ae]
     rw[zn (by omega),aw]
     exact ⟨_,rfl,rfl⟩) () trivial
   exact q1.trans (congrArg some q2)
 by_cases c:fc s d redo b=0
 · rw[zp c,zp c]
   simp only[decide_true,Bool.not_true,cond_false]
   obtain ⟨_,_,_,c4,c5⟩:=jX c
   have ia:=fV (u:=s.2.1) hs.txns
   have ib:=fV (u:=upU s d) hs.txns
   have hfew:=awa (pA ia) (pA ib)
   have hlow:=lz ia ib
   exact loop _ _ _ _ (by omega) (mz hlow) (fun y hy=>(kr hlow y hy).1) fun x hx=>amu hx
 · rw[zn c,zn c]
   simp only[decide_true,Bool.not_true,cond_false]
   exact loop _ _ _ _ (by simp) (by simp) (fun y hy=>by cases hy) fun x hx=>by cases hx
end Go.Proofs.YtnbgkhdcidbkaaaGreatDoor.Q
namespace Go.Proofs.YtnbgkhdcidbkaaaGreatDoor.Q
open Go.EM Go.TY Go.Proofs Go.Proofs.YtnbgkhdcidbkaaaGreatDoor.Y
theorem agO {s:St1}{t:Txn1}{n:Nat} (hl:s.1.length≤500) (hr:np s.1) (hk:DOk s.2.2.1 n) (hn:n<10000) (h:uT (hiT t.1 s.1) t.1=false) :
   ∃ kn,zdq s t=some (loT t.1 s.1++t::hiT t.1 s.1,s.2.1,kn,s.2.2.2.1,s.2.2.2.2.1,())∧DOk kn (n+1):=by
 have e2:loT t.1 s.1++hiT t.1 s.1=s.1:=lohi
 obtain ⟨kn,d1,d2⟩:=adJ (d:=t.1) hk (by omega)
 have e1:zau s.1=some s.1:=by
   unfold zau fJ
   rw[zp (by simp only[most]; omega)]
 have hlen:(loT t.1 s.1).length≤s.1.length:=by
   have:=congrArg List.length e2
   rw[List.length_append] at this; omega
 have e3:zas ((loT t.1 s.1).length:Int) [t] s.1=some ((),loT t.1 s.1++t::hiT t.1 s.1,()):=by
   unfold zas insT
   rw[zp ⟨by omega,by omega,by simp,by simp only[most,List.length_singleton]; omega⟩]
   have q1:s.1.take (loT t.1 s.1).length=loT t.1 s.1:=by
     have q:(loT t.1 s.1++hiT t.1 s.1).take (loT t.1 s.1).length=loT t.1 s.1:=List.take_left' rfl
     rwa [e2] at q
   have q2:s.1.drop (loT t.1 s.1).length=hiT t.1 s.1:=by
     have q:(loT t.1 s.1++hiT t.1 s.1).drop (loT t.1 s.1).length=hiT t.1 s.1:=List.drop_left' rfl
     rwa [e2] at q
   simp[q1,q2]
 refine ⟨kn,?_,d2⟩
 unfold zdq zdw zd1
 rw[sH (by omega) hr,acI (by omega) hr,h]
 simp only[zb,Bool.not_false,cond_true,cond_false,ae]
 rw[zn (by decide),e1]
 simp only[zb]
 rw[e3]
 simp only[zb]
 rw[d1]
 rfl
abbrev opA:Op1:=(1,[[97]],(1,1,[],()),0,[],())
abbrev opB:Op1:=(1,[[97]],(1,2,[],()),0,[((0,1,()),0,())],())
abbrev txA:Txn1:=((0,1,()),0,1,false,[opA],())
abbrev txB:Txn1:=((0,2,()),0,2,false,[opB],())
theorem ayr:kM [((0,1,()),0,())]=true:=by
 unfold kM
 rw[zp (fun i h=>by
   have:i=0:=by simp at h; omega
   subst this
   decide)]
theorem avQ:opM opA=0:=avM adV
theorem avP:opM opB=0:=by
 unfold opM
 simp[adV,dh,ayr]
theorem agH:TxnsOk [txA,txB] 20 where
 len:=by simp
 rise:=List.pairwise_cons.2 ⟨fun x hx=>by rw[List.mem_singleton.1 hx]; decide,List.pairwise_singleton ..⟩
 all t ht:=by
   rcases List.mem_cons.1 ht with rfl | ht
   · exact ⟨by simp,by simp,fun o ho=>by rw[List.mem_singleton.1 ho]; exact ⟨⟨by simp,by simp,by simp,by simp⟩,.inl avQ⟩,by decide,by decide,by decide⟩
   · rw[List.mem_singleton.1 ht]
     exact ⟨by simp,by simp,fun o ho=>by rw[List.mem_singleton.1 ho]; exact ⟨⟨by simp,by simp,by simp,by simp⟩,.inl avP⟩,by decide,by decide,by decide⟩
theorem agI {n:Nat} (h:n<10):jM (1,(n:Int),[],())=[UInt8.ofNat (48+n)]:=by
 show Lib.itoa (n:Int)=_
 rw[afR,mP h]
theorem ad6:zck=some true:=by
 have r2:bg (0,2,())=true:=by decide
 unfold zck
 rw[show zc9 1 1 []=some txA from rfl,show zc9 2 2 [((0,1,()),0,())]=some txB from rfl]
 simp only[zb]
 obtain ⟨k1,a1,a2⟩:=agO (s:=(([],[],([0,0,0,0,0,0,0,0,0,0,0,0,0,0,0,0],[],()),([0,0,0,0,0,0,0,0,0,0,0,0,0,0,0,0],[],()),[[],[],[],[],[],[],[],[]],()):St1)) (t:=txA) (n:=0) (by simp) List.Pairwise.nil ⟨rfl,by simp,fun d hd=>by cases hd⟩ (by omega) rfl
 rw[a1]
 simp only[zb]
 have c1:loT txA.1 []++txA::hiT txA.1 []=[txA]:=rfl
 rw[c1]
 obtain ⟨k2,b1,b2⟩:=agO (s:=(([txA],[],k1,([0,0,0,0,0,0,0,0,0,0,0,0,0,0,0,0],[],()),[[],[],[],[],[],[],[],[]],()):St1)) (t:=txB) (n:=1) (by simp) (List.pairwise_singleton ..) a2 (by omega) (show uT (hiT (0,2,()) [txA]) (0,2,())=false from rfl)
 rw[b1]
 simp only[zb]
 have c2:loT txB.1 [txA]++txB::hiT txB.1 [txA]=[txA,txB]:=rfl
 rw[c2]
 have st:StOk ([txA,txB],[],k2,([0,0,0,0,0,0,0,0,0,0,0,0,0,0,0,0],[],()),[[],[],[],[],[],[],[],[]],()) 100:=⟨by simp,⟨by simp,List.Pairwise.nil,fun x hx=>by cases hx⟩,rfl,by simp,rfl⟩
 have low:LowN [txA,txB]:=agH.lowN
 obtain ⟨b,hb,hm,hof⟩:=of_t (d:=(0,2,())) (redo:=false) st (by omega) agH
 have hbf:zdu ([0,0,0,0,0,0,0,0,0,0,0,0,0,0,0,0],[],()) (0,2,())=some false:=uh r2
 simp only at hb
 rw[hbf] at hb
 cases hb
 have nz:fc ([txA,txB],[],k2,([0,0,0,0,0,0,0,0,0,0,0,0,0,0,0,0],[],()),[[],[],[],[],[],[],[],[]],()) (0,2,()) false false=0:=by rfl
 rw[hof,zp nz]
 simp only[zb]
 have e:dM (ic (allM [txA,txB] [])) (ic (allM [txA,txB] [((0,2,()),1,())]))=[kL ([[97]],1,[(1,2,[],())],0,()) ([[97]],1,[(1,1,[],())],0,())]:=by
   have v1:ic (allM [txA,txB] [])=[([[97]],1,[(1,2,[],())],0,())]:=rfl
   have v2:ic (allM [txA,txB] [((0,2,()),1,())])=[([[97]],1,[(1,1,[],())],0,())]:=rfl
   rw[v1,v2]
   unfold dM
   rw[gp.eq_def]
   simp only
   rw[zn (by decide),zn (by decide),zn (by decide),gp.eq_def]
   rfl
 have eu:upU ([txA,txB],[],k2,([0,0,0,0,0,0,0,0,0,0,0,0,0,0,0,0],[],()),[[],[],[],[],[],[],[],[]],()) (0,2,())=[((0,2,()),1,())]:=rfl
 rw[eu,e]
 have small:∀ n:Int,-2147483647≤n→n≤2147483647→og ([[97]],1,[(1,n,[],())],0,()):=fun n h1 h2=>⟨by simp,by simp,by simp,fun v hv=>by
   rw[List.mem_singleton.1 hv]
   unfold dh; rw[decide_eq_true_eq]; exact .inl ⟨rfl,rfl,h1,h2⟩⟩
 have fit:∀ c∈[kL ([[97]],1,[(1,2,[],())],0,()) ([[97]],1,[(1,1,[],())],0,())],fitC c:=fun c hc=>by
   rw[List.mem_singleton.1 hc]
   exact ⟨⟨small 2 (by omega) (by omega),by unfold inR; simp[kL]⟩,small 1 (by omega) (by omega),by unfold inR; simp[kL]⟩
 rw[tj (by simp) fit]
 have t1:jM (1,1,[],())=[49]:=agI (n:=1) (by omega)
 have t2:jM (1,2,[],())=[50]:=agI (n:=2) (by omega)
 have tx:([kL ([[97]],1,[(1,2,[],())],0,()) ([[97]],1,[(1,1,[],())],0,())].flatMap jg)=[45,32,97,32,61,32,50,10,43,32,97,32,61,32,49,10]:=by
   rw[List.flatMap_cons,List.flatMap_nil,List.append_nil]
   unfold jg kL uQ ym
   simp only[List.map_cons,List.map_nil,t1,t2]
   rfl
 rw[tx]
 simp only[zb,decide_true,cond_true]
 rcases acZ (s:=([txA,txB],[],k2,([0,0,0,0,0,0,0,0,0,0,0,0,0,0,0,0],[],()),[[],[],[],[],[],[],[],[]],())) (a:=(0,2,())) low with ⟨_,hn⟩ | ⟨t,ht,htd,hn⟩
 · exact absurd rfl (hn txB (by simp))
 · have : t = txB := by
     simp only[List.mem_cons,List.mem_nil_iff,or_false] at ht
     rcases ht with rfl | rfl
     · exact absurd htd (by decide)
     · rfl
   subst this
   rw[hn,oY low]
   rfl
theorem zM:∀ v:tU.ps.V,okV tU.ps v→tU.fn v=some true:=fun v h=>kN ad6 (abT h.1)
theorem wV:∀ v:cA.ps.V,okV cA.ps v→cA.fn v=some true:=fun v h=>iY ad6 (abT h.1)
end Go.Proofs.YtnbgkhdcidbkaaaGreatDoor.Q
