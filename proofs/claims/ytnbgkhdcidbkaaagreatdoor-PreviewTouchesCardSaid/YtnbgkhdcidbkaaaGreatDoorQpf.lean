import Derived.Test.YtnbgkhdcidbkaaaGreatDoorQpa
set_option linter.unusedVariables false
set_option linter.unusedSimpArgs false
set_option maxRecDepth 100000
namespace Go.Proofs.YtnbgkhdcidbkaaaGreatDoor.Q
open Go.EM Go.TY Go.Proofs Go.Proofs.YtnbgkhdcidbkaaaGreatDoor.Y
abbrev loT (d:Dot1) (l:List Txn1):List Txn1:=lo cmpD (·.1) d l
abbrev hiT (d:Dot1) (l:List Txn1):List Txn1:=hi cmpD (·.1) d l
theorem ag1 {R X:Type}{key:X→Dot1}{f:Int×Int×Unit→Option ((Int×Int×Unit)⊕((Int×Unit)⊕R))}{l:List X}{d:Dot1} (hr:iJ cmpD key l)
   (hturn:∀ i j:Nat,i<j→j≤l.length→∀ h:(i+j)/2<l.length,f ((i:Int),(j:Int),())=some (.inl (if cmpD (key l[(i+j)/2]) d<0 then ((((i+j)/2+1:Nat):Int),(j:Int),()) else ((i:Int),(((i+j)/2:Nat):Int),()))))
   (hend:∀ i:Nat,f ((i:Int),(i:Int),())=some (.inr (.inl ((i:Int),())))) :
   aI f ((0:Int),(l.length:Int),())=some (.inl (((lo cmpD key d l).length:Int),())):=by
 have hlen:(lo cmpD key d l).length≤l.length:=by
   have e:lo cmpD key d l++hi cmpD key d l=l:=lohi
   have:=congrArg List.length e
   rw[List.length_append] at this; omega
 have key:∀ (q i j:Nat),j-i≤q→i≤(lo cmpD key d l).length→(lo cmpD key d l).length≤j→j≤l.length→aI f ((i:Int),(j:Int),())=some (.inl (((lo cmpD key d l).length:Int),())):=by
   intro q
   induction q with
   | zero =>
     intro i j h1 h2 h3 h4
     have e:i=j:=by omega
     subst e
     rw[aD (hend i),show (lo cmpD key d l).length=i by omega]
   | succ q ih =>
     intro i j h1 h2 h3 h4
     by_cases hij:i<j
     · have hh:(i+j)/2<l.length:=by omega
       have ht:=hturn i j hij h4 hh
       by_cases hn:(i+j)/2<(lo cmpD key d l).length
       · rw[zp (anI hh hn)] at ht
         rw[aH ht]
         exact ih _ _ (by omega) (by omega) h3 h4
       · have:=anJ dV hr hh (k:=d) (Nat.le_of_not_lt hn)
         rw[zn (by omega)] at ht
         rw[aH ht]
         exact ih _ _ (by omega) h2 (by omega) (by omega)
     · have e:i=j:=by omega
       subst e
       rw[aD (hend i),show (lo cmpD key d l).length=i by omega]
 exact key l.length 0 l.length (by omega) (by omega) hlen (Nat.le_refl _)
def uS (q:List Txn1) (d:Dot1):Bool:=match q with
 | []=>false
 | x::_=>decide (cmpD x.1 d=0)
theorem ac7 {l:List Txn1}{d:Dot1}{x:Txn1}{q:List Txn1} (h:hiT d l=x::q):∃ hk:(loT d l).length<l.length,l[(loT d l).length]=x:=by
 have e:loT d l++hiT d l=l:=lohi
 rw[h] at e
 have hl:=congrArg List.length e
 simp only[List.length_append,zl] at hl
 have e3:(loT d l++x::q)[(loT d l).length]? = some x:=by simp
 rw[e] at e3
 have hk:(loT d l).length<l.length:=by omega
 rw[zg hk] at e3
 exact ⟨hk,Option.some.inj e3⟩
theorem ac6 {l:List Txn1}{d:Dot1} (h:hiT d l=[]):(loT d l).length=l.length:=by
 have e:loT d l++hiT d l=l:=lohi
 rw[h,List.append_nil] at e
 rw[e]
theorem sG {l:List Txn1}{d:Dot1} (hl:l.length<1000000) (hr:nl l) :
   zae l d ()=some (((loT d l).length:Int),uS (hiT d l) d,()):=by
 have h:aI (qS l d) ((0:Int),(l.length:Int),())=some (.inl (((loT d l).length:Int),())):=ag1 (key:=fun t:Txn1=>t.1) (f:=qS l d) (d:=d) hr (fun i j hij hj hh=>by
   unfold qS zc1
   simp only[ae]
   rw[zp (by omega),show (i:Int)+(j:Int)=((i+j:Nat):Int) by omega,sB (by omega)]
   simp only[zb]
   rw[wrap64 (n:=(((i+j)/2:Nat):Int)) (by omega) (by omega),aN hh]
   simp only[zb,mM]
   rw[wrap64 (by omega) (by omega)]
   by_cases hc:cmpD l[(i+j)/2].1 d<0
   · rw[zp hc,zp hc]; rfl
   · rw[zn hc,zn hc]) (fun i=>by
   unfold qS
   simp only[ae]
   rw[zn (by omega)])
 unfold zae
 rw[h,ay]
 simp only[ae]
 cases hq:hiT d l with
 | nil=>rw[ac6 hq,zn (by omega)]; rfl
 | cons x q =>
   obtain ⟨hk,e⟩:=ac7 hq
   rw[zp (by omega),aN hk,e]
   unfold zc1
   simp only[zb,mM]
   rfl
theorem acK {l:List Txn1}{d:Dot1} (hl:l.length<1000000) (hr:nl l) :
   zaf l d ()=some (((loT d l).length:Int),uS (hiT d l) d,()):=by
 have h:aI (qR l d) ((0:Int),(l.length:Int),())=some (.inl (((loT d l).length:Int),())):=ag1 (key:=fun t:Txn1=>t.1) (f:=qR l d) (d:=d) hr (fun i j hij hj hh=>by
   unfold qR zdp
   simp only[ae]
   rw[zp (by omega),show (i:Int)+(j:Int)=((i+j:Nat):Int) by omega,sB (by omega)]
   simp only[zb]
   rw[wrap64 (n:=(((i+j)/2:Nat):Int)) (by omega) (by omega),aN hh]
   simp only[zb,mM]
   rw[wrap64 (by omega) (by omega)]
   by_cases hc:cmpD l[(i+j)/2].1 d<0
   · rw[zp hc,zp hc]; rfl
   · rw[zn hc,zn hc]) (fun i=>by
   unfold qR
   simp only[ae]
   rw[zn (by omega)])
 unfold zaf
 rw[h,ay]
 simp only[ae]
 cases hq:hiT d l with
 | nil=>rw[ac6 hq,zn (by omega)]; rfl
 | cons x q =>
   obtain ⟨hk,e⟩:=ac7 hq
   rw[zp (by omega),aN hk,e]
   unfold zdp
   simp only[zb,mM]
   rfl
theorem ads {l:List Txn1}{d:Dot1} (hr:nl l) (h:uS (hiT d l) d=false):∀ t∈l,t.1≠d:=by
 intro t ht e
 have e2:loT d l++hiT d l=l:=lohi
 rw[← e2] at ht
 rcases List.mem_append.1 ht with ht | ht
 · have:=je (c:=cmpD) (key:=fun y:Txn1=>y.1) (k:=d) (l:=l) t ht
   have q:cmpD t.1 d<0:=this
   rw[e,(dV.zero _ _).2 rfl] at q; omega
 · cases hq:hiT d l with
   | nil=>rw[hq] at ht; cases ht
   | cons x q =>
     rw[hq] at ht h
     have ha:=kZ dV hr hq
     unfold uS at h
     simp only[decide_eq_false_iff_not] at h
     rcases List.mem_cons.1 ht with e3 | ht
     · rw[← e3,e] at h; exact h ((dV.zero _ _).2 rfl)
     · have q:0<cmpD t.1 d:=ha.2 t ht
       rw[e,(dV.zero _ _).2 rfl] at q; omega
theorem adC {l:List Txn1}{d:Dot1} (hl:l.length<1000000) (hr:nl l) :
   (zdx l d=some (-1)∧∀ t∈l,t.1≠d)∨∃ k:Nat,zdx l d=some (k:Int)∧∃ h:k<l.length,l[k].1=d:=by
 unfold zdx
 rw[sG hl hr]
 simp only[zb]
 cases hh:uS (hiT d l) d with
 | false=>exact .inl ⟨rfl,ads hr hh⟩
 | true =>
   cases hq:hiT d l with
   | nil=>rw[hq] at hh; cases hh
   | cons x q =>
     rw[hq] at hh
     obtain ⟨hk,e⟩:=ac7 hq
     exact .inr ⟨_,rfl,hk,by rw[e]; exact (dV.zero _ _).1 (of_decide_eq_true hh)⟩
abbrev rt:Ty:=(.agg (.cons (.int .i64) (.cons (.int .i64) .unit)))
theorem sR {x y:Dot1}{v:Bool}:∀ {m:List (Dot1×Bool)},fk rt x (putK rt y v m)=if x=y then some v else fk rt x m
 | []=>by
   unfold putK fk
   rw[kc,ae]
   unfold fk
   rfl
 | e::m=>by
   unfold putK
   rw[kc]
   by_cases hy:y=e.1
   · rw[zt hy,cond_true]
     conv=>lhs; unfold fk
     conv=>rhs; rhs; unfold fk
     rw[kc,kc,ae,ae,← hy]
     by_cases hx:x=y
     · rw[zp hx,zp hx]
     · rw[zn hx,zn hx,zn hx]
   · rw[zf hy,cond_false]
     conv=>lhs; unfold fk
     conv=>rhs; rhs; unfold fk
     rw[kc,ae,ae,sR]
     by_cases hx:x=e.1
     · rw[zp hx,zn (fun e'=>hy (by rw[← e',hx])),zp hx]
     · rw[zn hx,zn hx]
def hasD (x:Dot1) (m:List (Dot1×Bool)):Bool:=(getK rt false x m).1
theorem afX {x y:Dot1}{m:List (Dot1×Bool)}:hasD x (putK rt y true m)=(decide (y=x)||hasD x m):=by
 unfold hasD getK
 rw[sR]
 by_cases h:x=y
 · rw[zp h,zt h.symm]; rfl
 · rw[zn h,zf (fun e=>h e.symm),Bool.false_or]
def acv (m:List (Dot1×Bool)) (l:List Ref1):List (Dot1×Bool):=l.foldl (fun m x=>putK rt x.1 true m) m
def np (l:List Ref1) (d:Dot1):Bool:=l.any fun r=>decide (r.1=d)
theorem sx {x:Dot1}:∀ {l:List Ref1}{m:List (Dot1×Bool)},hasD x (acv m l)=(np l x||hasD x m)
 | [],m=>rfl
 | y::l,m=>by
   have:=sx (x:=x) (l:=l) (m:=putK rt y.1 true m)
   unfold acv np at this ⊢
   rw[List.foldl_cons,this,afX,List.any_cons]
   cases decide (y.1=x)<;>cases l.any (fun r=>decide (r.1=x))<;>rfl
def opsD (m:List (Dot1×Bool)) (l:List Op1):List (Dot1×Bool):=l.foldl (fun m o=>acv m o.2.2.2.2.1) m
def opsN (l:List Op1) (d:Dot1):Bool:=l.any fun o=>np o.2.2.2.2.1 d
theorem xk {x:Dot1}:∀ {l:List Op1}{m:List (Dot1×Bool)},hasD x (opsD m l)=(opsN l x||hasD x m)
 | [],m=>rfl
 | o::l,m=>by
   have:=xk (x:=x) (l:=l) (m:=acv m o.2.2.2.2.1)
   unfold opsD opsN at this ⊢
   rw[List.foldl_cons,this,sx,List.any_cons]
   cases np o.2.2.2.2.1 x<;>cases l.any (fun o=>np o.2.2.2.2.1 x)<;>rfl
structure LowN (l:List Txn1):Prop where
 len:l.length≤1000
 rise:nl l
 ops:∀ t∈l,t.2.2.2.2.1.length≤1000
 refs:∀ t∈l,∀ o∈t.2.2.2.2.1,o.2.2.2.2.1.length<1000000
theorem TxnsOk.lowN {l:List Txn1} (h:TxnsOk l 20):LowN l:=by
 have low:=(kW h (by omega)).low
 exact ⟨low.len,h.rise,low.ops,low.seen⟩
theorem yW {t:Txn1} (ho:t.2.2.2.2.1.length≤1000) (hs:∀ o∈t.2.2.2.2.1,o.2.2.2.2.1.length<1000000) :
   aI (qN t) (0,[],())=some (.inl (opsD [] t.2.2.2.2.1,())):=by
 have mid:=bE (S:=List (Dot1×Bool)) (R:=((List (Dot1×Bool)×Unit)⊕List Dot1)) (f:=qN t) (l:=t.2.2.2.2.1) (fun k m=>((k:Int),m,())) (fun _ o m=>.inl (acv m o.2.2.2.2.1)) (fun m'=>.inl (m',())) (fun _ _=>True) (fun k hk m' _=>by
   refine .inl ⟨_,rfl,?_,trivial⟩
   have hseen:=hs _ (zm hk)
   unfold qN
   simp only[ae]
   rw[zp (by omega),aN hk]
   simp only[zb]
   have inner:=bE (S:=List (Dot1×Bool)) (f:=wn ((k:Int),m',()) t.2.2.2.2.1[k]) (l:=t.2.2.2.2.1[k].2.2.2.2.1) (fun j m=>((j:Int),m,())) (fun _ x m=>.inl (putK rt x.1 true m)) (fun m''=>(.inl (((k+1:Nat):Int),m'',()):(Int×List (Dot1×Bool)×Unit)⊕((List (Dot1×Bool)×Unit)⊕List Dot1))) (fun _ _=>True) (fun j hj m'' _=>by
     refine .inl ⟨_,rfl,?_,trivial⟩
     unfold wn
     simp only[ae]
     rw[zp (by omega),aN hj]
     simp only[zb]
     rw[wrap64 (by omega) (by omega)]; rfl) (fun m'' _=>by
     unfold wn
     simp only[ae]
     rw[zn (by omega),wrap64 (by omega) (by omega)]; rfl) m' trivial
   rw[show ((0:Int),m',())=(((0:Nat):Int),m',()) from rfl,inner,cm]
   rfl) (fun m' _=>by
   unfold qN
   simp only[ae]
   rw[zn (by omega)]) [] trivial
 rw[show ((0:Int),([]:List (Dot1×Bool)),())=(((0:Nat):Int),[],()) from rfl,mid,cm]
 rfl
def jW (l:List Txn1) (t:Txn1):List Dot1:=l.flatMap fun x=>if opsN t.2.2.2.2.1 x.1=true∧x.1≠t.1 then [x.1] else []
def dS (l:List Txn1) (d:Dot1):List Dot1:=l.flatMap fun t=>if t.1≠d∧opsN t.2.2.2.2.1 d=true then [t.1] else []
theorem ac1 {s:St1}{a:Dot1} (h:LowN s.1) :
   (zbn s a=some []∧∀ t∈s.1,t.1≠a)∨∃ t∈s.1,t.1=a∧zbn s a=some (jW s.1 t):=by
 have hl:=h.len
 unfold zbn
 rcases adC (d:=a) (l:=s.1) (by omega) h.rise with ⟨hf,hn⟩ | ⟨k,hf,hk,ha⟩
 · rw[hf]
   exact .inl ⟨rfl,hn⟩
 · refine .inr ⟨s.1[k],zm hk,ha,?_⟩
   rw[hf]
   simp only[zb,ae]
   rw[zn (by omega),aN hk]
   simp only[zb]
   rw[yW (h.ops _ (zm hk)) (h.refs _ (zm hk)),ay]
   have out:=ed (R:=List Dot1) (f:=pn s a) (l:=s.1) (fun i o=>((i:Int),opsD [] s.1[k].2.2.2.2.1,o,())) (fun x=>if opsN s.1[k].2.2.2.2.1 x.1=true∧x.1≠s.1[k].1 then [x.1] else []) (fun o=>o) 1 (fun x _=>by split<;>simp) (fun i hi o ho=>by
     have hh:(getK (.agg (.cons (.int .i64) (.cons (.int .i64) .unit))) false s.1[i].1 (opsD [] s.1[k].2.2.2.2.1)).1=opsN s.1[k].2.2.2.2.1 s.1[i].1:=by
       have:=xk (x:=s.1[i].1) (l:=s.1[k].2.2.2.2.1) (m:=[])
       unfold hasD at this
       rw[this]
       show (_||false)=_
       rw[Bool.or_false]
     unfold pn
     simp only[ae]
     rw[zp (by omega),aN hi]
     simp only[zb]
     rw[hh,wrap64 (by omega) (by omega),kc]
     cases hx:opsN s.1[k].2.2.2.2.1 s.1[i].1 with
     | false=>simp
     | true =>
       simp only[cond_true,bh]
       by_cases c:s.1[i].1=a
       · rw[zp c,zn (by rw[ha]; exact fun q=>q.2 c)]; simp
       · rw[zn c,zp ⟨trivial,by rw[ha]; exact c⟩,aU (by simp; omega)]
         rfl) (fun o _=>by
     unfold pn
     simp only[ae]
     rw[zn (by omega)])
   exact out
theorem qs {l:List Ref1}{d:Dot1} (h:l.length<1000000):zag l (d,())=some (np l d):=by
 obtain ⟨r,h1,h2⟩:=bZ (S:=Unit) (f:=wD l (d,())) l.length (fun i _=>((i:Int),())) (fun i _=>∀ k (hk:k<l.length),k<i→l[k].1≠d) (fun r=>(r<0∧np l d=false)∨(0≤r∧np l d=true)) (fun i _ hi hv=>by
   unfold wD za9
   simp only[ae,kc]
   rw[zp (by omega),aN hi,wrap64 (by omega) (by omega)]
   simp only[zb,ae]
   by_cases c:l[i].1=d
   · rw[zp c]
     exact .inr ⟨_,rfl,.inr ⟨by omega,List.any_eq_true.2 ⟨_,zm hi,zt c⟩⟩⟩
   · rw[zn c]
     exact .inl ⟨(),rfl,fun k hk hki=>by
       by_cases e:k=i
       · subst e; exact c
       · exact hv k hk (by omega)⟩) (fun _ hv=>by
   unfold wD
   simp only[ae]
   rw[zn (by omega)]
   exact ⟨_,rfl,.inl ⟨by omega,List.any_eq_false.2 fun x hx=>by
     obtain ⟨k,hk,rfl⟩:=List.mem_iff_getElem.1 hx
     simpa using hv k hk hk⟩⟩) () (fun k hk hki=>by omega)
 unfold zag zai
 rw[show ((0:Int),())=(((0:Nat):Int),()) from rfl,h1]
 simp only[zb]
 rcases h2 with ⟨q,e⟩ | ⟨q,e⟩
 · rw[e,zf (by omega)]
 · rw[e,zt (by omega)]
theorem sS {l:List Op1}{d:Dot1} (h:l.length≤1000) (hs:∀ o∈l,o.2.2.2.2.1.length<1000000):zaj l (d,())=some (opsN l d):=by
 obtain ⟨r,h1,h2⟩:=bZ (S:=Unit) (f:=wC l (d,())) l.length (fun i _=>((i:Int),())) (fun i _=>∀ k (hk:k<l.length),k<i→np l[k].2.2.2.2.1 d=false) (fun r=>(r<0∧opsN l d=false)∨(0≤r∧opsN l d=true)) (fun i _ hi hv=>by
   unfold wC zbc
   simp only[ae]
   rw[zp (by omega),aN hi,wrap64 (by omega) (by omega)]
   simp only[zb]
   rw[qs (hs _ (zm hi))]
   simp only[zb]
   cases c:np l[i].2.2.2.2.1 d with
   | true=>exact .inr ⟨_,rfl,.inr ⟨by omega,List.any_eq_true.2 ⟨_,zm hi,c⟩⟩⟩
   | false =>
     exact .inl ⟨(),rfl,fun k hk hki=>by
       by_cases e:k=i
       · subst e; exact c
       · exact hv k hk (by omega)⟩) (fun _ hv=>by
   unfold wC
   simp only[ae]
   rw[zn (by omega)]
   exact ⟨_,rfl,.inl ⟨by omega,List.any_eq_false.2 fun x hx=>by
     obtain ⟨k,hk,rfl⟩:=List.mem_iff_getElem.1 hx
     simp[hv k hk hk]⟩⟩) () (fun k hk hki=>by omega)
 unfold zaj zam
 rw[show ((0:Int),())=(((0:Nat):Int),()) from rfl,h1]
 simp only[zb]
 rcases h2 with ⟨q,e⟩ | ⟨q,e⟩
 · rw[e,zf (by omega)]
 · rw[e,zt (by omega)]
theorem oX {s:St1}{d:Dot1} (h:LowN s.1):zbe s d=some (dS s.1 d):=by
 have hl:=h.len
 have out:=ed (R:=List Dot1) (f:=ww s d) (l:=s.1) (fun i o=>((i:Int),o,())) (fun t=>if t.1≠d∧opsN t.2.2.2.2.1 d=true then [t.1] else []) (fun o=>o) 1 (fun x _=>by split<;>simp) (fun i hi o ho=>by
   unfold ww
   simp only[ae]
   rw[zp (by omega),aN hi]
   simp only[zb]
   rw[sS (h.ops _ (zm hi)) (h.refs _ (zm hi)),wrap64 (by omega) (by omega),kc]
   simp only[zb,bh]
   by_cases c:s.1[i].1=d
   · rw[zp c,zn (fun q=>q.1 c)]; simp
   · rw[zn c]
     cases hx:opsN s.1[i].2.2.2.2.1 d with
     | false=>rw[zn (fun q=>by cases q.2)]; simp
     | true =>
       rw[zp ⟨c,rfl⟩,aU (by simp; omega)]
       rfl) (fun o _=>by
   unfold ww
   simp only[ae]
   rw[zn (by omega)])
 exact out
theorem adt {l:List Dot1}{d:Dot1} (h:l.length<1000000):jh l d=some (l.any fun x=>decide (x=d)):=by
 have:=afH (f:=eW l d) (l:=l) (fun i=>((i:Int),())) (fun x=>decide (x=d)) true false (fun i hi=>by
   unfold eW
   simp only[ae,kc]
   rw[zp (by omega),aN hi,wrap64 (by omega) (by omega)]
   simp only[zb,decide_eq_true_eq]
   by_cases c:l[i]=d
   · rw[zp c,zp c]
   · rw[zn c,zn c]; rfl) (by
   unfold eW
   simp only[ae]
   rw[zn (by omega)])
 unfold jh
 rw[show ((0:Int),())=(((0:Nat):Int),()) from rfl,this]
 cases l.any (fun x=>decide (x=d))<;>rfl
theorem gw {A B:Type}{g:A→List B} (h:∀ x,(g x).length≤1):∀ {l:List A},(l.flatMap g).length≤l.length
 | []=>by simp
 | x::l=>by
   have h1:=h x
   have h2:=gw h (l:=l)
   rw[List.flatMap_cons,List.length_append,zl]
   omega
theorem uI {l:List Txn1}{t:Txn1}:(jW l t).length≤l.length:=by
 unfold jW
 have:=gw (l:=l) (g:=fun x=>if opsN t.2.2.2.2.1 x.1=true∧x.1≠t.1 then [x.1] else []) (fun x=>by split<;>simp)
 exact this
theorem qt {l:List Txn1}{d:Dot1}:(dS l d).length≤l.length:=by
 unfold dS
 have:=gw (l:=l) (g:=fun x=>if x.1≠d∧opsN x.2.2.2.2.1 d=true then [x.1] else []) (fun x=>by split<;>simp)
 exact this
theorem uJ {l:List Txn1}{t:Txn1}{b:Dot1}:((jW l t).any fun x=>decide (x=b))=(opsN t.2.2.2.2.1 b&&decide (b≠t.1)&&l.any fun x=>decide (x.1=b)):=by
 unfold jW
 rw[Bool.eq_iff_iff]
 simp only[List.any_eq_true,List.mem_flatMap,Bool.and_eq_true,decide_eq_true_eq]
 constructor
 · rintro ⟨x,⟨y,hy,hx⟩,rfl⟩
   split at hx
   · rename_i c
     rw[List.mem_singleton] at hx
     subst hx
     exact ⟨c,y,hy,rfl⟩
   · cases hx
 · rintro ⟨c,y,hy,rfl⟩
   exact ⟨y.1,⟨y,hy,by rw[zp c]; exact List.mem_singleton.2 rfl⟩,rfl⟩
theorem jq {l:List Txn1}{d a:Dot1}:((dS l d).any fun x=>decide (x=a))=l.any fun t=>decide (t.1=a)&&decide (a≠d)&&opsN t.2.2.2.2.1 d:=by
 unfold dS
 rw[Bool.eq_iff_iff]
 simp only[List.any_eq_true,List.mem_flatMap,Bool.and_eq_true,decide_eq_true_eq]
 constructor
 · rintro ⟨x,⟨y,hy,hx⟩,rfl⟩
   split at hx
   · rename_i c
     rw[List.mem_singleton] at hx
     subst hx
     exact ⟨y,hy,⟨rfl,c.1⟩,c.2⟩
   · cases hx
 · rintro ⟨y,hy,⟨rfl,c1⟩,c2⟩
   exact ⟨y.1,⟨y,hy,by rw[zp ⟨c1,c2⟩]; exact List.mem_singleton.2 rfl⟩,rfl⟩
end Go.Proofs.YtnbgkhdcidbkaaaGreatDoor.Q
namespace Go.Proofs.YtnbgkhdcidbkaaaGreatDoor.Q
open Go.EM Go.TY Go.Proofs Go.Proofs.YtnbgkhdcidbkaaaGreatDoor.Y
def dY (p:Path) (k:Int) (y:ch):Bool:=iO y.1 p&&(decide (k=0)||decide (y.2.1=k))
def bb (p:Path) (k:Int) (l:List ch):List ch:=l.flatMap fun y=>if dY p k y=true then [y] else []
theorem tZ {p:Path}{k:Int}{l:List ch}:(bb p k l).length≤l.length:=by
 unfold bb
 exact gw (fun x=>by split<;>simp)
theorem abZ {l:List ch}{p:Path}{k:Int} (h:l.length<1000000) (hl:∀ y∈l,y.1.length<1000000):fN l p k=some (bb p k l):=by
 have out:=ed (R:=List ch) (f:=cQ l p k) (l:=l) (fun i o=>((i:Int),o,())) (fun y=>if dY p k y=true then [y] else []) (fun o=>o) 1 (fun x _=>by split<;>simp) (fun i hi o ho=>by
   have room:bP (o.length+[l[i]].length)=some ():=aU (by simp; omega)
   unfold cQ dY
   simp only[ae]
   rw[zp (by omega),aN hi]
   simp only[zb]
   rw[uA (hl _ (zm hi)),wrap64 (by omega) (by omega)]
   simp only[zb]
   cases iO l[i].1 p with
   | false=>simp
   | true =>
     simp only[cond_true,Bool.true_and]
     by_cases c1:k=0
     · rw[zp c1,room]
       simp[c1]
     · rw[zn c1]
       by_cases c2:l[i].2.1=k
       · rw[zp c2,room]
         simp[c2]
       · rw[zn c2]
         simp[c1,c2]) (fun o _=>by
   unfold cQ
   simp only[ae]
   rw[zn (by omega)])
 exact out
theorem rr {p:Path}{k:Int}{l:List ch}{i:Nat} (h:i<l.length):bb p k (l.take (i+1))=bb p k (l.take i)++(if dY p k l[i]=true then [l[i]] else []):=by
 rw[List.take_succ_eq_append_getElem h]
 unfold bb
 rw[List.flatMap_append,List.flatMap_cons,List.flatMap_nil,List.append_nil]
theorem t7 {p:Path}{k:Int}{l:List ch}{i:Nat} (h:i<l.length) (hu:dY p k l[i]=true):∃ hk:(bb p k (l.take i)).length<(bb p k l).length,(bb p k l)[(bb p k (l.take i)).length]=l[i]:=by
 have e:bb p k l=bb p k (l.take i)++(l[i]::bb p k (l.drop (i+1))):=by
   conv=>lhs; rw[← List.take_append_drop i l,List.drop_eq_getElem_cons h]
   unfold bb
   rw[List.flatMap_append,List.flatMap_cons,zp hu]; rfl
 have hk:(bb p k (l.take i)).length<(bb p k l).length:=by rw[e]; simp
 refine ⟨hk,?_⟩
 have q:(bb p k l)[(bb p k (l.take i)).length]? = some l[i]:=by rw[e]; simp
 rw[zg hk] at q
 exact Option.some.inj q
theorem yV {l:List ch}{p:Path}{k:Int} (h:l.length<1000000) (hl:∀ y∈l,y.1.length<1000000) :
   aI (bf p k l (bb p k l)) (0,0,())=some (.inl (((bb p k l).length:Int),())):=by
 obtain ⟨r,h1,h2⟩:=bZ (S:=Unit) (f:=bf p k l (bb p k l)) l.length (fun i _=>(((bb p k (l.take i)).length:Int),(i:Int),())) (fun _ _=>True) (fun r=>r = .inl (((bb p k l).length:Int),())) (fun i _ hi _=>by
   refine .inl ⟨(),?_,trivial⟩
   have ht:=rr (p:=p) (k:=k) hi
   have hle:(bb p k (l.take i)).length≤i:=Nat.le_trans tZ (by rw[List.length_take]; omega)
   have hg:=t7 (p:=p) (k:=k) hi
   unfold bf
   simp only[ae]
   rw[zp (by omega),aN hi]
   simp only[zb]
   rw[yH (hl _ (zm hi)),wrap64 (n:=(i:Int)+1) (by omega) (by omega)]
   simp only[zb]
   have yes:dY p k l[i]=true→((if ((bb p k (l.take i)).length:Int)≥((bb p k l).length:Int) then some (true,()) else (atI (bb p k l) ((bb p k (l.take i)).length:Int)).bind fun x17=>some (!decide (x17.2.1=l[i].2.1),())).bind fun v19=>cond v19.1 (some (.inr (.inr false))) ((atI (bb p k l) ((bb p k (l.take i)).length:Int)).bind fun x20=>(zcs x20.1 l[i].1).bind fun r22=>cond (!r22) (some (.inr (.inr false))) (some (.inl ((IntKind.wrap .i64 (((bb p k (l.take i)).length:Int)+1)),((i:Int)+1),()))):Option ((Int×Int×Unit)⊕((Int×Unit)⊕Bool))))=some (.inl (((bb p k (l.take (i+1))).length:Int),((i+1:Nat):Int),())):=fun hu=>by
     obtain ⟨hk,hx⟩:=hg hu
     rw[zn (by omega),aN hk,hx]
     simp only[zb,decide_true,Bool.not_true,cond_false]
     rw[lY (hl _ (zm hi)),wrap64 (by omega) (by omega),ht,zp hu]
     simp
   cases hu:iO l[i].1 p with
   | false =>
     have no:dY p k l[i]=false:=by unfold dY; rw[hu]; rfl
     rw[zn (by rw[no]; decide),List.append_nil] at ht
     rw[ht]; rfl
   | true =>
     simp only[cond_true]
     by_cases c1:k=0
     · rw[zp c1]
       exact yes (by unfold dY; rw[hu,zt c1]; rfl)
     · rw[zn c1]
       by_cases c2:l[i].2.1=k
       · rw[zp c2]
         exact yes (by unfold dY; rw[hu,zt c2,Bool.or_true]; rfl)
       · rw[zn c2]
         have no:dY p k l[i]=false:=by unfold dY; rw[zf c1,zf c2,hu]; rfl
         rw[zn (by rw[no]; decide),List.append_nil] at ht
         rw[ht]; rfl) (fun _ _=>by
   unfold bf
   simp only[ae]
   rw[zn (by omega),List.take_length]
   exact ⟨_,rfl,rfl⟩) () trivial
 have e0:((bb p k (l.take 0)).length:Int)=0:=by simp[bb]
 rw[e0] at h1
 exact h1.trans (congrArg some h2)
theorem yr {s:St1}{b:Dot1} (h:s.1.length≤1000):aI (bu s b) (false,0,())=some (.inl (s.1.any fun x=>decide (x.1=b),())):=by
 obtain ⟨r,h1,c,rfl,h2⟩:=bZ (S:=Bool) (f:=bu s b) s.1.length (fun i c=>(c,(i:Int),())) (fun i c=>(c=true↔∃ k,∃ hk:k<s.1.length,k<i∧s.1[k].1=b)) (fun r=>∃ c:Bool,r = .inl (c,())∧(c=true↔∃ x∈s.1,x.1=b)) (fun i c hi hv=>by
   unfold bu
   simp only[ae,kc]
   rw[zp (by omega),aN hi,wrap64 (by omega) (by omega)]
   simp only[zb]
   cases c with
   | true =>
     obtain ⟨k,hk,hki,e⟩:=hv.1 rfl
     exact .inl ⟨true,rfl,fun _=>⟨k,hk,by omega,e⟩,fun _=>rfl⟩
   | false =>
     refine .inl ⟨decide (s.1[i].1=b),rfl,fun q=>⟨i,hi,by omega,of_decide_eq_true q⟩,?_⟩
     rintro ⟨k,hk,hki,e⟩
     by_cases ek:k=i
     · subst ek; exact zt e
     · exact absurd (hv.2 ⟨k,hk,by omega,e⟩) (by decide)) (fun c hv=>by
   unfold bu
   simp only[ae]
   rw[zn (by omega)]
   refine ⟨_,rfl,c,rfl,fun q => ?_,fun q => ?_⟩
   · obtain ⟨k,hk,_,e⟩:=hv.1 q
     exact ⟨_,zm hk,e⟩
   · obtain ⟨x,hx,e⟩:=q
     obtain ⟨k,hk,rfl⟩:=List.mem_iff_getElem.1 hx
     exact hv.2 ⟨k,hk,hk,e⟩) false ⟨(fun q=>by cases q),fun ⟨k,hk,hki,_⟩=>by omega⟩
 rw[show ((0:Int))=((0:Nat):Int) from rfl,h1]
 congr 2
 refine Prod.ext ?_ rfl
 show c=_
 rw[Bool.eq_iff_iff,h2]
 simp
theorem sa {l:List Txn1} (hr:nl l) {t:Txn1} (ht:t∈l) {b:Dot1}:((jW l t).any fun x=>decide (x=b))=(((dS l b).any fun x=>decide (x=t.1))&&l.any fun x=>decide (x.1=b)):=by
 rw[uJ,jq]
 congr 1
 rw[Bool.eq_iff_iff]
 simp only[List.any_eq_true,Bool.and_eq_true,decide_eq_true_eq]
 constructor
 · rintro ⟨h1,h2⟩
   exact ⟨t,ht,⟨rfl,fun e=>h2 e.symm⟩,h1⟩
 · rintro ⟨x,hx,⟨e,h1⟩,h2⟩
   have:=afo hr hx ht e
   subst this
   exact ⟨h2,fun e=>h1 e.symm⟩
theorem kO (aw:zb2=some true) {s:St1}{a b:Dot1}{p:Path}{k:Int} (hw:Wide s):de s a b p k=some true:=by
 obtain ⟨g,h1,h2⟩:=xq hw
 unfold de
 rw[h1]
 simp only[zb,aw]
 cases g with
 | false=>rfl
 | true =>
 have hs:=h2 rfl
 have hlow:=hs.txns.lowN
 have hl:=hlow.len
 rw[Bool.not_true,cond_false,wQ]
 simp only[zb]
 cases (decide (p.length≤12)&&p.all fun x=>decide (x.length≤120)) with
 | false=>rfl
 | true =>
 rw[Bool.not_true,cond_false,yr hl,ay]
 simp only
 rw[oX hlow]
 have hc:=qt (l:=s.1) (d:=b)
 have fin:((zcn s).bind fun r12=>(zb7 r12).bind fun r13=>(fN r13 p k).bind fun r14=>(aI (bf p k r13 r14) (0,0,()):Option ((Int×Unit)⊕Bool)).bind (bc fun v30=>cond (decide (v30.1=(r14.length:Int))) (some true) (some false)))=some true:=by
   have hp:=kW hs.txns (by omega)
   have hu:=zD hs.undos
   have hi:=fR (u:=s.2.1) hs.txns
   unfold zcn
   rw[aeg hp.low hu]
   simp only[zb]
   rw[p8 (cW hi)]
   simp only[zb]
   have hn:=my (cW hi)
   have hq:∀ y∈b8 (allM s.1 s.2.1),y.1.length<1000000:=fun y hy=>(ku (cW hi) y hy).1
   rw[abZ hn hq]
   simp only[zb]
   rw[yV hn hq,ay]
   simp
 have step:∀ x y t:Bool,x=(y&&t)→((cond y (cond (!(x==t)) (some (.inr false)) (some (.inl ()))) (cond (!(x==false)) (some (.inr false)) (some (.inl ()))):Option (Unit⊕Bool)))=some (.inl ()):=by
   intro x y t e
   subst e
   cases y<;>cases t<;>rfl
 have key:∃ l,zbn s a=some l∧l.length≤1000∧(l.any fun x=>decide (x=b))=(((dS s.1 b).any fun x=>decide (x=a))&&s.1.any fun x=>decide (x.1=b)):=by
   rcases ac1 (a:=a) hlow with ⟨e,hn⟩ | ⟨t,ht,rfl,e⟩
   · refine ⟨_,e,by simp,?_⟩
     have no:((dS s.1 b).any fun x=>decide (x=a))=false:=by
       rw[jq]
       exact List.any_eq_false.2 fun t ht=>by simp[hn t ht]
     rw[no]; rfl
   · exact ⟨_,e,Nat.le_trans uI hl,sa hlow.rise ht⟩
 obtain ⟨l,e,hle,hany⟩:=key
 rw[e]
 simp only[zb]
 rw[adt (by omega),adt (by omega)]
 simp only[zb]
 rw[step _ _ _ hany,ay]
 exact fin
end Go.Proofs.YtnbgkhdcidbkaaaGreatDoor.Q
namespace Go.Proofs.YtnbgkhdcidbkaaaGreatDoor.Q
open Go.EM Go.TY Go.Proofs Go.Proofs.YtnbgkhdcidbkaaaGreatDoor.Y
def rv (l:List Txn1) (d:Dot1):Bool:=l.any fun t=>decide (t.1=d)
def eV (s:St1) (d:Dot1) (redo b:Bool):Int:=if rv s.1 d=false then 12 else if b=true then 13 else if fL s.2.1 d=redo then 11 else if be d=false then 2 else if getM s.2.1 d≥64 then 14 else 0
theorem amY {s:St1}{n:Nat}{d:Dot1}{redo:Bool} (h:StOk s n) (hn:n<100000) (hr:nl s.1):∃ b,zdt s.2.2.2.1 d=some b∧zbz s d redo=some (eV s d redo b):=by
 obtain ⟨b,hb,hm⟩:=aff (d:=d) h hn
 refine ⟨b,hb,?_⟩
 have hl:=h.txns
 unfold zbz eV
 have hu:=h.undos.low hn
 rw[hb,ir hu.len hu.rise,hm]
 rcases adC (l:=s.1) (d:=d) (by omega) hr with ⟨hf,hno⟩ | ⟨k,hf,hk,e⟩
 · have:rv s.1 d=false:=List.any_eq_false.2 fun t ht=>by simpa using hno t ht
   rw[hf,zp this]; rfl
 · have:rv s.1 d=true:=List.any_eq_true.2 ⟨_,zm hk,zt e⟩
   rw[hf,zn (show ¬ rv s.1 d=false by rw[this]; decide)]
   simp only[zb,ae]
   rw[zn (show ¬ (k:Int)<0 by omega)]
   cases b with
   | true=>rfl
   | false =>
     simp only[cond_false,Bool.false_eq_true,if_false]
     cases hs:fL s.2.1 d<;>cases redo<;>simp
theorem jX {s:St1}{d:Dot1}{redo b:Bool} (h:eV s d redo b=0):rv s.1 d=true∧b=false∧fL s.2.1 d = !redo∧be d=true∧getM s.2.1 d<64:=by
 unfold eV at h
 split at h
 · omega
 split at h
 · omega
 split at h
 · omega
 split at h
 · omega
 split at h
 · omega
 rename_i h1 h2 h3 h4 h5
 refine ⟨by simpa using h1,by simpa using h2,?_,by simpa using h4,by omega⟩
 cases hs:fL s.2.1 d<;>cases redo<;>simp_all
def upU (s:St1) (d:Dot1):List Ref1:=iD s.2.1 (d,getM s.2.1 d+1,())
theorem aei {s:St1}{n:Nat}{d:Dot1} (h:StOk s n) (hn:n<100000) (hd:be d=true) (hg:getM s.2.1 d<64):zbq s d=some ((s.1,upU s d,s.2.2.1,s.2.2.2.1,s.2.2.2.2.1,()),0,()):=by
 have hl:=h.undos.len
 unfold zbq
 rw[oc h.undos hn,zn (by rw[hd]; decide),zn (by omega)]
 simp only[zb,bh]
 rw[zp trivial]
 unfold zcd
 rw[am6 (by omega)]
 rfl
theorem agL {s:St1}{n:Nat}{d:Dot1} (h:StOk s n) (hd:be d=true) (hg:getM s.2.1 d<64):UOk (upU s d) (n+1):=by
 have hg0:=adw (d:=d) h.undos.one
 refine h.undos.join ?_
 unfold oneM
 simp only[Bool.and_eq_true,decide_eq_true_eq]
 exact ⟨hd,by omega,by omega⟩
theorem jI {l:List aX}:afp (hP l):=by
 unfold hP
 have h:iJ nG (fun v=>v) (b8 l):=gJ ik _
 show List.Pairwise _ _
 rw[List.pairwise_map]
 refine List.Pairwise.imp (fun {a b} hab => ?_) h
 have e:cmpK (keyE (entM l a.1 a.2.1)) (keyE (entM l b.1 b.2.1))=nG a b:=by
   unfold cmpK cmpB nG orI keyE entM
   rfl
 rw[e]; exact hab
theorem pz {l:List aX} (h:ItemsOk l):VOk (hP l) where
 len:=ae9 h
 easy e he:=by
   obtain ⟨y,hy,rfl⟩:=iN he
   have hs:=oF h hy
   exact ⟨ann h hs.1 hs.2,fun x hx=>by have:=hs.2 x hx; omega⟩
 rise:=jI
theorem of_t {s:St1}{n:Nat}{d:Dot1}{redo:Bool} (h:StOk s n) (hn:n<10000) (ht:TxnsOk s.1 20):∃ b,zdt s.2.2.2.1 d=some b∧zbz s d redo=some (eV s d redo b) ∧
   zc0 s d redo=some (if eV s d redo b=0 then (dM (hP (allM s.1 s.2.1)) (hP (allM s.1 (upU s d))),0,()) else ([],eV s d redo b,())):=by
 obtain ⟨b,hb,hm⟩:=amY (d:=d) (redo:=redo) h (by omega) ht.rise
 refine ⟨b,hb,hm,?_⟩
 unfold zc0
 rw[hm]
 simp only[zb,bh]
 by_cases c:eV s d redo b=0
 · obtain ⟨_,_,_,c4,c5⟩:=jX c
   have hp:=(kW ht (by omega)).low
   have hu:=h.undos.low (by omega)
   have hv:=(agL h c4 c5).low (by omega)
   have ia:=fR (u:=s.2.1) ht
   have ib:=fR (u:=upU s d) ht
   rw[zp c,zp c,aei h (by omega) c4 c5]
   simp only[zb,bh]
   rw[zp trivial]
   unfold zcn
   simp only
   rw[aeg hp hu,aeg hp hv]
   simp only[zb]
   rw[wG ia]
   simp only[zb]
   rw[wG ib]
   simp only[zb]
   rw[anr (pz ia) (pz ib)]
   rfl
 · rw[zn c,zn c]
def lX (l:List aX):List Ref1:=l.map (·.1)
theorem avW {l:List aX} (h:l.length<100000):zdk l=some (lX l):=by
 have out:=ed (R:=List Ref1) (f:=vN l) (l:=l) (fun i o=>((i:Int),o,())) (fun x=>[x.1]) (fun o=>o) 1 (fun x _=>by simp) (fun i hi o ho=>by
   unfold vN
   simp only[ae]
   rw[zp (by omega),aN hi,wrap64 (by omega) (by omega)]
   simp only[zb]
   rw[aU (by simp; omega)]
   rfl) (fun o _=>by
   unfold vN
   simp only[ae]
   rw[zn (by omega)])
 unfold zdk lX
 rw[show ((0:Int),([]:List Ref1),())=(((0:Nat):Int),[],()) from rfl,out]
 congr 1
 clear out h
 induction l with
 | nil=>rfl
 | cons x l ih=>rw[List.flatMap_cons,List.map_cons,ih]; rfl
def hasI (l:List aX) (x:Ref1):Bool:=l.any fun y=>decide (x=y.1)
def d7 (a b:List aX):List aX:=a.flatMap fun x=>if hasI b x.1=true then [] else [x]
theorem eS {a b:List aX}:(d7 a b).length≤a.length:=by
 unfold d7
 exact gw (fun x=>by split<;>simp)
theorem eR {a b:List aX}{x:aX}:x∈d7 a b↔x∈a∧hasI b x.1=false:=by
 unfold d7
 rw[List.mem_flatMap]
 constructor
 · rintro ⟨y,hy,h⟩
   split at h
   · cases h
   · rename_i c
     rw[List.mem_singleton] at h
     subst h
     exact ⟨hy,by simpa using c⟩
 · rintro ⟨h1,h2⟩
   exact ⟨x,h1,by rw[zn (by rw[h2]; decide)]; exact List.mem_singleton.2 rfl⟩
theorem qV {a b:List aX} (ha:a.length<100000) (hb:b.length<100000):zbf a b=some (d7 a b):=by
 unfold zbf
 rw[avW hb]
 simp only[zb]
 have mid:=bE (S:=List (Ref1×Bool)) (R:=((List (Ref1×Bool)×Unit)⊕List aX)) (f:=wu (lX b)) (l:=lX b) (fun k m=>((k:Int),m,())) (fun _ x m=>.inl (putK kL x true m)) (fun m'=>.inl (m',())) (fun _ _=>True) (fun k hk m' _=>by
   have hk2:(lX b).length=b.length:=by unfold lX; rw[List.length_map]
   refine .inl ⟨_,rfl,?_,trivial⟩
   unfold wu
   simp only[ae]
   rw[zp (by omega),aN hk]
   simp only[zb]
   rw[wrap64 (by omega) (by omega)]; rfl) (fun m' _=>by
   unfold wu
   simp only[ae]
   rw[zn (by omega)]) [] trivial
 rw[show ((0:Int),([]:List (Ref1×Bool)),())=(((0:Nat):Int),[],()) from rfl,mid,cm,ay]
 have hm:∀ x:Ref1,(getK kL false x (kq [] (lX b))).1=hasI b x:=fun x=>by
   have:=uT (x:=x) (l:=lX b) (m:=[])
   unfold hasK at this
   rw[this]
   unfold lX hasI
   rw[List.any_map]
   show (_||false)=_
   rw[Bool.or_false]; rfl
 have out:=ed (R:=List aX) (f:=wr a) (l:=a) (fun i o=>((i:Int),kq [] (lX b),o,())) (fun x=>if hasI b x.1=true then [] else [x]) (fun o=>o) 1 (fun x _=>by split<;>simp) (fun i hi o ho=>by
   have hh:(getK (.agg (.cons (.agg (.cons (.int .i64) (.cons (.int .i64) .unit))) (.cons (.int .i64) .unit))) false a[i].1 (kq [] (lX b))).1=hasI b a[i].1:=hm a[i].1
   unfold wr
   simp only[ae]
   rw[zp (by omega),aN hi,wrap64 (by omega) (by omega)]
   simp only[zb]
   rw[hh,aU (by simp; omega)]
   cases hasI b a[i].1 with
   | false=>rfl
   | true=>simp) (fun o _=>by
   unfold wr
   simp only[ae]
   rw[zn (by omega)])
 exact out
theorem agi {a b:List aX} (ha:a.length<100000) (hb:b.length<100000):zap [a,b]=some (a++b):=by
 have l1:aI (kg [a,b]) (0,0,())=some (.inl (((a.length+b.length:Nat):Int),())):=by
   have t1:kg [a,b] (0,0,())=some (.inl ((a.length:Int),1,())):=by
     unfold kg
     simp only[ae]
     rw[zp (by simp),show atI [a,b] 0=some a from rfl]
     simp only[zb]
     rw[wrap64 (by omega) (by omega),zn (by omega),Int.zero_add]; rfl
   have t2:kg [a,b] ((a.length:Int),1,())=some (.inl (((a.length+b.length:Nat):Int),2,())):=by
     unfold kg
     simp only[ae]
     rw[zp (by simp),show atI [a,b] 1=some b from rfl]
     simp only[zb]
     rw[wrap64 (by omega) (by omega),zn (by omega)]; rfl
   have t3:kg [a,b] (((a.length+b.length:Nat):Int),2,())=some (.inr (.inl (((a.length+b.length:Nat):Int),()))):=by
     unfold kg
     simp only[ae]
     rw[zn (by simp)]
   rw[aH t1,aH t2,aD t3]
 have l2:aI (gm [a,b]) (0,[],())=some (a++b):=by
   have t1:gm [a,b] (0,[],())=some (.inl (1,a,())):=by
     unfold gm
     simp only[ae]
     rw[zp (by simp),show atI [a,b] 0=some a from rfl]
     simp only[zb]
     rw[aU (by simp; omega)]; rfl
   have t2:gm [a,b] (1,a,())=some (.inl (2,a++b,())):=by
     unfold gm
     simp only[ae]
     rw[zp (by simp),show atI [a,b] 1=some b from rfl]
     simp only[zb]
     rw[aU (by omega)]; rfl
   have t3:gm [a,b] (2,a++b,())=some (.inr (a++b)):=by
     unfold gm
     simp only[ae]
     rw[zn (by simp)]
   rw[aH t1,aH t2,aD t3]
 unfold zap
 rw[l1,ay]
 have g:zat () ((a.length+b.length:Nat):Int)=some []:=by
   unfold zat afZ
   rw[zp ⟨by omega,by simp only[most]; omega⟩]
 rw[g]
 exact l2
def ab4 (a b:List aX):List ch:=b8 (d7 a b++d7 b a)
theorem lD {a b:List aX} (ha:ItemsOk a) (hb:ItemsOk b):LowI (d7 a b++d7 b a):=by
 have h1:=eS (a:=a) (b:=b)
 have h2:=eS (a:=b) (b:=a)
 have h3:=ha.len
 have h4:=hb.len
 refine ⟨by rw[List.length_append]; omega,fun x hx => ?_⟩
 rcases List.mem_append.1 hx with h | h
 · exact (cW ha).path x (eR.1 h).1
 · exact (cW hb).path x (eR.1 h).1
theorem ab3 {s:St1}{n:Nat}{d:Dot1}{redo b:Bool} (h:StOk s n) (hn:n<10000) (ht:TxnsOk s.1 20) (hm:zbz s d redo=some (eV s d redo b)) :
   zbi s d redo=some (if eV s d redo b=0 then (ab4 (allM s.1 s.2.1) (allM s.1 (upU s d)),0,()) else ([],eV s d redo b,())):=by
 unfold zbi
 rw[hm]
 simp only[zb,bh]
 by_cases c:eV s d redo b=0
 · obtain ⟨_,_,_,c4,c5⟩:=jX c
   have hp:=(kW ht (by omega)).low
   have hu:=h.undos.low (by omega)
   have hv:=(agL h c4 c5).low (by omega)
   have ia:=fR (u:=s.2.1) ht
   have ib:=fR (u:=upU s d) ht
   have la:=ia.len
   have lb:=ib.len
   rw[zp c,zp c,aei h (by omega) c4 c5]
   simp only[zb,bh]
   rw[zp trivial]
   unfold zcn
   simp only
   rw[aeg hp hu,aeg hp hv]
   simp only[zb]
   rw[qV (by omega) (by omega)]
   simp only[zb]
   rw[qV (by omega) (by omega)]
   simp only[zb]
   have w1:=eS (a:=allM s.1 s.2.1) (b:=allM s.1 (upU s d))
   have w2:=eS (b:=allM s.1 s.2.1) (a:=allM s.1 (upU s d))
   rw[agi (by omega) (by omega)]
   simp only[zb]
   rw[p8 (lD ia ib)]
   rfl
 · rw[zn c,zn c]
def mm (l:List Txn1):List aX:=l.flatMap fun t=>eE (fun _=>false) t 0 t.2.2.2.2.1
def cntM (l:List Txn1) (u:List Ref1) (r:Ref1):Bool:=fL u r.1 && !covM l u r
theorem oB {p:Ref1→Bool}{t:Txn1}{l:List Op1}{k:Nat}{x:aX} (h:x∈eE p t k l):x.1.1=t.1:=by
 obtain ⟨j,o,_,_,_,rfl⟩:=mD h
 rfl
theorem eo {l:List Txn1}{u:List Ref1}:allM l u=(mm l).filter fun x=>cntM l u x.1:=by
 unfold allM mm
 rw[List.filter_flatMap]
 congr 1
 funext t
 rw[oJ (p:=fun _=>false) (q:=covM l u) (c:=covM l u) (fun x=>by simp)]
 split
 · rename_i h
   refine List.filter_congr fun x hx => ?_
   unfold cntM
   rw[oB hx,h,Bool.true_and]
 · rename_i h
   refine (List.filter_eq_nil_iff.2 fun x hx => ?_).symm
   unfold cntM
   rw[oB hx,eq_false_of_ne_true h]
   simp
theorem anH {l:List Txn1}{u v:List Ref1}{p:Path}{k:Int} (h:∀ x∈mm l,isAt p k x=true→cntM l u x.1=cntM l v x.1):atM (allM l u) p k=atM (allM l v) p k:=by
 unfold atM
 rw[eo,eo,List.filter_filter,List.filter_filter]
 refine List.filter_congr fun x hx => ?_
 cases hq:isAt p k x with
 | false=>rfl
 | true=>rw[h x hx hq]
theorem adk {p:Path}{k:Int}{x:aX}:isAt p k x=true↔eD x=(p,k,()):=by
 unfold isAt eD
 simp only[Bool.and_eq_true,decide_eq_true_eq,Prod.mk.injEq,and_true]
 exact And.comm
theorem abY {l:List Txn1}{u v:List Ref1}{y:ch} (h:y∉ab4 (allM l u) (allM l v)):(∀ x∈mm l,eD x=y→cntM l u x.1=cntM l v x.1):=by
 intro x hx hy
 have no:∀ u v:List Ref1,x∈allM l u→cntM l v x.1=false→hasI (allM l v) x.1=false:=fun u v _ h2=>by
   refine List.any_eq_false.2 fun z hz => ?_
   rw[eo,List.mem_filter] at hz
   intro e
   rw[of_decide_eq_true e,hz.2] at h2
   cases h2
 have inn:∀ u:List Ref1,cntM l u x.1=true→x∈allM l u:=fun u h1=>by
   rw[eo,List.mem_filter]; exact ⟨hx,h1⟩
 cases h1:cntM l u x.1<;>cases h2:cntM l v x.1
 · rfl
 · exfalso
   refine h (dD.2 ⟨x,List.mem_append.2 (.inr (eR.2 ⟨inn v h2,no v u (inn v h2) h1⟩)),hy⟩)
 · exfalso
   refine h (dD.2 ⟨x,List.mem_append.2 (.inl (eR.2 ⟨inn u h1,no u v (inn u h1) h2⟩)),hy⟩)
 · rfl
theorem sg {l:List Txn1}{u v:List Ref1}{y:ch} (h:∀ x∈mm l,eD x=y→cntM l u x.1=cntM l v x.1) (hy:y∈b8 (allM l u)):y∈b8 (allM l v):=by
 obtain ⟨x,hx,e⟩:=dD.1 hy
 rw[eo,List.mem_filter] at hx
 exact dD.2 ⟨x,by rw[eo,List.mem_filter]; exact ⟨hx.1,by rw[← h x hx.1 e]; exact hx.2⟩,e⟩
end Go.Proofs.YtnbgkhdcidbkaaaGreatDoor.Q
namespace Go.Proofs.YtnbgkhdcidbkaaaGreatDoor.Q
open Go.EM Go.TY Go.Proofs Go.Proofs.YtnbgkhdcidbkaaaGreatDoor.Y
theorem af7 {a b:List aX}{p:Path}{k:Int} (h:atM a p k=atM b p k):entM a p k=entM b p k:=by
 unfold entM rn ad7
 by_cases k1:k=1
 · subst k1; rw[h]; simp
 by_cases k2:k=2
 · subst k2; rw[h]; simp
 by_cases k3:k=3
 · subst k3; rw[h]; simp
 rw[zn k1,zn k1,zn k2,zn k2,zn k3,zn k3]
def Unl (a b:List Ent) (c:Chg):Prop :=
 (∃ x∈a,c=uW x∧∀ y∈b,keyE y≠keyE x)∨(∃ y∈b,c=uN y∧∀ x∈a,keyE x≠keyE y)∨∃ x∈a,∃ y∈b,keyE x=keyE y∧x≠y∧c=kM x y
theorem awj:∀ (n:Nat) (a b:List Ent),a.length+b.length≤n→afp a→afp b→∀ c∈dM a b,Unl a b c:=by
 intro n
 have nilB:∀ b:List Ent,∀ c∈dM [] b,Unl [] b c:=by
   intro b c hc
   unfold dM at hc
   rw[gh.eq_def] at hc
   simp only[List.mem_map] at hc
   obtain ⟨y,hy,rfl⟩:=hc
   exact .inr (.inl ⟨y,hy,rfl,fun x hx=>by cases hx⟩)
 induction n with
 | zero =>
   intro a b h _ _
   have e1:a=[]:=List.eq_nil_of_length_eq_zero (by omega)
   subst e1
   exact nilB b
 | succ n ih =>
   intro a b h ra rb
   match a,b,h,ra,rb with
   | [],b,h,_,_=>exact nilB b
   | x::a,[],h,_,_ =>
     intro c hc
     unfold dM at hc
     rw[gh.eq_def] at hc
     simp only[List.mem_map] at hc
     obtain ⟨y,hy,rfl⟩:=hc
     exact .inl ⟨y,hy,rfl,fun x hx=>by cases hx⟩
   | x::a,y::b,h,ra,rb =>
     simp only[zl] at h
     have ra':=List.pairwise_cons.1 ra
     have rb':=List.pairwise_cons.1 rb
     intro c hc
     have i1:=ih a (y::b) (by simp only[zl]; omega) ra'.2 rb
     have i2:=ih (x::a) b (by simp only[zl]; omega) ra rb'.2
     have i3:=ih a b (by omega) ra'.2 rb'.2
     unfold dM at hc i1 i2 i3
     rw[gh.eq_def] at hc
     simp only at hc
     by_cases c1:cmpK (keyE x) (keyE y)<0
     · rw[zp c1] at hc
       have far:∀ z∈y::b,keyE z≠keyE x:=fun z hz e=>by
         rcases List.mem_cons.1 hz with q | hz
         · subst q; rw[e,(il.zero _ _).2 rfl] at c1; omega
         · have q:cmpK (keyE y) (keyE z)<0:=rb'.1 z hz
           have q2:=il.trans _ _ _ c1 q
           rw[e,(il.zero _ _).2 rfl] at q2; omega
       rcases List.mem_cons.1 hc with e | hc
       · exact .inl ⟨x,List.mem_cons_self ..,e,far⟩
       · rcases i1 c hc with ⟨z,hz,e,hn⟩ | ⟨z,hz,e,hn⟩ | ⟨z,hz,w,hw,e1,e2,e3⟩
         · exact .inl ⟨z,List.mem_cons_of_mem _ hz,e,hn⟩
         · refine .inr (.inl ⟨z,hz,e,fun w hw => ?_⟩)
           rcases List.mem_cons.1 hw with q | hw
           · subst q; exact fun e=>far z hz e.symm
           · exact hn w hw
         · exact .inr (.inr ⟨z,List.mem_cons_of_mem _ hz,w,hw,e1,e2,e3⟩)
     · rw[zn c1] at hc
       by_cases c2:cmpK (keyE x) (keyE y)>0
       · rw[zp c2] at hc
         have c3:cmpK (keyE y) (keyE x)<0:=by have:=il.neg (keyE y) (keyE x); omega
         have far:∀ z∈x::a,keyE z≠keyE y:=fun z hz e=>by
           rcases List.mem_cons.1 hz with q | hz
           · subst q; rw[e,(il.zero _ _).2 rfl] at c3; omega
           · have q:cmpK (keyE x) (keyE z)<0:=ra'.1 z hz
             have q2:=il.trans _ _ _ c3 q
             rw[e,(il.zero _ _).2 rfl] at q2; omega
         rcases List.mem_cons.1 hc with e | hc
         · exact .inr (.inl ⟨y,List.mem_cons_self ..,e,far⟩)
         · rcases i2 c hc with ⟨z,hz,e,hn⟩ | ⟨z,hz,e,hn⟩ | ⟨z,hz,w,hw,e1,e2,e3⟩
           · refine .inl ⟨z,hz,e,fun w hw => ?_⟩
             rcases List.mem_cons.1 hw with q | hw
             · subst q; exact fun e=>far z hz e.symm
             · exact hn w hw
           · exact .inr (.inl ⟨z,List.mem_cons_of_mem _ hz,e,hn⟩)
           · exact .inr (.inr ⟨z,hz,w,List.mem_cons_of_mem _ hw,e1,e2,e3⟩)
       · rw[zn c2] at hc
         have e0:keyE x=keyE y:=(il.zero _ _).1 (by omega)
         have fa:∀ z∈a,keyE z≠keyE x:=fun z hz e=>by
           have q:cmpK (keyE x) (keyE z)<0:=ra'.1 z hz
           rw[e,(il.zero _ _).2 rfl] at q; omega
         have fb:∀ z∈b,keyE z≠keyE y:=fun z hz e=>by
           have q:cmpK (keyE y) (keyE z)<0:=rb'.1 z hz
           rw[e,(il.zero _ _).2 rfl] at q; omega
         rcases List.mem_append.1 hc with hc | hc
         · by_cases q:ui x y=true
           · rw[zp q] at hc; cases hc
           · rw[zn q] at hc
             rw[List.mem_singleton] at hc
             exact .inr (.inr ⟨x,List.mem_cons_self ..,y,List.mem_cons_self ..,e0,fun e=>q (zt e),hc⟩)
         · rcases i3 c hc with ⟨z,hz,e,hn⟩ | ⟨z,hz,e,hn⟩ | ⟨z,hz,w,hw,e1,e2,e3⟩
           · refine .inl ⟨z,List.mem_cons_of_mem _ hz,e,fun w hw => ?_⟩
             rcases List.mem_cons.1 hw with q | hw
             · subst q; rw[← e0]; exact fun e=>fa z hz e.symm
             · exact hn w hw
           · refine .inr (.inl ⟨z,List.mem_cons_of_mem _ hz,e,fun w hw => ?_⟩)
             rcases List.mem_cons.1 hw with q | hw
             · subst q; rw[e0]; exact fun e=>fb z hz e.symm
             · exact hn w hw
           · exact .inr (.inr ⟨z,List.mem_cons_of_mem _ hz,w,List.mem_cons_of_mem _ hw,e1,e2,e3⟩)
theorem abX {l:List aX}{y:ch} (h:y∈b8 l):entM l y.1 y.2.1∈hP l:=List.mem_map.2 ⟨y,h,rfl⟩
theorem amD {l:List Txn1}{u v:List Ref1}{c:Chg} (hc:c∈dM (hP (allM l u)) (hP (allM l v))):(((j0 c).1,(j0 c).2.1,()):ch)∈ab4 (allM l u) (allM l v):=by
 refine Classical.byContradiction fun hn => ?_
 have hs:=abY hn
 have e3:atM (allM l u) (j0 c).1 (j0 c).2.1=atM (allM l v) (j0 c).1 (j0 c).2.1:=anH fun x hx hq=>hs x hx (adk.1 hq)
 have e4:=af7 e3
 rcases awj _ _ _ (Nat.le_refl _) jI jI c hc with ⟨x,hx,rfl,hf⟩ | ⟨x,hx,rfl,hf⟩ | ⟨x,hx,z,hz,e1,e2,rfl⟩
 · obtain ⟨y,hy,rfl⟩:=iN hx
   have e:(((j0 (uW (entM (allM l u) y.1 y.2.1))).1,(j0 (uW (entM (allM l u) y.1 y.2.1))).2.1,()):ch)=y:=rfl
   rw[e] at hs
   exact hf _ (abX (sg hs hy)) rfl
 · obtain ⟨y,hy,rfl⟩:=iN hx
   have e:(((j0 (uN (entM (allM l v) y.1 y.2.1))).1,(j0 (uN (entM (allM l v) y.1 y.2.1))).2.1,()):ch)=y:=rfl
   rw[e] at hs
   exact hf _ (abX (sg (fun x h1 h2=>(hs x h1 h2).symm) hy)) rfl
 · obtain ⟨y,hy,rfl⟩:=iN hx
   obtain ⟨w,hw,rfl⟩:=iN hz
   have ey:(y.1,y.2.1)=(w.1,w.2.1):=e1
   have e5:y.1=w.1:=(Prod.mk.inj ey).1
   have e6:y.2.1=w.2.1:=(Prod.mk.inj ey).2
   have e7:entM (allM l u) y.1 y.2.1=entM (allM l v) y.1 y.2.1:=e4
   exact e2 (by rw[e7,e5,e6])
theorem ki {t:List ch}{e:Ent}{i:Nat}{f:Int} (h:t.length<1000000) (hi:i<1000000) (ht:∀ y∈t,y.1.length<1000000) (hy:((e.1,e.2.1,()):ch)∈t) :
   aI (lu ((i:Int),()) (t,f,())) (false,0,e,())=some (.inl (((i+1:Nat):Int),())):=by
 obtain ⟨r,h1,h2⟩:=bZ (S:=Bool) (f:=lu ((i:Int),()) (t,f,())) t.length (fun j c=>(c,(j:Int),e,())) (fun j c=>c=true↔∃ k,∃ hk:k<t.length,k<j∧t[k]=(e.1,e.2.1,())) (fun r=>r = .inl (((i+1:Nat):Int),())) (fun j c hj hv=>by
   unfold lu
   simp only[ae]
   rw[zp (by omega),aN hj,wrap64 (n:=(j:Int)+1) (by omega) (by omega)]
   simp only[zb]
   cases c with
   | true =>
     obtain ⟨k,hk,hkj,q⟩:=hv.1 rfl
     exact .inl ⟨true,rfl,fun _=>⟨k,hk,by omega,q⟩,fun _=>rfl⟩
   | false =>
     simp only[cond_false]
     rw[lY (ht _ (zm hj))]
     have iff:∀ c:Bool,(c=true↔t[j]=(e.1,e.2.1,()))→(c=true↔∃ k,∃ hk:k<t.length,k<j+1∧t[k]=(e.1,e.2.1,())):=fun c hc=>by
       constructor
       · exact fun q=>⟨j,hj,by omega,hc.1 q⟩
       · rintro ⟨k,hk,hkj,q⟩
         by_cases ek:k=j
         · subst ek; exact hc.2 q
         · exact absurd (hv.2 ⟨k,hk,by omega,q⟩) (by decide)
     by_cases c1:t[j].2.1=e.2.1
     · rw[zp c1]
       refine .inl ⟨decide (t[j].1=e.1),rfl,iff _ ?_⟩
       rw[decide_eq_true_eq]
       exact ⟨fun q=>Prod.ext q (Prod.ext c1 rfl),fun q=>by rw[q]⟩
     · rw[zn c1]
       exact .inl ⟨false,rfl,iff _ ⟨(fun q=>by cases q),fun q=>absurd (by rw[q]) c1⟩⟩) (fun c hv=>by
   have:c=true:=by
     obtain ⟨k,hk,q⟩:=List.mem_iff_getElem.1 hy
     exact hv.2 ⟨k,hk,hk,q⟩
   subst this
   unfold lu
   simp only[ae]
   rw[zn (by omega),wrap64 (by omega) (by omega)]
   exact ⟨_,rfl,rfl⟩) false ⟨(fun q=>by cases q),fun ⟨k,hk,hki,_⟩=>by omega⟩
 exact h1.trans (congrArg some h2)
theorem iW (aw:zb2=some true) {s:St1}{d:Dot1}{redo:Bool} (hw:Wide s):za8 s d redo=some true:=by
 obtain ⟨g,h1,h2⟩:=xq hw
 unfold za8
 rw[h1]
 simp only[zb,aw]
 cases g with
 | false=>rfl
 | true =>
 have hs:=h2 rfl
 have st:=hs.st
 obtain ⟨b,hb,hm,hof⟩:=of_t (d:=d) (redo:=redo) st (by omega) hs.txns
 rw[Bool.not_true,cond_false,hof]
 simp only[zb]
 rw[ab3 (d:=d) (redo:=redo) st (by omega) hs.txns hm]
 simp only[zb]
 have loop : ∀ (l : List Chg) (t : List ch) (e f : Int), l.length < 100000 → t.length < 1000000 → (∀ y ∈ t, y.1.length < 1000000) → (∀ c ∈ l, (((j0 c).1, (j0 c).2.1, ()) : ch) ∈ t) →
     aI (qT (l,e,()) (t,f,())) (0,())=some true:=fun l t e f hl ht hy hc=>by
   obtain ⟨r,q1,q2⟩:=bZ (S:=Unit) (f:=qT (l,e,()) (t,f,())) l.length (fun i _=>((i:Int),())) (fun _ _=>True) (fun r=>r=true) (fun i _ hi _=>by
     refine .inl ⟨(),?_,trivial⟩
     have hin:=hc _ (zm hi)
     unfold qT
     simp only[ae]
     rw[zp (by omega),aN hi]
     simp only[zb,ae]
     unfold j0 at hin
     by_cases c1:l[i].1=1
     · rw[zp c1] at hin ⊢
       rw[ay]
       exact ki ht (by omega) hy hin
     · rw[zn c1] at hin ⊢
       rw[ay]
       exact ki ht (by omega) hy hin) (fun _ _=>by
     unfold qT
     simp only[ae]
     rw[zn (by omega),aw]
     exact ⟨_,rfl,rfl⟩) () trivial
   exact q1.trans (congrArg some q2)
 by_cases c:eV s d redo b=0
 · rw[zp c,zp c]
   simp only[decide_true,Bool.not_true,cond_false]
   obtain ⟨_,_,_,c4,c5⟩:=jX c
   have ia:=fR (u:=s.2.1) hs.txns
   have ib:=fR (u:=upU s d) hs.txns
   have hfew:=awl (pz ia) (pz ib)
   have hlow:=lD ia ib
   exact loop _ _ _ _ (by omega) (my hlow) (fun y hy=>(ku hlow y hy).1) fun x hx=>amD hx
 · rw[zn c,zn c]
   simp only[decide_true,Bool.not_true,cond_false]
   exact loop _ _ _ _ (by simp) (by simp) (fun y hy=>by cases hy) fun x hx=>by cases hx
end Go.Proofs.YtnbgkhdcidbkaaaGreatDoor.Q
namespace Go.Proofs.YtnbgkhdcidbkaaaGreatDoor.Q
open Go.EM Go.TY Go.Proofs Go.Proofs.YtnbgkhdcidbkaaaGreatDoor.Y
theorem agT {s:St1}{t:Txn1}{n:Nat} (hl:s.1.length≤500) (hr:nl s.1) (hk:DOk s.2.2.1 n) (hn:n<10000) (h:uS (hiT t.1 s.1) t.1=false) :
   ∃ kn,zdh s t=some (loT t.1 s.1++t::hiT t.1 s.1,s.2.1,kn,s.2.2.2.1,s.2.2.2.2.1,())∧DOk kn (n+1):=by
 have e2:loT t.1 s.1++hiT t.1 s.1=s.1:=lohi
 obtain ⟨kn,d1,d2⟩:=adM (d:=t.1) hk (by omega)
 have e1:zax s.1=some s.1:=by
   unfold zax fE
   rw[zp (by simp only[most]; omega)]
 have hlen:(loT t.1 s.1).length≤s.1.length:=by
   have:=congrArg List.length e2
   rw[List.length_append] at this; omega
 have e3:zau ((loT t.1 s.1).length:Int) [t] s.1=some ((),loT t.1 s.1++t::hiT t.1 s.1,()):=by
   unfold zau insT
   rw[zp ⟨by omega,by omega,by simp,by simp only[most,List.length_singleton]; omega⟩]
   have q1:s.1.take (loT t.1 s.1).length=loT t.1 s.1:=by
     have q:(loT t.1 s.1++hiT t.1 s.1).take (loT t.1 s.1).length=loT t.1 s.1:=List.take_left' rfl
     rwa [e2] at q
   have q2:s.1.drop (loT t.1 s.1).length=hiT t.1 s.1:=by
     have q:(loT t.1 s.1++hiT t.1 s.1).drop (loT t.1 s.1).length=hiT t.1 s.1:=List.drop_left' rfl
     rwa [e2] at q
   simp[q1,q2]
 refine ⟨kn,?_,d2⟩
 unfold zdh zdx zdy
 rw[sG (by omega) hr,acK (by omega) hr,h]
 simp only[zb,Bool.not_false,cond_true,cond_false,ae]
 rw[zn (by decide),e1]
 simp only[zb]
 rw[e3]
 simp only[zb]
 rw[d1]
 rfl
abbrev opA:Op1:=(1,[[97]],(1,1,[],()),0,[],())
abbrev opB:Op1:=(1,[[97]],(1,2,[],()),0,[((0,1,()),0,())],())
abbrev txA:Txn1:=((0,1,()),0,1,false,[opA],())
abbrev txB:Txn1:=((0,2,()),0,2,false,[opB],())
theorem ayC:kN [((0,1,()),0,())]=true:=by
 unfold kN
 rw[zp (fun i h=>by
   have:i=0:=by simp at h; omega
   subst this
   decide)]
theorem av2:opM opA=0:=avY adY
theorem av1:opM opB=0:=by
 unfold opM
 simp[adY,cZ,ayC]
theorem agM:TxnsOk [txA,txB] 20 where
 len:=by simp
 rise:=List.pairwise_cons.2 ⟨fun x hx=>by rw[List.mem_singleton.1 hx]; decide,List.pairwise_singleton ..⟩
 all t ht:=by
   rcases List.mem_cons.1 ht with rfl | ht
   · exact ⟨by simp,by simp,fun o ho=>by rw[List.mem_singleton.1 ho]; exact ⟨⟨by simp,by simp,by simp,by simp⟩,.inl av2⟩,by decide,by decide,by decide⟩
   · rw[List.mem_singleton.1 ht]
     exact ⟨by simp,by simp,fun o ho=>by rw[List.mem_singleton.1 ho]; exact ⟨⟨by simp,by simp,by simp,by simp⟩,.inl av1⟩,by decide,by decide,by decide⟩
theorem agN {n:Nat} (h:n<10):jL (1,(n:Int),[],())=[UInt8.ofNat (48+n)]:=by
 show Lib.itoa (n:Int)=_
 rw[afU,mO h]
theorem ad9:zb2=some true:=by
 have r2:be (0,2,())=true:=by decide
 unfold zb2
 rw[show zda 1 1 []=some txA from rfl,show zda 2 2 [((0,1,()),0,())]=some txB from rfl]
 simp only[zb]
 obtain ⟨k1,a1,a2⟩:=agT (s:=(([],[],([0,0,0,0,0,0,0,0,0,0,0,0,0,0,0,0],[],()),([0,0,0,0,0,0,0,0,0,0,0,0,0,0,0,0],[],()),[[],[],[],[],[],[],[],[]],()):St1)) (t:=txA) (n:=0) (by simp) List.Pairwise.nil ⟨rfl,by simp,fun d hd=>by cases hd⟩ (by omega) rfl
 rw[a1]
 simp only[zb]
 have c1:loT txA.1 []++txA::hiT txA.1 []=[txA]:=rfl
 rw[c1]
 obtain ⟨k2,b1,b2⟩:=agT (s:=(([txA],[],k1,([0,0,0,0,0,0,0,0,0,0,0,0,0,0,0,0],[],()),[[],[],[],[],[],[],[],[]],()):St1)) (t:=txB) (n:=1) (by simp) (List.pairwise_singleton ..) a2 (by omega) (show uS (hiT (0,2,()) [txA]) (0,2,())=false from rfl)
 rw[b1]
 simp only[zb]
 have c2:loT txB.1 [txA]++txB::hiT txB.1 [txA]=[txA,txB]:=rfl
 rw[c2]
 have st:StOk ([txA,txB],[],k2,([0,0,0,0,0,0,0,0,0,0,0,0,0,0,0,0],[],()),[[],[],[],[],[],[],[],[]],()) 100:=⟨by simp,⟨by simp,List.Pairwise.nil,fun x hx=>by cases hx⟩,rfl,by simp,rfl⟩
 have low:LowN [txA,txB]:=agM.lowN
 obtain ⟨b,hb,hm,hof⟩:=of_t (d:=(0,2,())) (redo:=false) st (by omega) agM
 have hbf:zdt ([0,0,0,0,0,0,0,0,0,0,0,0,0,0,0,0],[],()) (0,2,())=some false:=ug r2
 simp only at hb
 rw[hbf] at hb
 cases hb
 have nz:eV ([txA,txB],[],k2,([0,0,0,0,0,0,0,0,0,0,0,0,0,0,0,0],[],()),[[],[],[],[],[],[],[],[]],()) (0,2,()) false false=0:=by rfl
 rw[hof,zp nz]
 simp only[zb]
 have e:dM (hP (allM [txA,txB] [])) (hP (allM [txA,txB] [((0,2,()),1,())]))=[kM ([[97]],1,[(1,2,[],())],0,()) ([[97]],1,[(1,1,[],())],0,())]:=by
   have v1:hP (allM [txA,txB] [])=[([[97]],1,[(1,2,[],())],0,())]:=rfl
   have v2:hP (allM [txA,txB] [((0,2,()),1,())])=[([[97]],1,[(1,1,[],())],0,())]:=rfl
   rw[v1,v2]
   unfold dM
   rw[gh.eq_def]
   simp only
   rw[zn (by decide),zn (by decide),zn (by decide),gh.eq_def]
   rfl
 have eu:upU ([txA,txB],[],k2,([0,0,0,0,0,0,0,0,0,0,0,0,0,0,0,0],[],()),[[],[],[],[],[],[],[],[]],()) (0,2,())=[((0,2,()),1,())]:=rfl
 rw[eu,e]
 have small:∀ n:Int,-2147483647≤n→n≤2147483647→oe ([[97]],1,[(1,n,[],())],0,()):=fun n h1 h2=>⟨by simp,by simp,by simp,fun v hv=>by
   rw[List.mem_singleton.1 hv]
   unfold cZ; rw[decide_eq_true_eq]; exact .inl ⟨rfl,rfl,h1,h2⟩⟩
 have fit:∀ c∈[kM ([[97]],1,[(1,2,[],())],0,()) ([[97]],1,[(1,1,[],())],0,())],fitC c:=fun c hc=>by
   rw[List.mem_singleton.1 hc]
   exact ⟨⟨small 2 (by omega) (by omega),by unfold inR; simp[kM]⟩,small 1 (by omega) (by omega),by unfold inR; simp[kM]⟩
 rw[ti (by simp) fit]
 have t1:jL (1,1,[],())=[49]:=agN (n:=1) (by omega)
 have t2:jL (1,2,[],())=[50]:=agN (n:=2) (by omega)
 have tx:([kM ([[97]],1,[(1,2,[],())],0,()) ([[97]],1,[(1,1,[],())],0,())].flatMap jf)=[45,32,97,32,61,32,50,10,43,32,97,32,61,32,49,10]:=by
   rw[List.flatMap_cons,List.flatMap_nil,List.append_nil]
   unfold jf kM uP yn
   simp only[List.map_cons,List.map_nil,t1,t2]
   rfl
 rw[tx]
 simp only[zb,decide_true,cond_true]
 rcases ac1 (s:=([txA,txB],[],k2,([0,0,0,0,0,0,0,0,0,0,0,0,0,0,0,0],[],()),[[],[],[],[],[],[],[],[]],())) (a:=(0,2,())) low with ⟨_,hn⟩ | ⟨t,ht,htd,hn⟩
 · exact absurd rfl (hn txB (by simp))
 · have : t = txB := by
     simp only[List.mem_cons,List.mem_nil_iff,or_false] at ht
     rcases ht with rfl | rfl
     · exact absurd htd (by decide)
     · rfl
   subst this
   rw[hn,oX low]
   rfl
theorem zO:∀ v:cN.ps.V,okV cN.ps v→cN.fn v=some true:=fun v h=>kO ad9 (abV h.1)
theorem wW:∀ v:tP.ps.V,okV tP.ps v→tP.fn v=some true:=fun v h=>iW ad9 (abV h.1)
end Go.Proofs.YtnbgkhdcidbkaaaGreatDoor.Q
