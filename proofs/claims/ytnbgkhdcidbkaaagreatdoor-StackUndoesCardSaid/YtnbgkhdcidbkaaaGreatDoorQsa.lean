import Derived.Test.YtnbgkhdcidbkaaaGreatDoorW
import Derived.Test.YtnbgkhdcidbkaaaGreatDoorT14
import Derived.Test.YtnbgkhdcidbkaaaGreatDoorT32
set_option linter.unusedVariables false
set_option linter.unusedSimpArgs false
set_option maxRecDepth 100000
namespace Go.Proofs.YtnbgkhdcidbkaaaGreatDoor.Q
open Go.EM Go.TY Go.Proofs Go.Proofs.YtnbgkhdcidbkaaaGreatDoor.Y
def cn:List UInt8→Int×Nat
 | []=>(0,0)
 | a::t =>
   if a.toNat<128 then (a.toNat,1)
   else if 194≤a.toNat∧a.toNat<224 then (match t with
     | b::_=>if 128≤b.toNat∧b.toNat≤191 then (64*((a.toNat:Int)-192)+b.toNat-128,2) else (0,0)
     | _=>(0,0))
   else if 224≤a.toNat∧a.toNat<240 then (match t with
     | b :: c :: _ => if (128 ≤ b.toNat ∧ b.toNat ≤ 191) ∧ (128 ≤ c.toNat ∧ c.toNat ≤ 191) then
         let r:Int:=64*(64*((a.toNat:Int)-224)+b.toNat-128)+c.toNat-128
         if r<2048∨(55296≤r∧r≤57343) then (0,0) else (r,3)
       else (0,0)
     | _=>(0,0))
   else if 240≤a.toNat∧a.toNat<245 then (match t with
     | b :: c :: d :: _ => if (128 ≤ b.toNat ∧ b.toNat ≤ 191) ∧ (128 ≤ c.toNat ∧ c.toNat ≤ 191) ∧ (128 ≤ d.toNat ∧ d.toNat ≤ 191) then
         let r:Int:=64*(64*(64*((a.toNat:Int)-240)+b.toNat-128)+c.toNat-128)+d.toNat-128
         if r<65536∨1114111<r then (0,0) else (r,4)
       else (0,0)
     | _=>(0,0))
   else (0,0)
theorem lf {s:List UInt8}{q:Int×Int×Int×Unit}{x:Int}{i:Nat}{b:UInt8} (hi:(i:Int)<q.2.1) (hi4:i≤4) (h:s[i]? = some b) (hx:0≤x) (hx2:x≤100000000) :
   e7 s q (x,(i:Int),())=if 128≤b.toNat∧b.toNat≤191 then some (.inl (64*x+b.toNat-128,((i+1:Nat):Int),())) else some (.inr (.inr (0,0,()))):=by
 have hb:b.toNat<256:=b.toNat_lt
 simp only[e7,iv,h,zb,ak,zp hi]
 rw[wrap64 (n:=64*x) (by omega) (by omega),wrap64 (n:=(b.toNat:Int)) (by omega) (by omega),wrap64 (n:=64*x+b.toNat) (by omega) (by omega),wrap64 (n:=64*x+b.toNat-128) (by omega) (by omega),wrap64 (n:=(i:Int)+1) (by omega) (by omega)]
 by_cases h1:b.toNat<128
 · rw[zp (by omega),zn (by omega)]
 · rw[zn (by omega)]
   by_cases h2:b.toNat>191
   · rw[zp (by omega),zn (by omega)]
   · rw[zn (by omega),zp (by omega)]; rfl
theorem wm {s:List UInt8}{q:Int×Int×Int×Unit}{x:Int}{i:Nat} (hi:¬ (i:Int)<q.2.1):e7 s q (x,(i:Int),())=some (.inr (.inl (x,()))):=by
 simp only[e7,ak,zn hi]
theorem zS {a b:UInt8}{t:List UInt8}{l:Int}{c x:Int} (hx:0≤x) (hx2:x≤1000) :
   aK (e7 (a::b::t) (c,2,l,())) (x,1,())=if 128≤b.toNat∧b.toNat≤191 then some (.inl (64*x+b.toNat-128,())) else some (.inr (0,0,())):=by
 have h:=lf (s:=a::b::t) (q:=(c,2,l,())) (i:=1) (b:=b) (x:=x) (by simp) (by omega) rfl hx (by omega)
 by_cases hb:128≤b.toNat∧b.toNat≤191
 · rw[zp hb] at h ⊢
   exact (aP h).trans (aJ (wm (by simp)))
 · rw[zn hb] at h ⊢
   exact aJ h
theorem zR {a b d:UInt8}{t:List UInt8}{l:Int}{c x:Int} (hx:0≤x) (hx2:x≤1000) :
   aK (e7 (a::b::d::t) (c,3,l,())) (x,1,())=if (128≤b.toNat∧b.toNat≤191)∧(128≤d.toNat∧d.toNat≤191) then some (.inl (64*(64*x+b.toNat-128)+d.toNat-128,())) else some (.inr (0,0,())):=by
 have hb':=b.toNat_lt
 have h:=lf (s:=a::b::d::t) (q:=(c,3,l,())) (i:=1) (b:=b) (x:=x) (by simp) (by omega) rfl hx (by omega)
 by_cases hb:128≤b.toNat∧b.toNat≤191
 · rw[zp hb] at h
   have h2:=lf (s:=a::b::d::t) (q:=(c,3,l,())) (i:=2) (b:=d) (x:=64*x+b.toNat-128) (by simp) (by omega) rfl (by omega) (by omega)
   by_cases hd:128≤d.toNat∧d.toNat≤191
   · rw[zp hd] at h2
     rw[zp ⟨hb,hd⟩]
     exact ((aP h).trans (aP h2)).trans (aJ (wm (by simp)))
   · rw[zn hd] at h2
     rw[zn (fun e=>hd e.2)]
     exact (aP h).trans (aJ h2)
 · rw[zn hb] at h
   rw[zn (fun e=>hb e.1)]
   exact aJ h
theorem zQ {a b d e:UInt8}{t:List UInt8}{l:Int}{c x:Int} (hx:0≤x) (hx2:x≤1000) :
   aK (e7 (a::b::d::e::t) (c,4,l,())) (x,1,())=if (128≤b.toNat∧b.toNat≤191)∧(128≤d.toNat∧d.toNat≤191)∧(128≤e.toNat∧e.toNat≤191) then some (.inl (64*(64*(64*x+b.toNat-128)+d.toNat-128)+e.toNat-128,())) else some (.inr (0,0,())):=by
 have hb':=b.toNat_lt
 have hd':=d.toNat_lt
 have h:=lf (s:=a::b::d::e::t) (q:=(c,4,l,())) (i:=1) (b:=b) (x:=x) (by simp) (by omega) rfl hx (by omega)
 by_cases hb:128≤b.toNat∧b.toNat≤191
 · rw[zp hb] at h
   have h2:=lf (s:=a::b::d::e::t) (q:=(c,4,l,())) (i:=2) (b:=d) (x:=64*x+b.toNat-128) (by simp) (by omega) rfl (by omega) (by omega)
   by_cases hd:128≤d.toNat∧d.toNat≤191
   · rw[zp hd] at h2
     have h3:=lf (s:=a::b::d::e::t) (q:=(c,4,l,())) (i:=3) (b:=e) (x:=64*(64*x+b.toNat-128)+d.toNat-128) (by simp) (by omega) rfl (by omega) (by omega)
     by_cases he:128≤e.toNat∧e.toNat≤191
     · rw[zp he] at h3
       rw[zp ⟨hb,hd,he⟩]
       exact (((aP h).trans (aP h2)).trans (aP h3)).trans (aJ (wm (by simp)))
     · rw[zn he] at h3
       rw[zn (fun q=>he q.2.2)]
       exact ((aP h).trans (aP h2)).trans (aJ h3)
   · rw[zn hd] at h2
     rw[zn (fun q=>hd q.2.1)]
     exact (aP h).trans (aJ h2)
 · rw[zn hb] at h
   rw[zn (fun q=>hb q.1)]
   exact aJ h
theorem aaP (s:List UInt8):zb3 s=some ((cn s).1,((cn s).2:Int),()):=by
 cases s with
 | nil=>simp[zb3,cn]
 | cons a t =>
   have ha:a.toNat<256:=a.toNat_lt
   have h0:¬ (((a::t).length:Int)=0):=by simp only[zl]; omega
   have hi:atI (a::t) 0=some a:=by simp[atI]
   unfold zb3
   simp only[ak,zn h0,hi,zb,aaj,z6,aga]
   rw[wrap64 (n:=(a.toNat:Int)) (by omega) (by omega)]
   by_cases c1:a.toNat<128
   · rw[zp (by omega)]
     simp only[ci,cn,zp c1]; rfl
   rw[zn (by omega)]
   by_cases c2:194≤a.toNat∧a.toNat<224
   · rw[zp (by omega),wrap64 (by omega) (by omega)]
     simp only[aE]
     match t with
     | []=>simp[cn,c1,c2]
     | b::t =>
       rw[zn (by simp only[zl]; omega),zS (by omega) (by omega)]
       by_cases hb:128≤b.toNat∧b.toNat≤191
       · rw[zp hb]
         simp only[aE]
         rw[il,zn (by omega)]
         simp only[cn,c1,c2,hb,if_true,if_false,and_self]; rfl
       · rw[zn hb]
         simp only[ci]
         simp[cn,c1,c2,hb]
   rw[zn (by omega)]
   by_cases c3:224≤a.toNat∧a.toNat<240
   · rw[zp (by omega),wrap64 (by omega) (by omega)]
     simp only[aE]
     match t with
     | []=>simp[cn,c1,c2,c3]
     | [b]=>simp[cn,c1,c2,c3]
     | b::c::t =>
       have hb:=b.toNat_lt
       have hc:=c.toNat_lt
       rw[zn (by simp only[zl]; omega),zR (by omega) (by omega)]
       by_cases hb':(128≤b.toNat∧b.toNat≤191)∧(128≤c.toNat∧c.toNat≤191)
       · rw[zp hb']
         simp only[aE]
         rw[il]
         simp only[cn,c1,c2,c3,hb',if_true,if_false,and_self]
         by_cases hr:64*(64*((a.toNat:Int)-224)+b.toNat-128)+c.toNat-128<2048∨(55296≤64*(64*((a.toNat:Int)-224)+b.toNat-128)+c.toNat-128∧64*(64*((a.toNat:Int)-224)+b.toNat-128)+c.toNat-128≤57343)
         · rw[zp (by omega),zp hr]; rfl
         · rw[zn (by omega),zn hr]; rfl
       · rw[zn hb']
         simp only[ci]
         simp[cn,c1,c2,c3,hb']
   rw[zn (by omega)]
   by_cases c4:240≤a.toNat∧a.toNat<245
   · rw[zp (by omega),wrap64 (by omega) (by omega)]
     simp only[aE]
     match t with
     | []=>simp[cn,c1,c2,c3,c4]
     | [b]=>simp[cn,c1,c2,c3,c4]
     | [b,c]=>simp[cn,c1,c2,c3,c4]
     | b::c::d::t =>
       have hb:=b.toNat_lt
       have hc:=c.toNat_lt
       have hd:=d.toNat_lt
       rw[zn (by simp only[zl]; omega),zQ (by omega) (by omega)]
       by_cases hb':(128≤b.toNat∧b.toNat≤191)∧(128≤c.toNat∧c.toNat≤191)∧(128≤d.toNat∧d.toNat≤191)
       · rw[zp hb']
         simp only[aE]
         rw[il]
         simp only[cn,c1,c2,c3,c4,hb',if_true,if_false,and_self]
         by_cases hr:64*(64*(64*((a.toNat:Int)-240)+b.toNat-128)+c.toNat-128)+d.toNat-128<65536∨1114111<64*(64*(64*((a.toNat:Int)-240)+b.toNat-128)+c.toNat-128)+d.toNat-128
         · rw[zp (by omega),zp hr]; rfl
         · rw[zn (by omega),zn hr]; rfl
       · rw[zn hb']
         simp only[ci]
         simp[cn,c1,c2,c3,c4,hb']
   rw[zn (by omega)]
   simp only[ci]
   simp[cn,c1,c2,c3,c4]
theorem aag (s:List UInt8):(cn s).2≤s.length:=by
 unfold cn
 repeat' split
 all_goals (try simp only[])
 all_goals (try split)
 all_goals (try simp only[zl])
 all_goals omega
def cQ (s:List UInt8):Option (List Int) :=
 if h:s=[] then some []
 else if h0:(cn s).2=0 then none
 else (cQ (s.drop (cn s).2)).map fun l=>(cn s).1::l
termination_by s.length
decreasing_by
 have:s.length≠0:=fun e=>h (List.eq_nil_of_length_eq_zero e)
 simp only[List.length_drop]; omega
theorem hP:cQ []=some []:=by rw[cQ,dif_pos rfl]
theorem jA {s:List UInt8} (h:s≠[]) (h0:(cn s).2=0):cQ s=none:=by rw[cQ,dif_neg h,dif_pos h0]
theorem jz {s:List UInt8} (h:s≠[]) (h0:(cn s).2≠0):cQ s=(cQ (s.drop (cn s).2)).map fun l=>(cn s).1::l:=by rw[cQ,dif_neg h,dif_neg h0]
def eU (s:List UInt8) (out:List Int):List Int×Bool×Unit :=
 match cQ s with
 | some m=>(out++m,true,())
 | none=>([],false,())
theorem sJ {s:List UInt8} (hs:s.length<4294967296):∀ (k i:Nat) (l:List Int),s.length-i≤k→i≤s.length→l.length≤i→aK (kY s) ((i:Int),l,())=some (eU (s.drop i) l):=by
 intro k
 have fin:∀ (i:Nat) (l:List Int),¬ i<s.length→aK (kY s) ((i:Int),l,())=some (eU (s.drop i) l):=by
   intro i l hi
   rw[List.drop_eq_nil_of_le (by omega),aJ (x:=(l,true,())) (by simp only[kY,ak]; rw[zn (by omega)])]
   simp[eU,hP]
 induction k with
 | zero=>intro i l hk hi hl; exact fin i l (by omega)
 | succ k ih =>
   intro i l hk hi hl
   by_cases hlt:i<s.length
   · have hne:s.drop i≠[]:=fun e=>by have:=congrArg List.length e; simp at this; omega
     have hle:=aag (s.drop i)
     simp only[List.length_drop] at hle
     by_cases h0:(cn (s.drop i)).2=0
     · rw[aJ (x:=([],false,()))]
       · simp only[eU,jA hne h0]
       · simp only[kY,ak]
         rw[zp (by omega),ed (by omega)]
         simp only[zb,aaP]
         rw[zp (by omega)]
     · rw[aP (b:=(((i+(cn (s.drop i)).2:Nat):Int),l++[(cn (s.drop i)).1],()))]
       · rw[ih _ _ (by omega) (by omega) (by simp; omega)]
         simp only[eU,jz hne h0,List.drop_drop]
         cases cQ (s.drop (i+(cn (s.drop i)).2))<;>simp
       · simp only[kY,ak]
         rw[zp (by omega),ed (by omega)]
         simp only[zb,aaP]
         rw[zn (by omega),de (by simp; omega)]
         simp only[zb]
         rw[wrap64 (by omega) (by omega)]
         simp
   · exact fin i l hlt
theorem wy {s:List UInt8} (hs:s.length<4294967296):zbu s=some (eU s []):=by
 have:=sJ hs s.length 0 [] (by omega) (by omega) (by simp)
 simpa [zbu] using this
def one (c:Int) (a:List Int):Prop:=c = -2∨∃ x,a=[x]∧(c = -1∨c=x)
def Mt:List Int→List Int→Prop
 | [],t=>t=[]
 | c::o,t=>∃ a b,t=a++b∧one c a∧Mt o b
structure Inv (o t:List Int) (k:Nat) (star:Int) (mark i:Nat):Prop where
 k_le:k≤o.length
 i_le:i≤t.length
 no:star<0→(Mt o t↔Mt (o.drop k) (t.drop i))
 is:∀ st:Nat,star=(st:Int)→st<k∧mark≤i∧(Mt o t↔Mt (-2::o.drop (st+1)) (t.drop mark))∧(Mt (o.drop k) (t.drop i)→Mt (o.drop (st+1)) (t.drop mark))∧(∀ u,Mt (o.drop (st+1)) u→Mt (o.drop k) (u.drop (i-mark)))
 le : -1≤star
open Classical in
def cmpI (a b:Int):Int:=if a<b then -1 else if a>b then 1 else 0
theorem o4 (a b:Int):zax a b=some (cmpI a b):=by
 unfold zax za2 cmpI
 simp only[zb,decide_true,Bool.not_true,cond_false,ak]
 by_cases h1:a<b
 · simp[h1]
 · by_cases h2:a>b<;>simp[h1,h2]
def orI (a b:Int):Int:=if a=0 then b else a
theorem or_t (a b:Int):zb5 [a,b]=some (orI a b):=by
 unfold zb5 orI
 by_cases h1:a=0
 · rw[zp h1]
   have t0:iz [a,b] (0,())=some (.inl (1,())):=by
     unfold iz
     simp only[ak,zl,List.length_nil]
     rw[zp (by decide)]
     simp[atI,h1,wrap64]
   rw[aP t0]
   by_cases h2:b=0
   · have t1 : iz [a, b] (1, ()) = some (.inl (2, ())) := by
       unfold iz
       simp only[ak,zl,List.length_nil]
       rw[zp (by decide)]
       simp[atI,h2,wrap64]
     rw[aP t1,h2]
     refine aJ ?_
     unfold iz
     simp only[ak,zl,List.length_nil]
     rw[zn (by decide)]
   · refine aJ ?_
     unfold iz
     simp only[ak,zl,List.length_nil]
     rw[zp (by decide)]
     simp[atI,h2]
 · rw[zn h1]
   refine aJ ?_
   unfold iz
   simp only[ak,zl,List.length_nil]
   rw[zp (by decide)]
   simp[atI,h1]
def cmpD (a b:Int×Int×Unit):Int:=orI (cmpI a.1 b.1) (cmpI a.2.1 b.2.1)
def aT (d:Int×Int×Unit):Bool:=decide (0≤d.1∧d.1≤15∧1≤d.2.1∧d.2.1≤1048576)
def Good (c:Int):Prop:=∃ s,(cn s).2≠0∧(cn s).1=c
abbrev Val:=Int×Int×List UInt8×Unit
theorem agn (a b:Val):eqV (.agg (.cons (.int .i64) (.cons (.int .i64) (.cons .str .unit)))) a b=decide (a=b):=by
 obtain ⟨k,n,s,⟨⟩⟩:=a
 obtain ⟨k',n',s',⟨⟩⟩:=b
 simp only[eqV,Bool.and_true]
 rw[Bool.eq_iff_iff]
 simp
theorem wB {s:List UInt8}:(eU s []).2.1=(cQ s).isSome:=by
 unfold eU; cases cQ s<;>rfl
def jH (v:Val):Bool:=decide ((v.1=1∧v.2.2.1=[] ∧ -2147483647≤v.2.1∧v.2.1≤2147483647)∨(v.1=2∧v.2.1=0∧(cQ v.2.2.1).isSome=true∧v.2.2.1.length≤64)∨(v.1=3∧v.2.2.1=[]∧0≤v.2.1∧v.2.1≤1))
theorem pG {v:Val} (hv:v.2.2.1.length<4294967296):zbk v=some (jH v):=by
 unfold zbk jH
 simp only[wy (s:=v.2.2.1) (by omega),zb,wB,ak]
 by_cases h1:v.1=1
 · rw[zp h1]
   by_cases h2:v.2.2.1=[]
   · by_cases h3:v.2.1 ≥ -2147483647
     · simp only[h1,h2,h3]; simp<;>omega
     · simp only[h1,h2]; simp[h3]<;>omega
   · simp[h1,h2]
 rw[zn h1]
 by_cases h2:v.1=2
 · rw[zp h2]
   cases hr:(cQ v.2.2.1).isSome with
   | true =>
     by_cases h3:v.2.1=0
     · simp only[h2,h3]; simp<;>omega
     · simp[h2,h3]
   | false=>by_cases h3:v.2.1=0<;>simp[h2,h3]
 rw[zn h2]
 by_cases h3:v.1=3
 · rw[zp h3]
   by_cases h4:v.2.2.1=[]
   · by_cases h5:v.2.1≥0
     · simp only[h3,h4]; simp[h5]<;>omega
     · simp only[h3,h4]; simp[h5]<;>omega
   · simp[h3,h4]
 rw[zn h3]
 simp[h1,h2,h3]
abbrev Path:=List (List UInt8)
abbrev Ent:=Path×Int×List Val×Int×Unit
theorem rW:Cmp cmpI where
 one a b:=by
   unfold cmpI
   split
   · omega
   · split<;>omega
 neg a b:=by
   unfold cmpI
   by_cases h1:a<b
   · rw[zn (by omega),zp (by omega),zp h1]; rfl
   · by_cases h2:a>b
     · rw[zp (by omega),zn h1,zp h2]
     · rw[zn (by omega),zn (by omega),zn h1,zn h2]; rfl
 zero a b:=by
   unfold cmpI
   by_cases h1:a<b
   · rw[zp h1]; constructor<;>intro h<;>omega
   · by_cases h2:a>b
     · rw[zn h1,zp h2]; constructor<;>intro h<;>omega
     · rw[zn h1,zn h2]; constructor<;>intro h<;>omega
 trans a b d h1 h2:=by
   unfold cmpI at h1 h2 ⊢
   have e1:a<b:=by
     by_cases h:a<b
     · exact h
     · rw[zn h] at h1; split at h1<;>omega
   have e2:b<d:=by
     by_cases h:b<d
     · exact h
     · rw[zn h] at h2; split at h2<;>omega
   rw[zp (by omega)]; omega
def cmpP:Path→Path→Int:=cmpL Lib.compareBytes
def keyE (e:Ent):Path×Int:=(e.1,e.2.1)
def cmpK:Path×Int→Path×Int→Int:=cmpB cmpP cmpI
def mayM (c:Int):Bool:=decide (32≤c∧(c<127∨159<c)∧c≠65533)
theorem zB (c:Int):zcz c=some (mayM c):=by
 unfold zcz mayM
 simp only[ak]
 by_cases h1:c≥32
 · rw[zp h1]
   by_cases h2:c<127
   · rw[zp h2,zf (by omega:¬ c=65533),zt (by omega)]; rfl
   · rw[zn h2]
     by_cases h3:c>159
     · rw[zp h3]
       by_cases h4:c=65533
       · rw[zt h4,zf (by omega)]; rfl
       · rw[zf h4,zt (by omega)]; rfl
     · rw[zn h3,zf (by omega)]
 · rw[zn h1,zf (by omega)]
theorem wz:∀ {s:List UInt8}{l:List Int},cQ s=some l→l.length≤s.length:=by
 have key:∀ (n:Nat) (s:List UInt8) (l:List Int),s.length≤n→cQ s=some l→l.length≤s.length:=by
   intro n
   induction n with
   | zero =>
     intro s l hn h
     have:s=[]:=List.eq_nil_of_length_eq_zero (by omega)
     subst this
     rw[hP] at h; cases h; simp
   | succ n ih =>
     intro s l hn h
     by_cases hs:s=[]
     · subst hs
       rw[hP] at h; cases h; simp
     · have hl:s.length≠0:=fun e=>hs (List.eq_nil_of_length_eq_zero e)
       by_cases h0:(cn s).2=0
       · rw[jA hs h0] at h; cases h
       · rw[jz hs h0,Option.map_eq_some_iff] at h
         obtain ⟨l',hl',rfl⟩:=h
         have:=ih _ l' (by rw[List.length_drop]; omega) hl'
         rw[List.length_drop] at this
         simp only[zl]; omega
 intro s l h
 exact key s.length s l (Nat.le_refl _) h
def xf (s:List UInt8):Bool:=match cQ s with
 | some l=>decide (1≤l.length∧l.length≤24)&&l.all mayM
 | none=>false
theorem kJ {s:List UInt8} (hs:s.length<1000000):zbn s=some (xf s):=by
 unfold zbn xf
 rw[wy (by omega)]
 simp only[zb]
 have gen:∀ (l:List Int) (ok:Bool),l.length<1000000→aK (nQ (l,ok,())) ((0:Int),())=some (if l.all mayM=true then .inl () else .inr false):=by
   intro l ok hl
   have:=eG (f:=nQ (l,ok,())) (l:=l) (fun i=>((i:Int),())) mayM (.inl ()) (.inr false) (fun i h=>by
     unfold nQ
     simp only[ak]
     rw[zp (by omega),aR h]
     simp only[zb,zB]
     cases mayM l[i] with
     | true=>simp only[Bool.not_true,cond_false,if_true]; rw[wrap64 (by omega) (by omega)]; rfl
     | false=>rfl) (by
     unfold nQ
     simp only[ak]
     rw[zn (by omega)])
   exact this
 cases hr:cQ s with
 | none =>
   have e:eU s []=([],false,()):=by unfold eU; rw[hr]
   rw[e,gen [] false (by simp)]
   rfl
 | some l =>
   have e:eU s []=(l,true,()):=by unfold eU; rw[hr]; rfl
   have hl:l.length≤s.length:=wz hr
   rw[e,gen l true (by omega)]
   cases hm:l.all mayM with
   | false =>
     simp only[Bool.false_eq_true,if_false,ci,hm,Bool.and_false]
   | true =>
     simp only[if_true,aE,cond_true,hm,Bool.and_true,ak]
     by_cases h1:(l.length:Int)≥1
     · rw[zp h1]
       congr 1
       rw[decide_eq_decide]; omega
     · rw[zn h1,zf (by omega)]
def fW (p:Path):Int:=if p.length=0 then 8 else if p.length>8 then 9 else if p.all xf=true then 0 else 8
theorem sU {p:Path} (hs:∀ x∈p,x.length<1000000):zbh p=some (fW p):=by
 unfold zbh fW
 simp only[ak]
 by_cases h1:(p.length:Int)=0
 · rw[zp h1,zp (show p.length=0 by omega)]
 rw[zn h1,zn (show ¬ p.length=0 by omega)]
 by_cases h2:(p.length:Int)>8
 · rw[zp h2,zp (show p.length>8 by omega)]
 rw[zn h2,zn (show ¬ p.length>8 by omega)]
 have:=eG (f:=qC p) (l:=p) (fun i=>((i:Int),())) xf (0:Int) 8 (fun i h=>by
   unfold qC
   simp only[ak]
   rw[zp (by omega),aR h]
   simp only[zb,kJ (hs _ (zm h))]
   cases xf p[i] with
   | true=>simp only[Bool.not_true,cond_false,if_true]; rw[wrap64 (by omega) (by omega)]; rfl
   | false=>rfl) (by
   unfold qC
   simp only[ak]
   rw[zn (by omega)])
 exact this
instance decE1:DecidableEq (List Val×Int×Unit):=fun a b => @instDecidableEqProd (List Val) (Int×Unit) inferInstance inferInstance a b
instance decE2:DecidableEq (Int×List Val×Int×Unit):=fun a b => @instDecidableEqProd Int (List Val×Int×Unit) inferInstance decE1 a b
instance decE:DecidableEq Ent:=fun a b => @instDecidableEqProd Path (Int×List Val×Int×Unit) inferInstance decE2 a b
instance decC1:DecidableEq (Ent×Unit):=fun a b => @instDecidableEqProd Ent Unit decE inferInstance a b
instance decC2:DecidableEq (Ent×Ent×Unit):=fun a b => @instDecidableEqProd Ent (Ent×Unit) decE decC1 a b
theorem ite_bool {b:Bool}:(if b=true then true else false)=b:=by cases b<;>rfl
theorem zj {p:Path}:za9 p=some (decide (p.length≤12)&&p.all fun x=>decide (x.length≤120)):=by
 unfold za9
 simp only[ak]
 by_cases h1:(p.length:Int)>12
 · rw[zp h1,zf (by omega)]; rfl
 rw[zn h1,zt (by omega),Bool.true_and]
 have:=eG (f:=qO p) (l:=p) (fun i=>((i:Int),())) (fun x=>decide (x.length≤120)) true false (fun i h=>by
   unfold qO
   simp only[ak]
   rw[zp (by omega),aR h]
   simp only[zb]
   by_cases h2:(p[i].length:Int)>120
   · rw[zp h2,zn (by simp; omega)]
   · rw[zn h2,zp (by simp; omega),wrap64 (by omega) (by omega)]; rfl) (by
   unfold qO
   simp only[ak]
   rw[zn (by omega)])
 rw[ite_bool] at this
 exact this
theorem gB {R X S:Type}{g:S→X→S}{fin:S→R}:∀ (l:List X) (i:Nat) (s:S),eL (fun _ x s=>.inl (g s x)) fin i l s=fin (l.foldl g s)
 | [],_,s=>rfl
 | x::l,i,s=>by simp only[eL,List.foldl_cons]; exact gB l (i+1) (g s x)
theorem rG {n:Nat} (h:n<9000000):shrT .u64 (IntKind.wrap .u64 (IntKind.wrap .i64 (n:Int))) 1=some ((n/2:Nat):Int):=by
 rw[wrap64 (by omega) (by omega)]
 have w:IntKind.wrap .u64 (n:Int)=(n:Int):=by simp[IntKind.wrap,IntKind.bits,IntKind.signed]; omega
 rw[w]
 unfold shrT
 rw[zn (by omega)]
 have e:(2:Int) ^ min (Int.toNat 1) (IntKind.bits .u64)=2:=by decide
 rw[e,Int.fdiv_eq_ediv_of_nonneg _ (by omega)]
 congr 1
abbrev Dot1:=Int×Int×Unit
abbrev Ref1:=Dot1×Int×Unit
abbrev Op1:=Int×Path×Val×Int×List Ref1×Unit
abbrev Txn1:=Dot1×Int×Int×Bool×List Op1×Unit
abbrev fO:=Ref1×Op1×Int×Unit
abbrev iR:Ty:=.agg (.cons (.agg (.cons (.int .i64) (.cons (.int .i64) .unit))) (.cons (.int .i64) .unit))
theorem agw {K L:Type}{c:K→K→Int} (h:Cmp c) (f:L→K) (hf:∀ a b,f a=f b→a=b):Cmp fun a b=>c (f a) (f b) where
 one a b:=h.one _ _
 neg a b:=h.neg _ _
 zero a b:=⟨fun e=>hf _ _ ((h.zero _ _).1 e),fun e=>(h.zero _ _).2 (by rw[e])⟩
 trans a b d:=h.trans _ _ _
theorem cJ:Cmp cmpD:=by
 have:cmpD=fun a b=>cmpB cmpI cmpI ((fun x:Dot1=>(x.1,x.2.1)) a) ((fun x:Dot1=>(x.1,x.2.1)) b):=rfl
 rw[this]
 exact agw (rW.pair rW) _ fun a b h=>by
   obtain ⟨a1,a2,⟨⟩⟩:=a; obtain ⟨b1,b2,⟨⟩⟩:=b
   simp only[Prod.mk.injEq] at h
   rw[h.1,h.2]
def cmpR (a b:Ref1):Int:=orI (cmpD a.1 b.1) (cmpI a.2.1 b.2.1)
theorem xx (a b:Int):zb7 a b=some (cmpI a b):=by
 unfold zb7 cmpI
 simp only[ak]
 by_cases h1:a<b
 · rw[zp h1,zp h1]
 · by_cases h2:a>b
   · rw[zn h1,zp h2,zn h1,zp h2]
   · rw[zn h1,zn h2,zn h1,zn h2]
theorem o7 (a b:Int):cmpI a b=0↔a=b:=rW.zero a b
theorem fD (a b:Dot1):za1 a b=some (cmpD a b):=by
 unfold za1 cmpD orI
 simp only[xx,zb,aW]
 by_cases h:a.1=b.1
 · rw[zp h,zp ((o7 _ _).2 h)]
 · rw[zn h,zn (fun e=>h ((o7 _ _).1 e))]
theorem zA (a b:Ref1):zcl a b=some (cmpR a b):=by
 unfold zcl cmpR orI
 simp only[fD,xx,zb,aW]
 by_cases h:cmpD a.1 b.1=0
 · rw[zp h,zp h]
 · rw[zn h,zn h]
theorem iJ (a b:Dot1):zbe a b=some (cmpD a b):=by
 unfold zbe
 simp only[o4,or_t,zb]
 rfl
theorem cS (d:Dot1):zbi d=some (aT d):=by
 unfold zbi aT
 simp only[ak]
 by_cases h1:d.1≥0<;>by_cases h2:d.1≤15<;>by_cases h3:d.2.1≥1<;>by_cases h4:d.2.1≤1048576<;>simp[h1,h2,h3,h4]<;>omega
theorem jG {A K:Type}{c:K→K→Int}{key:A→K} (hc:Cmp c):∀ {l:List A},(∀ i,(h:i+1<l.length)→c (key l[i]) (key l[i+1])<0)→tK c key l
 | [],_=>List.Pairwise.nil
 | [x],_=>List.pairwise_singleton ..
 | x::y::l,h=>by
   have ih:=jG hc (l:=y::l) (fun i hi=>h (i+1) (by simpa using hi))
   have h0:=h 0 (by simp)
   refine List.pairwise_cons.2 ⟨fun z hz => ?_,ih⟩
   rcases List.mem_cons.1 hz with e | hz'
   · subst e; exact h0
   · exact hc.trans _ _ _ h0 ((List.pairwise_cons.1 ih).1 z hz')
theorem pY (a b:Ref1):eqV iR a b=decide (a=b):=by
 obtain ⟨⟨a1,a2,⟨⟩⟩,a3,⟨⟩⟩:=a
 obtain ⟨⟨b1,b2,⟨⟩⟩,b3,⟨⟩⟩:=b
 simp only[eqV,Prod.mk.injEq,and_true]
 by_cases h1:a1=b1<;>by_cases h2:a2=b2<;>by_cases h3:a3=b3<;>simp[h1,h2,h3]
theorem kQ (a b:Dot1):eqV (.agg (.cons (.int .i64) (.cons (.int .i64) .unit))) a b=decide (a=b):=by
 obtain ⟨a1,a2,⟨⟩⟩:=a
 obtain ⟨b1,b2,⟨⟩⟩:=b
 simp only[eqV,Prod.mk.injEq,and_true]
 by_cases h1:a1=b1<;>by_cases h2:a2=b2<;>simp[h1,h2]
def anv (x:Ref1):Bool:=aT x.1&&decide (0≤x.2.1∧x.2.1≤15)
def wI (l:List Ref1) (i:Nat):Bool :=
 match l[i]? with
 | some x=>anv x&&(decide (i=0)||match l[i-1]? with
   | some y=>decide (cmpR y x = -1)
   | none=>false)
 | none=>false
open Classical in
noncomputable def ol (l:List Ref1):Bool:=if (∀ i,i<l.length→wI l i=true) then true else false
theorem wJ {l:List Ref1} (hl:l.length<1000000):zcb l=some (ol l):=by
 have:=jU (f:=qw l) l.length (fun i=>((i:Int),())) (wI l) true false (fun i h=>by
   unfold qw wI anv
   rw[zg h]
   simp only[ak]
   rw[zp (by omega),aR h]
   simp only[zb,cS]
   by_cases h0:aT l[i].1=true
   · simp only[h0,Bool.not_true,cond_false,Bool.true_and]
     by_cases h1:l[i].2.1<0
     · rw[zp h1,zf (by omega)]; rfl
     rw[zn h1]
     by_cases h2:l[i].2.1>15
     · rw[zp h2,zf (by omega)]; rfl
     rw[zn h2,zt (by omega),Bool.true_and]
     by_cases h3:i=0
     · subst h3
       rw[zn (by omega),wrap64 (by omega) (by omega)]; rfl
     · rw[zp (by omega),wrap64 (by omega) (by omega),show (i:Int)-1=((i-1:Nat):Int) by omega,aR (by omega),zg (show i-1<l.length by omega)]
       simp only[zb,zA,aW]
       by_cases h4:cmpR l[i-1] l[i] = -1
       · rw[zp h4,wrap64 (by omega) (by omega)]; simp[h3,h4]
       · rw[zn h4]; simp[h3,h4]
   · have h0:aT l[i].1=false:=by simpa using h0
     simp only[h0,Bool.not_false,cond_true,Bool.false_and]; rfl) (by
   unfold qw
   simp only[ak]
   rw[zn (by omega)])
 unfold zcb ol
 rw[show ((0:Int),())=(((0:Nat):Int),()) from rfl,this]
def zeroV:Val:=(0,0,[],())
noncomputable def opM (o:Op1):Int :=
 if o.1<1∨5<o.1 then 18 else if fW o.2.1≠0 then fW o.2.1
 else if (o.1=3∨o.1=5)∧o.2.2.1≠zeroV then 2
 else if ¬ (o.1=3∨o.1=5)∧jH o.2.2.1=false then 2
 else if o.1≠3∧o.2.2.2.1≠0 then 2
 else if o.1=3∧(o.2.2.2.1=0∨o.2.2.2.1>2147483647∨o.2.2.2.1 < -2147483647) then 2
 else if (o.1=2∨o.1=3)∧0<o.2.2.2.2.1.length then 2
 else if 256<o.2.2.2.2.1.length then 7
 else if ol o.2.2.2.2.1=true then 0 else 2
def nX (o:Op1):Prop:=o.2.1.length≤12∧(∀ x∈o.2.1,x.length≤120)∧o.2.2.1.2.2.1.length≤200∧o.2.2.2.2.1.length≤300
theorem afR {o:Op1} (h:nX o):zbr o=some (opM o):=by
 obtain ⟨s1,s2,s3,s4⟩:=h
 obtain ⟨k,p,v,n,sn,⟨⟩⟩:=o
 simp only at s1 s2 s3 s4
 unfold zbr opM
 simp only[ak,aW,agn,sU (p:=p) (fun x hx=>by have:=s2 x hx; omega),pG (v:=v) (by omega),wJ (l:=sn) (by omega),zb]
 have ez:((0,0,[],()):Val)=zeroV:=rfl
 simp only[ez]
 by_cases a1:k<1
 · rw[zp a1,zp (.inl a1)]
 rw[zn a1]
 by_cases a2:k>5
 · rw[zp a2,zp (.inr a2)]
 rw[zn a2]
 rw[zn (show ¬ (k<1∨5<k) by omega)]
 by_cases a3:¬ fW p=0
 · rw[zn a3,zp (show fW p≠0 from a3)]
 have a3:fW p=0:=Classical.not_not.1 a3
 rw[zp a3,zn (show ¬ fW p≠0 from fun e=>e a3)]
 have hlen:((sn.length:Int)>0)↔0<sn.length:=by omega
 have hlen2:((sn.length:Int)>256)↔256<sn.length:=by omega
 simp only[hlen,hlen2]
 have last:(cond (!ol sn) (some (2:Int)) (some 0))=some (if ol sn=true then 0 else 2):=by cases ol sn<;>rfl
 by_cases k3:k=3
 · subst k3
   by_cases hz:v=zeroV
   · by_cases n0:n=0
     · simp[hz,n0]
     · by_cases n1:n>2147483647
       · simp[hz,n0,n1]
       · by_cases n2:n < -2147483647
         · simp[hz,n0,n1,n2]
         · by_cases l0:0<sn.length
           · simp[hz,n0,n1,n2,l0]
           · by_cases l2:256<sn.length
             · omega
             · simp[hz,n0,n1,n2,l0,l2,last]
   · simp[hz]
 · by_cases k5:k=5
   · subst k5
     by_cases hz:v=zeroV
     · by_cases n0:n=0
       · by_cases l2:256<sn.length
         · simp[hz,n0,l2]
         · simp[hz,n0,l2,last]
       · simp[hz,n0]
     · simp[hz]
   · cases hr:jH v with
     | false=>simp[k3,k5,hr]
     | true =>
       by_cases n0:n=0
       · by_cases k2:k=2
         · subst k2
           by_cases l0:0<sn.length
           · simp[n0,l0]
           · by_cases l2:256<sn.length
             · omega
             · simp[n0,l0,l2,last]
         · by_cases l2:256<sn.length
           · simp[k2,k3,k5,n0,l2]
           · simp[k2,k3,k5,n0,l2,last]
       · simp[k3,k5,n0]
def io (o:Op1):Bool:=decide (o.1=0∧o.2.1=[]∧o.2.2.1=zeroV∧o.2.2.2.1=0∧o.2.2.2.2.1=[])
theorem anL (o:Op1):zck o=some (io o):=by
 obtain ⟨k,p,v,n,sn,⟨⟩⟩:=o
 unfold zck io
 simp only[ak,agn]
 have ez:((0,0,[],()):Val)=zeroV:=rfl
 simp only[ez]
 have e1:((p.length:Int)=0)↔p=[]:=by rw[show ((p.length:Int)=0)↔p.length=0 by omega,List.length_eq_zero_iff]
 have e2:((sn.length:Int)=0)↔sn=[]:=by rw[show ((sn.length:Int)=0)↔sn.length=0 by omega,List.length_eq_zero_iff]
 simp only[e1,e2]
 by_cases h1:k=0<;>by_cases h2:p=[]<;>by_cases h3:v=zeroV<;>by_cases h4:n=0<;>by_cases h5:sn=[]<;>simp[h1,h2,h3,h4,h5]
def jv (o:Op1):Bool:=decide (o.2.1.length≤12)&&(o.2.1.all fun x=>decide (x.length≤120))&&decide (o.2.2.1.2.2.1.length≤200)&&decide (o.2.2.2.2.1.length≤300)
theorem wu (o:Op1):zbm o=some (jv o):=by
 unfold zbm jv
 simp only[zj,zb,ak]
 cases (decide (o.2.1.length≤12)&&o.2.1.all fun x=>decide (x.length≤120)) with
 | false=>rfl
 | true =>
   rw[cond_true,Bool.true_and]
   by_cases h3:((o.2.2.1.2.2.1.length:Int)≤200)
   · rw[zp h3,zt (show o.2.2.1.2.2.1.length≤200 by omega),Bool.true_and]
     congr 1
     by_cases h4:((o.2.2.2.2.1.length:Int)≤300)
     · rw[zt h4,zt (by omega)]
     · rw[zf h4,zf (by omega)]
   · rw[zn h3,zf (show ¬ o.2.2.1.2.2.1.length≤200 by omega)]; rfl
theorem lr {o:Op1}:jv o=true↔nX o:=by
 unfold jv nX
 simp only[Bool.and_eq_true,decide_eq_true_eq,List.all_eq_true]
 exact ⟨fun h=>⟨h.1.1.1,h.1.1.2,h.1.2,h.2⟩,fun h=>⟨⟨⟨h.1,h.2.1⟩,h.2.2.1⟩,h.2.2.2⟩⟩
noncomputable def e9 (t:Txn1):Bool:=decide (t.2.2.2.2.1.length≤20)&&t.2.2.2.2.1.all jv
theorem lq (t:Txn1):zbx t=some (e9 t):=by
 unfold zbx e9
 simp only[ak]
 by_cases h1:(t.2.2.2.2.1.length:Int)>20
 · rw[zp h1,zf (by omega)]; rfl
 rw[zn h1,zt (by omega),Bool.true_and]
 have:=eG (f:=qx t) (l:=t.2.2.2.2.1) (fun i=>((i:Int),())) jv true false (fun i h=>by
   unfold qx
   simp only[ak]
   rw[zp (by omega),aR h]
   simp only[zb,wu]
   by_cases hs:jv t.2.2.2.2.1[i]=true
   · rw[hs,Bool.not_true,cond_false,zp rfl,wrap64 (by omega) (by omega)]; rfl
   · rw[zn hs,eq_false_of_ne_true hs]; rfl) (by
   unfold qx
   simp only[ak]
   rw[zn (by omega)])
 rw[ite_bool] at this
 exact this
noncomputable def opsM (thin:Bool):List Op1→Int
 | []=>0
 | o::l=>if opM o≠0∧¬ (thin=true∧io o=true) then opM o else opsM thin l
noncomputable def txnM (t:Txn1):Int :=
 if aT t.1=false∨t.2.1<0∨7<t.2.1∨t.2.2.1<1∨1099511627776<t.2.2.1 then 2
 else if t.2.2.2.2.1.length=0 then 11 else if 16<t.2.2.2.2.1.length then 7 else opsM t.2.2.2.1 t.2.2.2.2.1
theorem ox {thin:Bool}:∀ (l:List Op1) (i:Nat),eL (S:=Unit) (fun _ o _=>if opM o≠0∧¬ (thin=true∧io o=true) then .inr (opM o) else .inl ()) (fun _=>(0:Int)) i l ()=opsM thin l
 | [],_=>rfl
 | o::l,i=>by
   unfold eL opsM
   by_cases h:opM o≠0∧¬ (thin=true∧io o=true)
   · rw[zp h,zp h]
   · rw[zn h,zn h]; exact ox l (i+1)
theorem ld {t:Txn1} (h:e9 t=true):zbp t=some (txnM t):=by
 unfold e9 at h
 simp only[Bool.and_eq_true,decide_eq_true_eq,List.all_eq_true] at h
 obtain ⟨h1,h2⟩:=h
 have loop:=di (S:=Unit) (R:=Int) (f:=nP t) (l:=t.2.2.2.2.1) (fun i _=>((i:Int),())) (fun _ o _=>if opM o≠0∧¬ (t.2.2.2.1=true∧io o=true) then .inr (opM o) else .inl ()) (fun _=>(0:Int)) (fun _ _=>True) (fun i h s _=>by
   have turn:nP t ((i:Int),())=if opM t.2.2.2.2.1[i]≠0∧¬ (t.2.2.2.1=true∧io t.2.2.2.2.1[i]=true) then some (.inr (opM t.2.2.2.2.1[i])) else some (.inl (((i+1:Nat):Int),())):=by
     unfold nP
     simp only[ak,aW]
     rw[zp (by omega),aR h]
     simp only[zb,afR (lr.1 (h2 _ (zm h))),anL]
     rw[wrap64 (by omega) (by omega),show (i:Int)+1=((i+1:Nat):Int) by omega]
     by_cases a:opM t.2.2.2.2.1[i]=0
     · rw[zp a,zn (fun e=>e.1 a)]
     · rw[zn a]
       cases ht:t.2.2.2.1 with
       | false=>rw[cond_false,zp ⟨a,by simp⟩]
       | true =>
         rw[cond_true]
         by_cases hg:io t.2.2.2.2.1[i]=true
         · rw[hg,Bool.not_true,cond_false,zn (by simp)]
         · rw[eq_false_of_ne_true hg,Bool.not_false,cond_true,zp ⟨a,by simp⟩]
   by_cases hc:opM t.2.2.2.2.1[i]≠0∧¬ (t.2.2.2.1=true∧io t.2.2.2.2.1[i]=true)
   · exact .inr ⟨_,by rw[zp hc],by rw[turn,zp hc]⟩
   · exact .inl ⟨(),by rw[zn hc],by rw[turn,zn hc],trivial⟩) (fun s _=>by
   unfold nP
   simp only[ak]
   rw[zn (by omega)]) () trivial
 rw[ox] at loop
 rw[show (((0:Nat):Int),())=((0:Int),()) from rfl] at loop
 unfold zbp txnM
 simp only[ak,cS,zb]
 by_cases a1:aT t.1=true
 · rw[a1,Bool.not_true,cond_false]
   simp only[zb]
   by_cases a2:t.2.1<0
   · rw[zt a2,cond_true,zp (.inr (.inl a2))]
   rw[zf a2,cond_false]
   by_cases a3:t.2.1>7
   · rw[zp a3,zp (.inr (.inr (.inl a3)))]
   rw[zn a3]
   by_cases a4:t.2.2.1<1
   · rw[zp a4,zp (.inr (.inr (.inr (.inl a4))))]
   rw[zn a4]
   by_cases a5:t.2.2.1>1099511627776
   · rw[zp a5,zp (.inr (.inr (.inr (.inr a5))))]
   have nn:¬ (true=false∨t.2.1<0∨7<t.2.1∨t.2.2.1<1∨1099511627776<t.2.2.1):=by
     rintro (h | h | h | h | h)
     · cases h
     · exact a2 h
     · exact a3 h
     · exact a4 h
     · exact a5 h
   rw[zn a5,zn nn]
   by_cases a6:t.2.2.2.2.1.length=0
   · rw[zp (show (t.2.2.2.2.1.length:Int)=0 by omega),zp a6]
   rw[zn (show ¬ (t.2.2.2.2.1.length:Int)=0 by omega),zn a6]
   by_cases a7:16<t.2.2.2.2.1.length
   · rw[zp (show (t.2.2.2.2.1.length:Int)>16 by omega),zp a7]
   rw[zn (show ¬ (t.2.2.2.2.1.length:Int)>16 by omega),zn a7]
   exact loop
 · have a1:aT t.1=false:=by simpa using a1
   rw[zp (show aT t.1=false∨t.2.1<0∨7<t.2.1∨t.2.2.1<1∨1099511627776<t.2.2.1 from .inl a1),a1]
   rfl
noncomputable def lD {A:Type} (key:A→Dot1) (l:List A) (i:Nat):Bool:=match l[i]?,l[i+1]? with
 | some x,some y=>decide (cmpD (key x) (key y) = -1)
 | _,_=>true
theorem sR {A:Type}{key:A→Dot1}{l:List A} (h:∀ i,i<l.length-1→lD key l i=true):tK cmpD key l:=by
 refine jG cJ fun i hi => ?_
 have:=h i (by omega)
 unfold lD at this
 rw[zg hi,zg (show i<l.length by omega)] at this
 simp only[decide_eq_true_eq] at this
 omega
open Classical in
theorem wE {l:List Txn1} (hl:l.length<1000000):zbg l=some (if (∀ i,i<l.length-1→lD (·.1) l i=true) then true else false):=by
 have:=jU (f:=qD l) (l.length-1) (fun i=>(((i+1:Nat):Int),())) (lD (·.1) l) true false (fun i h=>by
   unfold qD lD
   rw[zg (show i<l.length by omega),zg (show i+1<l.length by omega)]
   simp only[ak,aW]
   rw[zp (by omega),wrap64 (by omega) (by omega),show ((i+1:Nat):Int)-1=(i:Int) by omega,aR (show i<l.length by omega),aR (show i+1<l.length by omega)]
   simp only[zb,fD,decide_eq_true_eq]
   rw[wrap64 (by omega) (by omega)]
   by_cases h4:cmpD l[i].1 l[i+1].1 = -1
   · rw[zp h4,zp h4]; rfl
   · rw[zn h4,zn h4]) (by
   unfold qD
   simp only[ak]
   rw[zn (by omega)])
 exact this
def oneM (x:Ref1):Bool:=aT x.1&&decide (1≤x.2.1∧x.2.1≤64)
theorem apL (x:Ref1):zcq x=some (oneM x):=by
 unfold zcq oneM
 simp only[cS,zb,ak]
 cases aT x.1 with
 | false=>rfl
 | true =>
   rw[cond_true,Bool.true_and]
   by_cases h1:x.2.1≥1<;>by_cases h2:x.2.1≤64<;>simp[h1,h2]<;>omega
def gg (l:List Ref1) (i:Nat):Bool:=match l[i]? with
 | some x=>oneM x&&(decide (i=0)||match l[i-1]? with
   | some y=>decide (cmpD y.1 x.1 = -1)
   | none=>false)
 | none=>false
open Classical in
theorem zw {l:List Ref1} (hl:l.length<1000000):zbv l=some (if (∀ i,i<l.length→gg l i=true) then true else false):=by
 have:=jU (f:=qz l) l.length (fun i=>((i:Int),())) (gg l) true false (fun i h=>by
   unfold qz gg
   rw[zg h]
   simp only[ak]
   rw[zp (by omega),aR h]
   simp only[zb,apL]
   by_cases h0:oneM l[i]=true
   · simp only[h0,Bool.not_true,cond_false,Bool.true_and]
     by_cases h3:i=0
     · subst h3
       rw[zn (by omega),wrap64 (by omega) (by omega)]; rfl
     · rw[zp (by omega),wrap64 (by omega) (by omega),show (i:Int)-1=((i-1:Nat):Int) by omega,aR (by omega),zg (show i-1<l.length by omega)]
       simp only[zb,fD,aW]
       by_cases h4:cmpD l[i-1].1 l[i].1 = -1
       · rw[zp h4,wrap64 (by omega) (by omega)]; simp[h3,h4]
       · rw[zn h4]; simp[h3,h4]
   · have h0:oneM l[i]=false:=by simpa using h0
     simp only[h0,Bool.not_false,cond_true,Bool.false_and]; rfl) (by
   unfold qz
   simp only[ak]
   rw[zn (by omega)])
 exact this
abbrev kI (u:List Ref1):Prop:=tK cmpD (·.1) u
structure CountsOk (u:List Ref1):Prop where
 len:u.length≤100
 rise:kI u
 one:∀ x∈u,oneM x=true
theorem counts_of {l:List Ref1} (hl:l.length≤100) (h:∀ i,i<l.length→gg l i=true):CountsOk l where
 len:=hl
 rise:=jG cJ fun i hi=>by
   have:=h (i+1) hi
   unfold gg at this
   rw[zg hi,Nat.add_sub_cancel,zg (show i<l.length by omega)] at this
   simp only[Bool.and_eq_true,Bool.or_eq_true,decide_eq_true_eq] at this
   omega
 one x hx:=by
   obtain ⟨i,hi,rfl⟩:=List.mem_iff_getElem.1 hx
   have:=h i hi
   unfold gg at this
   rw[zg hi] at this
   simp only[Bool.and_eq_true] at this
   exact this.1
structure TxnOk (t:Txn1):Prop where
 len:t.2.2.2.2.1.length≤16
 pos:0<t.2.2.2.2.1.length
 ops:∀ o∈t.2.2.2.2.1,nX o∧(opM o=0∨t.2.2.2.1=true∧io o=true)
 dot:aT t.1=true
 user:0≤t.2.1∧t.2.1≤7
 time:1≤t.2.2.1∧t.2.2.1≤1099511627776
theorem rk {thin:Bool}:∀ {l:List Op1},opsM thin l=0→∀ o∈l,opM o=0∨thin=true∧io o=true
 | [],_,o,h=>by cases h
 | p::l,h,o,ho=>by
   unfold opsM at h
   by_cases hc:opM p≠0∧¬ (thin=true∧io p=true)
   · rw[zp hc] at h; exact absurd h hc.1
   · rw[zn hc] at h
     rcases List.mem_cons.1 ho with e | ho
     · subst e
       by_cases h1:opM o=0
       · exact .inl h1
       · exact .inr (Classical.not_not.1 fun h2=>hc ⟨h1,h2⟩)
     · exact rk h o ho
theorem aaF {t:Txn1} (h1:e9 t=true) (h2:txnM t=0):TxnOk t:=by
 unfold e9 at h1
 simp only[Bool.and_eq_true,decide_eq_true_eq,List.all_eq_true] at h1
 unfold txnM at h2
 by_cases a:aT t.1=false∨t.2.1<0∨7<t.2.1∨t.2.2.1<1∨1099511627776<t.2.2.1
 · rw[zp a] at h2; omega
 rw[zn a] at h2
 by_cases b:t.2.2.2.2.1.length=0
 · rw[zp b] at h2; omega
 rw[zn b] at h2
 by_cases c:16<t.2.2.2.2.1.length
 · rw[zp c] at h2; omega
 rw[zn c] at h2
 refine ⟨by omega,by omega,fun o ho=>⟨lr.1 (h1.2 o ho),rk h2 o ho⟩,?_,?_,?_⟩
 · cases hr:aT t.1 with
   | true=>rfl
   | false=>exact absurd (.inl hr) a
 · constructor
   · exact Int.not_lt.1 fun h=>a (.inr (.inl h))
   · exact Int.not_lt.1 fun h=>a (.inr (.inr (.inl h)))
 · constructor
   · exact Int.not_lt.1 fun h=>a (.inr (.inr (.inr (.inl h))))
   · exact Int.not_lt.1 fun h=>a (.inr (.inr (.inr (.inr h))))
abbrev anu (l:List Txn1):Prop:=tK cmpD (·.1) l
structure TxnsOk (l:List Txn1) (n:Nat):Prop where
 len:l.length≤n
 rise:anu l
 all:∀ t∈l,TxnOk t
open Classical in
def getM (u:List Ref1) (d:Dot1):Int:=match u with
 | []=>0
 | x::u=>if x.1=d then x.2.1 else getM u d
abbrev loU (d:Dot1) (u:List Ref1):List Ref1:=lo cmpD (·.1) d u
abbrev hiU (d:Dot1) (u:List Ref1):List Ref1:=hi cmpD (·.1) d u
theorem gz {d:Dot1}:∀ {u:List Ref1},(∀ x∈u,x.1≠d)→getM u d=0
 | [],_=>rfl
 | x::u,h=>by
   unfold getM
   rw[zn (h x (List.mem_cons_self ..))]
   exact gz fun y hy=>h y (List.mem_cons_of_mem _ hy)
theorem rK {d:Dot1}:∀ {p q:List Ref1},(∀ x∈p,x.1≠d)→getM (p++q) d=getM q d
 | [],_,_=>rfl
 | x::p,q,h=>by
   rw[List.cons_append]
   conv=>lhs; unfold getM
   rw[zn (h x (List.mem_cons_self ..))]
   exact rK fun y hy=>h y (List.mem_cons_of_mem _ hy)
theorem mL (a b:Ref1):za0 a b=some (cmpD a.1 b.1):=by
 unfold za0
 rw[iJ]; rfl
theorem nT {u:List Ref1}{d:Ref1} (hl:u.length<1000000) (hr:kI u):∀ (k i j:Nat),j-i≤k→i≤(loU d.1 u).length→(loU d.1 u).length≤j→j≤u.length →
   aK (kZ u d) ((i:Int),(j:Int),())=some (.inl (((loU d.1 u).length:Int),())):=by
 intro k
 induction k with
 | zero =>
   intro i j hk h1 h2 h3
   refine aJ ?_
   unfold kZ
   simp only[ak]
   rw[zn (by omega),show (loU d.1 u).length=i by omega]
 | succ k ih =>
   intro i j hk h1 h2 h3
   by_cases hij:i<j
   · have hh:(i+j)/2<u.length:=by omega
     have turn:kZ u d ((i:Int),(j:Int),())=if cmpD u[(i+j)/2].1 d.1<0 then some (.inl ((((i+j)/2+1:Nat):Int),(j:Int),())) else some (.inl ((i:Int),(((i+j)/2:Nat):Int),())):=by
       unfold kZ
       simp only[ak]
       rw[zp (by omega),show (i:Int)+(j:Int)=((i+j:Nat):Int) by omega,rG (by omega)]
       simp only[zb]
       rw[wrap64 (n:=(((i+j)/2:Nat):Int)) (by omega) (by omega),aR hh]
       simp only[zb,mL]
       rw[wrap64 (by omega) (by omega)]; rfl
     by_cases hn:(i+j)/2<(loU d.1 u).length
     · rw[zp (apN hh hn)] at turn
       rw[aP turn]
       exact ih _ _ (by omega) (by omega) h2 h3
     · have:=apO cJ hr hh (k:=d.1) (Nat.le_of_not_lt hn)
       rw[zn (by omega)] at turn
       rw[aP turn]
       exact ih _ _ (by omega) h1 (by omega) (by omega)
   · refine aJ ?_
     unfold kZ
     simp only[ak]
     rw[zn (by omega),show (loU d.1 u).length=i by omega]
theorem kj {a b:Dot1} (h:cmpD a b≠0):a≠b:=fun e=>h ((cJ.zero _ _).2 e)
def anK (q:List Ref1) (d:Dot1):Bool:=match q with
 | []=>false
 | x::_=>decide (cmpD x.1 d=0)
theorem wi {u:List Ref1}{d:Ref1} (hl:u.length<1000000) (hr:kI u) :
   zab u d ()=some (((loU d.1 u).length:Int),anK (hiU d.1 u) d.1,()):=by
 have e2:loU d.1 u++hiU d.1 u=u:=lohi
 have hlen:(loU d.1 u).length+(hiU d.1 u).length=u.length:=by rw[← List.length_append,e2]
 unfold zab
 have:=nT (d:=d) hl hr u.length 0 u.length (by omega) (by omega) (by omega) (by omega)
 rw[show ((0:Int),(u.length:Int),())=(((0:Nat):Int),(u.length:Int),()) from rfl,this,aE]
 simp only[ak]
 cases hq:hiU d.1 u with
 | nil =>
   rw[hq] at hlen
   simp only[List.length_nil] at hlen
   rw[zn (by omega)]; rfl
 | cons x q =>
   rw[hq] at hlen e2
   simp only[zl] at hlen
   rw[zp (by omega),iv]
   have e3:u[(loU d.1 u).length]? = some x:=by
     have:(loU d.1 u++x::q)[(loU d.1 u).length]? = some x:=by simp
     rw[e2] at this
     exact this
   rw[e3]
   simp only[zb,mL]
   rfl
theorem anE {u:List Ref1}{d:Dot1}{x:Ref1} (hx:x∈loU d u):x.1≠d:=by
 have h:=nh (c:=cmpD) (key:=fun y:Ref1=>y.1) (k:=d) (l:=u) x hx
 exact kj (fun e=>by rw[e] at h; omega)
theorem lg {u:List Ref1}{d:Dot1} (hl:u.length<1000000) (hr:kI u):zcp u d=some (getM u d):=by
 have e2:loU d u++hiU d u=u:=lohi
 have hlo:∀ x∈loU d u,x.1≠d:=fun x hx=>anE hx
 unfold zcp zc8
 rw[wi (d:=(d,0,())) hl hr]
 simp only[zb]
 have hg:getM u d=getM (hiU d u) d:=by
   conv=>lhs; rw[← e2]
   exact rK hlo
 rw[hg]
 cases hq:hiU d u with
 | nil=>rfl
 | cons x q =>
   have hab:=rC cJ hr hq
   unfold anK
   simp only[ak]
   by_cases h0:cmpD x.1 d=0
   · rw[zp h0,iv]
     have e3:u[(loU d u).length]? = some x:=by
       have:(loU d u++x::q)[(loU d u).length]? = some x:=by simp
       rw[← hq,e2] at this
       exact this
     rw[e3]
     simp only[zb]
     unfold getM
     rw[zp ((cJ.zero _ _).1 h0)]
   · rw[zn h0,gz]
     intro y hy
     rcases List.mem_cons.1 hy with e | hy
     · subst e; exact kj h0
     · exact kj (by have:=hab.2 y hy; omega)
theorem zC {u:List Ref1}{d:Dot1} (hl:u.length<1000000):zcm u d=some (getM u d):=by
 have:=di (S:=Unit) (R:=Int) (f:=nN u d) (l:=u) (fun i _=>((i:Int),())) (fun _ x _=>if x.1=d then .inr x.2.1 else .inl ()) (fun _=>(0:Int)) (fun _ _=>True) (fun i h s _=>by
   have turn:nN u d ((i:Int),())=if u[i].1=d then some (.inr u[i].2.1) else some (.inl (((i+1:Nat):Int),())):=by
     unfold nN
     simp only[ak,kQ]
     rw[zp (by omega),aR h]
     simp only[zb]
     rw[wrap64 (by omega) (by omega)]; rfl
   by_cases hc:u[i].1=d
   · exact .inr ⟨_,by rw[zp hc],by rw[turn,zp hc]⟩
   · exact .inl ⟨(),by rw[zn hc],by rw[turn,zn hc],trivial⟩) (fun s _=>by
   unfold nN
   simp only[ak]
   rw[zn (by omega)]) () trivial
 have gen:∀ (l:List Ref1) (i:Nat),eL (S:=Unit) (R:=Int) (fun _ x _=>if x.1=d then .inr x.2.1 else .inl ()) (fun _=>(0:Int)) i l ()=getM l d:=by
   intro l
   induction l with
   | nil=>intro i; rfl
   | cons x l ih =>
     intro i
     unfold eL getM
     by_cases hc:x.1=d
     · rw[zp hc,zp hc]
     · rw[zn hc,zn hc]; exact ih (i+1)
 rw[gen] at this
 exact this
def bR (u:List Ref1) (d:Dot1):Bool:=match remT (getM u d) 2 with
 | some x=>decide (x=0)
 | none=>false
theorem rem2 (a:Int):∃ x,remT a 2=some x:=⟨_,by unfold remT; rw[zn (by omega)]⟩
theorem eB {u:List Ref1}{d:Dot1} (hl:u.length<1000000) (hr:kI u):zcf u d=some (bR u d):=by
 unfold zcf bR
 rw[lg hl hr]
 obtain ⟨x,hx⟩:=rem2 (getM u d)
 simp only[zb,hx]
theorem fb {u:List Ref1}{d:Dot1} (hl:u.length<1000000):zcj u d=some (bR u d):=by
 unfold zcj bR
 rw[zC hl]
 obtain ⟨x,hx⟩:=rem2 (getM u d)
 simp only[zb,hx]
theorem rO {x y:Ref1}{v:Bool}:∀ {m:List (Ref1×Bool)},ip iR x (putK iR y v m)=if x=y then some v else ip iR x m
 | []=>by
   unfold putK ip
   rw[pY,ak]
   unfold ip
   rfl
 | e::m=>by
   unfold putK
   rw[pY]
   by_cases hy:y=e.1
   · rw[zt hy,cond_true]
     conv=>lhs; unfold ip
     conv=>rhs; rhs; unfold ip
     rw[pY,pY,ak,ak,← hy]
     by_cases hx:x=y
     · rw[zp hx,zp hx]
     · rw[zn hx,zn hx,zn hx]
   · rw[zf hy,cond_false]
     conv=>lhs; unfold ip
     conv=>rhs; rhs; unfold ip
     rw[pY,ak,ak,rO]
     by_cases hx:x=e.1
     · rw[zp hx,zn (fun e'=>hy (by rw[← e',hx])),zp hx]
     · rw[zn hx,zn hx]
def hasK (x:Ref1) (m:List (Ref1×Bool)):Bool:=(getK iR false x m).1
theorem agf {x y:Ref1}{m:List (Ref1×Bool)}:hasK x (putK iR y true m)=(decide (x=y)||hasK x m):=by
 unfold hasK getK
 rw[rO]
 by_cases h:x=y
 · rw[zp h,zt h]; rfl
 · rw[zn h,zf h,Bool.false_or]
def ou (m:List (Ref1×Bool)) (l:List Ref1):List (Ref1×Bool):=l.foldl (fun m x=>putK iR x true m) m
theorem xD {x:Ref1}:∀ {l:List Ref1}{m:List (Ref1×Bool)},hasK x (ou m l)=(l.any (fun y=>decide (x=y))||hasK x m)
 | [],m=>rfl
 | y::l,m=>by
   have:=xD (x:=x) (l:=l) (m:=putK iR y true m)
   unfold ou at this ⊢
   rw[List.foldl_cons,this,agf,List.any_cons]
   cases decide (x=y)<;>cases l.any (fun y=>decide (x=y))<;>rfl
def o0 (o:Op1) (x:Ref1):Bool:=o.2.2.2.2.1.any fun y=>decide (x=y)
def covT (m:List (Ref1×Bool)) (l:List Op1):List (Ref1×Bool):=l.foldl (fun m o=>ou m o.2.2.2.2.1) m
theorem rE {x:Ref1}:∀ {l:List Op1}{m:List (Ref1×Bool)},hasK x (covT m l)=(l.any (fun o=>o0 o x)||hasK x m)
 | [],m=>rfl
 | o::l,m=>by
   have:=rE (x:=x) (l:=l) (m:=ou m o.2.2.2.2.1)
   unfold covT at this ⊢
   rw[List.foldl_cons,this,xD,List.any_cons]
   unfold o0
   cases o.2.2.2.2.1.any (fun y=>decide (x=y))<;>cases l.any (fun o=>o.2.2.2.2.1.any fun y=>decide (x=y))<;>rfl
def covL (u:List Ref1) (m:List (Ref1×Bool)) (l:List Txn1):List (Ref1×Bool):=l.foldl (fun m t=>if bR u t.1=true then covT m t.2.2.2.2.1 else m) m
def covM (l:List Txn1) (u:List Ref1) (x:Ref1):Bool:=l.any fun t=>bR u t.1&&t.2.2.2.2.1.any fun o=>o0 o x
theorem rF {x:Ref1}{u:List Ref1}:∀ {l:List Txn1}{m:List (Ref1×Bool)},hasK x (covL u m l)=(covM l u x||hasK x m)
 | [],m=>rfl
 | t::l,m=>by
   have:=rF (x:=x) (u:=u) (l:=l) (m:=if bR u t.1=true then covT m t.2.2.2.2.1 else m)
   unfold covL at this ⊢
   rw[List.foldl_cons,this]
   unfold covM
   rw[List.any_cons]
   by_cases hs:bR u t.1=true
   · rw[zp hs,rE,hs,Bool.true_and]
     cases t.2.2.2.2.1.any (fun o=>o0 o x)<;>cases l.any (fun t=>bR u t.1&&t.2.2.2.2.1.any fun o=>o0 o x)<;>rfl
   · rw[zn hs,eq_false_of_ne_true hs,Bool.false_and,Bool.false_or]
structure Low (l:List Txn1):Prop where
 len:l.length≤1000
 ops:∀ t∈l,t.2.2.2.2.1.length≤1000
 seen:∀ t∈l,∀ o∈t.2.2.2.2.1,o.2.2.2.2.1.length<1000000
structure LowU (u:List Ref1):Prop where
 len:u.length<1000000
 rise:kI u
theorem xX {l:List Txn1}{u:List Ref1} (hl:Low l) (hu:LowU u):za4 l u=some (covL u [] l):=by
 have outer:=di (S:=List (Ref1×Bool)) (f:=qR l u) (l:=l) (fun i m=>((i:Int),m,())) (fun _ t m=>.inl (if bR u t.1=true then covT m t.2.2.2.2.1 else m)) (fun m=>m) (fun _ _=>True) (fun i h m _=>by
   refine .inl ⟨_,rfl,?_,trivial⟩
   have hi:=hl.len
   unfold qR
   simp only[ak]
   rw[zp (by omega),aR h]
   simp only[zb,eB hu.len hu.rise]
   have hops:=hl.ops _ (zm h)
   by_cases hs:bR u l[i].1=true
   · rw[hs,Bool.not_true,cond_false,zp rfl]
     have mid:=di (S:=List (Ref1×Bool)) (f:=qQ ((i:Int),m,()) l[i]) (l:=l[i].2.2.2.2.1) (fun k m=>((k:Int),m,())) (fun _ o m=>.inl (ou m o.2.2.2.2.1)) (fun m'=>(.inl (((i+1:Nat):Int),m',()):(Int×List (Ref1×Bool)×Unit)⊕List (Ref1×Bool))) (fun _ _=>True) (fun k hk m' _=>by
       refine .inl ⟨_,rfl,?_,trivial⟩
       have hseen:=hl.seen _ (zm h) _ (zm hk)
       unfold qQ
       simp only[ak]
       rw[zp (by omega),aR hk]
       simp only[zb]
       have inner:=di (S:=List (Ref1×Bool)) (f:=mF ((k:Int),m',()) l[i].2.2.2.2.1[k]) (l:=l[i].2.2.2.2.1[k].2.2.2.2.1) (fun j m=>((j:Int),m,())) (fun _ x m=>.inl (putK iR x true m)) (fun m''=>(.inl (((k+1:Nat):Int),m'',()):(Int×List (Ref1×Bool)×Unit)⊕((Int×List (Ref1×Bool)×Unit)⊕List (Ref1×Bool)))) (fun _ _=>True) (fun j hj m'' _=>by
         refine .inl ⟨_,rfl,?_,trivial⟩
         unfold mF
         simp only[ak]
         rw[zp (by omega),aR hj]
         simp only[zb]
         rw[wrap64 (by omega) (by omega)]; rfl) (fun m'' _=>by
         unfold mF
         simp only[ak]
         rw[zn (by omega),wrap64 (by omega) (by omega)]; rfl) m' trivial
       rw[show ((0:Int),m',())=(((0:Nat):Int),m',()) from rfl,inner,gB]
       rfl) (fun m' _=>by
       unfold qQ
       simp only[ak]
       rw[zn (by omega),wrap64 (by omega) (by omega)]; rfl) m trivial
     rw[show ((0:Int),m,())=(((0:Nat):Int),m,()) from rfl,mid,gB]
     rfl
   · rw[zn hs,eq_false_of_ne_true hs,Bool.not_false,cond_true,wrap64 (by omega) (by omega)]; rfl) (fun m _=>by
   unfold qR
   simp only[ak]
   rw[zn (by omega)]) [] trivial
 unfold za4
 rw[show ((0:Int),([]:List (Ref1×Bool)),())=(((0:Nat):Int),[],()) from rfl,outer,gB]
 rfl
def ga (k:Int):Bool:=decide (1≤k∧k≤3)
def j5 (p:Ref1→Bool) (t:Txn1) (k:Nat) (o:Op1):List fO:=if ga o.1=true∧p (t.1,(k:Int),())=false then [((t.1,(k:Int),()),o,t.2.2.1,())] else []
def fT (p:Ref1→Bool) (t:Txn1):Nat→List Op1→List fO
 | _,[]=>[]
 | k,o::l=>j5 p t k o++fT p t (k+1) l
def allM (l:List Txn1) (u:List Ref1):List fO:=l.flatMap fun t=>if bR u t.1=true then fT (covM l u) t 0 t.2.2.2.2.1 else []
theorem lO {p:Ref1→Bool}{t:Txn1}{k:Nat}{o:Op1}:(j5 p t k o).length≤1:=by
 unfold j5; split<;>simp
theorem j4 {p:Ref1→Bool}{t:Txn1}:∀ {l:List Op1}{k:Nat},(fT p t k l).length≤l.length
 | [],_=>Nat.le_refl _
 | o::l,k=>by
   have:=j4 (p:=p) (t:=t) (l:=l) (k:=k+1)
   have:=lO (p:=p) (t:=t) (k:=k) (o:=o)
   unfold fT
   rw[List.length_append,zl]; omega
theorem lN {R:Type}{p:Ref1→Bool}{t:Txn1}{fin:List fO→R}:∀ (l:List Op1) (k:Nat) (o:List fO),eL (fun k x o=>.inl (o++j5 p t k x)) fin k l o=fin (o++fT p t k l)
 | [],k,o=>by simp[eL,fT]
 | x::l,k,o=>by
   unfold eL fT
   simp only
   rw[lN l (k+1),List.append_assoc]
theorem oQ {A B R:Type}{g:A→List B}{fin:List B→R}:∀ (l:List A) (i:Nat) (o:List B),eL (fun _ x o=>.inl (o++g x)) fin i l o=fin (o++l.flatMap g)
 | [],i,o=>by simp[eL]
 | x::l,i,o=>by
   unfold eL
   simp only
   rw[oQ l (i+1),List.flatMap_cons,List.append_assoc]
theorem anQ {l:List Txn1}{u:List Ref1} (hl:Low l) (hu:LowU u):zdb l u=some (allM l u):=by
 unfold zdb
 rw[xX hl hu,zb]
 have hp:(fun x=>hasK x (covL u [] l))=covM l u:=by
   funext x
   rw[rF]
   exact Bool.or_false _
 generalize hm:covL u [] l=m at hp ⊢
 have outer:=di (S:=List fO) (f:=qq l u) (l:=l) (fun i o=>((i:Int),m,o,())) (fun _ t o=>.inl (o++if bR u t.1=true then fT (covM l u) t 0 t.2.2.2.2.1 else [])) (fun o=>o) (fun i o=>o.length≤i*1000) (fun i h o ho=>by
   have hi:=hl.len
   have hops:=hl.ops _ (zm h)
   refine .inl ⟨_,rfl,?_,?_⟩
   · unfold qq
     simp only[ak]
     rw[zp (by omega),aR h]
     simp only[zb,eB hu.len hu.rise]
     by_cases hs:bR u l[i].1=true
     · rw[hs,Bool.not_true,cond_false,zp rfl]
       have inner:=di (S:=List fO) (f:=qp ((i:Int),m,o,()) l[i]) (l:=l[i].2.2.2.2.1) (fun k o=>((k:Int),m,o,l[i],())) (fun k x o=>.inl (o++j5 (covM l u) l[i] k x)) (fun o'=>(.inl (((i+1:Nat):Int),m,o',()):(Int×List (Ref1×Bool)×List fO×Unit)⊕List fO)) (fun k o'=>o'.length≤i*1000+k) (fun k hk o' ho'=>by
         refine .inl ⟨_,rfl,?_,?_⟩
         · have hget:(getK iR false (l[i].1,(k:Int),()) m).1=covM l u (l[i].1,(k:Int),()):=by rw[← hp]; rfl
           unfold qp j5
           simp only[ak]
           rw[zp (by omega),aR hk]
           simp only[zb]
           have hget:(getK (.agg (.cons (.agg (.cons (.int .i64) (.cons (.int .i64) .unit))) (.cons (.int .i64) .unit))) false (l[i].1,(k:Int),()) m).1=covM l u (l[i].1,(k:Int),()):=hget
           rw[hget,wrap64 (by omega) (by omega),de (by simp; omega)]
           simp only[zb]
           have hk':ga l[i].2.2.2.2.1[k].1=true↔(l[i].2.2.2.2.1[k].1=1∨l[i].2.2.2.2.1[k].1=2∨l[i].2.2.2.2.1[k].1=3):=by unfold ga; simp only[decide_eq_true_eq]; omega
           by_cases hc:covM l u (l[i].1,(k:Int),())=true
           · rw[hc]
             simp only[Bool.not_true,cond_false,Bool.true_eq_false,and_false,if_false,List.append_nil]
             split
             · rfl
             · split
               · rfl
               · split<;>rfl
           · rw[eq_false_of_ne_true hc]
             simp only[Bool.not_false,cond_true,and_true]
             by_cases h1:l[i].2.2.2.2.1[k].1=1
             · rw[zp h1,zp (hk'.2 (.inl h1))]; rfl
             · by_cases h2:l[i].2.2.2.2.1[k].1=2
               · rw[zn h1,zp h2,zp (hk'.2 (.inr (.inl h2)))]; rfl
               · by_cases h3:l[i].2.2.2.2.1[k].1=3
                 · rw[zn h1,zn h2,zp h3,zp (hk'.2 (.inr (.inr h3)))]; rfl
                 · rw[zn h1,zn h2,zn h3,zn (fun e=>by rcases hk'.1 e with e | e | e; exact h1 e; exact h2 e; exact h3 e),List.append_nil]; rfl
         · have:=lO (p:=covM l u) (t:=l[i]) (k:=k) (o:=l[i].2.2.2.2.1[k])
           rw[List.length_append]; omega) (fun o' ho'=>by
         unfold qp
         simp only[ak]
         rw[zn (by omega),wrap64 (by omega) (by omega)]; rfl) o (by omega)
       rw[show ((0:Int),m,o,l[i],())=(((0:Nat):Int),m,o,l[i],()) from rfl,inner,lN]
     · rw[zn hs,eq_false_of_ne_true hs,Bool.not_false,cond_true,wrap64 (by omega) (by omega),List.append_nil]; rfl
   · have:=j4 (p:=covM l u) (t:=l[i]) (l:=l[i].2.2.2.2.1) (k:=0)
     rw[List.length_append,Nat.succ_mul]
     split
     · omega
     · simp; omega) (fun o _=>by
   unfold qq
   simp only[ak]
   rw[zn (by omega)]) [] (by simp)
 rw[show ((0:Int),m,([]:List fO),())=(((0:Nat):Int),m,[],()) from rfl,outer,oQ]
 rfl
structure LowI (l:List fO):Prop where
 len:l.length<1000000
 path:∀ x∈l,x.2.1.2.1.length<1000000∧∀ s∈x.2.1.2.1,s.length<1000000
structure Mid (l w:List Val) (i0 k i:Nat):Prop where
 len:w.length=l.length
 head:w.take i=sqz (l.take (i0+k))
 rest:∀ j,i0+k-1≤j→w[j]? = l[j]?
 low:i≤i0+k-1
structure LowP (l:List Txn1):Prop where
 low:Low l
 ops:∀ t∈l,∀ o∈t.2.2.2.2.1,(o.2.1.length<1000000∧∀ s∈o.2.1,s.length<1000000)∧o.2.2.1.2.2.1.length<1000000
theorem oJ {p:Ref1→Bool}{t:Txn1}:∀ {l:List Op1}{k:Nat}{x:fO},x∈fT p t k l→∃ (j:Nat) (o:Op1),o∈l∧ga o.1=true∧p (t.1,(j:Int),())=false∧x=((t.1,(j:Int),()),o,t.2.2.1,())
 | [],_,x,h=>by cases h
 | o::l,k,x,h=>by
   unfold fT at h
   rcases List.mem_append.1 h with h | h
   · unfold j5 at h
     split at h
     · rename_i hc
       rw[List.mem_singleton] at h
       exact ⟨k,o,List.mem_cons_self ..,hc.1,hc.2,h⟩
     · cases h
   · obtain ⟨j,o',h1,h2⟩:=oJ h
     exact ⟨j,o',List.mem_cons_of_mem _ h1,h2⟩
theorem aak {l:List Txn1}{u:List Ref1}{x:fO} (h:x∈allM l u):∃ t∈l,∃ (j:Nat) (o:Op1),o∈t.2.2.2.2.1∧ga o.1=true∧bR u t.1=true∧covM l u (t.1,(j:Int),())=false∧x=((t.1,(j:Int),()),o,t.2.2.1,()):=by
 unfold allM at h
 obtain ⟨t,ht,hx⟩:=List.mem_flatMap.1 h
 split at hx
 · rename_i hs
   obtain ⟨j,o,h1,h2,h3,h4⟩:=oJ hx
   exact ⟨t,ht,j,o,h1,h2,hs,h3,h4⟩
 · cases hx
theorem rN {A B:Type}{g:A→List B}{n:Nat}:∀ {l:List A},(∀ x∈l,(g x).length≤n)→(l.flatMap g).length≤l.length*n
 | [],_=>Nat.zero_le _
 | x::l,h=>by
   have:=rN (l:=l) fun y hy=>h y (List.mem_cons_of_mem _ hy)
   have:=h x (List.mem_cons_self ..)
   rw[List.flatMap_cons,List.length_append,zl,Nat.succ_mul]; omega
theorem zd {l:List Txn1}{n:Nat} (h:TxnsOk l n) (hn:n≤900):LowP l:=by
 refine ⟨⟨by have:=h.len; omega,fun t ht=>by have:=(h.all t ht).len; omega,fun t ht o ho => ?_⟩,fun t ht o ho => ?_⟩
 · have:=((h.all t ht).ops o ho).1.2.2.2; omega
 · have:=((h.all t ht).ops o ho).1
   exact ⟨⟨by have:=this.1; omega,fun s hs=>by have:=this.2.1 s hs; omega⟩,by have:=this.2.2.1; omega⟩
abbrev apR:=Path×Int×Unit
structure MidS (l w:List (List UInt8)) (i0 k i:Nat):Prop where
 len:w.length=l.length
 head:w.take i=sqz (l.take (i0+k))
 rest:∀ j,i0+k-1≤j→w[j]? = l[j]?
 low:i≤i0+k-1
structure MidL (l w:List apR) (i0 k i:Nat):Prop where
 len:w.length=l.length
 head:w.take i=sqz (l.take (i0+k))
 rest:∀ j,i0+k-1≤j→w[j]? = l[j]?
 low:i≤i0+k-1
structure OpOk (o:Op1):Prop where
 kind:1≤o.1∧o.1≤5
 path:fW o.2.1=0
 val:o.1≠3→o.1≠5→jH o.2.2.1=true
 noval:o.1=3∨o.1=5→o.2.2.1=zeroV
 num:o.1=3→o.2.2.2.1≠0∧o.2.2.2.1≤2147483647 ∧ -2147483647≤o.2.2.2.1
 nonum:o.1≠3→o.2.2.2.1=0
 noseen:o.1=2∨o.1=3→o.2.2.2.2.1=[]
 seen:o.2.2.2.2.1.length≤256∧ol o.2.2.2.2.1=true
theorem anx {o:Op1} (h:opM o=0):OpOk o:=by
 unfold opM at h
 by_cases a1:o.1<1∨5<o.1
 · rw[zp a1] at h; omega
 rw[zn a1] at h
 by_cases a2:fW o.2.1≠0
 · rw[zp a2] at h; exact absurd h a2
 rw[zn a2] at h
 by_cases a3:(o.1=3∨o.1=5)∧o.2.2.1≠zeroV
 · rw[zp a3] at h; omega
 rw[zn a3] at h
 by_cases a4:¬ (o.1=3∨o.1=5)∧jH o.2.2.1=false
 · rw[zp a4] at h; omega
 rw[zn a4] at h
 by_cases a5:o.1≠3∧o.2.2.2.1≠0
 · rw[zp a5] at h; omega
 rw[zn a5] at h
 by_cases a6:o.1=3∧(o.2.2.2.1=0∨o.2.2.2.1>2147483647∨o.2.2.2.1 < -2147483647)
 · rw[zp a6] at h; omega
 rw[zn a6] at h
 by_cases a7:(o.1=2∨o.1=3)∧0<o.2.2.2.2.1.length
 · rw[zp a7] at h; omega
 rw[zn a7] at h
 by_cases a8:256<o.2.2.2.2.1.length
 · rw[zp a8] at h; omega
 rw[zn a8] at h
 by_cases a9:ol o.2.2.2.2.1=true
 · refine ⟨by omega,Classical.not_not.1 a2,fun h1 h2 => ?_,fun h1 => ?_,fun h1 => ?_,fun h1 => ?_,fun h1 => ?_,by omega,a9⟩
   · cases hr:jH o.2.2.1 with
     | true=>rfl
     | false=>exact absurd ⟨by omega,hr⟩ a4
   · exact Classical.not_not.1 fun h2=>a3 ⟨h1,h2⟩
   · exact ⟨fun h2=>a6 ⟨h1,.inl h2⟩,Int.not_lt.1 fun h2=>a6 ⟨h1,.inr (.inl h2)⟩,Int.not_lt.1 fun h2=>a6 ⟨h1,.inr (.inr h2)⟩⟩
   · exact Classical.not_not.1 fun h2=>a5 ⟨h1,h2⟩
   · exact List.length_eq_zero_iff.1 (by omega)
 · rw[zn a9] at h; omega
structure ItemsOk (l:List fO):Prop where
 len:l.length≤320
 op:∀ x∈l,OpOk x.2.1∧nX x.2.1∧ga x.2.1.1=true
theorem zZ {l:List Txn1}{u:List Ref1} (h:TxnsOk l 20):ItemsOk (allM l u):=by
 constructor
 · have : (allM l u).length ≤ l.length * 16 := by
     unfold allM
     refine rN fun t ht => ?_
     split
     · exact Nat.le_trans j4 (h.all t ht).len
     · simp
   have:=h.len; omega
 · intro x hx
   obtain ⟨t,ht,j,o,ho,hk,_,_,rfl⟩:=aak hx
   obtain ⟨h1,h2⟩:=(h.all t ht).ops o ho
   refine ⟨?_,h1,hk⟩
   rcases h2 with h2 | ⟨_,h2⟩
   · exact anx h2
   · unfold io at h2
     unfold ga at hk
     simp only[decide_eq_true_eq] at h2 hk
     omega
theorem df {A B:Type}{g:A→B}:∀ {l:List A},(l.flatMap fun x=>[g x])=l.map g
 | []=>rfl
 | x::l=>by rw[List.flatMap_cons,List.map_cons,df]; rfl
theorem xY {l:List Txn1}{u v:List Ref1} (h:∀ t∈l,bR u t.1=bR v t.1) (x:Ref1):covM l u x=covM l v x:=by
 unfold covM
 induction l with
 | nil=>rfl
 | cons t l ih =>
   rw[List.any_cons,List.any_cons,h t (List.mem_cons_self ..),ih fun t' ht=>h t' (List.mem_cons_of_mem _ ht)]
theorem yp {l:List Txn1}{u v:List Ref1} (h:∀ t∈l,bR u t.1=bR v t.1):allM l u=allM l v:=by
 have hc:covM l u=covM l v:=funext (xY h)
 unfold allM
 rw[hc]
 exact rM fun t ht=>by rw[h t ht]
def NS (G:Prop) {A:Type} (o:Option A) (b:A):Prop:=o=some b∨¬ G∧o=none
theorem NS.bind {G:Prop}{A B:Type}{o:Option A}{a:A}{f:A→Option B}{b:B} (h:NS G o a) (hf:NS G (f a) b):NS G (o.bind f) b:=by
 rcases h with h | ⟨h1,h2⟩
 · rw[h,zb]; exact hf
 · exact .inr ⟨h1,by rw[h2]; rfl⟩
def seen (q:List Ent) (k:Path×Int):Bool:=match q with
 | x::_=>decide (cmpK (keyE x) k=0)
 | []=>false
end Go.Proofs.YtnbgkhdcidbkaaaGreatDoor.Q
