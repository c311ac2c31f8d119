import Derived.Test.YtnbgkhdcidbkaaaGreatDoorW
import Derived.Test.YtnbgkhdcidbkaaaGreatDoorT14
import Derived.Test.YtnbgkhdcidbkaaaGreatDoorT32
set_option linter.unusedVariables false
set_option linter.unusedSimpArgs false
set_option maxRecDepth 100000
namespace Go.Proofs.YtnbgkhdcidbkaaaGreatDoor.Q
open Go.EM Go.TY Go.Proofs Go.Proofs.YtnbgkhdcidbkaaaGreatDoor.Y
def cn:List UInt8→Int×Nat
 | []=>(0,0)
 | a::t =>
   if a.toNat<128 then (a.toNat,1)
   else if 194≤a.toNat∧a.toNat<224 then (match t with
     | b::_=>if 128≤b.toNat∧b.toNat≤191 then (64*((a.toNat:Int)-192)+b.toNat-128,2) else (0,0)
     | _=>(0,0))
   else if 224≤a.toNat∧a.toNat<240 then (match t with
     | b :: c :: _ => if (128 ≤ b.toNat ∧ b.toNat ≤ 191) ∧ (128 ≤ c.toNat ∧ c.toNat ≤ 191) then
         let r:Int:=64*(64*((a.toNat:Int)-224)+b.toNat-128)+c.toNat-128
         if r<2048∨(55296≤r∧r≤57343) then (0,0) else (r,3)
       else (0,0)
     | _=>(0,0))
   else if 240≤a.toNat∧a.toNat<245 then (match t with
     | b :: c :: d :: _ => if (128 ≤ b.toNat ∧ b.toNat ≤ 191) ∧ (128 ≤ c.toNat ∧ c.toNat ≤ 191) ∧ (128 ≤ d.toNat ∧ d.toNat ≤ 191) then
         let r:Int:=64*(64*(64*((a.toNat:Int)-240)+b.toNat-128)+c.toNat-128)+d.toNat-128
         if r<65536∨1114111<r then (0,0) else (r,4)
       else (0,0)
     | _=>(0,0))
   else (0,0)
theorem lg {s:List UInt8}{q:Int×Int×Int×Unit}{x:Int}{i:Nat}{b:UInt8} (hi:(i:Int)<q.2.1) (hi4:i≤4) (h:s[i]? = some b) (hx:0≤x) (hx2:x≤100000000) :
   e7 s q (x,(i:Int),())=if 128≤b.toNat∧b.toNat≤191 then some (.inl (64*x+b.toNat-128,((i+1:Nat):Int),())) else some (.inr (.inr (0,0,()))):=by
 have hb:b.toNat<256:=b.toNat_lt
 simp only[e7,kr,h,zb,am,zp hi]
 rw[wrap64 (n:=64*x) (by omega) (by omega),wrap64 (n:=(b.toNat:Int)) (by omega) (by omega),wrap64 (n:=64*x+b.toNat) (by omega) (by omega),wrap64 (n:=64*x+b.toNat-128) (by omega) (by omega),wrap64 (n:=(i:Int)+1) (by omega) (by omega)]
 by_cases h1:b.toNat<128
 · rw[zp (by omega),zn (by omega)]
 · rw[zn (by omega)]
   by_cases h2:b.toNat>191
   · rw[zp (by omega),zn (by omega)]
   · rw[zn (by omega),zp (by omega)]; rfl
theorem wO {s:List UInt8}{q:Int×Int×Int×Unit}{x:Int}{i:Nat} (hi:¬ (i:Int)<q.2.1):e7 s q (x,(i:Int),())=some (.inr (.inl (x,()))):=by
 simp only[e7,am,zn hi]
theorem aaw {a b:UInt8}{t:List UInt8}{l:Int}{c x:Int} (hx:0≤x) (hx2:x≤1000) :
   aN (e7 (a::b::t) (c,2,l,())) (x,1,())=if 128≤b.toNat∧b.toNat≤191 then some (.inl (64*x+b.toNat-128,())) else some (.inr (0,0,())):=by
 have h:=lg (s:=a::b::t) (q:=(c,2,l,())) (i:=1) (b:=b) (x:=x) (by simp) (by omega) rfl hx (by omega)
 by_cases hb:128≤b.toNat∧b.toNat≤191
 · rw[zp hb] at h ⊢
   exact (aL h).trans (aH (wO (by simp)))
 · rw[zn hb] at h ⊢
   exact aH h
theorem aav {a b d:UInt8}{t:List UInt8}{l:Int}{c x:Int} (hx:0≤x) (hx2:x≤1000) :
   aN (e7 (a::b::d::t) (c,3,l,())) (x,1,())=if (128≤b.toNat∧b.toNat≤191)∧(128≤d.toNat∧d.toNat≤191) then some (.inl (64*(64*x+b.toNat-128)+d.toNat-128,())) else some (.inr (0,0,())):=by
 have hb':=b.toNat_lt
 have h:=lg (s:=a::b::d::t) (q:=(c,3,l,())) (i:=1) (b:=b) (x:=x) (by simp) (by omega) rfl hx (by omega)
 by_cases hb:128≤b.toNat∧b.toNat≤191
 · rw[zp hb] at h
   have h2:=lg (s:=a::b::d::t) (q:=(c,3,l,())) (i:=2) (b:=d) (x:=64*x+b.toNat-128) (by simp) (by omega) rfl (by omega) (by omega)
   by_cases hd:128≤d.toNat∧d.toNat≤191
   · rw[zp hd] at h2
     rw[zp ⟨hb,hd⟩]
     exact ((aL h).trans (aL h2)).trans (aH (wO (by simp)))
   · rw[zn hd] at h2
     rw[zn (fun e=>hd e.2)]
     exact (aL h).trans (aH h2)
 · rw[zn hb] at h
   rw[zn (fun e=>hb e.1)]
   exact aH h
theorem aau {a b d e:UInt8}{t:List UInt8}{l:Int}{c x:Int} (hx:0≤x) (hx2:x≤1000) :
   aN (e7 (a::b::d::e::t) (c,4,l,())) (x,1,())=if (128≤b.toNat∧b.toNat≤191)∧(128≤d.toNat∧d.toNat≤191)∧(128≤e.toNat∧e.toNat≤191) then some (.inl (64*(64*(64*x+b.toNat-128)+d.toNat-128)+e.toNat-128,())) else some (.inr (0,0,())):=by
 have hb':=b.toNat_lt
 have hd':=d.toNat_lt
 have h:=lg (s:=a::b::d::e::t) (q:=(c,4,l,())) (i:=1) (b:=b) (x:=x) (by simp) (by omega) rfl hx (by omega)
 by_cases hb:128≤b.toNat∧b.toNat≤191
 · rw[zp hb] at h
   have h2:=lg (s:=a::b::d::e::t) (q:=(c,4,l,())) (i:=2) (b:=d) (x:=64*x+b.toNat-128) (by simp) (by omega) rfl (by omega) (by omega)
   by_cases hd:128≤d.toNat∧d.toNat≤191
   · rw[zp hd] at h2
     have h3:=lg (s:=a::b::d::e::t) (q:=(c,4,l,())) (i:=3) (b:=e) (x:=64*(64*x+b.toNat-128)+d.toNat-128) (by simp) (by omega) rfl (by omega) (by omega)
     by_cases he:128≤e.toNat∧e.toNat≤191
     · rw[zp he] at h3
       rw[zp ⟨hb,hd,he⟩]
       exact (((aL h).trans (aL h2)).trans (aL h3)).trans (aH (wO (by simp)))
     · rw[zn he] at h3
       rw[zn (fun q=>he q.2.2)]
       exact ((aL h).trans (aL h2)).trans (aH h3)
   · rw[zn hd] at h2
     rw[zn (fun q=>hd q.2.1)]
     exact (aL h).trans (aH h2)
 · rw[zn hb] at h
   rw[zn (fun q=>hb q.1)]
   exact aH h
theorem abl (s:List UInt8):zcm s=some ((cn s).1,((cn s).2:Int),()):=by
 cases s with
 | nil=>simp[zcm,cn]
 | cons a t =>
   have ha:a.toNat<256:=a.toNat_lt
   have h0:¬ (((a::t).length:Int)=0):=by simp only[zl]; omega
   have hi:atI (a::t) 0=some a:=by simp[atI]
   unfold zcm
   simp only[am,zn h0,hi,zb,aaU,aaD,ahg]
   rw[wrap64 (n:=(a.toNat:Int)) (by omega) (by omega)]
   by_cases c1:a.toNat<128
   · rw[zp (by omega)]
     simp only[cj,cn,zp c1]; rfl
   rw[zn (by omega)]
   by_cases c2:194≤a.toNat∧a.toNat<224
   · rw[zp (by omega),wrap64 (by omega) (by omega)]
     simp only[aF]
     match t with
     | []=>simp[cn,c1,c2]
     | b::t =>
       rw[zn (by simp only[zl]; omega),aaw (by omega) (by omega)]
       by_cases hb:128≤b.toNat∧b.toNat≤191
       · rw[zp hb]
         simp only[aF]
         rw[ik,zn (by omega)]
         simp only[cn,c1,c2,hb,if_true,if_false,and_self]; rfl
       · rw[zn hb]
         simp only[cj]
         simp[cn,c1,c2,hb]
   rw[zn (by omega)]
   by_cases c3:224≤a.toNat∧a.toNat<240
   · rw[zp (by omega),wrap64 (by omega) (by omega)]
     simp only[aF]
     match t with
     | []=>simp[cn,c1,c2,c3]
     | [b]=>simp[cn,c1,c2,c3]
     | b::c::t =>
       have hb:=b.toNat_lt
       have hc:=c.toNat_lt
       rw[zn (by simp only[zl]; omega),aav (by omega) (by omega)]
       by_cases hb':(128≤b.toNat∧b.toNat≤191)∧(128≤c.toNat∧c.toNat≤191)
       · rw[zp hb']
         simp only[aF]
         rw[ik]
         simp only[cn,c1,c2,c3,hb',if_true,if_false,and_self]
         by_cases hr:64*(64*((a.toNat:Int)-224)+b.toNat-128)+c.toNat-128<2048∨(55296≤64*(64*((a.toNat:Int)-224)+b.toNat-128)+c.toNat-128∧64*(64*((a.toNat:Int)-224)+b.toNat-128)+c.toNat-128≤57343)
         · rw[zp (by omega),zp hr]; rfl
         · rw[zn (by omega),zn hr]; rfl
       · rw[zn hb']
         simp only[cj]
         simp[cn,c1,c2,c3,hb']
   rw[zn (by omega)]
   by_cases c4:240≤a.toNat∧a.toNat<245
   · rw[zp (by omega),wrap64 (by omega) (by omega)]
     simp only[aF]
     match t with
     | []=>simp[cn,c1,c2,c3,c4]
     | [b]=>simp[cn,c1,c2,c3,c4]
     | [b,c]=>simp[cn,c1,c2,c3,c4]
     | b::c::d::t =>
       have hb:=b.toNat_lt
       have hc:=c.toNat_lt
       have hd:=d.toNat_lt
       rw[zn (by simp only[zl]; omega),aau (by omega) (by omega)]
       by_cases hb':(128≤b.toNat∧b.toNat≤191)∧(128≤c.toNat∧c.toNat≤191)∧(128≤d.toNat∧d.toNat≤191)
       · rw[zp hb']
         simp only[aF]
         rw[ik]
         simp only[cn,c1,c2,c3,c4,hb',if_true,if_false,and_self]
         by_cases hr:64*(64*(64*((a.toNat:Int)-240)+b.toNat-128)+c.toNat-128)+d.toNat-128<65536∨1114111<64*(64*(64*((a.toNat:Int)-240)+b.toNat-128)+c.toNat-128)+d.toNat-128
         · rw[zp (by omega),zp hr]; rfl
         · rw[zn (by omega),zn hr]; rfl
       · rw[zn hb']
         simp only[cj]
         simp[cn,c1,c2,c3,c4,hb']
   rw[zn (by omega)]
   simp only[cj]
   simp[cn,c1,c2,c3,c4]
theorem aaR (s:List UInt8):(cn s).2≤s.length:=by
 unfold cn
 repeat' split
 all_goals (try simp only[])
 all_goals (try split)
 all_goals (try simp only[zl])
 all_goals omega
def cQ (s:List UInt8):Option (List Int) :=
 if h:s=[] then some []
 else if h0:(cn s).2=0 then none
 else (cQ (s.drop (cn s).2)).map fun l=>(cn s).1::l
termination_by s.length
decreasing_by
 have:s.length≠0:=fun e=>h (List.eq_nil_of_length_eq_zero e)
 simp only[List.length_drop]; omega
theorem hJ:cQ []=some []:=by rw[cQ,dif_pos rfl]
theorem jy {s:List UInt8} (h:s≠[]) (h0:(cn s).2=0):cQ s=none:=by rw[cQ,dif_neg h,dif_pos h0]
theorem jx {s:List UInt8} (h:s≠[]) (h0:(cn s).2≠0):cQ s=(cQ (s.drop (cn s).2)).map fun l=>(cn s).1::l:=by rw[cQ,dif_neg h,dif_neg h0]
def eT (s:List UInt8) (out:List Int):List Int×Bool×Unit :=
 match cQ s with
 | some m=>(out++m,true,())
 | none=>([],false,())
theorem sI {s:List UInt8} (hs:s.length<4294967296):∀ (k i:Nat) (l:List Int),s.length-i≤k→i≤s.length→l.length≤i→aN (kZ s) ((i:Int),l,())=some (eT (s.drop i) l):=by
 intro k
 have fin:∀ (i:Nat) (l:List Int),¬ i<s.length→aN (kZ s) ((i:Int),l,())=some (eT (s.drop i) l):=by
   intro i l hi
   rw[List.drop_eq_nil_of_le (by omega),aH (x:=(l,true,())) (by simp only[kZ,am]; rw[zn (by omega)])]
   simp[eT,hJ]
 induction k with
 | zero=>intro i l hk hi hl; exact fin i l (by omega)
 | succ k ih =>
   intro i l hk hi hl
   by_cases hlt:i<s.length
   · have hne:s.drop i≠[]:=fun e=>by have:=congrArg List.length e; simp at this; omega
     have hle:=aaR (s.drop i)
     simp only[List.length_drop] at hle
     by_cases h0:(cn (s.drop i)).2=0
     · rw[aH (x:=([],false,()))]
       · simp only[eT,jy hne h0]
       · simp only[kZ,am]
         rw[zp (by omega),d8 (by omega)]
         simp only[zb,abl]
         rw[zp (by omega)]
     · rw[aL (b:=(((i+(cn (s.drop i)).2:Nat):Int),l++[(cn (s.drop i)).1],()))]
       · rw[ih _ _ (by omega) (by omega) (by simp; omega)]
         simp only[eT,jx hne h0,List.drop_drop]
         cases cQ (s.drop (i+(cn (s.drop i)).2))<;>simp
       · simp only[kZ,am]
         rw[zp (by omega),d8 (by omega)]
         simp only[zb,abl]
         rw[zn (by omega),ct (by simp; omega)]
         simp only[zb]
         rw[wrap64 (by omega) (by omega)]
         simp
   · exact fin i l hlt
theorem w8 {s:List UInt8} (hs:s.length<4294967296):zbr s=some (eT s []):=by
 have:=sI hs s.length 0 [] (by omega) (by omega) (by simp)
 simpa [zbr] using this
def cmpI (a b:Int):Int:=if a<b then -1 else if a>b then 1 else 0
theorem oY (a b:Int):za5 a b=some (cmpI a b):=by
 unfold za5 zbd cmpI
 simp only[zb,decide_true,Bool.not_true,cond_false,am]
 by_cases h1:a<b
 · simp[h1]
 · by_cases h2:a>b<;>simp[h1,h2]
def orI (a b:Int):Int:=if a=0 then b else a
theorem or_t (a b:Int):zcf [a,b]=some (orI a b):=by
 unfold zcf orI
 by_cases h1:a=0
 · rw[zp h1]
   have t0:iw [a,b] (0,())=some (.inl (1,())):=by
     unfold iw
     simp only[am,zl,List.length_nil]
     rw[zp (by decide)]
     simp[atI,h1,wrap64]
   rw[aL t0]
   by_cases h2:b=0
   · have t1 : iw [a, b] (1, ()) = some (.inl (2, ())) := by
       unfold iw
       simp only[am,zl,List.length_nil]
       rw[zp (by decide)]
       simp[atI,h2,wrap64]
     rw[aL t1,h2]
     refine aH ?_
     unfold iw
     simp only[am,zl,List.length_nil]
     rw[zn (by decide)]
   · refine aH ?_
     unfold iw
     simp only[am,zl,List.length_nil]
     rw[zp (by decide)]
     simp[atI,h2]
 · rw[zn h1]
   refine aH ?_
   unfold iw
   simp only[am,zl,List.length_nil]
   rw[zp (by decide)]
   simp[atI,h1]
def cmpD (a b:Int×Int×Unit):Int:=orI (cmpI a.1 b.1) (cmpI a.2.1 b.2.1)
def aM (d:Int×Int×Unit):Bool:=decide (0≤d.1∧d.1≤15∧1≤d.2.1∧d.2.1≤1048576)
def Good (c:Int):Prop:=∃ s,(cn s).2≠0∧(cn s).1=c
abbrev Val:=Int×Int×List UInt8×Unit
theorem apT (a b:Val):eqV (.agg (.cons (.int .i64) (.cons (.int .i64) (.cons .str .unit)))) a b=decide (a=b):=by
 obtain ⟨k,n,s,⟨⟩⟩:=a
 obtain ⟨k',n',s',⟨⟩⟩:=b
 simp only[eqV,Bool.and_true]
 rw[Bool.eq_iff_iff]
 simp
theorem xb {s:List UInt8}:(eT s []).2.1=(cQ s).isSome:=by
 unfold eT; cases cQ s<;>rfl
def oc (v:Val):Bool:=decide ((v.1=1∧v.2.2.1=[] ∧ -2147483647≤v.2.1∧v.2.1≤2147483647)∨(v.1=2∧v.2.1=0∧(cQ v.2.2.1).isSome=true∧v.2.2.1.length≤64)∨(v.1=3∧v.2.2.1=[]∧0≤v.2.1∧v.2.1≤1))
theorem pV {v:Val} (hv:v.2.2.1.length<4294967296):zbx v=some (oc v):=by
 unfold zbx oc
 simp only[w8 (s:=v.2.2.1) (by omega),zb,xb,am]
 by_cases h1:v.1=1
 · rw[zp h1]
   by_cases h2:v.2.2.1=[]
   · by_cases h3:v.2.1 ≥ -2147483647
     · simp only[h1,h2,h3]; simp<;>omega
     · simp only[h1,h2]; simp[h3]<;>omega
   · simp[h1,h2]
 rw[zn h1]
 by_cases h2:v.1=2
 · rw[zp h2]
   cases hr:(cQ v.2.2.1).isSome with
   | true =>
     by_cases h3:v.2.1=0
     · simp only[h2,h3]; simp<;>omega
     · simp[h2,h3]
   | false=>by_cases h3:v.2.1=0<;>simp[h2,h3]
 rw[zn h2]
 by_cases h3:v.1=3
 · rw[zp h3]
   by_cases h4:v.2.2.1=[]
   · by_cases h5:v.2.1≥0
     · simp only[h3,h4]; simp[h5]<;>omega
     · simp only[h3,h4]; simp[h5]<;>omega
   · simp[h3,h4]
 rw[zn h3]
 simp[h1,h2,h3]
abbrev Path:=List (List UInt8)
abbrev Ent:=Path×Int×List Val×Int×Unit
abbrev Chg:=Int×Ent×Ent×Unit
theorem rU:Cmp cmpI where
 one a b:=by
   unfold cmpI
   split
   · omega
   · split<;>omega
 neg a b:=by
   unfold cmpI
   by_cases h1:a<b
   · rw[zn (by omega),zp (by omega),zp h1]; rfl
   · by_cases h2:a>b
     · rw[zp (by omega),zn h1,zp h2]
     · rw[zn (by omega),zn (by omega),zn h1,zn h2]; rfl
 zero a b:=by
   unfold cmpI
   by_cases h1:a<b
   · rw[zp h1]; constructor<;>intro h<;>omega
   · by_cases h2:a>b
     · rw[zn h1,zp h2]; constructor<;>intro h<;>omega
     · rw[zn h1,zn h2]; constructor<;>intro h<;>omega
 trans a b d h1 h2:=by
   unfold cmpI at h1 h2 ⊢
   have e1:a<b:=by
     by_cases h:a<b
     · exact h
     · rw[zn h] at h1; split at h1<;>omega
   have e2:b<d:=by
     by_cases h:b<d
     · exact h
     · rw[zn h] at h2; split at h2<;>omega
   rw[zp (by omega)]; omega
def cmpP:Path→Path→Int:=cmpL Lib.compareBytes
def keyE (e:Ent):Path×Int:=(e.1,e.2.1)
def cmpK:Path×Int→Path×Int→Int:=cmpB cmpP cmpI
def mayM (c:Int):Bool:=decide (32≤c∧(c<127∨159<c)∧c≠65533)
theorem aaj (c:Int):zc2 c=some (mayM c):=by
 unfold zc2 mayM
 simp only[am]
 by_cases h1:c≥32
 · rw[zp h1]
   by_cases h2:c<127
   · rw[zp h2,zf (by omega:¬ c=65533),zt (by omega)]; rfl
   · rw[zn h2]
     by_cases h3:c>159
     · rw[zp h3]
       by_cases h4:c=65533
       · rw[zt h4,zf (by omega)]; rfl
       · rw[zf h4,zt (by omega)]; rfl
     · rw[zn h3,zf (by omega)]
 · rw[zn h1,zf (by omega)]
theorem w9:∀ {s:List UInt8}{l:List Int},cQ s=some l→l.length≤s.length:=by
 have key:∀ (n:Nat) (s:List UInt8) (l:List Int),s.length≤n→cQ s=some l→l.length≤s.length:=by
   intro n
   induction n with
   | zero =>
     intro s l hn h
     have:s=[]:=List.eq_nil_of_length_eq_zero (by omega)
     subst this
     rw[hJ] at h; cases h; simp
   | succ n ih =>
     intro s l hn h
     by_cases hs:s=[]
     · subst hs
       rw[hJ] at h; cases h; simp
     · have hl:s.length≠0:=fun e=>hs (List.eq_nil_of_length_eq_zero e)
       by_cases h0:(cn s).2=0
       · rw[jy hs h0] at h; cases h
       · rw[jx hs h0,Option.map_eq_some_iff] at h
         obtain ⟨l',hl',rfl⟩:=h
         have:=ih _ l' (by rw[List.length_drop]; omega) hl'
         rw[List.length_drop] at this
         simp only[zl]; omega
 intro s l h
 exact key s.length s l (Nat.le_refl _) h
def xM (s:List UInt8):Bool:=match cQ s with
 | some l=>decide (1≤l.length∧l.length≤24)&&l.all mayM
 | none=>false
theorem kN {s:List UInt8} (hs:s.length<1000000):zbt s=some (xM s):=by
 unfold zbt xM
 rw[w8 (by omega)]
 simp only[zb]
 have gen:∀ (l:List Int) (ok:Bool),l.length<1000000→aN (nH (l,ok,())) ((0:Int),())=some (if l.all mayM=true then .inl () else .inr false):=by
   intro l ok hl
   have:=ja (f:=nH (l,ok,())) (l:=l) (fun i=>((i:Int),())) mayM (.inl ()) (.inr false) (fun i h=>by
     unfold nH
     simp only[am]
     rw[zp (by omega),bg h]
     simp only[zb,aaj]
     cases mayM l[i] with
     | true=>simp only[Bool.not_true,cond_false,if_true]; rw[wrap64 (by omega) (by omega)]; rfl
     | false=>rfl) (by
     unfold nH
     simp only[am]
     rw[zn (by omega)])
   exact this
 cases hr:cQ s with
 | none =>
   have e:eT s []=([],false,()):=by unfold eT; rw[hr]
   rw[e,gen [] false (by simp)]
   rfl
 | some l =>
   have e:eT s []=(l,true,()):=by unfold eT; rw[hr]; rfl
   have hl:l.length≤s.length:=w9 hr
   rw[e,gen l true (by omega)]
   cases hm:l.all mayM with
   | false =>
     simp only[Bool.false_eq_true,if_false,cj,hm,Bool.and_false]
   | true =>
     simp only[if_true,aF,cond_true,hm,Bool.and_true,am]
     by_cases h1:(l.length:Int)≥1
     · rw[zp h1]
       congr 1
       rw[decide_eq_decide]; omega
     · rw[zn h1,zf (by omega)]
def gH (p:Path):Int:=if p.length=0 then 8 else if p.length>8 then 9 else if p.all xM=true then 0 else 8
theorem sS {p:Path} (hs:∀ x∈p,x.length<1000000):zb2 p=some (gH p):=by
 unfold zb2 gH
 simp only[am]
 by_cases h1:(p.length:Int)=0
 · rw[zp h1,zp (show p.length=0 by omega)]
 rw[zn h1,zn (show ¬ p.length=0 by omega)]
 by_cases h2:(p.length:Int)>8
 · rw[zp h2,zp (show p.length>8 by omega)]
 rw[zn h2,zn (show ¬ p.length>8 by omega)]
 have:=ja (f:=qU p) (l:=p) (fun i=>((i:Int),())) xM (0:Int) 8 (fun i h=>by
   unfold qU
   simp only[am]
   rw[zp (by omega),bg h]
   simp only[zb,kN (hs _ (zm h))]
   cases xM p[i] with
   | true=>simp only[Bool.not_true,cond_false,if_true]; rw[wrap64 (by omega) (by omega)]; rfl
   | false=>rfl) (by
   unfold qU
   simp only[am]
   rw[zn (by omega)])
 exact this
instance decE1:DecidableEq (List Val×Int×Unit):=fun a b => @instDecidableEqProd (List Val) (Int×Unit) inferInstance inferInstance a b
instance decE2:DecidableEq (Int×List Val×Int×Unit):=fun a b => @instDecidableEqProd Int (List Val×Int×Unit) inferInstance decE1 a b
instance decE:DecidableEq Ent:=fun a b => @instDecidableEqProd Path (Int×List Val×Int×Unit) inferInstance decE2 a b
instance decC1:DecidableEq (Ent×Unit):=fun a b => @instDecidableEqProd Ent Unit decE inferInstance a b
instance decC2:DecidableEq (Ent×Ent×Unit):=fun a b => @instDecidableEqProd Ent (Ent×Unit) decE decC1 a b
instance decC:DecidableEq Chg:=fun a b => @instDecidableEqProd Int (Ent×Ent×Unit) inferInstance decC2 a b
theorem ite_bool {b:Bool}:(if b=true then true else false)=b:=by cases b<;>rfl
def lowE (e:Ent):Prop:=e.1.length<1000000∧e.2.2.1.length<1000000
theorem z8 {p:Path}:zcc p=some (decide (p.length≤12)&&p.all fun x=>decide (x.length≤120)):=by
 unfold zcc
 simp only[am]
 by_cases h1:(p.length:Int)>12
 · rw[zp h1,zf (by omega)]; rfl
 rw[zn h1,zt (by omega),Bool.true_and]
 have:=ja (f:=qM p) (l:=p) (fun i=>((i:Int),())) (fun x=>decide (x.length≤120)) true false (fun i h=>by
   unfold qM
   simp only[am]
   rw[zp (by omega),bg h]
   simp only[zb]
   by_cases h2:(p[i].length:Int)>120
   · rw[zp h2,zn (by simp; omega)]
   · rw[zn h2,zp (by simp; omega),wrap64 (by omega) (by omega)]; rfl) (by
   unfold qM
   simp only[am]
   rw[zn (by omega)])
 rw[ite_bool] at this
 exact this
def asb (e:Ent):Prop:=lowE e∧∀ x∈e.1,x.length<1000000
theorem oI {n:Nat} (h:n<9000000):shrT .u64 (IntKind.wrap .u64 (IntKind.wrap .i64 (n:Int))) 1=some ((n/2:Nat):Int):=by
 rw[wrap64 (by omega) (by omega)]
 have w:IntKind.wrap .u64 (n:Int)=(n:Int):=by simp[IntKind.wrap,IntKind.bits,IntKind.signed]; omega
 rw[w]
 unfold shrT
 rw[zn (by omega)]
 have e:(2:Int) ^ min (Int.toNat 1) (IntKind.bits .u64)=2:=by decide
 rw[e,Int.fdiv_eq_ediv_of_nonneg _ (by omega)]
 congr 1
def one (c:Int) (a:List Int):Prop:=c = -2∨∃ x,a=[x]∧(c = -1∨c=x)
def Mt:List Int→List Int→Prop
 | [],t=>t=[]
 | c::o,t=>∃ a b,t=a++b∧one c a∧Mt o b
structure Inv (o t:List Int) (k:Nat) (star:Int) (mark i:Nat):Prop where
 k_le:k≤o.length
 i_le:i≤t.length
 no:star<0→(Mt o t↔Mt (o.drop k) (t.drop i))
 is:∀ st:Nat,star=(st:Int)→st<k∧mark≤i∧(Mt o t↔Mt (-2::o.drop (st+1)) (t.drop mark))∧(Mt (o.drop k) (t.drop i)→Mt (o.drop (st+1)) (t.drop mark))∧(∀ u,Mt (o.drop (st+1)) u→Mt (o.drop k) (u.drop (i-mark)))
 le : -1≤star
abbrev Dot1:=Int×Int×Unit
abbrev Ref1:=Dot1×Int×Unit
abbrev Op1:=Int×Path×Val×Int×List Ref1×Unit
abbrev Txn1:=Dot1×Int×Int×Bool×List Op1×Unit
abbrev ap3:=Ref1×Op1×Int×Unit
theorem ahD {K L:Type}{c:K→K→Int} (h:Cmp c) (f:L→K) (hf:∀ a b,f a=f b→a=b):Cmp fun a b=>c (f a) (f b) where
 one a b:=h.one _ _
 neg a b:=h.neg _ _
 zero a b:=⟨fun e=>hf _ _ ((h.zero _ _).1 e),fun e=>(h.zero _ _).2 (by rw[e])⟩
 trans a b d:=h.trans _ _ _
theorem bR:Cmp cmpD:=by
 have:cmpD=fun a b=>cmpB cmpI cmpI ((fun x:Dot1=>(x.1,x.2.1)) a) ((fun x:Dot1=>(x.1,x.2.1)) b):=rfl
 rw[this]
 exact ahD (rU.pair rU) _ fun a b h=>by
   obtain ⟨a1,a2,⟨⟩⟩:=a; obtain ⟨b1,b2,⟨⟩⟩:=b
   simp only[Prod.mk.injEq] at h
   rw[h.1,h.2]
def cmpR (a b:Ref1):Int:=orI (cmpD a.1 b.1) (cmpI a.2.1 b.2.1)
theorem ya (a b:Int):zct a b=some (cmpI a b):=by
 unfold zct cmpI
 simp only[am]
 by_cases h1:a<b
 · rw[zp h1,zp h1]
 · by_cases h2:a>b
   · rw[zn h1,zp h2,zn h1,zp h2]
   · rw[zn h1,zn h2,zn h1,zn h2]
theorem o4 (a b:Int):cmpI a b=0↔a=b:=rU.zero a b
theorem gv (a b:Dot1):zba a b=some (cmpD a b):=by
 unfold zba cmpD orI
 simp only[ya,zb,bm]
 by_cases h:a.1=b.1
 · rw[zp h,zp ((o4 _ _).2 h)]
 · rw[zn h,zn (fun e=>h ((o4 _ _).1 e))]
theorem aai (a b:Ref1):zcr a b=some (cmpR a b):=by
 unfold zcr cmpR orI
 simp only[gv,ya,zb,bm]
 by_cases h:cmpD a.1 b.1=0
 · rw[zp h,zp h]
 · rw[zn h,zn h]
theorem fk (a b:Dot1):zbl a b=some (cmpD a b):=by
 unfold zbl
 simp only[oY,or_t,zb]
 rfl
theorem cS (d:Dot1):zbk d=some (aM d):=by
 unfold zbk aM
 simp only[am]
 by_cases h1:d.1≥0<;>by_cases h2:d.1≤15<;>by_cases h3:d.2.1≥1<;>by_cases h4:d.2.1≤1048576<;>simp[h1,h2,h3,h4]<;>omega
theorem jE {A K:Type}{c:K→K→Int}{key:A→K} (hc:Cmp c):∀ {l:List A},(∀ i,(h:i+1<l.length)→c (key l[i]) (key l[i+1])<0)→qE c key l
 | [],_=>List.Pairwise.nil
 | [x],_=>List.pairwise_singleton ..
 | x::y::l,h=>by
   have ih:=jE hc (l:=y::l) (fun i hi=>h (i+1) (by simpa using hi))
   have h0:=h 0 (by simp)
   refine List.pairwise_cons.2 ⟨fun z hz => ?_,ih⟩
   rcases List.mem_cons.1 hz with e | hz'
   · subst e; exact h0
   · exact hc.trans _ _ _ h0 ((List.pairwise_cons.1 ih).1 z hz')
theorem yx (a b:Dot1):eqV (.agg (.cons (.int .i64) (.cons (.int .i64) .unit))) a b=decide (a=b):=by
 obtain ⟨a1,a2,⟨⟩⟩:=a
 obtain ⟨b1,b2,⟨⟩⟩:=b
 simp only[eqV,Prod.mk.injEq,and_true]
 by_cases h1:a1=b1<;>by_cases h2:a2=b2<;>simp[h1,h2]
def apE (x:Ref1):Bool:=aM x.1&&decide (0≤x.2.1∧x.2.1≤15)
def xi (l:List Ref1) (i:Nat):Bool :=
 match l[i]? with
 | some x=>apE x&&(decide (i=0)||match l[i-1]? with
   | some y=>decide (cmpR y x = -1)
   | none=>false)
 | none=>false
open Classical in
noncomputable def pU (l:List Ref1):Bool:=if (∀ i,i<l.length→xi l i=true) then true else false
theorem xj {l:List Ref1} (hl:l.length<1000000):zce l=some (pU l):=by
 have:=jR (f:=qL l) l.length (fun i=>((i:Int),())) (xi l) true false (fun i h=>by
   unfold qL xi apE
   rw[zg h]
   simp only[am]
   rw[zp (by omega),bg h]
   simp only[zb,cS]
   by_cases h0:aM l[i].1=true
   · simp only[h0,Bool.not_true,cond_false,Bool.true_and]
     by_cases h1:l[i].2.1<0
     · rw[zp h1,zf (by omega)]; rfl
     rw[zn h1]
     by_cases h2:l[i].2.1>15
     · rw[zp h2,zf (by omega)]; rfl
     rw[zn h2,zt (by omega),Bool.true_and]
     by_cases h3:i=0
     · subst h3
       rw[zn (by omega),wrap64 (by omega) (by omega)]; rfl
     · rw[zp (by omega),wrap64 (by omega) (by omega),show (i:Int)-1=((i-1:Nat):Int) by omega,bg (by omega),zg (show i-1<l.length by omega)]
       simp only[zb,aai,bm]
       by_cases h4:cmpR l[i-1] l[i] = -1
       · rw[zp h4,wrap64 (by omega) (by omega)]; simp[h3,h4]
       · rw[zn h4]; simp[h3,h4]
   · have h0:aM l[i].1=false:=by simpa using h0
     simp only[h0,Bool.not_false,cond_true,Bool.false_and]; rfl) (by
   unfold qL
   simp only[am]
   rw[zn (by omega)])
 unfold zce pU
 rw[show ((0:Int),())=(((0:Nat):Int),()) from rfl,this]
def zeroV:Val:=(0,0,[],())
noncomputable def opM (o:Op1):Int :=
 if o.1<1∨5<o.1 then 18 else if gH o.2.1≠0 then gH o.2.1
 else if (o.1=3∨o.1=5)∧o.2.2.1≠zeroV then 2
 else if ¬ (o.1=3∨o.1=5)∧oc o.2.2.1=false then 2
 else if o.1≠3∧o.2.2.2.1≠0 then 2
 else if o.1=3∧(o.2.2.2.1=0∨o.2.2.2.1>2147483647∨o.2.2.2.1 < -2147483647) then 2
 else if (o.1=2∨o.1=3)∧0<o.2.2.2.2.1.length then 2
 else if 256<o.2.2.2.2.1.length then 7
 else if pU o.2.2.2.2.1=true then 0 else 2
def nT (o:Op1):Prop:=o.2.1.length≤12∧(∀ x∈o.2.1,x.length≤120)∧o.2.2.1.2.2.1.length≤200∧o.2.2.2.2.1.length≤300
theorem agU {o:Op1} (h:nT o):zbn o=some (opM o):=by
 obtain ⟨s1,s2,s3,s4⟩:=h
 obtain ⟨k,p,v,n,sn,⟨⟩⟩:=o
 simp only at s1 s2 s3 s4
 unfold zbn opM
 simp only[am,bm,apT,sS (p:=p) (fun x hx=>by have:=s2 x hx; omega),pV (v:=v) (by omega),xj (l:=sn) (by omega),zb]
 have ez:((0,0,[],()):Val)=zeroV:=rfl
 simp only[ez]
 by_cases a1:k<1
 · rw[zp a1,zp (.inl a1)]
 rw[zn a1]
 by_cases a2:k>5
 · rw[zp a2,zp (.inr a2)]
 rw[zn a2]
 rw[zn (show ¬ (k<1∨5<k) by omega)]
 by_cases a3:¬ gH p=0
 · rw[zn a3,zp (show gH p≠0 from a3)]
 have a3:gH p=0:=Classical.not_not.1 a3
 rw[zp a3,zn (show ¬ gH p≠0 from fun e=>e a3)]
 have hlen:((sn.length:Int)>0)↔0<sn.length:=by omega
 have hlen2:((sn.length:Int)>256)↔256<sn.length:=by omega
 simp only[hlen,hlen2]
 have last:(cond (!pU sn) (some (2:Int)) (some 0))=some (if pU sn=true then 0 else 2):=by cases pU sn<;>rfl
 by_cases k3:k=3
 · subst k3
   by_cases hz:v=zeroV
   · by_cases n0:n=0
     · simp[hz,n0]
     · by_cases n1:n>2147483647
       · simp[hz,n0,n1]
       · by_cases n2:n < -2147483647
         · simp[hz,n0,n1,n2]
         · by_cases l0:0<sn.length
           · simp[hz,n0,n1,n2,l0]
           · by_cases l2:256<sn.length
             · omega
             · simp[hz,n0,n1,n2,l0,l2,last]
   · simp[hz]
 · by_cases k5:k=5
   · subst k5
     by_cases hz:v=zeroV
     · by_cases n0:n=0
       · by_cases l2:256<sn.length
         · simp[hz,n0,l2]
         · simp[hz,n0,l2,last]
       · simp[hz,n0]
     · simp[hz]
   · cases hr:oc v with
     | false=>simp[k3,k5,hr]
     | true =>
       by_cases n0:n=0
       · by_cases k2:k=2
         · subst k2
           by_cases l0:0<sn.length
           · simp[n0,l0]
           · by_cases l2:256<sn.length
             · omega
             · simp[n0,l0,l2,last]
         · by_cases l2:256<sn.length
           · simp[k2,k3,k5,n0,l2]
           · simp[k2,k3,k5,n0,l2,last]
       · simp[k3,k5,n0]
def iS (o:Op1):Bool:=decide (o.1=0∧o.2.1=[]∧o.2.2.1=zeroV∧o.2.2.2.1=0∧o.2.2.2.2.1=[])
theorem apS (o:Op1):zch o=some (iS o):=by
 obtain ⟨k,p,v,n,sn,⟨⟩⟩:=o
 unfold zch iS
 simp only[am,apT]
 have ez:((0,0,[],()):Val)=zeroV:=rfl
 simp only[ez]
 have e1:((p.length:Int)=0)↔p=[]:=by rw[show ((p.length:Int)=0)↔p.length=0 by omega,List.length_eq_zero_iff]
 have e2:((sn.length:Int)=0)↔sn=[]:=by rw[show ((sn.length:Int)=0)↔sn.length=0 by omega,List.length_eq_zero_iff]
 simp only[e1,e2]
 by_cases h1:k=0<;>by_cases h2:p=[]<;>by_cases h3:v=zeroV<;>by_cases h4:n=0<;>by_cases h5:sn=[]<;>simp[h1,h2,h3,h4,h5]
def ju (o:Op1):Bool:=decide (o.2.1.length≤12)&&(o.2.1.all fun x=>decide (x.length≤120))&&decide (o.2.2.1.2.2.1.length≤200)&&decide (o.2.2.2.2.1.length≤300)
theorem wY (o:Op1):zbp o=some (ju o):=by
 unfold zbp ju
 simp only[z8,zb,am]
 cases (decide (o.2.1.length≤12)&&o.2.1.all fun x=>decide (x.length≤120)) with
 | false=>rfl
 | true =>
   rw[cond_true,Bool.true_and]
   by_cases h3:((o.2.2.1.2.2.1.length:Int)≤200)
   · rw[zp h3,zt (show o.2.2.1.2.2.1.length≤200 by omega),Bool.true_and]
     congr 1
     by_cases h4:((o.2.2.2.2.1.length:Int)≤300)
     · rw[zt h4,zt (by omega)]
     · rw[zf h4,zf (by omega)]
   · rw[zn h3,zf (show ¬ o.2.2.1.2.2.1.length≤200 by omega)]; rfl
theorem lu {o:Op1}:ju o=true↔nT o:=by
 unfold ju nT
 simp only[Bool.and_eq_true,decide_eq_true_eq,List.all_eq_true]
 exact ⟨fun h=>⟨h.1.1.1,h.1.1.2,h.1.2,h.2⟩,fun h=>⟨⟨⟨h.1,h.2.1⟩,h.2.2.1⟩,h.2.2.2⟩⟩
noncomputable def fS (t:Txn1):Bool:=decide (t.2.2.2.2.1.length≤20)&&t.2.2.2.2.1.all ju
theorem sH (t:Txn1):zb5 t=some (fS t):=by
 unfold zb5 fS
 simp only[am]
 by_cases h1:(t.2.2.2.2.1.length:Int)>20
 · rw[zp h1,zf (by omega)]; rfl
 rw[zn h1,zt (by omega),Bool.true_and]
 have:=ja (f:=qT t) (l:=t.2.2.2.2.1) (fun i=>((i:Int),())) ju true false (fun i h=>by
   unfold qT
   simp only[am]
   rw[zp (by omega),bg h]
   simp only[zb,wY]
   by_cases hs:ju t.2.2.2.2.1[i]=true
   · rw[hs,Bool.not_true,cond_false,zp rfl,wrap64 (by omega) (by omega)]; rfl
   · rw[zn hs,eq_false_of_ne_true hs]; rfl) (by
   unfold qT
   simp only[am]
   rw[zn (by omega)])
 rw[ite_bool] at this
 exact this
noncomputable def opsM (thin:Bool):List Op1→Int
 | []=>0
 | o::l=>if opM o≠0∧¬ (thin=true∧iS o=true) then opM o else opsM thin l
noncomputable def txnM (t:Txn1):Int :=
 if aM t.1=false∨t.2.1<0∨7<t.2.1∨t.2.2.1<1∨1099511627776<t.2.2.1 then 2
 else if t.2.2.2.2.1.length=0 then 11 else if 16<t.2.2.2.2.1.length then 7 else opsM t.2.2.2.1 t.2.2.2.2.1
theorem oo {thin:Bool}:∀ (l:List Op1) (i:Nat),nq (S:=Unit) (fun _ o _=>if opM o≠0∧¬ (thin=true∧iS o=true) then .inr (opM o) else .inl ()) (fun _=>(0:Int)) i l ()=opsM thin l
 | [],_=>rfl
 | o::l,i=>by
   unfold nq opsM
   by_cases h:opM o≠0∧¬ (thin=true∧iS o=true)
   · rw[zp h,zp h]
   · rw[zn h,zn h]; exact oo l (i+1)
theorem sF {t:Txn1} (h:fS t=true):zbq t=some (txnM t):=by
 unfold fS at h
 simp only[Bool.and_eq_true,decide_eq_true_eq,List.all_eq_true] at h
 obtain ⟨h1,h2⟩:=h
 have loop:=ot (S:=Unit) (R:=Int) (f:=nI t) (l:=t.2.2.2.2.1) (fun i _=>((i:Int),())) (fun _ o _=>if opM o≠0∧¬ (t.2.2.2.1=true∧iS o=true) then .inr (opM o) else .inl ()) (fun _=>(0:Int)) (fun _ _=>True) (fun i h s _=>by
   have turn:nI t ((i:Int),())=if opM t.2.2.2.2.1[i]≠0∧¬ (t.2.2.2.1=true∧iS t.2.2.2.2.1[i]=true) then some (.inr (opM t.2.2.2.2.1[i])) else some (.inl (((i+1:Nat):Int),())):=by
     unfold nI
     simp only[am,bm]
     rw[zp (by omega),bg h]
     simp only[zb,agU (lu.1 (h2 _ (zm h))),apS]
     rw[wrap64 (by omega) (by omega),show (i:Int)+1=((i+1:Nat):Int) by omega]
     by_cases a:opM t.2.2.2.2.1[i]=0
     · rw[zp a,zn (fun e=>e.1 a)]
     · rw[zn a]
       cases ht:t.2.2.2.1 with
       | false=>rw[cond_false,zp ⟨a,by simp⟩]
       | true =>
         rw[cond_true]
         by_cases hg:iS t.2.2.2.2.1[i]=true
         · rw[hg,Bool.not_true,cond_false,zn (by simp)]
         · rw[eq_false_of_ne_true hg,Bool.not_false,cond_true,zp ⟨a,by simp⟩]
   by_cases hc:opM t.2.2.2.2.1[i]≠0∧¬ (t.2.2.2.1=true∧iS t.2.2.2.2.1[i]=true)
   · exact .inr ⟨_,by rw[zp hc],by rw[turn,zp hc]⟩
   · exact .inl ⟨(),by rw[zn hc],by rw[turn,zn hc],trivial⟩) (fun s _=>by
   unfold nI
   simp only[am]
   rw[zn (by omega)]) () trivial
 rw[oo] at loop
 rw[show (((0:Nat):Int),())=((0:Int),()) from rfl] at loop
 unfold zbq txnM
 simp only[am,cS,zb]
 by_cases a1:aM t.1=true
 · rw[a1,Bool.not_true,cond_false]
   simp only[zb]
   by_cases a2:t.2.1<0
   · rw[zt a2,cond_true,zp (.inr (.inl a2))]
   rw[zf a2,cond_false]
   by_cases a3:t.2.1>7
   · rw[zp a3,zp (.inr (.inr (.inl a3)))]
   rw[zn a3]
   by_cases a4:t.2.2.1<1
   · rw[zp a4,zp (.inr (.inr (.inr (.inl a4))))]
   rw[zn a4]
   by_cases a5:t.2.2.1>1099511627776
   · rw[zp a5,zp (.inr (.inr (.inr (.inr a5))))]
   have nn:¬ (true=false∨t.2.1<0∨7<t.2.1∨t.2.2.1<1∨1099511627776<t.2.2.1):=by
     rintro (h | h | h | h | h)
     · cases h
     · exact a2 h
     · exact a3 h
     · exact a4 h
     · exact a5 h
   rw[zn a5,zn nn]
   by_cases a6:t.2.2.2.2.1.length=0
   · rw[zp (show (t.2.2.2.2.1.length:Int)=0 by omega),zp a6]
   rw[zn (show ¬ (t.2.2.2.2.1.length:Int)=0 by omega),zn a6]
   by_cases a7:16<t.2.2.2.2.1.length
   · rw[zp (show (t.2.2.2.2.1.length:Int)>16 by omega),zp a7]
   rw[zn (show ¬ (t.2.2.2.2.1.length:Int)>16 by omega),zn a7]
   exact loop
 · have a1:aM t.1=false:=by simpa using a1
   rw[zp (show aM t.1=false∨t.2.1<0∨7<t.2.1∨t.2.2.1<1∨1099511627776<t.2.2.1 from .inl a1),a1]
   rfl
noncomputable def lE {A:Type} (key:A→Dot1) (l:List A) (i:Nat):Bool:=match l[i]?,l[i+1]? with
 | some x,some y=>decide (cmpD (key x) (key y) = -1)
 | _,_=>true
theorem sQ {A:Type}{key:A→Dot1}{l:List A} (h:∀ i,i<l.length-1→lE key l i=true):qE cmpD key l:=by
 refine jE bR fun i hi => ?_
 have:=h i (by omega)
 unfold lE at this
 rw[zg hi,zg (show i<l.length by omega)] at this
 simp only[decide_eq_true_eq] at this
 omega
open Classical in
theorem xe {l:List Txn1} (hl:l.length<1000000):zb8 l=some (if (∀ i,i<l.length-1→lE (·.1) l i=true) then true else false):=by
 have:=jR (f:=qS l) (l.length-1) (fun i=>(((i+1:Nat):Int),())) (lE (·.1) l) true false (fun i h=>by
   unfold qS lE
   rw[zg (show i<l.length by omega),zg (show i+1<l.length by omega)]
   simp only[am,bm]
   rw[zp (by omega),wrap64 (by omega) (by omega),show ((i+1:Nat):Int)-1=(i:Int) by omega,bg (show i<l.length by omega),bg (show i+1<l.length by omega)]
   simp only[zb,gv,decide_eq_true_eq]
   rw[wrap64 (by omega) (by omega)]
   by_cases h4:cmpD l[i].1 l[i+1].1 = -1
   · rw[zp h4,zp h4]; rfl
   · rw[zn h4,zn h4]) (by
   unfold qS
   simp only[am]
   rw[zn (by omega)])
 exact this
def oneM (x:Ref1):Bool:=aM x.1&&decide (1≤x.2.1∧x.2.1≤64)
theorem ar9 (x:Ref1):zc8 x=some (oneM x):=by
 unfold zc8 oneM
 simp only[cS,zb,am]
 cases aM x.1 with
 | false=>rfl
 | true =>
   rw[cond_true,Bool.true_and]
   by_cases h1:x.2.1≥1<;>by_cases h2:x.2.1≤64<;>simp[h1,h2]<;>omega
def gh (l:List Ref1) (i:Nat):Bool:=match l[i]? with
 | some x=>oneM x&&(decide (i=0)||match l[i-1]? with
   | some y=>decide (cmpD y.1 x.1 = -1)
   | none=>false)
 | none=>false
open Classical in
theorem aag {l:List Ref1} (hl:l.length<1000000):zbw l=some (if (∀ i,i<l.length→gh l i=true) then true else false):=by
 have:=jR (f:=qP l) l.length (fun i=>((i:Int),())) (gh l) true false (fun i h=>by
   unfold qP gh
   rw[zg h]
   simp only[am]
   rw[zp (by omega),bg h]
   simp only[zb,ar9]
   by_cases h0:oneM l[i]=true
   · simp only[h0,Bool.not_true,cond_false,Bool.true_and]
     by_cases h3:i=0
     · subst h3
       rw[zn (by omega),wrap64 (by omega) (by omega)]; rfl
     · rw[zp (by omega),wrap64 (by omega) (by omega),show (i:Int)-1=((i-1:Nat):Int) by omega,bg (by omega),zg (show i-1<l.length by omega)]
       simp only[zb,gv,bm]
       by_cases h4:cmpD l[i-1].1 l[i].1 = -1
       · rw[zp h4,wrap64 (by omega) (by omega)]; simp[h3,h4]
       · rw[zn h4]; simp[h3,h4]
   · have h0:oneM l[i]=false:=by simpa using h0
     simp only[h0,Bool.not_false,cond_true,Bool.false_and]; rfl) (by
   unfold qP
   simp only[am]
   rw[zn (by omega)])
 exact this
abbrev kM (u:List Ref1):Prop:=qE cmpD (·.1) u
structure CountsOk (u:List Ref1):Prop where
 len:u.length≤100
 rise:kM u
 one:∀ x∈u,oneM x=true
theorem counts_of {l:List Ref1} (hl:l.length≤100) (h:∀ i,i<l.length→gh l i=true):CountsOk l where
 len:=hl
 rise:=jE bR fun i hi=>by
   have:=h (i+1) hi
   unfold gh at this
   rw[zg hi,Nat.add_sub_cancel,zg (show i<l.length by omega)] at this
   simp only[Bool.and_eq_true,Bool.or_eq_true,decide_eq_true_eq] at this
   omega
 one x hx:=by
   obtain ⟨i,hi,rfl⟩:=List.mem_iff_getElem.1 hx
   have:=h i hi
   unfold gh at this
   rw[zg hi] at this
   simp only[Bool.and_eq_true] at this
   exact this.1
structure TxnOk (t:Txn1):Prop where
 len:t.2.2.2.2.1.length≤16
 pos:0<t.2.2.2.2.1.length
 ops:∀ o∈t.2.2.2.2.1,nT o∧(opM o=0∨t.2.2.2.1=true∧iS o=true)
 dot:aM t.1=true
 user:0≤t.2.1∧t.2.1≤7
 time:1≤t.2.2.1∧t.2.2.1≤1099511627776
theorem ru {thin:Bool}:∀ {l:List Op1},opsM thin l=0→∀ o∈l,opM o=0∨thin=true∧iS o=true
 | [],_,o,h=>by cases h
 | p::l,h,o,ho=>by
   unfold opsM at h
   by_cases hc:opM p≠0∧¬ (thin=true∧iS p=true)
   · rw[zp hc] at h; exact absurd h hc.1
   · rw[zn hc] at h
     rcases List.mem_cons.1 ho with e | ho
     · subst e
       by_cases h1:opM o=0
       · exact .inl h1
       · exact .inr (Classical.not_not.1 fun h2=>hc ⟨h1,h2⟩)
     · exact ru h o ho
theorem apB {t:Txn1} (h1:fS t=true) (h2:txnM t=0):TxnOk t:=by
 unfold fS at h1
 simp only[Bool.and_eq_true,decide_eq_true_eq,List.all_eq_true] at h1
 unfold txnM at h2
 by_cases a:aM t.1=false∨t.2.1<0∨7<t.2.1∨t.2.2.1<1∨1099511627776<t.2.2.1
 · rw[zp a] at h2; omega
 rw[zn a] at h2
 by_cases b:t.2.2.2.2.1.length=0
 · rw[zp b] at h2; omega
 rw[zn b] at h2
 by_cases c:16<t.2.2.2.2.1.length
 · rw[zp c] at h2; omega
 rw[zn c] at h2
 refine ⟨by omega,by omega,fun o ho=>⟨lu.1 (h1.2 o ho),ru h2 o ho⟩,?_,?_,?_⟩
 · cases hr:aM t.1 with
   | true=>rfl
   | false=>exact absurd (.inl hr) a
 · constructor
   · exact Int.not_lt.1 fun h=>a (.inr (.inl h))
   · exact Int.not_lt.1 fun h=>a (.inr (.inr (.inl h)))
 · constructor
   · exact Int.not_lt.1 fun h=>a (.inr (.inr (.inr (.inl h))))
   · exact Int.not_lt.1 fun h=>a (.inr (.inr (.inr (.inr h))))
abbrev ar7 (l:List Txn1):Prop:=qE cmpD (·.1) l
structure TxnsOk (l:List Txn1) (n:Nat):Prop where
 len:l.length≤n
 rise:ar7 l
 all:∀ t∈l,TxnOk t
open Classical in
def getM (u:List Ref1) (d:Dot1):Int:=match u with
 | []=>0
 | x::u=>if x.1=d then x.2.1 else getM u d
abbrev loU (d:Dot1) (u:List Ref1):List Ref1:=lo cmpD (·.1) d u
abbrev hiU (d:Dot1) (u:List Ref1):List Ref1:=hi cmpD (·.1) d u
theorem j0 {d:Dot1}:∀ {u:List Ref1},(∀ x∈u,x.1≠d)→getM u d=0
 | [],_=>rfl
 | x::u,h=>by
   unfold getM
   rw[zn (h x (List.mem_cons_self ..))]
   exact j0 fun y hy=>h y (List.mem_cons_of_mem _ hy)
theorem rK {d:Dot1}:∀ {p q:List Ref1},(∀ x∈p,x.1≠d)→getM (p++q) d=getM q d
 | [],_,_=>rfl
 | x::p,q,h=>by
   rw[List.cons_append]
   conv=>lhs; unfold getM
   rw[zn (h x (List.mem_cons_self ..))]
   exact rK fun y hy=>h y (List.mem_cons_of_mem _ hy)
theorem mE (a b:Ref1):za9 a b=some (cmpD a.1 b.1):=by
 unfold za9
 rw[fk]; rfl
theorem nM {u:List Ref1}{d:Ref1} (hl:u.length<1000000) (hr:kM u):∀ (k i j:Nat),j-i≤k→i≤(loU d.1 u).length→(loU d.1 u).length≤j→j≤u.length →
   aN (ld u d) ((i:Int),(j:Int),())=some (.inl (((loU d.1 u).length:Int),())):=by
 intro k
 induction k with
 | zero =>
   intro i j hk h1 h2 h3
   refine aH ?_
   unfold ld
   simp only[am]
   rw[zn (by omega),show (loU d.1 u).length=i by omega]
 | succ k ih =>
   intro i j hk h1 h2 h3
   by_cases hij:i<j
   · have hh:(i+j)/2<u.length:=by omega
     have turn:ld u d ((i:Int),(j:Int),())=if cmpD u[(i+j)/2].1 d.1<0 then some (.inl ((((i+j)/2+1:Nat):Int),(j:Int),())) else some (.inl ((i:Int),(((i+j)/2:Nat):Int),())):=by
       unfold ld
       simp only[am]
       rw[zp (by omega),show (i:Int)+(j:Int)=((i+j:Nat):Int) by omega,oI (by omega)]
       simp only[zb]
       rw[wrap64 (n:=(((i+j)/2:Nat):Int)) (by omega) (by omega),bg hh]
       simp only[zb,mE]
       rw[wrap64 (by omega) (by omega)]; rfl
     by_cases hn:(i+j)/2<(loU d.1 u).length
     · rw[zp (asc hh hn)] at turn
       rw[aL turn]
       exact ih _ _ (by omega) (by omega) h2 h3
     · have:=asd bR hr hh (k:=d.1) (Nat.le_of_not_lt hn)
       rw[zn (by omega)] at turn
       rw[aL turn]
       exact ih _ _ (by omega) h1 (by omega) (by omega)
   · refine aH ?_
     unfold ld
     simp only[am]
     rw[zn (by omega),show (loU d.1 u).length=i by omega]
theorem ki {a b:Dot1} (h:cmpD a b≠0):a≠b:=fun e=>h ((bR.zero _ _).2 e)
def apR (q:List Ref1) (d:Dot1):Bool:=match q with
 | []=>false
 | x::_=>decide (cmpD x.1 d=0)
theorem wL {u:List Ref1}{d:Ref1} (hl:u.length<1000000) (hr:kM u) :
   zaa u d ()=some (((loU d.1 u).length:Int),apR (hiU d.1 u) d.1,()):=by
 have e2:loU d.1 u++hiU d.1 u=u:=lohi
 have hlen:(loU d.1 u).length+(hiU d.1 u).length=u.length:=by rw[← List.length_append,e2]
 unfold zaa
 have:=nM (d:=d) hl hr u.length 0 u.length (by omega) (by omega) (by omega) (by omega)
 rw[show ((0:Int),(u.length:Int),())=(((0:Nat):Int),(u.length:Int),()) from rfl,this,aF]
 simp only[am]
 cases hq:hiU d.1 u with
 | nil =>
   rw[hq] at hlen
   simp only[List.length_nil] at hlen
   rw[zn (by omega)]; rfl
 | cons x q =>
   rw[hq] at hlen e2
   simp only[zl] at hlen
   rw[zp (by omega),kr]
   have e3:u[(loU d.1 u).length]? = some x:=by
     have:(loU d.1 u++x::q)[(loU d.1 u).length]? = some x:=by simp
     rw[e2] at this
     exact this
   rw[e3]
   simp only[zb,mE]
   rfl
theorem apM {u:List Ref1}{d:Dot1}{x:Ref1} (hx:x∈loU d u):x.1≠d:=by
 have h:=nb (c:=cmpD) (key:=fun y:Ref1=>y.1) (k:=d) (l:=u) x hx
 exact ki (fun e=>by rw[e] at h; omega)
theorem lh {u:List Ref1}{d:Dot1} (hl:u.length<1000000) (hr:kM u):zde u d=some (getM u d):=by
 have e2:loU d u++hiU d u=u:=lohi
 have hlo:∀ x∈loU d u,x.1≠d:=fun x hx=>apM hx
 unfold zde zdj
 rw[wL (d:=(d,0,())) hl hr]
 simp only[zb]
 have hg:getM u d=getM (hiU d u) d:=by
   conv=>lhs; rw[← e2]
   exact rK hlo
 rw[hg]
 cases hq:hiU d u with
 | nil=>rfl
 | cons x q =>
   have hab:=rE bR hr hq
   unfold apR
   simp only[am]
   by_cases h0:cmpD x.1 d=0
   · rw[zp h0,kr]
     have e3:u[(loU d u).length]? = some x:=by
       have:(loU d u++x::q)[(loU d u).length]? = some x:=by simp
       rw[← hq,e2] at this
       exact this
     rw[e3]
     simp only[zb]
     unfold getM
     rw[zp ((bR.zero _ _).1 h0)]
   · rw[zn h0,j0]
     intro y hy
     rcases List.mem_cons.1 hy with e | hy
     · subst e; exact ki h0
     · exact ki (by have:=hab.2 y hy; omega)
def fP (u:List Ref1) (d:Dot1):Bool:=match remT (getM u d) 2 with
 | some x=>decide (x=0)
 | none=>false
theorem rem2 (a:Int):∃ x,remT a 2=some x:=⟨_,by unfold remT; rw[zn (by omega)]⟩
theorem ex {u:List Ref1}{d:Dot1} (hl:u.length<1000000) (hr:kM u):zci u d=some (fP u d):=by
 unfold zci fP
 rw[lh hl hr]
 obtain ⟨x,hx⟩:=rem2 (getM u d)
 simp only[zb,hx]
structure Low (l:List Txn1):Prop where
 len:l.length≤1000
 ops:∀ t∈l,t.2.2.2.2.1.length≤1000
 seen:∀ t∈l,∀ o∈t.2.2.2.2.1,o.2.2.2.2.1.length<1000000
structure LowU (u:List Ref1):Prop where
 len:u.length<1000000
 rise:kM u
def agX (k:Int):Bool:=decide (1≤k∧k≤3)
structure LowI (l:List ap3):Prop where
 len:l.length<1000000
 path:∀ x∈l,x.2.1.2.1.length<1000000∧∀ s∈x.2.1.2.1,s.length<1000000
structure Mid (l w:List Val) (i0 k i:Nat):Prop where
 len:w.length=l.length
 head:w.take i=sqz (l.take (i0+k))
 rest:∀ j,i0+k-1≤j→w[j]? = l[j]?
 low:i≤i0+k-1
structure LowP (l:List Txn1):Prop where
 low:Low l
 ops:∀ t∈l,∀ o∈t.2.2.2.2.1,(o.2.1.length<1000000∧∀ s∈o.2.1,s.length<1000000)∧o.2.2.1.2.2.1.length<1000000
abbrev asg:=Path×Int×Unit
structure MidS (l w:List (List UInt8)) (i0 k i:Nat):Prop where
 len:w.length=l.length
 head:w.take i=sqz (l.take (i0+k))
 rest:∀ j,i0+k-1≤j→w[j]? = l[j]?
 low:i≤i0+k-1
structure MidL (l w:List asg) (i0 k i:Nat):Prop where
 len:w.length=l.length
 head:w.take i=sqz (l.take (i0+k))
 rest:∀ j,i0+k-1≤j→w[j]? = l[j]?
 low:i≤i0+k-1
structure OpOk (o:Op1):Prop where
 kind:1≤o.1∧o.1≤5
 path:gH o.2.1=0
 val:o.1≠3→o.1≠5→oc o.2.2.1=true
 noval:o.1=3∨o.1=5→o.2.2.1=zeroV
 num:o.1=3→o.2.2.2.1≠0∧o.2.2.2.1≤2147483647 ∧ -2147483647≤o.2.2.2.1
 nonum:o.1≠3→o.2.2.2.1=0
 noseen:o.1=2∨o.1=3→o.2.2.2.2.1=[]
 seen:o.2.2.2.2.1.length≤256∧pU o.2.2.2.2.1=true
structure ItemsOk (l:List ap3):Prop where
 len:l.length≤320
 op:∀ x∈l,OpOk x.2.1∧nT x.2.1∧agX x.2.1.1=true
theorem de {A B:Type}{g:A→B}:∀ {l:List A},(l.flatMap fun x=>[g x])=l.map g
 | []=>rfl
 | x::l=>by rw[List.flatMap_cons,List.map_cons,de]; rfl
def NS (G:Prop) {A:Type} (o:Option A) (b:A):Prop:=o=some b∨¬ G∧o=none
theorem NS.bind {G:Prop}{A B:Type}{o:Option A}{a:A}{f:A→Option B}{b:B} (h:NS G o a) (hf:NS G (f a) b):NS G (o.bind f) b:=by
 rcases h with h | ⟨h1,h2⟩
 · rw[h,zb]; exact hf
 · exact .inr ⟨h1,by rw[h2]; rfl⟩
abbrev ar8:List Ent→Prop:=qE cmpK keyE
def seen (q:List Ent) (k:Path×Int):Bool:=match q with
 | x::_=>decide (cmpK (keyE x) k=0)
 | []=>false
structure VOk (v:List Ent):Prop where
 len:v.length≤320
 easy:∀ e∈v,asb e
 rise:ar8 v
theorem VOk.low {v:List Ent} (h:VOk v):∀ e∈v,lowE e:=fun e he=>(h.easy e he).1
abbrev W1:=Path×List Ent×Int×Unit
abbrev iX:=List Int×List Dot1×Unit
abbrev St1:=List Txn1×List Ref1×iX×iX×List (List Dot1)×Unit
abbrev Dl1:=List Txn1×List Ref1×List Dot1×Unit
abbrev asf:=Int×Txn1×Int×Ref1×Int×Dl1×St1×Unit
theorem bY {A R S:Type}{f:A→Option (A⊕R)} (n:Nat) (enc:Nat→S→A) (inv:Nat→S→Prop) (Q:R→Prop)
   (hturn:∀ i s,i<n→inv i s→(∃ s',f (enc i s)=some (.inl (enc (i+1) s'))∧inv (i+1) s')∨(∃ r,f (enc i s)=some (.inr r)∧Q r))
   (hend:∀ s,inv n s→∃ r,f (enc n s)=some (.inr r)∧Q r):∀ s,inv 0 s→∃ r,aN f (enc 0 s)=some r∧Q r:=by
 have key:∀ (k i:Nat) (s:S),n-i≤k→i≤n→inv i s→∃ r,aN f (enc i s)=some r∧Q r:=by
   intro k
   induction k with
   | zero =>
     intro i s hk hi hv
     have:i=n:=by omega
     subst this
     obtain ⟨r,h1,h2⟩:=hend s hv
     exact ⟨r,aH h1,h2⟩
   | succ k ih =>
     intro i s hk hi hv
     by_cases hlt:i<n
     · rcases hturn i s hlt hv with ⟨s',h1,h2⟩ | ⟨r,h1,h2⟩
       · obtain ⟨r,h3,h4⟩:=ih (i+1) s' (by omega) (by omega) h2
         exact ⟨r,(aL h1).trans h3,h4⟩
       · exact ⟨r,aH h1,h2⟩
     · have:i=n:=by omega
       subst this
       obtain ⟨r,h1,h2⟩:=hend s hv
       exact ⟨r,aH h1,h2⟩
 exact fun s hv=>key n 0 s (by omega) (by omega) hv
theorem qw {R:Type}{f:Int×Int×Unit→Option ((Int×Int×Unit)⊕((Int×Unit)⊕R))} (c:Nat→Bool) (n:Nat)
   (hturn:∀ i j:Nat,i<j→j≤n→f ((i:Int),(j:Int),())=some (.inl (if c ((i+j)/2)=true then ((((i+j)/2+1:Nat):Int),(j:Int),()) else ((i:Int),(((i+j)/2:Nat):Int),()))))
   (hend:∀ i:Nat,f ((i:Int),(i:Int),())=some (.inr (.inl ((i:Int),())))) :
   ∃ k:Nat,k≤n∧aN f ((0:Int),(n:Int),())=some (.inl ((k:Int),())):=by
 have key:∀ (q i j:Nat),j-i≤q→i≤j→j≤n→∃ k:Nat,k≤n∧aN f ((i:Int),(j:Int),())=some (.inl ((k:Int),())):=by
   intro q
   induction q with
   | zero =>
     intro i j h1 h2 h3
     have:i=j:=by omega
     subst this
     exact ⟨i,h3,aH (hend i)⟩
   | succ q ih =>
     intro i j h1 h2 h3
     by_cases hij:i<j
     · have ht:=hturn i j hij h3
       by_cases hc:c ((i+j)/2)=true
       · rw[zp hc] at ht
         obtain ⟨k,k1,k2⟩:=ih ((i+j)/2+1) j (by omega) (by omega) h3
         exact ⟨k,k1,(aL ht).trans k2⟩
       · rw[zn hc] at ht
         obtain ⟨k,k1,k2⟩:=ih i ((i+j)/2) (by omega) (by omega) (by omega)
         exact ⟨k,k1,(aL ht).trans k2⟩
     · have:i=j:=by omega
       subst this
       exact ⟨i,h3,aH (hend i)⟩
 exact key n 0 n (by omega) (by omega) (Nat.le_refl _)
theorem cV (d:Dot1):zc7 d=some (aM d):=by
 unfold zc7 aM
 simp only[am]
 by_cases h1:d.1≥0<;>by_cases h2:d.1<16<;>by_cases h3:d.2.1≥1<;>by_cases h4:d.2.1≤1048576<;>simp[h1,h2,h3,h4]<;>omega
theorem dU {d:Dot1} (h:aM d=true):∃ k:Nat,k<16∧d.1=(k:Int)∧inI 16 d.1=some k:=by
 unfold aM at h
 simp only[decide_eq_true_eq] at h
 refine ⟨d.1.toNat,by omega,by omega,?_⟩
 unfold inI
 rw[zp (by omega)]
theorem zU {v:List Int}{d:Dot1} (hv:v.length=16):∃ b,zdt v d=some b:=by
 unfold zdt
 rw[cV]
 simp only[zb]
 cases h:aM d with
 | false=>exact ⟨_,rfl⟩
 | true =>
   obtain ⟨k,h1,h2,h3⟩:=dU h
   rw[cond_true,h3]
   simp only[zb]
   rw[zg (by omega)]
   exact ⟨_,rfl⟩
theorem ke {l:List Dot1}{d:Dot1} (hl:l.length<1000000) :
   ∃ k:Nat,k≤l.length∧∃ b,zab l d ()=some ((k:Int),b,())∧(b=true→∃ x∈l,x=d):=by
 obtain ⟨k,h1,h2⟩:=qw (f:=gp l d) (fun m=>match l[m]? with | some x=>decide (cmpD x d<0) | none=>false) l.length (fun i j hij hj=>by
   have hh:(i+j)/2<l.length:=by omega
   unfold gp
   simp only[am]
   rw[zp (by omega),show (i:Int)+(j:Int)=((i+j:Nat):Int) by omega,oI (by omega)]
   simp only[zb]
   rw[wrap64 (n:=(((i+j)/2:Nat):Int)) (by omega) (by omega),bg hh]
   simp only[zb,fk,zg hh,decide_eq_true_eq]
   rw[wrap64 (by omega) (by omega)]
   by_cases hc:cmpD l[(i+j)/2] d<0
   · rw[zp hc,zp hc]; rfl
   · rw[zn hc,zn hc]) (fun i=>by
   unfold gp
   simp only[am]
   rw[zn (by omega)])
 refine ⟨k,h1,?_⟩
 unfold zab
 rw[h2,aF]
 simp only[am]
 by_cases hk:k<l.length
 · rw[zp (by omega),bg hk]
   simp only[zb,fk]
   exact ⟨_,rfl,fun h=>⟨_,zm hk,(bR.zero _ _).1 (of_decide_eq_true h)⟩⟩
 · rw[zn (by omega)]
   exact ⟨_,rfl,fun h=>by cases h⟩
theorem oT {s:iX}{d:Dot1} (hv:s.1.length=16) (hm:s.2.1.length<1000000):∃ b,zdl s d=some b:=by
 obtain ⟨b,hb⟩:=zU (d:=d) hv
 obtain ⟨k,_,c,hc,_⟩:=ke (d:=d) hm
 unfold zdl
 rw[hb,hc]
 simp only[zb]
 cases b<;>exact ⟨_,rfl⟩
structure DOk (s:iX) (n:Nat):Prop where
 vec:s.1.length=16
 len:s.2.1.length≤n
 right:∀ d∈s.2.1,aM d=true
theorem apL {v:List Int}{l:List Dot1} (hv:v.length=16) (hl:l.length<1000000) (hr:∀ d∈l,aM d=true):∃ s,zc4 v l=some s∧DOk s l.length:=by
 unfold zc4
 refine bY (S:=List Int×List Dot1) (f:=ji l) l.length (fun i s=>((i:Int),([0,0,0,0,0,0,0,0,0,0,0,0,0,0,0,0],(),()),(s.1,(),()),s.2,())) (fun i s=>s.1.length=16∧s.2.length≤i∧∀ d∈s.2,aM d=true) (fun s=>DOk s l.length) (fun i s hi hs => ?_) (fun s hs => ?_) (v,[]) ⟨hv,by simp,fun d hd=>by cases hd⟩
 · obtain ⟨w,m⟩:=s
   obtain ⟨s1,s2,s3⟩:=hs
   have hx:=hr _ (zm hi)
   obtain ⟨k,k1,k2,k3⟩:=dU hx
   have k4:k<w.length:=by simp only at s1; omega
   have push:(∀ d∈m++[l[i]],aM d=true):=fun d hd=>by
     rcases List.mem_append.1 hd with h | h
     · exact s3 d h
     · rw[List.mem_singleton.1 h]; exact hx
   simp only at s1 s2 s3
   have room:dD (m.length+[l[i]].length)=some ():=ct (by simp; omega)
   refine .inl ?_
   unfold ji
   simp only[am]
   rw[zp (by omega),bg hi]
   simp only[zb,k3]
   rw[zg k4]
   simp only[zb]
   rw[wrap64 (n:=(i:Int)+1) (by omega) (by omega)]
   by_cases c1:l[i].2.1≤w[k]
   · rw[zp c1]; exact ⟨(w,m),rfl,s1,by simp only; omega,s3⟩
   rw[zn c1]
   by_cases c2:l[i].2.1=IntKind.wrap .i64 (w[k]+1)
   · rw[zp c2]; exact ⟨(w.set k l[i].2.1,m),rfl,by simp only[List.length_set]; exact s1,by simp only; omega,s3⟩
   rw[zn c2]
   by_cases c3:(m.length:Int)=0
   · rw[zp c3,room]; exact ⟨(w,m++[l[i]]),rfl,s1,by simp; omega,push⟩
   rw[zn c3,wrap64 (by omega) (by omega),show (m.length:Int)-1=((m.length-1:Nat):Int) by omega,dI (by omega)]
   simp only[zb]
   rw[zg (by omega)]
   simp only[zb,yx,bm]
   by_cases c4:m[m.length-1]'(by omega)=l[i]
   · rw[zp c4]; exact ⟨(w,m),rfl,s1,by simp only; omega,s3⟩
   · rw[zn c4,room]; exact ⟨(w,m++[l[i]]),rfl,s1,by simp; omega,push⟩
 · unfold ji
   simp only[am]
   rw[zn (by omega)]
   exact ⟨_,rfl,hs.1,hs.2.1,hs.2.2⟩
theorem yz {s:iX}{d:Dot1}{n:Nat} (hs:DOk s n) (hn:n<100000):∃ t,zdn s d=some t∧DOk t (n+1):=by
 unfold zdn
 rw[cV]
 simp only[zb]
 have up:DOk s (n+1):=⟨hs.vec,Nat.le_trans hs.len (by omega),hs.right⟩
 cases h:aM d with
 | false=>exact ⟨s,rfl,up⟩
 | true =>
   have hl:=hs.len
   obtain ⟨b,hb⟩:=oT (d:=d) hs.vec (by omega)
   rw[Bool.not_true,cond_false,hb]
   simp only[zb]
   cases b with
   | true=>exact ⟨s,rfl,up⟩
   | false =>
     obtain ⟨k,k1,c,hc,_⟩:=ke (l:=s.2.1) (d:=d) (by omega)
     rw[cond_false,hc]
     simp only[zb]
     have e1:zay s.2.1=some s.2.1:=by
       unfold zay er
       rw[zp (by simp only[most]; omega)]
     have e2:zar (k:Int) [d] s.2.1=some (s.2.1.take k++[d]++s.2.1.drop k,()):=by
       unfold zar zaw insT
       rw[zp ⟨by omega,by omega,by simp,by simp only[most,List.length_singleton]; omega⟩]
       simp
     rw[e1]
     simp only[zb]
     rw[e2]
     simp only[zb]
     have hlen:(s.2.1.take k++[d]++s.2.1.drop k).length=s.2.1.length+1:=by simp; omega
     obtain ⟨t,t1,t2⟩:=apL (v:=s.1) (l:=s.2.1.take k++[d]++s.2.1.drop k) hs.vec (by omega) (fun x hx=>by
       rcases List.mem_append.1 hx with hx | hx
       · rcases List.mem_append.1 hx with hx | hx
         · exact hs.right x (List.mem_of_mem_take hx)
         · rw[List.mem_singleton.1 hx]; exact h
       · exact hs.right x (List.mem_of_mem_drop hx))
     rw[t1]
     exact ⟨t,rfl,t2.vec,by have:=t2.len; omega,t2.right⟩
theorem rM {s:iX}{n:Nat} (hs:DOk s n) (hn:n<100000):∃ t,zbf s=some t∧DOk t n:=by
 have hl:=hs.len
 unfold zbf
 refine bY (S:=List Int×List Dot1) (f:=qQ s) s.2.1.length (fun i t=>((i:Int),([0,0,0,0,0,0,0,0,0,0,0,0,0,0,0,0],(),()),(t.1,(),()),t.2,())) (fun i t=>t.1.length=16∧t.2.length≤i∧∀ d∈t.2,aM d=true) (fun t=>DOk t n) (fun i t hi ht => ?_) (fun t ht => ?_) (s.1,[]) ⟨hs.vec,by simp,fun d hd=>by cases hd⟩
 · obtain ⟨w,m⟩:=t
   obtain ⟨s1,s2,s3⟩:=ht
   have hx:=hs.right _ (zm hi)
   obtain ⟨k,k1,k2,k3⟩:=dU hx
   have k4:k<w.length:=by simp only at s1; omega
   have push:(∀ d∈m++[s.2.1[i]],aM d=true):=fun d hd=>by
     rcases List.mem_append.1 hd with h | h
     · exact s3 d h
     · rw[List.mem_singleton.1 h]; exact hx
   simp only at s1 s2 s3
   have room:dD (m.length+[s.2.1[i]].length)=some ():=ct (by simp; omega)
   refine .inl ?_
   unfold qQ
   simp only[am]
   rw[zp (by omega),bg hi]
   simp only[zb,k3]
   rw[zg k4]
   simp only[zb]
   rw[wrap64 (n:=(i:Int)+1) (by omega) (by omega)]
   by_cases c2:s.2.1[i].2.1=IntKind.wrap .i64 (w[k]+1)
   · rw[zp c2]; exact ⟨(w.set k s.2.1[i].2.1,m),rfl,by simp only[List.length_set]; exact s1,by simp only; omega,s3⟩
   rw[zn c2]
   by_cases c3:s.2.1[i].2.1>w[k]
   · rw[zp c3,room]; exact ⟨(w,m++[s.2.1[i]]),rfl,s1,by simp; omega,push⟩
   · rw[zn c3]; exact ⟨(w,m),rfl,s1,by simp only; omega,s3⟩
 · unfold qQ
   simp only[am]
   rw[zn (by omega)]
   exact ⟨_,rfl,ht.1,by have:=ht.2.1; simp only; omega,ht.2.2⟩
theorem ahm {v:List Int}{d:Dot1} (hv:v.length=16):∃ b,zdb v d=some b:=by
 unfold zdb
 rw[cS]
 simp only[zb]
 cases h:aM d with
 | false=>exact ⟨_,rfl⟩
 | true =>
   obtain ⟨k,h1,h2,h3⟩:=dU h
   rw[cond_true,h3]
   simp only[zb]
   rw[zg (by omega)]
   exact ⟨_,rfl⟩
theorem ahl {s:iX}{d:Dot1} (hv:s.1.length=16) (hm:s.2.1.length<1000000):∃ b,zdd s d=some b:=by
 obtain ⟨b,hb⟩:=ahm (d:=d) hv
 unfold zdd
 rw[hb]
 simp only[zb]
 cases b with
 | true=>exact ⟨_,rfl⟩
 | false =>
   obtain ⟨r,hr,_⟩:=bY (S:=Unit) (f:=qH s d) s.2.1.length (fun i _=>((i:Int),())) (fun _ _=>True) (fun _=>True) (fun i _ hi _=>by
     unfold qH
     simp only[am,yx]
     rw[zp (by omega),bg hi]
     simp only[zb]
     rw[wrap64 (by omega) (by omega)]
     by_cases c:s.2.1[i]=d
     · rw[zp c]; exact .inr ⟨_,rfl,trivial⟩
     · rw[zn c]; exact .inl ⟨(),rfl,trivial⟩) (fun _ _=>by
     unfold qH
     simp only[am]
     rw[zn (by omega)]
     exact ⟨_,rfl,trivial⟩) () trivial
   exact ⟨r,hr⟩
theorem agY {s:iX}{d:Dot1}{n:Nat} (hs:DOk s n) (hn:n<10000):∃ t,zda s d=some t∧DOk t (n+1):=by
 have hl:=hs.len
 have up:DOk s (n+1):=⟨hs.vec,by omega,hs.right⟩
 unfold zda
 rw[cS]
 simp only[zb]
 cases h:aM d with
 | false=>exact ⟨s,rfl,up⟩
 | true =>
   obtain ⟨b,hb⟩:=ahl (d:=d) hs.vec (show s.2.1.length<1000000 by omega)
   rw[Bool.not_true,cond_false,hb]
   simp only[zb]
   cases b with
   | true=>exact ⟨s,rfl,up⟩
   | false =>
     rw[cond_false]
     obtain ⟨r,h1,laid,l,rfl,h2,h3⟩:=bY (S:=Bool×List Dot1) (f:=qI s d) s.2.1.length (fun i t=>(t.1,(i:Int),([0,0,0,0,0,0,0,0,0,0,0,0,0,0,0,0],(),()),t.2,())) (fun i t=>(t.2.length=i+(if t.1=true then 1 else 0))∧∀ x∈t.2,aM x=true) (fun r=>∃ laid l,r = .inl (laid,([0,0,0,0,0,0,0,0,0,0,0,0,0,0,0,0],(),()),l,())∧(l.length=s.2.1.length+(if laid=true then 1 else 0))∧∀ x∈l,aM x=true) (fun i t hi ht=>by
       obtain ⟨laid,l⟩:=t
       obtain ⟨t1,t2⟩:=ht
       have hx:=hs.right _ (zm hi)
       simp only at t1 t2
       have bl:l.length≤i+1:=by cases laid<;>simp at t1<;>omega
       have room:∀ (m:List Dot1) (x:Dot1),m.length≤i+5→dD (m.length+[x].length)=some ():=fun m x hm=>ct (by simp; omega)
       refine .inl ?_
       unfold qI
       simp only[am]
       rw[zp (by omega),bg hi,wrap64 (n:=(i:Int)+1) (by omega) (by omega)]
       simp only[zb,gv]
       cases laid with
       | true =>
         rw[Bool.not_true,cond_false,aF]
         simp only
         rw[room l _ (by omega)]
         refine ⟨(true,l++[s.2.1[i]]),rfl,by simp at t1 ⊢; omega,fun x hx2 => ?_⟩
         rcases List.mem_append.1 hx2 with q | q
         · exact t2 x q
         · rw[List.mem_singleton.1 q]; exact hx
       | false =>
         rw[Bool.not_false,cond_true]
         by_cases c:cmpD d s.2.1[i]<0
         · rw[zp c,room l _ (by omega)]
           simp only[zb]
           rw[jX]
           simp only
           rw[room (l++[d]) _ (by simp; omega)]
           refine ⟨(true,l++[d]++[s.2.1[i]]),rfl,by simp at t1 ⊢; omega,fun x hx2 => ?_⟩
           rcases List.mem_append.1 hx2 with q | q
           · rcases List.mem_append.1 q with q | q
             · exact t2 x q
             · rw[List.mem_singleton.1 q]; exact h
           · rw[List.mem_singleton.1 q]; exact hx
         · rw[zn c,aF]
           simp only
           rw[room l _ (by omega)]
           refine ⟨(false,l++[s.2.1[i]]),rfl,by simp at t1 ⊢; omega,fun x hx2 => ?_⟩
           rcases List.mem_append.1 hx2 with q | q
           · exact t2 x q
           · rw[List.mem_singleton.1 q]; exact hx) (fun t ht=>by
       unfold qI
       simp only[am]
       rw[zn (by omega)]
       exact ⟨_,rfl,_,_,rfl,ht.1,ht.2⟩) (false,[]) ⟨rfl,fun x hx=>by cases hx⟩
     rw[show ((false,(0:Int),(([0,0,0,0,0,0,0,0,0,0,0,0,0,0,0,0]:List Int),(),()),([]:List Dot1),()):Bool×Int×(List Int×Unit×Unit)×List Dot1×Unit)=(false,((0:Nat):Int),([0,0,0,0,0,0,0,0,0,0,0,0,0,0,0,0],(),()),[],()) from rfl,h1,aF]
     cases laid with
     | true =>
       simp only[Bool.not_true,cond_false]
       rw[aF]
       simp at h2
       obtain ⟨t,t1,t2⟩:=rM (s:=(s.1,l,())) (n:=n+1) ⟨hs.vec,by simp only; omega,h3⟩ (by omega)
       simp only
       rw[t1]; exact ⟨t,rfl,t2⟩
     | false =>
       simp only[Bool.not_false,cond_true]
       simp at h2
       rw[ct (by simp; omega)]
       simp only[zb]
       rw[jX]
       obtain ⟨t,t1,t2⟩:=rM (s:=(s.1,l++[d],())) (n:=n+1) ⟨hs.vec,by simp; omega,fun x hx=>by
         rcases List.mem_append.1 hx with q | q
         · exact h3 x q
         · rw[List.mem_singleton.1 q]; exact h⟩ (by omega)
       simp only
       rw[t1]; exact ⟨t,rfl,t2⟩
structure Wide (s:St1):Prop where
 known:s.2.2.1.1.length=16
 fast:s.2.2.2.1.1.length=16
 redo:s.2.2.2.2.1.length=8
structure ShortS (s:St1):Prop where
 txns:s.1.length≤20
 undos:s.2.1.length≤100
 known:s.2.2.1.2.1.length≤100
 fast:s.2.2.2.1.2.1.length≤100
 all:∀ t∈s.1,fS t=true
 redo:∀ l∈s.2.2.2.2.1,l.length≤40
theorem ek {A R X:Type}{f:A→Option (A⊕R)}{l:List X} (enc:Nat→A) (P:X→Prop) (yes no:R)
   (hturn:∀ (i:Nat) (h:i<l.length),(f (enc i)=some (.inl (enc (i+1)))∧P l[i])∨f (enc i)=some (.inr no)) (hend:f (enc l.length)=some (.inr yes)) :
   (aN f (enc 0)=some yes∧∀ x∈l,P x)∨aN f (enc 0)=some no:=by
 obtain ⟨r,h1,h2⟩:=bY (S:=Unit) (f:=f) l.length (fun i _=>enc i) (fun i _=>∀ k (h:k<l.length),k<i→P l[k]) (fun r=>(r=yes∧∀ x∈l,P x)∨r=no) (fun i _ hi hv=>by
   rcases hturn i hi with ⟨h1,h2⟩ | h1
   · exact .inl ⟨(), h1, fun k hk hki => by
       by_cases e:k=i
       · subst e; exact h2
       · exact hv k hk (by omega)⟩
   · exact .inr ⟨no,h1,.inr rfl⟩) (fun _ hv=>⟨yes,hend,.inl ⟨rfl,fun x hx=>by
   obtain ⟨k,hk,rfl⟩:=List.mem_iff_getElem.1 hx
   exact hv k hk hk⟩⟩) () (fun k hk hki=>by omega)
 rcases h2 with ⟨rfl,h2⟩ | rfl
 · exact .inl ⟨h1,h2⟩
 · exact .inr h1
theorem wZ {s:St1} (hw:Wide s):∃ b,zbs s=some b∧(b=true→ShortS s):=by
 have l1:s.1.length≤20→((aN (kY) (((0:Nat):Int),s,())=some (.inl (s,()))∧∀ t∈s.1,fS t=true)∨aN (kY) (((0:Nat):Int),s,())=some (.inr false)):=fun hl=>by
   refine ek (f:=kY) (l:=s.1) (fun i=>((i:Int),s,())) (fun t=>fS t=true) (.inl (s,())) (.inr false) (fun i h => ?_) ?_
   · unfold kY
     simp only[am]
     rw[zp (by omega),bg h]
     simp only[zb,sH]
     cases hs:fS s.1[i] with
     | false=>exact .inr rfl
     | true =>
       refine .inl ⟨?_,by trivial⟩
       rw[Bool.not_true,cond_false,wrap64 (by omega) (by omega)]; rfl
   · unfold kY
     simp only[am]
     rw[zn (by omega)]
 have l2:(aN (kX) (((0:Nat):Int),s,())=some true∧∀ l∈s.2.2.2.2.1,l.length≤40)∨aN (kX) (((0:Nat):Int),s,())=some false:=by
   have hr:=hw.redo
   refine ek (f:=kX) (l:=s.2.2.2.2.1) (fun i=>((i:Int),s,())) (fun l=>l.length≤40) true false (fun i h => ?_) ?_
   · unfold kX
     simp only[am]
     rw[zp (by omega),dI (by omega)]
     simp only[zb]
     rw[zg h]
     simp only[zb]
     by_cases c:((s.2.2.2.2.1[i].length:Int)>40)
     · rw[zp c]; exact .inr rfl
     · rw[zn c,wrap64 (by omega) (by omega)]; exact .inl ⟨rfl,by omega⟩
   · unfold kX
     simp only[am]
     rw[zn (by omega)]
 unfold zbs
 simp only[am]
 by_cases c1:(s.1.length:Int)>20
 · rw[zp c1]; exact ⟨false,rfl,fun h=>by cases h⟩
 rw[zn c1]
 simp only[zb,am]
 by_cases c2:(s.2.1.length:Int)>100
 · rw[zp c2]; exact ⟨false,rfl,fun h=>by cases h⟩
 rw[zn c2]
 by_cases c3:(s.2.2.1.2.1.length:Int)>100
 · rw[zp c3]; exact ⟨false,rfl,fun h=>by cases h⟩
 rw[zn c3]
 by_cases c4:(s.2.2.2.1.2.1.length:Int)>100
 · rw[zp c4]; exact ⟨false,rfl,fun h=>by cases h⟩
 rw[zn c4]
 rcases l1 (by omega) with ⟨h1,h2⟩ | h1
 · rw[show ((0:Int),s,())=(((0:Nat):Int),s,()) from rfl,h1,aF]
   simp only
   rcases l2 with ⟨h3,h4⟩ | h3
   · rw[show ((0:Int),s,())=(((0:Nat):Int),s,()) from rfl,h3]
     exact ⟨true,rfl,fun _=>⟨by omega,by omega,by omega,by omega,h2,h4⟩⟩
   · rw[show ((0:Int),s,())=(((0:Nat):Int),s,()) from rfl,h3]
     exact ⟨false,rfl,fun h=>by cases h⟩
 · rw[show ((0:Int),s,())=(((0:Nat):Int),s,()) from rfl,h1]
   exact ⟨false,rfl,fun h=>by cases h⟩
theorem xh {v:List Int} (hv:v.length=16):∃ b,zbz v=some b:=by
 unfold zbz
 obtain ⟨r,h,_⟩:=bY (S:=Unit) (f:=qN) 16 (fun i _=>((i:Int),v,())) (fun _ _=>True) (fun _=>True) (fun i _ hi _=>by
   unfold qN
   simp only[am]
   rw[zp (by omega),dI (by omega)]
   simp only[zb]
   rw[zg (by omega),wrap64 (by omega) (by omega)]
   simp only[zb]
   by_cases c1:v[i]<0
   · rw[zp c1]; exact .inr ⟨_,rfl,trivial⟩
   rw[zn c1]
   by_cases c2:v[i]>1048576
   · rw[zp c2]; exact .inr ⟨_,rfl,trivial⟩
   · rw[zn c2]; exact .inl ⟨(),rfl,trivial⟩) (fun _ _=>by
   unfold qN
   simp only[am]
   rw[zn (by omega)]
   exact ⟨_,rfl,trivial⟩) () trivial
 exact ⟨r,h⟩
theorem od {s:iX} (hv:s.1.length=16) (hm:s.2.1.length≤100):∃ b,zb9 s=some b∧(b=true→DOk s 100):=by
 obtain ⟨b,hb⟩:=xh hv
 unfold zb9
 rw[hb]
 simp only[zb]
 cases b with
 | false=>exact ⟨false,rfl,fun h=>by cases h⟩
 | true =>
   simp only[Bool.not_true,cond_false,am]
   rw[zn (by omega)]
   have:=ek (f:=qR) (l:=s.2.1) (fun i=>((i:Int),s,())) (fun d=>aM d=true) true false (fun i h=>by
     unfold qR
     simp only[am]
     rw[zp (by omega),bg h]
     simp only[zb,cS]
     cases hs:aM s.2.1[i] with
     | false=>exact .inr rfl
     | true =>
       obtain ⟨k,k1,k2,k3⟩:=dU hs
       simp only[Bool.not_true,cond_false]
       rw[k3]
       simp only[zb]
       rw[zg (by omega),wrap64 (n:=(i:Int)+1) (by omega) (by omega)]
       simp only[zb]
       by_cases c1:IntKind.wrap .i64 (s.2.1[i].2.1-1)≤s.1[k]'(by omega)
       · rw[zp c1]; exact .inr rfl
       rw[zn c1]
       by_cases c2:(i:Int)>0
       · rw[zp c2,wrap64 (by omega) (by omega),show (i:Int)-1=((i-1:Nat):Int) by omega,bg (by omega)]
         simp only[zb,gv,bm]
         by_cases c3:cmpD (s.2.1[i-1]'(by omega)) s.2.1[i] = -1
         · rw[zp c3]; exact .inl ⟨rfl,by trivial⟩
         · rw[zn c3]; exact .inr rfl
       · rw[zn c2]; exact .inl ⟨rfl,by trivial⟩) (by
     unfold qR
     simp only[am]
     rw[zn (by omega)])
   rcases this with ⟨h1,h2⟩ | h1
   · exact ⟨true,h1,fun _=>⟨hv,hm,h2⟩⟩
   · exact ⟨false,h1,fun h=>by cases h⟩
theorem ahd {l:List Txn1} (hl:l.length≤1000):∃ s,zby l=some s:=by
 unfold zby
 obtain ⟨r,h,_⟩:=bY (S:=iX) (f:=qO l) l.length (fun i s=>((i:Int),([0,0,0,0,0,0,0,0,0,0,0,0,0,0,0,0],(),()),s,())) (fun i s=>DOk s i) (fun _=>True) (fun i s hi hs=>by
   obtain ⟨t,t1,t2⟩:=agY (d:=l[i].1) hs (by omega)
   unfold qO
   simp only[am]
   rw[zp (by omega),bg hi]
   simp only[zb]
   rw[t1,wrap64 (by omega) (by omega)]
   exact .inl ⟨t,rfl,t2⟩) (fun s _=>by
   unfold qO
   simp only[am]
   rw[zn (by omega)]
   exact ⟨_,rfl,trivial⟩) ([0,0,0,0,0,0,0,0,0,0,0,0,0,0,0,0],[],()) ⟨rfl,by simp,fun d hd=>by cases hd⟩
 exact ⟨r,h⟩
theorem aab {a b:List Dot1} (ha:a.length<1000000):∃ c,zcl a b=some c:=by
 unfold zcl
 simp only[bm]
 by_cases h:(a.length:Int)=b.length
 · rw[zp h]
   obtain ⟨r,h,_⟩:=bY (S:=Unit) (f:=qJ a b) a.length (fun i _=>((i:Int),())) (fun _ _=>True) (fun _=>True) (fun i _ hi _=>by
     unfold qJ
     simp only[am]
     rw[zp (by omega),bg hi,bg (by omega),wrap64 (by omega) (by omega)]
     simp only[zb,yx,bm]
     by_cases c:a[i]=b[i]'(by omega)
     · rw[zp c]; exact .inl ⟨(),rfl,trivial⟩
     · rw[zn c]; exact .inr ⟨_,rfl,trivial⟩) (fun _ _=>by
     unfold qJ
     simp only[am]
     rw[zn (by omega)]
     exact ⟨_,rfl,trivial⟩) () trivial
   exact ⟨r,h⟩
 · rw[zn h]; exact ⟨_,rfl⟩
structure GoodS (s:St1):Prop where
 txns:TxnsOk s.1 20
 undos:CountsOk s.2.1
 known:DOk s.2.2.1 100
 fast:DOk s.2.2.2.1 100
 rlen:s.2.2.2.2.1.length=8
 redo:∀ l∈s.2.2.2.2.1,l.length≤40
theorem xg {s:St1} (hw:Wide s) (hs:ShortS s):∃ b,zb1 s=some b∧(b=true→GoodS s):=by
 have n1:=hs.txns; have n2:=hs.undos; have n3:=hs.known; have n4:=hs.fast; have hr:=hw.redo
 have no:∀ {Q:Prop},∃ b,some false=some b∧(b=true→Q):=fun {Q}=>⟨false,rfl,fun h=>by cases h⟩
 unfold zb1
 simp only[am]
 rw[zn (by omega),xe (by omega)]
 simp only[zb]
 by_cases r1:∀ i,i<s.1.length-1→lE (·.1) s.1 i=true
 rotate_left
 · rw[zn r1]; exact no
 rw[zp r1,Bool.not_true,cond_false,aag (by omega)]
 simp only[zb]
 by_cases r2:∀ i,i<s.2.1.length→gh s.2.1 i=true
 rotate_left
 · rw[zn r2]; exact no
 rw[zp r2,Bool.not_true,cond_false]
 obtain ⟨b3,r3,k3⟩:=od hw.fast n4
 rw[r3]
 simp only[zb]
 cases b3 with
 | false=>exact no
 | true =>
 rw[Bool.not_true,cond_false]
 have l1:=ek (f:=qV) (l:=s.1) (fun i=>((i:Int),s,())) (fun t=>txnM t=0) (.inl (s,())) (.inr false) (fun i h=>by
   unfold qV
   simp only[am]
   rw[zp (by omega),bg h]
   simp only[zb]
   rw[sF (hs.all _ (zm h)),wrap64 (by omega) (by omega)]
   simp only[zb,bm]
   by_cases c:txnM s.1[i]=0
   · rw[zp c]; exact .inl ⟨rfl,c⟩
   · rw[zn c]; exact .inr rfl) (by
   unfold qV
   simp only[am]
   rw[zn (by omega)])
 rcases l1 with ⟨h1,h2⟩ | h1
 rotate_left
 · rw[show ((0:Int),s,())=(((0:Nat):Int),s,()) from rfl,h1]; exact no
 rw[show ((0:Int),s,())=(((0:Nat):Int),s,()) from rfl,h1,aF]
 simp only
 have l2:(aN lc (((0:Nat):Int),s,())=some (.inl (s,()))∧∀ l∈s.2.2.2.2.1,True)∨aN lc (((0:Nat):Int),s,())=some (.inr false):=by
   refine ek (f:=lc) (l:=s.2.2.2.2.1) (fun i=>((i:Int),s,())) (fun _=>True) (.inl (s,())) (.inr false) (fun i h => ?_) ?_
   · have hl:=hs.redo _ (zm h)
     have inner:=ek (f:=mA ((i:Int),s,())) (l:=s.2.2.2.2.1[i]) (fun k=>((k:Int),s,())) (fun _=>True) (.inl ((((i+1:Nat):Int),s,()))) (.inr (.inr false)) (fun k hk=>by
       unfold mA
       simp only
       rw[dI (show i<8 by omega)]
       simp only[zb]
       rw[zg h]
       simp only[zb,am]
       rw[zp (by omega),bg hk,wrap64 (n:=(k:Int)+1) (by omega) (by omega)]
       simp only[zb,cS]
       cases aM s.2.2.2.2.1[i][k] with
       | false=>exact .inr rfl
       | true=>exact .inl ⟨rfl,trivial⟩) (by
       unfold mA
       simp only
       rw[dI (show i<8 by omega)]
       simp only[zb]
       rw[zg h]
       simp only[zb,am]
       rw[zn (by omega),wrap64 (n:=(i:Int)+1) (by omega) (by omega)]; rfl)
     unfold lc
     simp only[am]
     rw[zp (by omega),dI (by omega)]
     simp only[zb]
     rw[zg h]
     simp only[zb]
     rw[zn (by omega)]
     rcases inner with ⟨q,_⟩ | q
     · exact .inl ⟨q,trivial⟩
     · exact .inr q
   · unfold lc
     simp only[am]
     rw[zn (by omega)]
 rcases l2 with ⟨h3,_⟩ | h3
 rotate_left
 · rw[show ((0:Int),s,())=(((0:Nat):Int),s,()) from rfl,h3]; exact no
 rw[show ((0:Int),s,())=(((0:Nat):Int),s,()) from rfl,h3,aF]
 simp only
 obtain ⟨b5,r5,k5⟩:=od hw.known n3
 rw[r5]
 simp only[zb]
 cases b5 with
 | false=>exact no
 | true =>
 rw[cond_true]
 obtain ⟨kn,hk⟩:=ahd (l:=s.1) (by omega)
 rw[hk]
 simp only[zb]
 have fin:GoodS s:=⟨⟨n1,sQ r1,fun t ht=>apB (hs.all t ht) (h2 t ht)⟩,counts_of n2 r2,k5 rfl,k3 rfl,hr,hs.redo⟩
 unfold zcj
 cases eqV (.arr 16 (.int .i64)) s.2.2.1.1 kn.1 with
 | false=>exact ⟨false,rfl,fun _=>fin⟩
 | true =>
   obtain ⟨c,hc⟩:=aab (a:=s.2.2.1.2.1) (b:=kn.2.1) (by omega)
   rw[cond_true,hc]
   exact ⟨c,rfl,fun _=>fin⟩
theorem aaI {s:St1} (hw:Wide s):∃ b,zcy s=some b∧(b=true→GoodS s):=by
 obtain ⟨b,h1,h2⟩:=wZ hw
 unfold zcy
 rw[h1]
 simp only[zb]
 cases b with
 | false=>exact ⟨false,rfl,fun h=>by cases h⟩
 | true =>
   obtain ⟨c,h3,h4⟩:=xg hw (h2 rfl)
   rw[cond_true,h3]
   exact ⟨c,rfl,h4⟩
def eY:List Ref1→Ref1→List Ref1
 | [],x=>[x]
 | y::l,x=>if cmpD y.1 x.1<0 then y::eY l x else if 0<cmpD y.1 x.1 then x::y::l else (y.1,max y.2.1 x.2.1,())::l
theorem oE {x:Ref1}:∀ (l:List Ref1),(eY l x).length≤l.length+1
 | []=>by simp[eY]
 | y::l=>by
   have:=oE (x:=x) l
   unfold eY
   split
   · simp; omega
   · split<;>simp
theorem oD {x z:Ref1}:∀ {l:List Ref1},z∈eY l x→z.1=x.1∨∃ y∈l,z.1=y.1
 | [],h=>by
   rw[List.mem_singleton.1 h]; exact .inl rfl
 | y::l,h=>by
   unfold eY at h
   split at h
   · rcases List.mem_cons.1 h with e | h
     · exact .inr ⟨y,List.mem_cons_self ..,by rw[e]⟩
     · rcases oD h with e | ⟨w,w1,w2⟩
       · exact .inl e
       · exact .inr ⟨w,List.mem_cons_of_mem _ w1,w2⟩
   · split at h
     · rcases List.mem_cons.1 h with e | h
       · exact .inl (by rw[e])
       · exact .inr ⟨z,h,rfl⟩
     · rcases List.mem_cons.1 h with e | h
       · exact .inr ⟨y,List.mem_cons_self ..,by rw[e]⟩
       · exact .inr ⟨z,List.mem_cons_of_mem _ h,rfl⟩
theorem oC {x:Ref1} (hx:oneM x=true):∀ {l:List Ref1},(∀ y∈l,oneM y=true)→∀ z∈eY l x,oneM z=true
 | [],_,z,h=>by rw[List.mem_singleton.1 h]; exact hx
 | y::l,hl,z,h=>by
   unfold eY at h
   split at h
   · rcases List.mem_cons.1 h with e | h
     · rw[e]; exact hl y (List.mem_cons_self ..)
     · exact oC hx (fun w hw=>hl w (List.mem_cons_of_mem _ hw)) z h
   · split at h
     · rcases List.mem_cons.1 h with e | h
       · rw[e]; exact hx
       · exact hl z h
     · rcases List.mem_cons.1 h with e | h
       · have hy:=hl y (List.mem_cons_self ..)
         rw[e]
         unfold oneM at hx hy ⊢
         simp only[Bool.and_eq_true,decide_eq_true_eq] at hx hy ⊢
         exact ⟨hy.1,by omega,by omega⟩
       · exact hl z (List.mem_cons_of_mem _ h)
theorem lM {x:Ref1}:∀ {l:List Ref1},kM l→kM (eY l x)
 | [],_=>List.pairwise_singleton ..
 | y::l,h=>by
   have h1:=List.pairwise_cons.1 h
   unfold eY
   split
   · rename_i c
     refine List.pairwise_cons.2 ⟨fun z hz => ?_,lM h1.2⟩
     show cmpD y.1 z.1<0
     rcases oD hz with e | ⟨w,w1,w2⟩
     · rw[e]; exact c
     · rw[w2]; exact h1.1 w w1
   · rename_i c
     split
     · rename_i d
       have d':cmpD x.1 y.1<0:=by have:=bR.neg x.1 y.1; omega
       refine List.pairwise_cons.2 ⟨fun z hz => ?_,h⟩
       rcases List.mem_cons.1 hz with e | hz
       · rw[e]; exact d'
       · exact bR.trans _ _ _ d' (h1.1 z hz)
     · exact List.pairwise_cons.2 ⟨h1.1,h1.2⟩
theorem rH {x:Ref1} (hx:0≤x.2.1) {d:Dot1}:∀ {l:List Ref1},kM l→getM (eY l x) d=if d=x.1 then max (getM l d) x.2.1 else getM l d
 | [],_=>by
   unfold eY getM getM
   by_cases h:x.1=d
   · rw[zp h,zp h.symm]; omega
   · rw[zn h,zn (fun e=>h e.symm)]
 | y::l,h=>by
   have h1:=List.pairwise_cons.1 h
   have ih:=rH hx (d:=d) h1.2
   unfold eY
   by_cases c:cmpD y.1 x.1<0
   · rw[zp c]
     conv=>lhs; unfold getM
     conv=>rhs; unfold getM
     by_cases e:y.1=d
     · rw[zp e,zp e]
       have ne:d≠x.1:=fun e2=>by rw[e,e2,(bR.zero _ _).2 rfl] at c; omega
       rw[zn ne]
     · rw[zn e,zn e,ih]
   · rw[zn c]
     by_cases c2:0<cmpD y.1 x.1
     · rw[zp c2]
       conv=>lhs; unfold getM
       by_cases e:x.1=d
       · rw[zp e,zp e.symm,j0]
         · omega
         · intro z hz
           rcases List.mem_cons.1 hz with q | hz
           · rw[q,← e]; exact ki (by omega)
           · have:=bR.trans _ _ _ (show cmpD x.1 y.1<0 by have:=bR.neg x.1 y.1; omega) (h1.1 z hz)
             have q:cmpD x.1 z.1<0:=this
             rw[← e]; exact ki (by have:=bR.neg z.1 x.1; omega)
       · rw[zn e,zn (fun q=>e q.symm)]
     · rw[zn c2]
       have e0:y.1=x.1:=(bR.zero _ _).1 (by omega)
       conv=>lhs; unfold getM
       conv=>rhs; unfold getM
       by_cases e:y.1=d
       · rw[zp e,zp e,zp (by rw[← e,e0])]
       · rw[zn e,zn e,zn (fun q=>e (by rw[e0,q]))]
theorem jY:∀ (a out:List Ref1),a.length+out.length<1000000→aN eS (a,[],out,())=some (out++a)
 | [],out,_=>by
   refine (aH ?_).trans (by rw[List.append_nil])
   unfold eS
   simp
 | y::a,out,h=>by
   have turn:eS (y::a,[],out,())=some (.inl (a,[],out++[y],())):=by
     unfold eS
     simp only[am,zl,List.length_nil]
     rw[zp (by omega),aF,zn (by omega),zn (by omega),aF]
     simp only
     rw[zp (by omega),show atI (y::a) 0=some y from rfl]
     simp only[zb]
     rw[ct (by simp at h ⊢; omega)]
     simp only[zb]
     rw[show ((a.length+1:Nat):Int)=((y::a).length:Int) from rfl,show (1:Int)=((1:Nat):Int) from rfl,d8 (by simp)]
     rfl
   rw[aL turn,jY a (out++[y]) (by simp at h ⊢; omega),List.append_assoc]; rfl
theorem lN:∀ (a out:List Ref1),a.length+out.length<1000000→aN eS ([],a,out,())=some (out++a)
 | [],out,_=>by
   refine (aH ?_).trans (by rw[List.append_nil])
   unfold eS
   simp
 | y::a,out,h=>by
   have turn:eS ([],y::a,out,())=some (.inl ([],a,out++[y],())):=by
     unfold eS
     simp only[am,zl,List.length_nil]
     rw[zn (by omega),zp (by omega),aF,zp (by omega),aF]
     simp only
     rw[zn (by omega),zp (by omega),show atI (y::a) 0=some y from rfl]
     simp only[zb]
     rw[ct (by simp at h ⊢; omega)]
     simp only[zb]
     rw[show ((a.length+1:Nat):Int)=((y::a).length:Int) from rfl,show (1:Int)=((1:Nat):Int) from rfl,d8 (by simp)]
     rfl
   rw[aL turn,lN a (out++[y]) (by simp at h ⊢; omega),List.append_assoc]; rfl
theorem oB {x:Ref1}:∀ (a out:List Ref1),a.length+out.length<900000→aN eS (a,[x],out,())=some (out++eY a x)
 | [],out,h=>by rw[lN [x] out (by simp at h ⊢; omega)]; rfl
 | y::a,out,h=>by
   simp only[zl] at h
   have head:eS (y::a,[x],out,())=if cmpD y.1 x.1<0 then some (.inl (a,[x],out++[y],())) else if 0<cmpD y.1 x.1 then some (.inl (y::a,[],out++[x],())) else some (.inl (a,[],out++[(y.1,max y.2.1 x.2.1,())],())):=by
     unfold eS
     simp only[am,zl,List.length_nil]
     rw[zp (by omega),aF,zn (by omega),zp (by omega),show atI (y::a) 0=some y from rfl,show atI [x] 0=some x from rfl]
     simp only[zb,mE]
     rw[jX]
     simp only
     rw[ct (show out.length+1<4294967296 by omega),show ((a.length+1:Nat):Int)=((y::a).length:Int) from rfl,show ((0+1:Nat):Int)=(([x]:List Ref1).length:Int) from rfl,show (1:Int)=((1:Nat):Int) from rfl,d8 (l:=y::a) (i:=1) (by simp),d8 (l:=[x]) (i:=1) (by simp)]
     rfl
   unfold eY
   by_cases c:cmpD y.1 x.1<0
   · rw[zp c] at head ⊢
     rw[aL head,oB a (out++[y]) (by simp; omega),List.append_assoc]; rfl
   · rw[zn c] at head ⊢
     by_cases c2:0<cmpD y.1 x.1
     · rw[zp c2] at head ⊢
       rw[aL head,jY (y::a) (out++[x]) (by simp; omega),List.append_assoc]; rfl
     · rw[zn c2] at head ⊢
       rw[aL head,jY a (out++[(y.1,max y.2.1 x.2.1,())]) (by simp; omega),List.append_assoc]; rfl
theorem ahf {a:List Ref1}{x:Ref1} (h:a.length<800000):zcz a [x]=some (eY a x):=by
 unfold zcz
 rw[oB a [] (by simp; omega)]; rfl
structure UOk (u:List Ref1) (n:Nat):Prop where
 len:u.length≤n
 rise:kM u
 one:∀ x∈u,oneM x=true
theorem UOk.low {u:List Ref1}{n:Nat} (h:UOk u n) (hn:n<100000):LowU u:=⟨by have:=h.len; omega,h.rise⟩
theorem UOk.join {u:List Ref1}{n:Nat}{x:Ref1} (h:UOk u n) (hx:oneM x=true):UOk (eY u x) (n+1):=⟨by have:=oE (x:=x) u; have:=h.len; omega,lM h.rise,oC hx h.one⟩
theorem rI {d:Dot1}:∀ {u:List Ref1},(∀ x∈u,oneM x=true)→0≤getM u d∧getM u d≤64
 | [],_=>by unfold getM; omega
 | x::u,h=>by
   unfold getM
   by_cases e:x.1=d
   · rw[zp e]
     have:=h x (List.mem_cons_self ..)
     unfold oneM at this
     simp only[Bool.and_eq_true,decide_eq_true_eq] at this
     omega
   · rw[zn e]; exact rI fun y hy=>h y (List.mem_cons_of_mem _ hy)
theorem nV {u:List Ref1}{d:Dot1} (h:0≤getM u d):fP u d=decide (getM u d%2=0):=by
 unfold fP remT
 rw[zn (by omega)]
 simp only
 rw[Int.tmod_eq_emod_of_nonneg h]
theorem lm {u:List Ref1}{d:Dot1}{n:Nat} (h:UOk u n) (hn:n<100000) :
   zbv u d=some (if aM d=false then (((0,0,()),0,()),2,()) else if getM u d≥64 then (((0,0,()),0,()),14,()) else ((d,getM u d+1,()),0,())):=by
 have hg:=rI (d:=d) h.one
 unfold zbv
 rw[lh (h.low hn).len h.rise,cV]
 simp only[zb,am]
 rw[wrap64 (by omega) (by omega)]
 cases aM d with
 | false=>rfl
 | true =>
   by_cases c:getM u d≥64<;>simp[c]
structure StOk (s:St1) (n:Nat):Prop where
 txns:s.1.length≤1000
 undos:UOk s.2.1 n
 vec:s.2.2.2.1.1.length=16
 more:s.2.2.2.1.2.1.length≤100000
 rlen:s.2.2.2.2.1.length=8
theorem GoodS.st {s:St1} (h:GoodS s):StOk s 100:=⟨by have:=h.txns.len; omega,⟨h.undos.len,h.undos.rise,h.undos.one⟩,h.fast.vec,by have:=h.fast.len; omega,h.rlen⟩
theorem ey {s:St1}{n:Nat}{d:Dot1} (h:StOk s n) (hn:n<100000):∃ b,zdl s.2.2.2.1 d=some b∧zdf s d=some (if b=true then 13 else if aM d=false then 2 else if getM s.2.1 d≥64 then 14 else 0):=by
 obtain ⟨b,hb⟩:=oT (d:=d) h.vec (by have:=h.more; omega)
 refine ⟨b,hb,?_⟩
 unfold zdf
 rw[hb,lm h.undos hn]
 simp only[zb]
 cases b with
 | true=>rfl
 | false =>
   by_cases c1:aM d=false<;>by_cases c2:getM s.2.1 d≥64<;>simp[c1,c2]
def keyT (t:Txn1):Int×Dot1:=(t.2.2.1,t.1)
def apW:Int×Dot1→Int×Dot1→Int:=cmpB cmpI cmpD
theorem oW:Cmp apW:=rU.pair bR
def cmpT (a b:Txn1):Int:=apW (keyT a) (keyT b)
theorem wR (a b:Txn1):zbm a b=some (cmpT a b):=by
 unfold zbm
 rw[oY,fk]
 simp only[zb]
 rw[or_t]; rfl
def Cand (s:St1) (user:Int) (t:Txn1):Prop:=t∈s.1∧t.2.1=user∧fP s.2.1 t.1=true
structure Best (s:St1) (user:Int) (t:Txn1):Prop where
 cand:Cand s user t
 top:∀ x,Cand s user x→cmpT x t≤0
theorem jt {s:St1}{n:Nat}{user:Int} (h:StOk s n) (hn:n<100000) :
   ((∀ t,¬ Cand s user t)∧zck s user=some ((0,0,()),11,())) ∨
   ∃ t e,Best s user t∧zdf s t.1=some e∧zck s user=some (if e=0 then (t.1,0,()) else ((0,0,()),e,())):=by
 have hl:=h.txns
 have hu:=h.undos.low hn
 obtain ⟨r, h1, b, z, rfl, h2⟩ := bY (S := Option Txn1) (f := qK s user) s.1.length (fun i b => (b, (i : Int), (0, 0, ()), ())) (fun i b => match b with
     | none=>∀ k (hk:k<s.1.length),k<i→¬ (s.1[k].2.1=user∧fP s.2.1 s.1[k].1=true)
     | some t=>Cand s user t∧∀ k (hk:k<s.1.length),k<i→s.1[k].2.1=user∧fP s.2.1 s.1[k].1=true→cmpT s.1[k] t≤0)
   (fun r=>∃ b z,r = .inl (b,z,())∧match b with
     | none=>∀ t,¬ Cand s user t
     | some t=>Best s user t) (fun i b hi hv=>by
   have hm:=zm hi
   have hw:IntKind.wrap .i64 ((i:Int)+1)=((i+1:Nat):Int):=by rw[wrap64 (by omega) (by omega)]; rfl
   have fst:(if s.1[i].2.1=user then ((zci s.2.1 s.1[i].1).bind fun r2=>some (r2,((0,0,()):Dot1),())) else some (false,((0,0,()):Dot1),()))=some (decide (s.1[i].2.1=user∧fP s.2.1 s.1[i].1=true),((0,0,()):Dot1),()):=by
     by_cases c:s.1[i].2.1=user
     · rw[zp c,ex hu.len hu.rise]
       simp[c]
     · rw[zn c]; simp[c]
   refine .inl ?_
   unfold qK
   simp only[am]
   rw[zp (by omega),bg hi]
   simp only[zb]
   rw[fst]
   simp only[zb,am,hw]
   by_cases c:s.1[i].2.1=user∧fP s.2.1 s.1[i].1=true
   · rw[zp c]
     cases b with
     | none =>
       refine ⟨some s.1[i],rfl,⟨hm,c.1,c.2⟩,fun k hk hki hc => ?_⟩
       by_cases e:k=i
       · subst e
         have:=(oW.zero (keyT s.1[k]) (keyT s.1[k])).2 rfl
         unfold cmpT; omega
       · exact absurd hc (hv k hk (by omega))
     | some t =>
       obtain ⟨v1,v2⟩:=hv
       simp only[Option.isNone_some,cond_false,zb,wR]
       by_cases d:cmpT t s.1[i]<0
       · rw[zp d]
         refine ⟨some s.1[i],rfl,⟨hm,c.1,c.2⟩,fun k hk hki hc => ?_⟩
         by_cases e:k=i
         · subst e
           have:=(oW.zero (keyT s.1[k]) (keyT s.1[k])).2 rfl
           unfold cmpT; omega
         · have q:=v2 k hk (by omega) hc
           rcases Int.lt_or_eq_of_le q with q | q
           · have:=oW.trans _ _ _ q d
             unfold cmpT; omega
           · have:=(oW.zero _ _).1 q
             unfold cmpT at d ⊢
             rw[this]; omega
       · rw[zn d]
         refine ⟨some t,rfl,v1,fun k hk hki hc => ?_⟩
         by_cases e:k=i
         · subst e
           have:=oW.neg (keyT t) (keyT s.1[k])
           unfold cmpT at d ⊢
           omega
         · exact v2 k hk (by omega) hc
   · rw[zn c]
     refine ⟨b,rfl,?_⟩
     cases b with
     | none =>
       exact fun k hk hki=>by
         by_cases e:k=i
         · subst e; exact c
         · exact hv k hk (by omega)
     | some t =>
       exact ⟨hv.1,fun k hk hki hc=>by
         by_cases e:k=i
         · subst e; exact absurd hc c
         · exact hv.2 k hk (by omega) hc⟩) (fun b hv=>by
   unfold qK
   simp only[am]
   rw[zn (by omega)]
   refine ⟨_,rfl,b,_,rfl,?_⟩
   cases b with
   | none =>
     exact fun t ht=>by
       obtain ⟨k,hk,rfl⟩:=List.mem_iff_getElem.1 ht.1
       exact hv k hk hk ht.2
   | some t =>
     exact ⟨hv.1,fun x hx=>by
       obtain ⟨k,hk,rfl⟩:=List.mem_iff_getElem.1 hx.1
       exact hv.2 k hk hk hx.2⟩) none (fun k hk hki=>by omega)
 unfold zck
 rw[show ((none:Option Txn1),(0:Int),((0,0,()):Dot1),())=(none,((0:Nat):Int),(0,0,()),()) from rfl,h1,aF]
 cases b with
 | none=>exact .inl ⟨h2,rfl⟩
 | some t =>
   obtain ⟨c,hc,hm⟩:=ey (d:=t.1) h hn
   refine .inr ⟨t,_,h2,hm,?_⟩
   simp only[Option.isNone_some,cond_false,zb]
   rw[hm]
   simp only[zb,bm]
   exact (apply_ite some _ _ _).symm
abbrev nL (user:Int) (u:Ref1) (back:Int):asf:=(2,((0,0,()),0,0,false,[],()),user,u,back,([],[],[],()),([],[],([0,0,0,0,0,0,0,0,0,0,0,0,0,0,0,0],[],()),([0,0,0,0,0,0,0,0,0,0,0,0,0,0,0,0],[],()),[[],[],[],[],[],[],[],[]],()),())
theorem pM {x:Ref1} (h:oneM x=true):zbi [x]=some true:=by
 unfold oneM at h
 simp only[Bool.and_eq_true,decide_eq_true_eq] at h
 have t1:nJ [x] (0,())=some (.inl (1,())):=by
   unfold nJ
   rw[show atI [x] 0=some x from rfl]
   simp only[zb,cV,h.1,Bool.not_true,cond_false,am,List.length_singleton]
   rw[zp (by decide),zn (by omega),zf (show ¬ x.2.1<1 by omega)]
   simp only[cond_false,zb]
   rw[zf (show ¬ x.2.1>64 by omega)]
   rfl
 have t2:nJ [x] (1,())=some (.inr true):=by
   unfold nJ
   rfl
 unfold zbi
 rw[aL t1,aH t2]
theorem wS {s:St1}{n:Nat}{user:Int}{d:Dot1}{back:Int} (h:StOk s n) (hn:n<100000) (hu:0≤user∧user<8) (hb:0≤back∧back≤2) (hd:aM d=true) (hg:getM s.2.1 d<64) :
   zcp s user d back=some (nL user (d,getM s.2.1 d+1,()) back,0,()):=by
 have hg0:=rI (d:=d) h.undos.one
 have h1:oneM (d,getM s.2.1 d+1,())=true:=by
   unfold oneM
   simp only[Bool.and_eq_true,decide_eq_true_eq]
   exact ⟨hd,by omega,by omega⟩
 unfold zcp
 rw[lm h.undos hn,zn (by rw[hd]; decide),zn (by omega)]
 simp only[zb,bm]
 rw[zp trivial]
 have e:zbh (nL user (d,getM s.2.1 d+1,()) back)=some true:=by
   unfold zbh zbj
   simp only[am]
   rw[zn (by decide),zp trivial,zp hu.1]
   simp only[zb,am]
   rw[zp hu.2,pM h1]
   simp only[zb,cond_true]
   rw[zp hb.1,zt hb.2]
 unfold nL at e
 rw[e]
 rfl
theorem pL {l:List Dot1}{user:Int}{u:Ref1} (h:l.length<100000):zb4 l (nL user u 1)=some (l++[u.1]):=by
 unfold zb4
 simp only[am]
 rw[zp trivial]
 have e1:zay l=some l:=by
   unfold zay er
   rw[zp (by simp only[most]; omega)]
 rw[e1]
 simp only[zb]
 rw[ct (by simp; omega)]
 rfl
theorem mF {s:St1}{n:Nat}{user:Int}{u:Ref1}{back:Int}{l m:List Dot1}{k:Nat} (h:StOk s n) (hn:n<100000) (hk:k<8) (hu:user=(k:Int)) (hl:s.2.2.2.2.1[k]? = some l) (hm:zb4 l (nL user u back)=some m) :
   zcd s (nL user u back)=some (s.1,eY s.2.1 u,s.2.2.1,s.2.2.2.1,s.2.2.2.2.1.set k m,()):=by
 subst hu
 unfold zcd zbo
 simp only[am]
 rw[zn (by decide),zp trivial,ahf (by have:=h.undos.len; omega)]
 simp only[zb]
 rw[dI hk]
 simp only[zb]
 rw[hl]
 simp only[zb]
 rw[hm]
 rfl
structure Undone (s u:St1) (t:Txn1) (k:Nat) (l:List Dot1):Prop where
 txns:u.1=s.1
 get:∀ d,getM u.2.1 d=if d=t.1 then getM s.2.1 t.1+1 else getM s.2.1 d
 st:StOk u 101
 fast:u.2.2.2.1=s.2.2.2.1
 redo:u.2.2.2.2.1[k]? = some (l++[t.1])
theorem wQ {s:St1}{user:Int}{k:Nat}{t:Txn1}{l:List Dot1} (st:StOk s 100) (hr:aM t.1=true) (hlen:l.length≤40) (hk:k<8) (hu:user=(k:Int)) (hb:Best s user t) (h0:zdf s t.1=some 0) (hl:s.2.2.2.2.1[k]? = some l) :
   ∃ u,zcp s user t.1 1=some (nL user (t.1,getM s.2.1 t.1+1,()) 1,0,())∧zcd s (nL user (t.1,getM s.2.1 t.1+1,()) 1)=some u∧Undone s u t k l ∧
     getM s.2.1 t.1<64∧aM t.1=true∧zdl s.2.2.2.1 t.1=some false:=by
 obtain ⟨b,hb1,hb2⟩:=ey (d:=t.1) st (by omega)
 rw[h0] at hb2
 have hg0:=rI (d:=t.1) st.undos.one
 have hbf:b=false∧getM s.2.1 t.1<64:=by
   simp only[Option.some.injEq] at hb2
   cases b with
   | true=>simp at hb2
   | false =>
     rw[hr] at hb2
     by_cases c:getM s.2.1 t.1≥64
     · simp[c] at hb2
     · exact ⟨rfl,by omega⟩
 obtain ⟨rfl,hg⟩:=hbf
 have h1:oneM (t.1,getM s.2.1 t.1+1,())=true:=by
   unfold oneM
   simp only[Bool.and_eq_true,decide_eq_true_eq]
   exact ⟨hr,by omega,by omega⟩
 have hrl:=st.rlen
 refine ⟨_,wS st (by omega) (by omega) (by omega) hr hg,mF st (by omega) hk hu hl (pL (by omega)),⟨rfl,fun d => ?_,⟨st.txns,st.undos.join h1,st.vec,st.more,by simp only[List.length_set]; exact hrl⟩,rfl,?_⟩,hg,hr,hb1⟩
 · simp only
   rw[rH (by simp only; omega) st.undos.rise]
   by_cases c:d=t.1
   · rw[zp c,zp c,c]; simp only; omega
   · rw[zn c,zn c]
 · simp only
   rw[List.getElem?_set_self (by omega)]
theorem wT {u:St1}{user:Int}{k:Nat}{l:List Dot1}{d:Dot1} (h:StOk u 101) (hk:k<8) (hu:user=(k:Int)) (hl:u.2.2.2.2.1[k]? = some (l++[d])) (hn:l.length≤100) (hs:fP u.2.1 d=false) (hm:zdf u d=some 0) :
   zcu u user=some (d,0,()):=by
 subst hu
 have lowU:=h.undos.low (by omega)
 unfold zcu
 simp only[am]
 rw[zn (by omega),zn (by omega),dI hk]
 simp only[zb]
 rw[hl]
 simp only[zb]
 rw[wrap64 (by simp only[List.length_append,List.length_singleton]; omega) (by simp only[List.length_append,List.length_singleton]; omega),show ((l++[d]).length:Int)-1=(l.length:Int) by simp only[List.length_append,List.length_singleton]; omega]
 refine aH ?_
 unfold kW
 simp only[am]
 rw[zp (by omega),kr,List.getElem?_append_right (Nat.le_refl _),Nat.sub_self]
 simp only[List.getElem?_cons_zero,zb]
 rw[ex lowU.len lowU.rise,hs]
 simp only[zb,cond_false]
 rw[hm]
 rfl
theorem ag3 {u:St1}{d:Dot1}{g:Int} (h:StOk u 101) (hd:aM d=true) (hf:zdl u.2.2.2.1 d=some false) (hg:getM u.2.1 d<64):zdf u d=some 0:=by
 obtain ⟨b,hb1,hb2⟩:=ey (d:=d) h (by omega)
 rw[hf] at hb1
 cases hb1
 rw[hb2,hd]
 simp only[Bool.false_eq_true,Bool.true_eq_false,if_false]
 rw[zn (by omega)]
theorem oM {l:List Txn1}{d:Dot1} (hl:l.length<1000000) :
   ∃ k:Nat,k≤l.length∧∃ b,zac l d ()=some ((k:Int),b,())∧(b=true→∃ x∈l,x.1=d):=by
 obtain ⟨k,h1,h2⟩:=qw (f:=qX l d) (fun m=>match l[m]? with | some x=>decide (cmpD x.1 d<0) | none=>false) l.length (fun i j hij hj=>by
   have hh:(i+j)/2<l.length:=by omega
   unfold qX zcw
   simp only[am]
   rw[zp (by omega),show (i:Int)+(j:Int)=((i+j:Nat):Int) by omega,oI (by omega)]
   simp only[zb]
   rw[wrap64 (n:=(((i+j)/2:Nat):Int)) (by omega) (by omega),bg hh]
   simp only[zb,fk,zg hh,decide_eq_true_eq]
   rw[wrap64 (by omega) (by omega)]
   by_cases hc:cmpD l[(i+j)/2].1 d<0
   · rw[zp hc,zp hc]; rfl
   · rw[zn hc,zn hc]) (fun i=>by
   unfold qX
   simp only[am]
   rw[zn (by omega)])
 refine ⟨k,h1,?_⟩
 unfold zac
 rw[h2,aF]
 simp only[am]
 by_cases hk:k<l.length
 · rw[zp (by omega),bg hk]
   unfold zcw
   simp only[zb,fk]
   exact ⟨_,rfl,fun h=>⟨_,zm hk,(bR.zero _ _).1 (of_decide_eq_true h)⟩⟩
 · rw[zn (by omega)]
   exact ⟨_,rfl,fun h=>by cases h⟩
theorem xy {l:List Txn1}{d:Dot1} (hl:l.length<1000000) :
   ∃ k:Nat,k≤l.length∧∃ b,zad l d ()=some ((k:Int),b,())∧(b=true→∃ x∈l,x.1=d):=by
 obtain ⟨k,h1,h2⟩:=qw (f:=qW l d) (fun m=>match l[m]? with | some x=>decide (cmpD x.1 d<0) | none=>false) l.length (fun i j hij hj=>by
   have hh:(i+j)/2<l.length:=by omega
   unfold qW zc9
   simp only[am]
   rw[zp (by omega),show (i:Int)+(j:Int)=((i+j:Nat):Int) by omega,oI (by omega)]
   simp only[zb]
   rw[wrap64 (n:=(((i+j)/2:Nat):Int)) (by omega) (by omega),bg hh]
   simp only[zb,fk,zg hh,decide_eq_true_eq]
   rw[wrap64 (by omega) (by omega)]
   by_cases hc:cmpD l[(i+j)/2].1 d<0
   · rw[zp hc,zp hc]; rfl
   · rw[zn hc,zn hc]) (fun i=>by
   unfold qW
   simp only[am]
   rw[zn (by omega)])
 refine ⟨k,h1,?_⟩
 unfold zad
 rw[h2,aF]
 simp only[am]
 by_cases hk:k<l.length
 · rw[zp (by omega),bg hk]
   unfold zc9
   simp only[zb,fk]
   exact ⟨_,rfl,fun h=>⟨_,zm hk,(bR.zero _ _).1 (of_decide_eq_true h)⟩⟩
 · rw[zn (by omega)]
   exact ⟨_,rfl,fun h=>by cases h⟩
theorem rc {s:St1}{t:Txn1}{n:Nat} (hl:s.1.length≤500) (hk:DOk s.2.2.1 n) (hn:n<10000) (h:∀ x∈s.1,x.1≠t.1) :
   ∃ l' kn,zc0 s t=some (l',s.2.1,kn,s.2.2.2.1,s.2.2.2.2.1,())∧(∀ x,x∈l'↔x=t∨x∈s.1)∧l'.length=s.1.length+1∧DOk kn (n+1):=by
 have no:∀ {b:Bool},(b=true→∃ x∈s.1,x.1=t.1)→b=false:=fun {b} hb=>by
   cases b with
   | false=>rfl
   | true=>obtain ⟨x,h1,h2⟩:=hb rfl; exact absurd h2 (h x h1)
 obtain ⟨k1,_,b1,f1,g1⟩:=oM (l:=s.1) (d:=t.1) (by omega)
 obtain ⟨k2,l2,b2,f2,g2⟩:=xy (l:=s.1) (d:=t.1) (by omega)
 obtain ⟨kn,d1,d2⟩:=yz (d:=t.1) hk (by omega)
 rw[no g1] at f1
 rw[no g2] at f2
 have e1:za0 s.1=some s.1:=by
   unfold za0 er
   rw[zp (by simp only[most]; omega)]
 have e2:zax (k2:Int) [t] s.1=some ((),s.1.take k2++[t]++s.1.drop k2,()):=by
   unfold zax insT
   rw[zp ⟨by omega,by omega,by simp,by simp only[most,List.length_singleton]; omega⟩]
   simp
 refine ⟨s.1.take k2++[t]++s.1.drop k2,kn,?_,fun x => ?_,by simp; omega,d2⟩
 · unfold zc0 zdo zdv
   rw[f1,f2]
   simp only[zb,Bool.not_false,cond_true,cond_false,am]
   rw[zn (by decide),e1]
   simp only[zb]
   rw[e2]
   simp only[zb]
   rw[d1]
   rfl
 · rw[List.mem_append,List.mem_append,List.mem_singleton]
   constructor
   · intro hx
     rcases hx with (q | q) | q
     · exact .inr (List.mem_of_mem_take q)
     · exact .inl q
     · exact .inr (List.mem_of_mem_drop q)
   · intro hx
     rcases hx with q | q
     · exact .inl (.inr q)
     · rw[← List.take_append_drop k2 s.1] at q
       rcases List.mem_append.1 q with q | q
       · exact .inl (.inl q)
       · exact .inr q
theorem ahG {k:Nat} (h:k<16):([0,0,0,0,0,0,0,0,0,0,0,0,0,0,0,0]:List Int)[k]? = some 0:=by
 revert h; revert k; decide
theorem pN {d:Dot1} (h:aM d=true):zdl ([0,0,0,0,0,0,0,0,0,0,0,0,0,0,0,0],[],()) d=some false:=by
 obtain ⟨k,k1,k2,k3⟩:=dU h
 have hr:=h
 unfold aM at hr
 simp only[decide_eq_true_eq] at hr
 obtain ⟨m,_,b,hb,hb2⟩:=ke (l:=[]) (d:=d) (by simp)
 have:b=false:=by
   cases b with
   | false=>rfl
   | true=>obtain ⟨x,h1,_⟩:=hb2 rfl; cases h1
 subst this
 unfold zdl zdt
 rw[cV,h]
 simp only[zb,cond_true]
 rw[k3]
 simp only[zb]
 rw[ahG k1]
 simp only[zb,am]
 rw[zn (by omega),hb]
 rfl
theorem yH {a b:Txn1} (h:a.2.2.1<b.2.2.1):cmpT b a=1∧cmpT a b = -1:=by
 have h1:cmpT b a=orI (cmpI b.2.2.1 a.2.2.1) (cmpD b.1 a.1):=rfl
 have h2:cmpT a b=orI (cmpI a.2.2.1 b.2.2.1) (cmpD a.1 b.1):=rfl
 have e1:cmpI b.2.2.1 a.2.2.1=1:=by unfold cmpI; rw[zn (by omega),zp h]
 have e2:cmpI a.2.2.1 b.2.2.1 = -1:=by unfold cmpI; rw[zp h]
 rw[h1,h2,e1,e2]
 exact ⟨rfl,rfl⟩
theorem sG {s:St1}{n:Nat}{user:Int}{t:Txn1} (h:StOk s n) (hn:n<100000) (hc:Cand s user t) (hd:aM t.1=true) (hf:zdl s.2.2.2.1 t.1=some false) (hg:getM s.2.1 t.1<64) (hx:∀ x,Cand s user x→x≠t→x.2.2.1<t.2.2.1) :
   Best s user t∧zdf s t.1=some 0∧zck s user=some (t.1,0,()):=by
 have hm:zdf s t.1=some 0:=by
   obtain ⟨b,hb1,hb2⟩:=ey (d:=t.1) h hn
   rw[hf] at hb1
   cases hb1
   rw[hb2,hd]
   simp only[Bool.false_eq_true,Bool.true_eq_false,if_false]
   rw[zn (by omega)]
 rcases jt (user:=user) h hn with ⟨h1,_⟩ | ⟨t2,e,hb,he,hl⟩
 · exact absurd hc (h1 t)
 · by_cases c:t2=t
   · subst c
     rw[hm] at he
     cases he
     exact ⟨hb,hm,by rw[hl,zp rfl]⟩
   · have q:=hb.top t hc
     rw[(yH (hx t2 hb.cand c)).1] at q
     omega
theorem w7 {u:List Ref1}{d:Dot1} (h:getM u d=0):fP u d=true:=by
 rw[nV (by omega),h]; rfl
theorem ahz:zb0=some true:=by
 have r1:aM (0,1,())=true:=by decide
 have r2:aM (0,2,())=true:=by decide
 unfold zb0 zdh
 simp only[zb]
 obtain ⟨l1,k1,a1,a2,a3,a4⟩:=rc (s:=(([],[],([0,0,0,0,0,0,0,0,0,0,0,0,0,0,0,0],[],()),([0,0,0,0,0,0,0,0,0,0,0,0,0,0,0,0],[],()),[[],[],[],[],[],[],[],[]],()):St1)) (t:=((0,1,()),1,1,false,([(3,([[97]]:Path),(0,0,[],()),1,[],())]:List Op1),())) (n:=0) (by simp) ⟨rfl,by simp,fun d hd=>by cases hd⟩ (by omega) (fun x hx=>by cases hx)
 rw[a1]
 simp only[zb]
 have m1:∀ x,x∈l1→x=((0,1,()),1,1,false,([(3,([[97]]:Path),(0,0,[],()),1,[],())]:List Op1),()):=fun x hx=>by
   rcases (a2 x).1 hx with q | q
   · exact q
   · cases q
 obtain ⟨l2,k2,b1,b2,b3,b4⟩:=rc (s:=((l1,[],k1,([0,0,0,0,0,0,0,0,0,0,0,0,0,0,0,0],[],()),[[],[],[],[],[],[],[],[]],()):St1)) (t:=((0,2,()),1,2,false,([(3,([[97]]:Path),(0,0,[],()),1,[],())]:List Op1),())) (n:=1) (by simp only[List.length_nil] at a3; simp only; omega) a4 (by omega) (fun x hx=>by rw[m1 x hx]; decide)
 rw[b1]
 simp only[zb]
 have st:StOk (l2,[],k2,([0,0,0,0,0,0,0,0,0,0,0,0,0,0,0,0],[],()),[[],[],[],[],[],[],[],[]],()) 100:=⟨by simp only[List.length_nil] at a3 b3; simp only; omega,⟨by simp,List.Pairwise.nil,fun x hx=>by cases hx⟩,rfl,by simp,rfl⟩
 obtain ⟨hb,hm,hl⟩:=sG (user:=1) (t:=((0,2,()),1,2,false,([(3,([[97]]:Path),(0,0,[],()),1,[],())]:List Op1),())) st (by omega) ⟨(b2 _).2 (.inl rfl),rfl,w7 rfl⟩ r2 (pN r2) (by show (0:Int)<64; decide) (fun x hx hne=>by
   rcases (b2 x).1 hx.1 with q | q
   · exact absurd q hne
   · rw[m1 x q]; decide)
 rw[hl]
 simp only[zb]
 obtain ⟨u,u1,u2,hU,hg,hr,hd⟩:=wQ (user:=1) (k:=1) (l:=[]) st r2 (by simp) (by omega) rfl hb hm rfl
 rw[u1]
 simp only[zb]
 rw[u2]
 simp only[zb]
 have gu:getM u.2.1 (0,2,())=1:=by rw[hU.get,zp rfl]; rfl
 have odd:fP u.2.1 (0,2,())=false:=by rw[nV (by omega),gu]; rfl
 have mayU:zdf u (0,2,())=some 0:=ag3 (g:=0) hU.st r2 (by rw[hU.fast]; exact hd) (by omega)
 rw[wT (user:=1) (k:=1) hU.st (by omega) rfl hU.redo (by simp) odd mayU]
 simp only[zb]
 rcases jt (user:=0) st (by omega) with ⟨_,h0⟩ | ⟨t,e,hb0,_,_⟩
 · rw[h0]; rfl
 · rcases (b2 t).1 hb0.cand.1 with q | q
   · have:=hb0.cand.2.1; rw[q] at this; cases this
   · have:=hb0.cand.2.1; rw[m1 t q] at this; cases this
theorem agN {s:St1} (h:okV (.agg (.cons (.sl (.agg (.cons (.agg (.cons (.int .i64) (.cons (.int .i64) .unit))) (.cons (.int .i64) (.cons (.int .i64) (.cons .bool (.cons (.sl (.agg (.cons (.int .i64) (.cons (.sl .str) (.cons (.agg (.cons (.int .i64) (.cons (.int .i64) (.cons .str .unit)))) (.cons (.int .i64) (.cons (.sl (.agg (.cons (.agg (.cons (.int .i64) (.cons (.int .i64) .unit))) (.cons (.int .i64) .unit)))) .unit))))))) .unit))))))) (.cons (.sl (.agg (.cons (.agg (.cons (.int .i64) (.cons (.int .i64) .unit))) (.cons (.int .i64) .unit)))) (.cons (.agg (.cons (.arr 16 (.int .i64)) (.cons (.sl (.agg (.cons (.int .i64) (.cons (.int .i64) .unit)))) .unit))) (.cons (.agg (.cons (.arr 16 (.int .i64)) (.cons (.sl (.agg (.cons (.int .i64) (.cons (.int .i64) .unit)))) .unit))) (.cons (.arr 8 (.sl (.agg (.cons (.int .i64) (.cons (.int .i64) .unit))))) .unit)))))) s):Wide s:=by
 obtain ⟨_,_,h3,h4,h5,_⟩:=h
 exact ⟨h3.1.1,h4.1.1,h5.1⟩
end Go.Proofs.YtnbgkhdcidbkaaaGreatDoor.Q
