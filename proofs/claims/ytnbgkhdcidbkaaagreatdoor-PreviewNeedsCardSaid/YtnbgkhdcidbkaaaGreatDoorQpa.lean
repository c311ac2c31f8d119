import Derived.Test.YtnbgkhdcidbkaaaGreatDoorW
import Derived.Test.YtnbgkhdcidbkaaaGreatDoorT14
import Derived.Test.YtnbgkhdcidbkaaaGreatDoorT32
set_option linter.unusedVariables false
set_option linter.unusedSimpArgs false
set_option maxRecDepth 100000
namespace Go.Proofs.YtnbgkhdcidbkaaaGreatDoor.Q
open Go.EM Go.TY Go.Proofs Go.Proofs.YtnbgkhdcidbkaaaGreatDoor.Y
def aM:List UInt8→Int×Nat
 | []=>(0,0)
 | a::t =>
   if a.toNat<128 then (a.toNat,1)
   else if 194≤a.toNat∧a.toNat<224 then (match t with
     | b::_=>if 128≤b.toNat∧b.toNat≤191 then (64*((a.toNat:Int)-192)+b.toNat-128,2) else (0,0)
     | _=>(0,0))
   else if 224≤a.toNat∧a.toNat<240 then (match t with
     | b :: c :: _ => if (128 ≤ b.toNat ∧ b.toNat ≤ 191) ∧ (128 ≤ c.toNat ∧ c.toNat ≤ 191) then
         let r:Int:=64*(64*((a.toNat:Int)-224)+b.toNat-128)+c.toNat-128
         if r<2048∨(55296≤r∧r≤57343) then (0,0) else (r,3)
       else (0,0)
     | _=>(0,0))
   else if 240≤a.toNat∧a.toNat<245 then (match t with
     | b :: c :: d :: _ => if (128 ≤ b.toNat ∧ b.toNat ≤ 191) ∧ (128 ≤ c.toNat ∧ c.toNat ≤ 191) ∧ (128 ≤ d.toNat ∧ d.toNat ≤ 191) then
         let r:Int:=64*(64*(64*((a.toNat:Int)-240)+b.toNat-128)+c.toNat-128)+d.toNat-128
         if r<65536∨1114111<r then (0,0) else (r,4)
       else (0,0)
     | _=>(0,0))
   else (0,0)
theorem nX {s:List UInt8}{q:Int×Int×Int×Unit}{x:Int}{i:Nat}{b:UInt8} (hi:(i:Int)<q.2.1) (hi4:i≤4) (h:s[i]? = some b) (hx:0≤x) (hx2:x≤100000000) :
   gq s q (x,(i:Int),())=if 128≤b.toNat∧b.toNat≤191 then some (.inl (64*x+b.toNat-128,((i+1:Nat):Int),())) else some (.inr (.inr (0,0,()))):=by
 have hb:b.toNat<256:=b.toNat_lt
 simp only[gq,iJ,h,zb,ae,zp hi]
 rw[wrap64 (n:=64*x) (by omega) (by omega),wrap64 (n:=(b.toNat:Int)) (by omega) (by omega),wrap64 (n:=64*x+b.toNat) (by omega) (by omega),wrap64 (n:=64*x+b.toNat-128) (by omega) (by omega),wrap64 (n:=(i:Int)+1) (by omega) (by omega)]
 by_cases h1:b.toNat<128
 · rw[zp (by omega),zn (by omega)]
 · rw[zn (by omega)]
   by_cases h2:b.toNat>191
   · rw[zp (by omega),zn (by omega)]
   · rw[zn (by omega),zp (by omega)]; rfl
theorem ab6 {s:List UInt8}{q:Int×Int×Int×Unit}{x:Int}{i:Nat} (hi:¬ (i:Int)<q.2.1):gq s q (x,(i:Int),())=some (.inr (.inl (x,()))):=by
 simp only[gq,ae,zn hi]
theorem afH {a b:UInt8}{t:List UInt8}{l:Int}{c x:Int} (hx:0≤x) (hx2:x≤1000) :
   aK (gq (a::b::t) (c,2,l,())) (x,1,())=if 128≤b.toNat∧b.toNat≤191 then some (.inl (64*x+b.toNat-128,())) else some (.inr (0,0,())):=by
 have h:=nX (s:=a::b::t) (q:=(c,2,l,())) (i:=1) (b:=b) (x:=x) (by simp) (by omega) rfl hx (by omega)
 by_cases hb:128≤b.toNat∧b.toNat≤191
 · rw[zp hb] at h ⊢
   exact (aJ h).trans (aD (ab6 (by simp)))
 · rw[zn hb] at h ⊢
   exact aD h
theorem afG {a b d:UInt8}{t:List UInt8}{l:Int}{c x:Int} (hx:0≤x) (hx2:x≤1000) :
   aK (gq (a::b::d::t) (c,3,l,())) (x,1,())=if (128≤b.toNat∧b.toNat≤191)∧(128≤d.toNat∧d.toNat≤191) then some (.inl (64*(64*x+b.toNat-128)+d.toNat-128,())) else some (.inr (0,0,())):=by
 have hb':=b.toNat_lt
 have h:=nX (s:=a::b::d::t) (q:=(c,3,l,())) (i:=1) (b:=b) (x:=x) (by simp) (by omega) rfl hx (by omega)
 by_cases hb:128≤b.toNat∧b.toNat≤191
 · rw[zp hb] at h
   have h2:=nX (s:=a::b::d::t) (q:=(c,3,l,())) (i:=2) (b:=d) (x:=64*x+b.toNat-128) (by simp) (by omega) rfl (by omega) (by omega)
   by_cases hd:128≤d.toNat∧d.toNat≤191
   · rw[zp hd] at h2
     rw[zp ⟨hb,hd⟩]
     exact ((aJ h).trans (aJ h2)).trans (aD (ab6 (by simp)))
   · rw[zn hd] at h2
     rw[zn (fun e=>hd e.2)]
     exact (aJ h).trans (aD h2)
 · rw[zn hb] at h
   rw[zn (fun e=>hb e.1)]
   exact aD h
theorem afF {a b d e:UInt8}{t:List UInt8}{l:Int}{c x:Int} (hx:0≤x) (hx2:x≤1000) :
   aK (gq (a::b::d::e::t) (c,4,l,())) (x,1,())=if (128≤b.toNat∧b.toNat≤191)∧(128≤d.toNat∧d.toNat≤191)∧(128≤e.toNat∧e.toNat≤191) then some (.inl (64*(64*(64*x+b.toNat-128)+d.toNat-128)+e.toNat-128,())) else some (.inr (0,0,())):=by
 have hb':=b.toNat_lt
 have hd':=d.toNat_lt
 have h:=nX (s:=a::b::d::e::t) (q:=(c,4,l,())) (i:=1) (b:=b) (x:=x) (by simp) (by omega) rfl hx (by omega)
 by_cases hb:128≤b.toNat∧b.toNat≤191
 · rw[zp hb] at h
   have h2:=nX (s:=a::b::d::e::t) (q:=(c,4,l,())) (i:=2) (b:=d) (x:=64*x+b.toNat-128) (by simp) (by omega) rfl (by omega) (by omega)
   by_cases hd:128≤d.toNat∧d.toNat≤191
   · rw[zp hd] at h2
     have h3:=nX (s:=a::b::d::e::t) (q:=(c,4,l,())) (i:=3) (b:=e) (x:=64*(64*x+b.toNat-128)+d.toNat-128) (by simp) (by omega) rfl (by omega) (by omega)
     by_cases he:128≤e.toNat∧e.toNat≤191
     · rw[zp he] at h3
       rw[zp ⟨hb,hd,he⟩]
       exact (((aJ h).trans (aJ h2)).trans (aJ h3)).trans (aD (ab6 (by simp)))
     · rw[zn he] at h3
       rw[zn (fun q=>he q.2.2)]
       exact ((aJ h).trans (aJ h2)).trans (aD h3)
   · rw[zn hd] at h2
     rw[zn (fun q=>hd q.2.1)]
     exact (aJ h).trans (aD h2)
 · rw[zn hb] at h
   rw[zn (fun q=>hb q.1)]
   exact aD h
theorem agV (s:List UInt8):zcr s=some ((aM s).1,((aM s).2:Int),()):=by
 cases s with
 | nil=>simp[zcr,aM]
 | cons a t =>
   have ha:a.toNat<256:=a.toNat_lt
   have h0:¬ (((a::t).length:Int)=0):=by simp only[zl]; omega
   have hi:atI (a::t) 0=some a:=by simp[atI]
   unfold zcr
   simp only[ae,zn h0,hi,zb,agh,afT,amZ]
   rw[wrap64 (n:=(a.toNat:Int)) (by omega) (by omega)]
   by_cases c1:a.toNat<128
   · rw[zp (by omega)]
     simp only[ce,aM,zp c1]; rfl
   rw[zn (by omega)]
   by_cases c2:194≤a.toNat∧a.toNat<224
   · rw[zp (by omega),wrap64 (by omega) (by omega)]
     simp only[ay]
     match t with
     | []=>simp[aM,c1,c2]
     | b::t =>
       rw[zn (by simp only[zl]; omega),afH (by omega) (by omega)]
       by_cases hb:128≤b.toNat∧b.toNat≤191
       · rw[zp hb]
         simp only[ay]
         rw[j7,zn (by omega)]
         simp only[aM,c1,c2,hb,if_true,if_false,and_self]; rfl
       · rw[zn hb]
         simp only[ce]
         simp[aM,c1,c2,hb]
   rw[zn (by omega)]
   by_cases c3:224≤a.toNat∧a.toNat<240
   · rw[zp (by omega),wrap64 (by omega) (by omega)]
     simp only[ay]
     match t with
     | []=>simp[aM,c1,c2,c3]
     | [b]=>simp[aM,c1,c2,c3]
     | b::c::t =>
       have hb:=b.toNat_lt
       have hc:=c.toNat_lt
       rw[zn (by simp only[zl]; omega),afG (by omega) (by omega)]
       by_cases hb':(128≤b.toNat∧b.toNat≤191)∧(128≤c.toNat∧c.toNat≤191)
       · rw[zp hb']
         simp only[ay]
         rw[j7]
         simp only[aM,c1,c2,c3,hb',if_true,if_false,and_self]
         by_cases hr:64*(64*((a.toNat:Int)-224)+b.toNat-128)+c.toNat-128<2048∨(55296≤64*(64*((a.toNat:Int)-224)+b.toNat-128)+c.toNat-128∧64*(64*((a.toNat:Int)-224)+b.toNat-128)+c.toNat-128≤57343)
         · rw[zp (by omega),zp hr]; rfl
         · rw[zn (by omega),zn hr]; rfl
       · rw[zn hb']
         simp only[ce]
         simp[aM,c1,c2,c3,hb']
   rw[zn (by omega)]
   by_cases c4:240≤a.toNat∧a.toNat<245
   · rw[zp (by omega),wrap64 (by omega) (by omega)]
     simp only[ay]
     match t with
     | []=>simp[aM,c1,c2,c3,c4]
     | [b]=>simp[aM,c1,c2,c3,c4]
     | [b,c]=>simp[aM,c1,c2,c3,c4]
     | b::c::d::t =>
       have hb:=b.toNat_lt
       have hc:=c.toNat_lt
       have hd:=d.toNat_lt
       rw[zn (by simp only[zl]; omega),afF (by omega) (by omega)]
       by_cases hb':(128≤b.toNat∧b.toNat≤191)∧(128≤c.toNat∧c.toNat≤191)∧(128≤d.toNat∧d.toNat≤191)
       · rw[zp hb']
         simp only[ay]
         rw[j7]
         simp only[aM,c1,c2,c3,c4,hb',if_true,if_false,and_self]
         by_cases hr:64*(64*(64*((a.toNat:Int)-240)+b.toNat-128)+c.toNat-128)+d.toNat-128<65536∨1114111<64*(64*(64*((a.toNat:Int)-240)+b.toNat-128)+c.toNat-128)+d.toNat-128
         · rw[zp (by omega),zp hr]; rfl
         · rw[zn (by omega),zn hr]; rfl
       · rw[zn hb']
         simp only[ce]
         simp[aM,c1,c2,c3,c4,hb']
   rw[zn (by omega)]
   simp only[ce]
   simp[aM,c1,c2,c3,c4]
theorem xG (s:List UInt8):(aM s).2≤s.length:=by
 unfold aM
 repeat' split
 all_goals (try simp only[])
 all_goals (try split)
 all_goals (try simp only[zl])
 all_goals omega
theorem js (s:List UInt8):0≤(aM s).1∧(aM s).1≤1114111:=by
 unfold aM
 repeat' split
 all_goals (try simp only[])
 all_goals (try split)
 all_goals (try simp only[])
 all_goals omega
def cD (s:List UInt8):Option (List Int) :=
 if h:s=[] then some []
 else if h0:(aM s).2=0 then none
 else (cD (s.drop (aM s).2)).map fun l=>(aM s).1::l
termination_by s.length
decreasing_by
 have:s.length≠0:=fun e=>h (List.eq_nil_of_length_eq_zero e)
 simp only[List.length_drop]; omega
theorem gQ:cD []=some []:=by rw[cD,dif_pos rfl]
theorem iy {s:List UInt8} (h:s≠[]) (h0:(aM s).2=0):cD s=none:=by rw[cD,dif_neg h,dif_pos h0]
theorem fR {s:List UInt8} (h:s≠[]) (h0:(aM s).2≠0):cD s=(cD (s.drop (aM s).2)).map fun l=>(aM s).1::l:=by rw[cD,dif_neg h,dif_neg h0]
def gf (s:List UInt8) (out:List Int):List Int×Bool×Unit :=
 match cD s with
 | some m=>(out++m,true,())
 | none=>([],false,())
theorem yu {s:List UInt8} (hs:s.length<4294967296):∀ (k i:Nat) (l:List Int),s.length-i≤k→i≤s.length→l.length≤i→aK (nM s) ((i:Int),l,())=some (gf (s.drop i) l):=by
 intro k
 have fin:∀ (i:Nat) (l:List Int),¬ i<s.length→aK (nM s) ((i:Int),l,())=some (gf (s.drop i) l):=by
   intro i l hi
   rw[List.drop_eq_nil_of_le (by omega),aD (x:=(l,true,())) (by simp only[nM,ae]; rw[zn (by omega)])]
   simp[gf,gQ]
 induction k with
 | zero=>intro i l hk hi hl; exact fin i l (by omega)
 | succ k ih =>
   intro i l hk hi hl
   by_cases hlt:i<s.length
   · have hne:s.drop i≠[]:=fun e=>by have:=congrArg List.length e; simp at this; omega
     have hle:=xG (s.drop i)
     simp only[List.length_drop] at hle
     by_cases h0:(aM (s.drop i)).2=0
     · rw[aD (x:=([],false,()))]
       · simp only[gf,iy hne h0]
       · simp only[nM,ae]
         rw[zp (by omega),ex (by omega)]
         simp only[zb,agV]
         rw[zp (by omega)]
     · rw[aJ (b:=(((i+(aM (s.drop i)).2:Nat):Int),l++[(aM (s.drop i)).1],()))]
       · rw[ih _ _ (by omega) (by omega) (by simp; omega)]
         simp only[gf,fR hne h0,List.drop_drop]
         cases cD (s.drop (i+(aM (s.drop i)).2))<;>simp
       · simp only[nM,ae]
         rw[zp (by omega),ex (by omega)]
         simp only[zb,agV]
         rw[zn (by omega),aW (by simp; omega)]
         simp only[zb]
         rw[wrap64 (by omega) (by omega)]
         simp
   · exact fin i l hlt
theorem aci {s:List UInt8} (hs:s.length<4294967296):zbz s=some (gf s []):=by
 have:=yu hs s.length 0 [] (by omega) (by omega) (by simp)
 simpa [zbz] using this
def decN (l:List UInt8):Nat×Nat:=if (aM l).2=0 then (65533,1) else ((aM l).1.toNat,(aM l).2)
theorem get_at {s:List UInt8}{i:Nat}{b:UInt8} (h:s[i]? = some b):(⟨s.toArray⟩:ByteArray).get! i=b:=by
 have:(⟨s.toArray⟩:ByteArray).get! i=s.toArray[i]! := rfl
 rw[this]
 simp[h]
theorem ann {s:List UInt8}{i:Nat} (h:s.length≤i):decide (i<(⟨s.toArray⟩:ByteArray).size)=false:=by
 have:(⟨s.toArray⟩:ByteArray).size=s.length:=by simp[ByteArray.size]
 rw[this]; simp; omega
theorem aga {s:List UInt8}{i:Nat} (h:i<s.length):decide (i<(⟨s.toArray⟩:ByteArray).size)=true:=by
 have:(⟨s.toArray⟩:ByteArray).size=s.length:=by simp[ByteArray.size]
 rw[this]; simp; omega
theorem drop_at {s t:List UInt8}{i k:Nat}{b:UInt8} (h:s.drop i=t) (hb:t[k]? = some b):s[i+k]? = some b:=by
 rw[← h,List.getElem?_drop] at hb; exact hb
theorem af6 {s t:List UInt8}{i:Nat} (h:s.drop i=t) (hi:i≤s.length):s.length=i+t.length:=by
 rw[← h,List.length_drop]; omega
def decV (b0:Nat) (b1 b2 b3:Option Nat):Nat×Nat :=
 let cont (b:Option Nat):Bool:=match b with
   | some b=>b/64==2
   | none=>false
 if b0<0x80 then (b0,1)
 else if b0/32==6&&cont b1 then
   let c:=(b0%32)*64+b1.getD 0%64
   if c≥0x80 then (c,2) else (65533,1)
 else if b0/16==14&&cont b1&&cont b2 then
   let c:=(b0%16)*4096+(b1.getD 0%64)*64+b2.getD 0%64
   if c≥0x800&&Utf8.valid c then (c,3) else (65533,1)
 else if b0/8==30&&cont b1&&cont b2&&cont b3 then
   let c:=(b0%8)*262144+(b1.getD 0%64)*4096+(b2.getD 0%64)*64+b3.getD 0%64
   if c≥0x10000&&Utf8.valid c then (c,4) else (65533,1)
 else (65533,1)
theorem af7 {s t:List UInt8}{i:Nat}{a:UInt8} (h:s.drop i=a::t) (hi:i≤s.length):Utf8.decode ⟨s.toArray⟩ i=decV a.toNat (t[0]?.map (·.toNat)) (t[1]?.map (·.toNat)) (t[2]?.map (·.toNat)):=by
 have hlen:=af6 h hi
 have g0:(⟨s.toArray⟩:ByteArray).get! (i+0)=a:=get_at (drop_at h rfl)
 have gk:∀ k b,t[k]? = some b→(⟨s.toArray⟩:ByteArray).get! (i+(k+1))=b:=fun k b hb=>get_at (drop_at h (by simpa using hb))
 have cy:∀ k b,t[k]? = some b→decide (i+(k+1)<(⟨s.toArray⟩:ByteArray).size)=true:=fun k b hb=>aga (by
   rcases Nat.lt_or_ge k t.length with h' | h'
   · simp only[zl] at hlen; omega
   · rw[List.getElem?_eq_none h'] at hb; cases hb)
 have cn:∀ k,t[k]? = none→decide (i+(k+1)<(⟨s.toArray⟩:ByteArray).size)=false:=fun k hb=>ann (by
   rw[List.getElem?_eq_none_iff] at hb
   simp only[zl] at hlen; omega)
 unfold Utf8.decode decV
 simp only[g0]
 have e:Utf8.runeError=65533:=rfl
 cases h1:t[0]? with
 | none =>
   have c1:=cn 0 h1
   have h2:t[1]? = none:=by rw[List.getElem?_eq_none_iff] at h1 ⊢; omega
   have h3:t[2]? = none:=by rw[List.getElem?_eq_none_iff] at h1 ⊢; omega
   simp only[Nat.zero_add] at c1
   simp[c1,h2,h3,e]
 | some b =>
   have c1:=cy 0 b h1
   have d1:=gk 0 b h1
   simp only[Nat.zero_add] at c1 d1
   cases h2:t[1]? with
   | none =>
     have c2:=cn 1 h2
     have h3:t[2]? = none:=by rw[List.getElem?_eq_none_iff] at h2 ⊢; omega
     simp only[Nat.reduceAdd] at c2
     simp[c1,c2,d1,h3,e]
   | some c =>
     have c2:=cy 1 c h2
     have d2:=gk 1 c h2
     simp only[Nat.reduceAdd] at c2 d2
     cases h3:t[2]? with
     | none =>
       have c3:=cn 2 h3
       simp only[Nat.reduceAdd] at c3
       simp[c1,c2,c3,d1,d2,e]
     | some d =>
       have c3:=cy 2 d h3
       have d3:=gk 2 d h3
       simp only[Nat.reduceAdd] at c3 d3
       simp[c1,c2,c3,d1,d2,d3,e]
theorem anh {b:Nat}:(b/64==2)=decide (128≤b∧b≤191):=by
 rw[Bool.eq_iff_iff]; simp; omega
theorem av7 (a:UInt8) (t:List UInt8):decV a.toNat (t[0]?.map (·.toNat)) (t[1]?.map (·.toNat)) (t[2]?.map (·.toNat))=decN (a::t):=by
 have ha:=a.toNat_lt
 unfold decV decN
 by_cases c1:a.toNat<128
 · simp[aM,c1]
 have c1':¬ a.toNat<0x80:=c1
 simp only[zn c1']
 by_cases c2:a.toNat/32=6
 · have e2:(a.toNat/32==6)=true:=by simp[c2]
   match t with
   | [] =>
     have e3:¬ a.toNat/16=14:=by omega
     have e4:¬ a.toNat/8=30:=by omega
     have d3:¬ (224≤a.toNat∧a.toNat<240):=by omega
     have d4:¬ (240≤a.toNat∧a.toNat<245):=by omega
     simp[aM,c1,e3,e4,d3,d4]
   | b::t =>
     have hb:=b.toNat_lt
     have e3:¬ a.toNat/16=14:=by omega
     have e4:¬ a.toNat/8=30:=by omega
     have d3:¬ (224≤a.toNat∧a.toNat<240):=by omega
     have d4:¬ (240≤a.toNat∧a.toNat<245):=by omega
     simp only[List.getElem?_cons_zero,Option.map_some,e2,anh,Bool.true_and,Option.getD_some]
     by_cases hb':128≤b.toNat∧b.toNat≤191
     · rw[zp (by simpa using hb')]
       by_cases c3:194≤a.toNat
       · rw[zp (by omega)]
         have q:194≤a.toNat∧a.toNat<224:=by omega
         simp only[aM,zn c1,zp q,zp hb']
         rw[zn (by omega)]
         congr 1
         omega
       · rw[zn (by omega)]
         have q:¬ (194≤a.toNat∧a.toNat<224):=by omega
         simp[aM,c1,q,d3,d4]
     · rw[zn (by simpa using hb')]
       have x3:(a.toNat/16==14)=false:=by simp[e3]
       have x4:(a.toNat/8==30)=false:=by simp[e4]
       simp only[x3,x4,Bool.false_and,Bool.false_eq_true,if_false]
       by_cases c3:194≤a.toNat∧a.toNat<224
       · simp[aM,c1,c3,hb']
       · simp[aM,c1,c3,d3,d4]
 have e2:(a.toNat/32==6)=false:=by simp[c2]
 simp only[e2,Bool.false_and,Bool.false_eq_true,if_false]
 have d2:¬ (194≤a.toNat∧a.toNat<224):=by omega
 by_cases c3:a.toNat/16=14
 · have e3:(a.toNat/16==14)=true:=by simp[c3]
   have d3:(224≤a.toNat∧a.toNat<240):=by omega
   have x4:(a.toNat/8==30)=false:=by simp; omega
   simp only[e3,x4,Bool.true_and,Bool.false_and,Bool.false_eq_true,if_false]
   match t with
   | []=>simp[aM,c1,d2,d3]
   | [b]=>simp[aM,c1,d2,d3]
   | b::c::t =>
     have hb:=b.toNat_lt
     have hc:=c.toNat_lt
     simp only[List.getElem?_cons_zero,List.getElem?_cons_succ,Option.map_some,anh,Option.getD_some]
     by_cases hb':(128≤b.toNat∧b.toNat≤191)∧(128≤c.toNat∧c.toNat≤191)
     · rw[zp (by simp only[Bool.and_eq_true,decide_eq_true_eq]; exact hb')]
       simp only[aM,zn c1,zn d2,zp d3,zp hb']
       by_cases hr:64*(64*((a.toNat:Int)-224)+b.toNat-128)+c.toNat-128<2048∨(55296≤64*(64*((a.toNat:Int)-224)+b.toNat-128)+c.toNat-128∧64*(64*((a.toNat:Int)-224)+b.toNat-128)+c.toNat-128≤57343)
       · rw [zp hr, zn (by
           simp only[Utf8.valid,Bool.and_eq_true,Bool.or_eq_true,decide_eq_true_eq]; omega)]
         rfl
       · rw [zn hr, zp (by
           simp only[Utf8.valid,Bool.and_eq_true,Bool.or_eq_true,decide_eq_true_eq]; omega),zn (by simp)]
         congr 1
         omega
     · rw[zn (by simp only[Bool.and_eq_true,decide_eq_true_eq]; exact hb')]
       simp only[aM,zn c1,zn d2,zp d3,zn hb']
       rfl
 have e3:(a.toNat/16==14)=false:=by simp[c3]
 have d3:¬ (224≤a.toNat∧a.toNat<240):=by omega
 simp only[e3,Bool.false_and,Bool.false_eq_true,if_false]
 by_cases c4:a.toNat/8=30
 · have e4:(a.toNat/8==30)=true:=by simp[c4]
   simp only[e4,Bool.true_and]
   match t with
   | []=>simp[aM,c1,d2,d3]
   | [b]=>simp[aM,c1,d2,d3]
   | [b,c]=>simp[aM,c1,d2,d3]
   | b::c::d::t =>
     have hb:=b.toNat_lt
     have hc:=c.toNat_lt
     have hd:=d.toNat_lt
     simp only[List.getElem?_cons_zero,List.getElem?_cons_succ,Option.map_some,anh,Option.getD_some]
     by_cases hb':(128≤b.toNat∧b.toNat≤191)∧(128≤c.toNat∧c.toNat≤191)∧(128≤d.toNat∧d.toNat≤191)
     · rw[zp (by simp only[Bool.and_eq_true,decide_eq_true_eq]; exact ⟨⟨hb'.1,hb'.2.1⟩,hb'.2.2⟩)]
       by_cases d4:(240≤a.toNat∧a.toNat<245)
       · simp only[aM,zn c1,zn d2,zn d3,zp d4,zp hb']
         by_cases hr:64*(64*(64*((a.toNat:Int)-240)+b.toNat-128)+c.toNat-128)+d.toNat-128<65536∨1114111<64*(64*(64*((a.toNat:Int)-240)+b.toNat-128)+c.toNat-128)+d.toNat-128
         · rw [zp hr, zn (by
             simp only[Utf8.valid,Bool.and_eq_true,Bool.or_eq_true,decide_eq_true_eq]; omega)]
           rfl
         · rw [zn hr, zp (by
             simp only[Utf8.valid,Bool.and_eq_true,Bool.or_eq_true,decide_eq_true_eq]; omega),zn (by simp)]
           congr 1
           omega
       · rw [zn (by
           simp only[Utf8.valid,Bool.and_eq_true,Bool.or_eq_true,decide_eq_true_eq]; omega)]
         simp only[aM,zn c1,zn d2,zn d3,zn d4]
         rfl
     · rw[zn (by simp only[Bool.and_eq_true,decide_eq_true_eq]; exact fun e=>hb' ⟨e.1.1,e.1.2,e.2⟩)]
       by_cases d4:(240≤a.toNat∧a.toNat<245)
       · simp only[aM,zn c1,zn d2,zn d3,zp d4,zn hb']
         rfl
       · simp only[aM,zn c1,zn d2,zn d3,zn d4]
         rfl
 · have e4:(a.toNat/8==30)=false:=by simp[c4]
   have d4:¬ (240≤a.toNat∧a.toNat<245):=by omega
   simp[e4,aM,c1,d2,d3,d4]
theorem decode_N {s:List UInt8}{i:Nat} (hi:i<s.length):Utf8.decode ⟨s.toArray⟩ i=decN (s.drop i):=by
 cases h:s.drop i with
 | nil=>have:=congrArg List.length h; simp at this; omega
 | cons a t=>rw[af7 h (by omega),av7]
def cmpI (a b:Int):Int:=if a<b then -1 else if a>b then 1 else 0
theorem jr (a b:Int):zbf a b=some (cmpI a b):=by
 unfold zbf zbo cmpI
 simp only[zb,decide_true,Bool.not_true,cond_false,ae]
 by_cases h1:a<b
 · simp[h1]
 · by_cases h2:a>b<;>simp[h1,h2]
def orI (a b:Int):Int:=if a=0 then b else a
theorem or_t (a b:Int):zcw [a,b]=some (orI a b):=by
 unfold zcw orI
 by_cases h1:a=0
 · rw[zp h1]
   have t0:gd [a,b] (0,())=some (.inl (1,())):=by
     unfold gd
     simp only[ae,zl,List.length_nil]
     rw[zp (by decide)]
     simp[atI,h1,wrap64]
   rw[aJ t0]
   by_cases h2:b=0
   · have t1 : gd [a, b] (1, ()) = some (.inl (2, ())) := by
       unfold gd
       simp only[ae,zl,List.length_nil]
       rw[zp (by decide)]
       simp[atI,h2,wrap64]
     rw[aJ t1,h2]
     refine aD ?_
     unfold gd
     simp only[ae,zl,List.length_nil]
     rw[zn (by decide)]
   · refine aD ?_
     unfold gd
     simp only[ae,zl,List.length_nil]
     rw[zp (by decide)]
     simp[atI,h2]
 · rw[zn h1]
   refine aD ?_
   unfold gd
   simp only[ae,zl,List.length_nil]
   rw[zp (by decide)]
   simp[atI,h1]
def cmpD (a b:Int×Int×Unit):Int:=orI (cmpI a.1 b.1) (cmpI a.2.1 b.2.1)
def bI (s:List UInt8):List Int:=s.map fun b=>(b.toNat:Int)
theorem jy {s t:List UInt8}:bI (s++t)=bI s++bI t:=by simp[bI]
theorem kD {s:List UInt8}:(bI s).length=s.length:=by simp[bI]
theorem anw {s:List UInt8}:((bI s).map fun n=>UInt8.ofNat n.toNat)=s:=by
 unfold bI
 rw[List.map_map]
 conv=>rhs; rw[← List.map_id s]
 congr 1
 funext b
 simp
theorem agE {n:Int}:IntKind.wrap .u8 n=n%256:=by
 simp[IntKind.wrap,IntKind.signed,IntKind.bits]
theorem dF {c:Int}{v:Bool×Unit×Unit}{w:List Int} (hw:w.length<4294967000):za1 c v w=some (false,(true,(),()),w++[c],()):=by
 unfold za1
 have h:za2 v w=some ((),(true,(),()),w,()):=by
   obtain ⟨b,_,_⟩:=v
   unfold za2
   cases b<;>rfl
 rw[h]
 simp only[zb]
 rw[aW (by simp; omega)]
 rfl
theorem pE {v:Bool×Unit×Unit}{s:List UInt8} (hs:s.length<4294967296):za4 v (bI s)=some (s,v,()):=by
 unfold za4
 cases s with
 | nil=>rfl
 | cons b s =>
   have:(bI (b::s)).isEmpty=false:=rfl
   rw[this,cond_false,anw]
   have:qX 0 (bI (b::s)).length ((bI (b::s)).length:Int)=some ():=by
     unfold qX
     rw[kD,zp ⟨rfl,rfl,by simp only[zl]; omega,by omega⟩]
   rw[this]; rfl
theorem ang {n k b:Nat} (hb:0<b) (h:n<b ^ (k+1)):n/b<b ^ k:=by
 rw[Nat.div_lt_iff_lt_mul hb]
 rw[Nat.pow_succ] at h; exact h
theorem mP {u:Nat} (h:u<10):Lib.decDigits u=[UInt8.ofNat (48+u)]:=by rw[Lib.decDigits,dif_pos h]
theorem ank {u:Nat} (h:¬ u<10):Lib.decDigits u=Lib.decDigits (u/10)++[UInt8.ofNat (48+u%10)]:=by rw[Lib.decDigits,dif_neg h]
theorem ve:∀ (k u:Nat),u<10 ^ k→(Lib.decDigits u).length≤k+1
 | 0,u,h=>by rw[mP (by simp at h; omega)]; simp
 | k+1,u,h=>by
   by_cases hu:u<10
   · rw[mP hu]; simp
   · rw[ank hu,List.length_append]
     have:=ve k (u/10) (ang (by omega) h)
     simp only[zl,List.length_nil]; omega
theorem xc {n:Int} (h : -9223372036854775808≤n) (h2:n≤9223372036854775807):(Lib.itoa n).length≤21:=by
 unfold Lib.itoa
 split
 · have:=ve 19 n.natAbs (by simp only[Nat.reducePow]; omega)
   rw[zl]; omega
 · have:=ve 19 n.toNat (by simp only[Nat.reducePow]; omega)
   omega
theorem afR {n:Nat}:Lib.itoa (n:Int)=Lib.decDigits n:=by unfold Lib.itoa; rw[zn (by omega),Int.toNat_natCast]
def inR (n:Int):Prop := -9223372036854775808≤n∧n≤9223372036854775807
theorem rA {n:Int} (h:inR n):zbp n=some (Lib.itoa n):=zp h
def bg (d:Int×Int×Unit):Bool:=decide (0≤d.1∧d.1≤15∧1≤d.2.1∧d.2.1≤1048576)
theorem nk {n:Nat}{x:UInt8} (h:n=x.toNat):UInt8.ofNat n=x:=by subst h; exact UInt8.ofNat_toNat
def encN (c:Nat):List UInt8 :=
 if c<128 then [UInt8.ofNat c]
 else if c<2048 then [UInt8.ofNat (192+c/64),UInt8.ofNat (128+c%64)]
 else if c<65536 then [UInt8.ofNat (224+c/4096),UInt8.ofNat (128+c/64%64),UInt8.ofNat (128+c%64)]
 else [UInt8.ofNat (240+c/262144),UInt8.ofNat (128+c/4096%64),UInt8.ofNat (128+c/64%64),UInt8.ofNat (128+c%64)]
theorem adH {r:Int} (h:Utf8.valid r=true):(Utf8.encode r).data.toList=encN r.toNat:=by
 unfold Utf8.encode encN
 simp only[h,if_true]
 split
 · rfl
 · split
   · rfl
   · split<;>rfl
theorem kT {r:Int} (h0:0≤r) (h1:r≤1114111) (h2:¬ (55296≤r∧r≤57343)):Utf8.valid r=true:=by
 simp[Utf8.valid]; omega
theorem af3 {s:List UInt8} (h:(aM s).2≠0):(Utf8.encode (aM s).1).data.toList=s.take (aM s).2:=by
 match s with
 | []=>exact absurd rfl h
 | a::t =>
   have ha:=a.toNat_lt
   by_cases c1:a.toNat<128
   · have e:aM (a::t)=((a.toNat:Int),1):=by simp only[aM,zp c1]
     rw[e,adH (kT (by omega) (by omega) (by omega))]
     simp only[Int.toNat_natCast,encN,zp c1]
     rw[nk rfl]; rfl
   by_cases c2:194≤a.toNat∧a.toNat<224
   · match t with
     | []=>simp only[aM,zn c1,zp c2,ne_eq,not_true_eq_false] at h
     | b::t =>
       by_cases hb:128≤b.toNat∧b.toNat≤191
       · have e:aM (a::b::t)=(64*((a.toNat:Int)-192)+b.toNat-128,2):=by simp only[aM,zn c1,zp c2,zp hb]
         rw[e,adH (kT (by simp only[]; omega) (by simp only[]; omega) (by simp only[]; omega))]
         simp only[]
         have:(64*((a.toNat:Int)-192)+b.toNat-128).toNat=64*(a.toNat-192)+(b.toNat-128):=by omega
         rw[this]
         unfold encN
         rw[zn (by omega),zp (by omega),nk (x:=a) (by omega),nk (x:=b) (by omega)]; rfl
       · simp only[aM,zn c1,zp c2,zn hb,ne_eq,not_true_eq_false] at h
   by_cases c3:224≤a.toNat∧a.toNat<240
   · match t with
     | []=>simp only[aM,zn c1,zn c2,zp c3,ne_eq,not_true_eq_false] at h
     | [b]=>simp only[aM,zn c1,zn c2,zp c3,ne_eq,not_true_eq_false] at h
     | b::c::t =>
       by_cases hb:(128≤b.toNat∧b.toNat≤191)∧(128≤c.toNat∧c.toNat≤191)
       · by_cases hr:64*(64*((a.toNat:Int)-224)+b.toNat-128)+c.toNat-128<2048∨(55296≤64*(64*((a.toNat:Int)-224)+b.toNat-128)+c.toNat-128∧64*(64*((a.toNat:Int)-224)+b.toNat-128)+c.toNat-128≤57343)
         · simp only[aM,zn c1,zn c2,zp c3,zp hb,zp hr,ne_eq,not_true_eq_false] at h
         · have e:aM (a::b::c::t)=(64*(64*((a.toNat:Int)-224)+b.toNat-128)+c.toNat-128,3):=by simp only[aM,zn c1,zn c2,zp c3,zp hb,zn hr]
           rw[e,adH (kT (by simp only[]; omega) (by simp only[]; omega) (by simp only[]; omega))]
           simp only[]
           have:(64*(64*((a.toNat:Int)-224)+b.toNat-128)+c.toNat-128).toNat=4096*(a.toNat-224)+64*(b.toNat-128)+(c.toNat-128):=by omega
           rw[this]
           unfold encN
           rw[zn (by omega),zn (by omega),zp (by omega),nk (x:=a) (by omega),nk (x:=b) (by omega),nk (x:=c) (by omega)]; rfl
       · simp only[aM,zn c1,zn c2,zp c3,zn hb,ne_eq,not_true_eq_false] at h
   by_cases c4:240≤a.toNat∧a.toNat<245
   · match t with
     | []=>simp only[aM,zn c1,zn c2,zn c3,zp c4,ne_eq,not_true_eq_false] at h
     | [b]=>simp only[aM,zn c1,zn c2,zn c3,zp c4,ne_eq,not_true_eq_false] at h
     | [b,c]=>simp only[aM,zn c1,zn c2,zn c3,zp c4,ne_eq,not_true_eq_false] at h
     | b::c::d::t =>
       by_cases hb:(128≤b.toNat∧b.toNat≤191)∧(128≤c.toNat∧c.toNat≤191)∧(128≤d.toNat∧d.toNat≤191)
       · by_cases hr:64*(64*(64*((a.toNat:Int)-240)+b.toNat-128)+c.toNat-128)+d.toNat-128<65536∨1114111<64*(64*(64*((a.toNat:Int)-240)+b.toNat-128)+c.toNat-128)+d.toNat-128
         · simp only[aM,zn c1,zn c2,zn c3,zp c4,zp hb,zp hr,ne_eq,not_true_eq_false] at h
         · have e:aM (a::b::c::d::t)=(64*(64*(64*((a.toNat:Int)-240)+b.toNat-128)+c.toNat-128)+d.toNat-128,4):=by simp only[aM,zn c1,zn c2,zn c3,zp c4,zp hb,zn hr]
           rw[e,adH (kT (by simp only[]; omega) (by simp only[]; omega) (by simp only[]; omega))]
           simp only[]
           have:(64*(64*(64*((a.toNat:Int)-240)+b.toNat-128)+c.toNat-128)+d.toNat-128).toNat=262144*(a.toNat-240)+4096*(b.toNat-128)+64*(c.toNat-128)+(d.toNat-128):=by omega
           rw[this]
           unfold encN
           rw[zn (by omega),zn (by omega),zn (by omega),nk (x:=a) (by omega),nk (x:=b) (by omega),nk (x:=c) (by omega),nk (x:=d) (by omega)]; rfl
       · simp only[aM,zn c1,zn c2,zn c3,zp c4,zn hb,ne_eq,not_true_eq_false] at h
   · simp only[aM,zn c1,zn c2,zn c3,zn c4,ne_eq,not_true_eq_false] at h
def Good (c:Int):Prop:=∃ s,(aM s).2≠0∧(aM s).1=c
theorem af2 {n:Nat} (h:128≤n) (h2:n≤1114111):∀ b∈encN n,128≤b.toNat:=by
 have e:∀ n:Nat,128≤n→n<256→128≤(UInt8.ofNat n).toNat:=by
   intro n h1 h2
   rw[UInt8.toNat_ofNat_of_lt' (by simpa using h2)]; exact h1
 intro b hb
 unfold encN at hb
 rw[zn (by omega)] at hb
 split at hb
 · simp only[List.mem_cons,List.mem_nil_iff,or_false] at hb
   rcases hb with rfl | rfl<;>exact e _ (by omega) (by omega)
 · split at hb
   · simp only[List.mem_cons,List.mem_nil_iff,or_false] at hb
     rcases hb with rfl | rfl | rfl<;>exact e _ (by omega) (by omega)
   · simp only[List.mem_cons,List.mem_nil_iff,or_false] at hb
     rcases hb with rfl | rfl | rfl | rfl<;>exact e _ (by omega) (by omega)
theorem vo {s:List UInt8} (h0:(aM s).2≠0):s.take (aM s).2=encN (aM s).1.toNat:=by
 have hi:=js s
 have he:=af3 h0
 by_cases hv:Utf8.valid (aM s).1=true
 · rw[← he,adH hv]
 · exfalso
   have hs:55296≤(aM s).1∧(aM s).1≤57343:=by
     simp[Utf8.valid] at hv; omega
   have h3:(aM s).2=3∨(aM s).2≠3:=by omega
   revert hs h0
   unfold aM
   repeat' split
   all_goals (try simp only[])
   all_goals (try split)
   all_goals (try simp only[])
   all_goals omega
theorem abS {n:Int} (h:0≤n) (h2:n<4294967296):IntKind.wrap .u32 n=n:=by
 simp[IntKind.wrap,IntKind.signed,IntKind.bits]; omega
theorem amR:∀ x:Fin 256,(IntKind.wrap .u8 ((BitVec.ofInt (IntKind.bits .u8) 128 ||| BitVec.ofInt (IntKind.bits .u8) (IntKind.wrap .u8 ((BitVec.ofInt (IntKind.bits .u8) ((x.val:Nat):Int) &&& BitVec.ofInt (IntKind.bits .u8) 63).toNat:Nat))).toNat:Nat))=((128+x.val%64:Nat):Int):=by decide +kernel
theorem yX {c:Int}:(IntKind.wrap .u8 ((BitVec.ofInt (IntKind.bits .u8) 128 ||| BitVec.ofInt (IntKind.bits .u8) (IntKind.wrap .u8 ((BitVec.ofInt (IntKind.bits .u8) (IntKind.wrap .u8 c) &&& BitVec.ofInt (IntKind.bits .u8) 63).toNat:Nat))).toNat:Nat))=128+c%64:=by
 have h0:0≤c%256:=by omega
 have h1:c%256<256:=by omega
 have:=amR ⟨(c%256).toNat,by omega⟩
 simp only at this
 rw[show (((c%256).toNat:Nat):Int)=c%256 by omega] at this
 rw[agE (n:=c),this]
 omega
theorem uf:(∀ x:Fin 32,(IntKind.wrap .u8 ((BitVec.ofInt (IntKind.bits .u8) 192 ||| BitVec.ofInt (IntKind.bits .u8) (IntKind.wrap .u8 ((x.val:Nat):Int))).toNat:Nat))=((192+x.val:Nat):Int))∧(∀ x:Fin 16,(IntKind.wrap .u8 ((BitVec.ofInt (IntKind.bits .u8) 224 ||| BitVec.ofInt (IntKind.bits .u8) (IntKind.wrap .u8 ((x.val:Nat):Int))).toNat:Nat))=((224+x.val:Nat):Int))∧(∀ x:Fin 8,(IntKind.wrap .u8 ((BitVec.ofInt (IntKind.bits .u8) 240 ||| BitVec.ofInt (IntKind.bits .u8) (IntKind.wrap .u8 ((x.val:Nat):Int))).toNat:Nat))=((240+x.val:Nat):Int)):=by decide +kernel
theorem top2 {x:Int} (h:0≤x) (h2:x<32):(IntKind.wrap .u8 ((BitVec.ofInt (IntKind.bits .u8) 192 ||| BitVec.ofInt (IntKind.bits .u8) (IntKind.wrap .u8 x)).toNat:Nat))=192+x:=by
 have:=uf.1 ⟨x.toNat,by omega⟩
 simp only at this
 rw[show ((x.toNat:Nat):Int)=x by omega] at this
 rw[this]; omega
theorem top3 {x:Int} (h:0≤x) (h2:x<16):(IntKind.wrap .u8 ((BitVec.ofInt (IntKind.bits .u8) 224 ||| BitVec.ofInt (IntKind.bits .u8) (IntKind.wrap .u8 x)).toNat:Nat))=224+x:=by
 have:=uf.2.1 ⟨x.toNat,by omega⟩
 simp only at this
 rw[show ((x.toNat:Nat):Int)=x by omega] at this
 rw[this]; omega
theorem top4 {x:Int} (h:0≤x) (h2:x<8):(IntKind.wrap .u8 ((BitVec.ofInt (IntKind.bits .u8) 240 ||| BitVec.ofInt (IntKind.bits .u8) (IntKind.wrap .u8 x)).toNat:Nat))=240+x:=by
 have:=uf.2.2 ⟨x.toNat,by omega⟩
 simp only at this
 rw[show ((x.toNat:Nat):Int)=x by omega] at this
 rw[this]; omega
theorem amx {c:Int}{n:Int}{k:Nat} (hn:n=(k:Int)) (hk:k≤32):shrT .i32 c n=some (c/(2 ^ k:Nat)):=by
 subst hn
 unfold shrT
 rw[zn (by omega)]
 congr 1
 rw[Int.toNat_natCast,Int.fdiv_eq_ediv_of_nonneg _ (by exact_mod_cast Nat.zero_le _)]
 have:min k (IntKind.bits .i32)=k:=by show min k 32=k; omega
 rw[this]
 norm_cast
def anD (c:Int):Prop:=0≤c∧c≤1114111∧¬ (55296≤c∧c≤57343)
theorem age {l:List Nat} (h:∀ n∈l,n<256):bI (l.map UInt8.ofNat)=l.map fun (n:Nat)=>(n:Int):=by
 unfold bI
 rw[List.map_map]
 refine List.map_congr_left fun n hn => ?_
 simp only[Function.comp]
 rw[UInt8.toNat_ofNat_of_lt' (by simpa using h n hn)]
theorem agf {c:Int}{w:List Int} (hc:anD c) (hw:w.length<4294967000):zbe c w=some ((),w++bI (encN c.toNat),()):=by
 obtain ⟨h0,h1,h2⟩:=hc
 obtain ⟨n,rfl⟩:∃ n:Nat,c=(n:Int):=⟨c.toNat,by omega⟩
 unfold zbe
 rw[Int.toNat_natCast]
 simp only[ae,abS (n:=(n:Int)) (by omega) (by omega)]
 by_cases c1:n<128
 · rw[zp (by omega),aW (by simp; omega),zb]
   unfold encN
   rw[zp c1,agE]
   have e:[UInt8.ofNat n]=[n].map UInt8.ofNat:=rfl
   rw[e,age (by intro m hm; simp at hm; omega)]
   simp only[List.map_cons,List.map_nil]
   rw[show (n:Int)%256=n by omega]
 rw[zn (by omega)]
 have room:∀ l:List Int,l.length≤4→bT (w.length+l.length)=some ():=fun l hl=>aW (by omega)
 have key:za3 (n:Int) w=some ((),w++bI (encN n),()):=by
   unfold za3 encN
   rw[zn c1]
   simp only[ae,abS (n:=(n:Int)) (by omega) (by omega),amx (n:=6) (k:=6) rfl (by omega),amx (n:=12) (k:=12) rfl (by omega),amx (n:=18) (k:=18) rfl (by omega),zb]
   by_cases c2:n<2048
   · rw[zp (by omega),zp c2,room _ (by simp),zb,yX,top2 (by omega) (by omega)]
     have e:[UInt8.ofNat (192+n/64),UInt8.ofNat (128+n%64)]=[192+n/64,128+n%64].map UInt8.ofNat:=rfl
     rw[e,age (by intro m hm; simp at hm; omega)]
     simp only[List.map_cons,List.map_nil,show ((2 ^ 6:Nat):Int)=64 from rfl,show ((2 ^ 12:Nat):Int)=4096 from rfl,show ((2 ^ 18:Nat):Int)=262144 from rfl,Int.natCast_add,Int.natCast_ediv,Int.natCast_emod,Int.cast_ofNat_Int]
   rw[zn (by omega),zn c2]
   by_cases c3:n<65536
   · have hA : ((if (n : Int) < 55296 then some (Sum.inl (decide ((n : Int) < 55296), w, ())) else
         (if 57343<(n:Int) then some (decide ((n:Int)≤65535),w,()) else some (false,w,())).bind fun v3=>some (Sum.inl (v3.1,v3.2.1,()))):Option ((Bool×List Int×Unit)⊕(Unit×List Int×Unit)))=some (.inl (true,w,())):=by
       by_cases g:(n:Int)<55296
       · rw[zp g]; simp[g]
       · rw[zn g,zp (by omega)]; simp; omega
     rw[hA,ay,zp c3]
     simp only[cond_true]
     rw[room _ (by simp),zb,yX,yX,top3 (by omega) (by omega)]
     have e:[UInt8.ofNat (224+n/4096),UInt8.ofNat (128+n/64%64),UInt8.ofNat (128+n%64)]=[224+n/4096,128+n/64%64,128+n%64].map UInt8.ofNat:=rfl
     rw[e,age (by intro m hm; simp at hm; omega)]
     simp only[List.map_cons,List.map_nil,show ((2 ^ 6:Nat):Int)=64 from rfl,show ((2 ^ 12:Nat):Int)=4096 from rfl,show ((2 ^ 18:Nat):Int)=262144 from rfl,Int.natCast_add,Int.natCast_ediv,Int.natCast_emod,Int.cast_ofNat_Int]
   · have hA : ((if (n : Int) < 55296 then some (Sum.inl (decide ((n : Int) < 55296), w, ())) else
         (if 57343<(n:Int) then some (decide ((n:Int)≤65535),w,()) else some (false,w,())).bind fun v3=>some (Sum.inl (v3.1,v3.2.1,()))):Option ((Bool×List Int×Unit)⊕(Unit×List Int×Unit)))=some (.inl (false,w,())):=by
       rw[zn (by omega),zp (by omega)]; simp; omega
     rw[hA,ay,zn c3]
     simp only[cond_false]
     rw[zp (by omega),zp (by omega),room _ (by simp),zb,yX,yX,yX,top4 (by omega) (by omega)]
     have e:[UInt8.ofNat (240+n/262144),UInt8.ofNat (128+n/4096%64),UInt8.ofNat (128+n/64%64),UInt8.ofNat (128+n%64)]=[240+n/262144,128+n/4096%64,128+n/64%64,128+n%64].map UInt8.ofNat:=rfl
     rw[e,age (by intro m hm; simp at hm; omega)]
     simp only[List.map_cons,List.map_nil,show ((2 ^ 6:Nat):Int)=64 from rfl,show ((2 ^ 12:Nat):Int)=4096 from rfl,show ((2 ^ 18:Nat):Int)=262144 from rfl,Int.natCast_add,Int.natCast_ediv,Int.natCast_emod,Int.cast_ofNat_Int]
 rw[key]; rfl
theorem vp {s:List UInt8} (h0:(aM s).2≠0):anD (aM s).1:=by
 have hi:=js s
 refine ⟨hi.1,hi.2,?_⟩
 intro hs
 revert hs h0
 unfold aM
 repeat' split
 all_goals (try simp only[])
 all_goals (try split)
 all_goals (try simp only[])
 all_goals omega
theorem af4 {n:Nat}:1≤(encN n).length∧(encN n).length≤4:=by
 unfold encN
 repeat' split
 all_goals simp
abbrev Val:=Int×Int×List UInt8×Unit
theorem uF {l:List Int}{i:Nat}{x:Int} (h:l[i]? = some x) (hl:l.length<1000000):gd l ((i:Int),())=if x=0 then some (.inl (((i+1:Nat):Int),())) else some (.inr x):=by
 have hi:i<l.length:=by
   rcases Nat.lt_or_ge i l.length with h' | h'
   · exact h'
   · rw[List.getElem?_eq_none h'] at h; cases h
 unfold gd
 simp only[ae]
 rw[zp (by omega),iJ,h]
 simp only[zb]
 by_cases hx:x=0
 · rw[zp hx]
   simp only[hx,decide_true,Bool.not_true,cond_false]
   rw[wrap64 (by omega) (by omega)]; rfl
 · rw[zn hx]
   simp only[hx,decide_false,Bool.not_false,cond_true]
theorem ays (a b c:Int):zcw [a,b,c]=some (orI a (orI b c)):=by
 unfold zcw
 have t0:=uF (l:=[a,b,c]) (i:=0) (x:=a) rfl (by simp)
 have t1:=uF (l:=[a,b,c]) (i:=1) (x:=b) rfl (by simp)
 have t2:=uF (l:=[a,b,c]) (i:=2) (x:=c) rfl (by simp)
 have t3:gd [a,b,c] (((3:Nat):Int),())=some (.inr 0):=by
   unfold gd
   simp only[ae,zl,List.length_nil]
   rw[zn (by decide)]
 unfold orI
 by_cases h0:a=0
 · rw[zp h0] at t0 ⊢
   rw[show ((0:Int),())=(((0:Nat):Int),()) from rfl,aJ t0]
   by_cases h1:b=0
   · rw[zp h1] at t1 ⊢
     rw[aJ t1]
     by_cases h2:c=0
     · rw[zp h2] at t2
       rw[aJ t2,aD t3,h2]
     · rw[zn h2] at t2
       rw[aD t2]
   · rw[zn h1] at t1 ⊢
     rw[aD t1]
 · rw[zn h0] at t0 ⊢
   exact aD t0
theorem adX:∀ a b:List UInt8,Lib.compareBytes b a = - Lib.compareBytes a b
 | [],[]=>rfl
 | [],_::_=>rfl
 | _::_,[]=>rfl
 | x::a,y::b=>by
   simp only[Lib.compareBytes,UInt8.lt_iff_toNat_lt]
   by_cases h1:x.toNat<y.toNat
   · have h2:¬ y.toNat<x.toNat:=by omega
     simp only[zp h1,zn h2]
     rfl
   · by_cases h2:y.toNat<x.toNat
     · simp only[zp h2,zn h1]
     · simp only[zn h2,zn h1]; exact adX a b
theorem qA:∀ a b:List UInt8,Lib.compareBytes a b=0↔a=b
 | [],[]=>by simp[Lib.compareBytes]
 | [],_::_=>by simp[Lib.compareBytes]
 | _::_,[]=>by simp[Lib.compareBytes]
 | x::a,y::b=>by
   simp only[Lib.compareBytes,UInt8.lt_iff_toNat_lt]
   by_cases h1:x.toNat<y.toNat
   · rw[zp h1]
     constructor
     · intro h; cases h
     · intro h; cases h; omega
   · rw[zn h1]
     by_cases h2:y.toNat<x.toNat
     · rw[zp h2]
       constructor
       · intro h; cases h
       · intro h; cases h; omega
     · rw[zn h2,qA a b]
       have:x=y:=UInt8.toNat_inj.1 (by omega)
       subst this
       simp
theorem adW:∀ a b:List UInt8,Lib.compareBytes a b = -1∨Lib.compareBytes a b=0∨Lib.compareBytes a b=1
 | [],[]=>.inr (.inl rfl)
 | [],_::_=>.inl rfl
 | _::_,[]=>.inr (.inr rfl)
 | x::a,y::b=>by
   simp only[Lib.compareBytes]
   split
   · exact .inl rfl
   · split
     · exact .inr (.inr rfl)
     · exact adW a b
theorem xH:∀ a b c:List UInt8,Lib.compareBytes a b≤0→Lib.compareBytes b c≤0→Lib.compareBytes a c≤0
 | [],b,[],_,_=>by simp[Lib.compareBytes]
 | [],b,_::_,_,_=>by simp[Lib.compareBytes]
 | _::_,[],_,h,_=>by simp[Lib.compareBytes] at h
 | x::a,y::b,[],_,h=>by simp[Lib.compareBytes] at h
 | x::a,y::b,z::c,h,k=>by
   simp only[Lib.compareBytes,UInt8.lt_iff_toNat_lt] at h k ⊢
   by_cases h1:x.toNat<y.toNat
   · by_cases k1:y.toNat<z.toNat
     · rw[zp (by omega)]; omega
     · rw[zn k1] at k
       by_cases k2:z.toNat<y.toNat
       · rw[zp k2] at k; omega
       · rw[zp (by omega)]; omega
   · rw[zn h1] at h
     by_cases h2:y.toNat<x.toNat
     · rw[zp h2] at h; omega
     · rw[zn h2] at h
       by_cases k1:y.toNat<z.toNat
       · rw[zp (by omega)]; omega
       · rw[zn k1] at k
         by_cases k2:z.toNat<y.toNat
         · rw[zp k2] at k; omega
         · rw[zn k2] at k
           rw[zn (by omega),zn (by omega)]
           exact xH a b c h k
def cmpV (a b:Val):Int:=orI (cmpI a.1 b.1) (orI (cmpI a.2.1 b.2.1) (Lib.compareBytes a.2.2.1 b.2.2.1))
theorem zr (a b:Val):eqV (.agg (.cons (.int .i64) (.cons (.int .i64) (.cons .str .unit)))) a b=decide (a=b):=by
 obtain ⟨k,n,s,⟨⟩⟩:=a
 obtain ⟨k',n',s',⟨⟩⟩:=b
 simp only[eqV,Bool.and_true]
 rw[Bool.eq_iff_iff]
 simp
theorem acl {s:List UInt8}:(gf s []).2.1=(cD s).isSome:=by
 unfold gf; cases cD s<;>rfl
def dh (v:Val):Bool:=decide ((v.1=1∧v.2.2.1=[] ∧ -2147483647≤v.2.1∧v.2.1≤2147483647)∨(v.1=2∧v.2.1=0∧(cD v.2.2.1).isSome=true∧v.2.2.1.length≤64)∨(v.1=3∧v.2.2.1=[]∧0≤v.2.1∧v.2.1≤1))
theorem uw {v:Val} (hv:v.2.2.1.length<4294967296):zb8 v=some (dh v):=by
 unfold zb8 dh
 simp only[aci (s:=v.2.2.1) (by omega),zb,acl,ae]
 by_cases h1:v.1=1
 · rw[zp h1]
   by_cases h2:v.2.2.1=[]
   · by_cases h3:v.2.1 ≥ -2147483647
     · simp only[h1,h2,h3]; simp<;>omega
     · simp only[h1,h2]; simp[h3]<;>omega
   · simp[h1,h2]
 rw[zn h1]
 by_cases h2:v.1=2
 · rw[zp h2]
   cases hr:(cD v.2.2.1).isSome with
   | true =>
     by_cases h3:v.2.1=0
     · simp only[h2,h3]; simp<;>omega
     · simp[h2,h3]
   | false=>by_cases h3:v.2.1=0<;>simp[h2,h3]
 rw[zn h2]
 by_cases h3:v.1=3
 · rw[zp h3]
   by_cases h4:v.2.2.1=[]
   · by_cases h5:v.2.1≥0
     · simp only[h3,h4]; simp[h5]<;>omega
     · simp only[h3,h4]; simp[h5]<;>omega
   · simp[h3,h4]
 rw[zn h3]
 simp[h1,h2,h3]
def ui (b:UInt8):Bool:=decide (b.toNat=34)||decide (b.toNat=92)
def spec (c:Int):Bool:=decide (c=34)||decide (c=92)
def cT (s:List UInt8):List UInt8:=s.flatMap fun b=>if ui b then [92,b] else [b]
theorem jQ {b:UInt8}{s:List UInt8}:cT (b::s)=(if ui b then [92,b] else [b])++cT s:=by unfold cT; rw[List.flatMap_cons]
theorem acz {s t:List UInt8}:cT (s++t)=cT s++cT t:=by unfold cT; rw[List.flatMap_append]
theorem rR:∀ (s:List UInt8),(cT s).length≤2*s.length
 | []=>by simp[cT]
 | b::s=>by
   have:=rR s
   rw[jQ,List.length_append,zl]
   split<;>simp<;>omega
theorem ou:∀ (s:List UInt8),(∀ b∈s,128≤b.toNat)→cT s=s
 | [],_=>rfl
 | b::s,h=>by
   have h1:=h b (List.mem_cons_self ..)
   have:ui b=false:=by
     simp only[ui,Bool.or_eq_false_iff,decide_eq_false_iff_not]; omega
   rw[jQ,this,ou s (fun x hx=>h x (List.mem_cons_of_mem _ hx))]; rfl
theorem ab7 {a:UInt8}:spec (a.toNat:Int)=ui a:=by
 unfold spec ui
 have h1:decide ((a.toNat:Int)=34)=decide (a.toNat=34):=by rw[decide_eq_decide]; omega
 have h3:decide ((a.toNat:Int)=92)=decide (a.toNat=92):=by rw[decide_eq_decide]; omega
 rw[h1,h3]
theorem yJ {s:List UInt8} (h0:(aM s).2≠0):cT s=(if spec (aM s).1 then [92] else [])++encN (aM s).1.toNat++cT (s.drop (aM s).2):=by
 have hi:=js s
 have hv:=vo h0
 have hq:cT s=cT (s.take (aM s).2)++cT (s.drop (aM s).2):=by rw[← acz,List.take_append_drop]
 rw[hq]
 congr 1
 by_cases hc:(aM s).1.toNat<128
 · have hb:encN (aM s).1.toNat=[UInt8.ofNat (aM s).1.toNat]:=by unfold encN; rw[zp hc]
   have ht:(UInt8.ofNat (aM s).1.toNat).toNat=(aM s).1.toNat:=UInt8.toNat_ofNat_of_lt' (by show _<256; omega)
   rw[hv,hb]
   generalize hbb:UInt8.ofNat (aM s).1.toNat=b at ht ⊢
   have hcb:(aM s).1=(b.toNat:Int):=by omega
   rw[hcb,ab7,jQ]
   have hnil:cT []=[]:=rfl
   rw[hnil,List.append_nil]
   cases ui b<;>rfl
 · have hsp : spec (aM s).1 = false := by
     simp only[spec,Bool.or_eq_false_iff,decide_eq_false_iff_not]; omega
   rw[ou _ (by rw[hv]; exact af2 (by omega) (by omega)),hsp,hv]; rfl
theorem lr {c:Int}{v:Bool×Unit×Unit}{w:List Int} (hc:anD c) (hw:w.length<4294967000):∃ n,za0 c v w=some ((n,false,()),(true,(),()),w++bI (encN c.toNat),()):=by
 unfold za0
 have h:za2 v w=some ((),(true,(),()),w,()):=by
   obtain ⟨b,_,_⟩:=v
   unfold za2
   cases b<;>rfl
 rw[h]
 simp only[zb,agf hc hw]
 exact ⟨_,rfl⟩
theorem awe:bI [92]=[92]:=rfl
theorem awf:bI [34]=[34]:=rfl
theorem yK {s:List UInt8} (hs:s.length<1000000):∀ (k i:Nat) (out:List UInt8) (b:Bool) (l:List Int),s.length-i≤k→i≤s.length→out.length≤5*i+1→cD (s.drop i)=some l →
   aK (nK s) (bI out,(b,(),()),i,())=some (out++cT (s.drop i)++[34]):=by
 intro k
 have fin:∀ (i:Nat) (out:List UInt8) (b:Bool),¬ i<s.length→out.length≤5*s.length+1→aK (nK s) (bI out,(b,(),()),i,())=some (out++cT (s.drop i)++[34]):=by
   intro i out b hi ho
   refine aD ?_
   unfold nK
   rw[ae,zn (by simp only[]; exact hi),dF (by rw[kD]; omega)]
   simp only[zb]
   rw[← awf,← jy,pE (by rw[List.length_append]; simp only[zl,List.length_nil]; omega),List.drop_eq_nil_of_le (by omega)]
   simp[cT]
 induction k with
 | zero=>intro i out b l hk hi ho hl; exact fin i out b (by omega) (by omega)
 | succ k ih =>
   intro i out b l hk hi ho hl
   by_cases hlt:i<s.length
   · have hne:s.drop i≠[]:=fun e=>by have:=congrArg List.length e; simp at this; omega
     have hle:=xG (s.drop i)
     simp only[List.length_drop] at hle
     by_cases h0:(aM (s.drop i)).2=0
     · rw[iy hne h0] at hl; cases hl
     · rw[fR hne h0,List.drop_drop,Option.map_eq_some_iff] at hl
       obtain ⟨l',hl',rfl⟩:=hl
       have hc:=vp h0
       have hstep:=yJ h0
       rw[List.drop_drop] at hstep
       have hen:=af4 (n:=(aM (s.drop i)).1.toNat)
       have turn:nK s (bI out,(b,(),()),i,())=some (.inl (bI (out++((if spec (aM (s.drop i)).1 then [92] else [])++encN (aM (s.drop i)).1.toNat)),(true,(),()),i+(aM (s.drop i)).2,())):=by
         unfold nK
         rw[ae,zp (by simp only[]; exact hlt)]
         have hnat:(((aM (s.drop i)).1.toNat:Nat):Int)=(aM (s.drop i)).1:=by have:=js (s.drop i); omega
         simp only[decode_N hlt,decN,zn h0,hnat,zb]
         obtain ⟨n2,e2⟩:=lr (v:=(true,(),())) (w:=bI out++[92]) hc (by rw[List.length_append,kD]; simp only[zl,List.length_nil]; omega)
         obtain ⟨n1,e1⟩:=lr (v:=(b,(),())) (w:=bI out) hc (by rw[kD]; omega)
         have es:spec (aM (s.drop i)).1=(decide ((aM (s.drop i)).1=34)||decide ((aM (s.drop i)).1=92)):=rfl
         rw[es]
         cases h34:decide ((aM (s.drop i)).1=34) with
         | true =>
           simp only[cond_true,Bool.true_or,if_true]
           rw[dF (by rw[kD]; omega)]
           simp only[zb]
           rw[e2]
           simp only[zb]
           rw[← awe,← jy,← jy,List.append_assoc]
         | false =>
           simp only[cond_false,Bool.false_or]
           cases h92:decide ((aM (s.drop i)).1=92) with
           | true =>
             simp only[cond_true,if_true]
             rw[dF (by rw[kD]; omega)]
             simp only[zb]
             rw[e2]
             simp only[zb]
             rw[← awe,← jy,← jy,List.append_assoc]
           | false =>
             simp only[cond_false,Bool.false_eq_true,if_false,List.nil_append]
             rw[e1]
             simp only[zb]
             rw[← jy]
       rw[aJ turn,ih _ _ _ l' (by omega) (by omega) ?_ hl',hstep]
       · simp only[List.append_assoc]
       · have h1:(if spec (aM (s.drop i)).1 then ([92]:List UInt8) else []).length≤1:=by split<;>simp
         have h5:((if spec (aM (s.drop i)).1 then ([92]:List UInt8) else [])++encN (aM (s.drop i)).1.toNat).length≤5*(aM (s.drop i)).2:=by
           rw[List.length_append]; omega
         rw[List.length_append]
         omega
   · exact fin i out b (by omega) (by omega)
theorem amE {s:List UInt8}{l:List Int} (hs:s.length<1000000) (hl:cD s=some l):zcg s=some ([34]++cT s++[34]):=by
 have:=yK hs s.length 0 [34] true l (by omega) (by omega) (by simp) (by simpa using hl)
 unfold zcg
 rw[dF (by simp)]
 simp only[zb,List.nil_append]
 simpa [awf] using this
def jM (v:Val):List UInt8:=if v.1=1 then Lib.itoa v.2.1 else if v.1=3 then (if v.2.1=1 then [116,114,117,101] else [102,97,108,115,101]) else [34]++cT v.2.2.1++[34]
theorem ko {v:Val} (h:dh v=true):(∃ n:Int,v=(1,n,[],()) ∧ -2147483647≤n∧n≤2147483647)∨(∃ s l,v=(2,0,s,())∧cD s=some l∧s.length≤64)∨v=(3,0,[],())∨v=(3,1,[],()):=by
 obtain ⟨k,n,s,⟨⟩⟩:=v
 unfold dh at h
 simp only[decide_eq_true_eq] at h
 rcases h with ⟨rfl,rfl,h1,h2⟩ | ⟨rfl,rfl,h1,h2⟩ | ⟨rfl,rfl,h1,h2⟩
 · exact .inl ⟨n,rfl,h1,h2⟩
 · cases hr:cD s with
   | none=>rw[hr] at h1; cases h1
   | some l=>exact .inr (.inl ⟨s,l,rfl,hr,h2⟩)
 · have:n=0∨n=1:=by omega
   rcases this with rfl | rfl
   · exact .inr (.inr (.inl rfl))
   · exact .inr (.inr (.inr rfl))
theorem tZ {v:Val} (h:dh v=true):zcs v=some (jM v):=by
 rcases ko h with ⟨n,rfl,h1,h2⟩ | ⟨s,l,rfl,h1,h2⟩ | rfl | rfl
 · unfold zcs jM
   simp only[rA (show inR n from ⟨by omega,by omega⟩)]
   rfl
 · unfold zcs jM
   simp only[amE (by omega) h1]
   rfl
 · rfl
 · rfl
abbrev Path:=List (List UInt8)
abbrev Ent:=Path×Int×List Val×Int×Unit
abbrev Chg:=Int×Ent×Ent×Unit
theorem adY:Cmp Lib.compareBytes where
 one a b:=by have:=adW a b; omega
 neg a b:=adX a b
 zero a b:=qA a b
 trans a b d h1 h2:=by
   have h3:=xH a b d (by omega) (by omega)
   rcases Int.lt_or_eq_of_le h3 with h | h
   · exact h
   · have e:=(qA a d).1 h
     subst e
     have:=adX a b
     omega
theorem mU:Cmp cmpI where
 one a b:=by
   unfold cmpI
   split
   · omega
   · split<;>omega
 neg a b:=by
   unfold cmpI
   by_cases h1:a<b
   · rw[zn (by omega),zp (by omega),zp h1]; rfl
   · by_cases h2:a>b
     · rw[zp (by omega),zn h1,zp h2]
     · rw[zn (by omega),zn (by omega),zn h1,zn h2]; rfl
 zero a b:=by
   unfold cmpI
   by_cases h1:a<b
   · rw[zp h1]; constructor<;>intro h<;>omega
   · by_cases h2:a>b
     · rw[zn h1,zp h2]; constructor<;>intro h<;>omega
     · rw[zn h1,zn h2]; constructor<;>intro h<;>omega
 trans a b d h1 h2:=by
   unfold cmpI at h1 h2 ⊢
   have e1:a<b:=by
     by_cases h:a<b
     · exact h
     · rw[zn h] at h1; split at h1<;>omega
   have e2:b<d:=by
     by_cases h:b<d
     · exact h
     · rw[zn h] at h2; split at h2<;>omega
   rw[zp (by omega)]; omega
theorem ac7:∀ a b:List UInt8,Op.bytesLess a b=decide (Lib.compareBytes a b<0)
 | [],[]=>rfl
 | _::_,[]=>rfl
 | [],_::_=>rfl
 | x::a,y::b=>by
   simp only[Op.bytesLess,Lib.compareBytes]
   by_cases h1:x<y
   · simp[h1]
   · by_cases h2:y<x
     · have h3:x≠y:=fun e=>by subst e; exact h1 h2
       simp[h1,h2,h3]
     · have h3:x=y:=UInt8.toNat_inj.1 (by rw[UInt8.lt_iff_toNat_lt] at h1 h2; omega)
       subst h3
       simp[h1,ac7 a b]
theorem rB (a b:List UInt8):za8 a b=some (Lib.compareBytes a b):=by
 unfold za8 zbb
 simp only[decide_true,Bool.not_true,zb,cond_false,ac7]
 have h1:=adW a b
 have h0:=qA a b
 by_cases h2:Lib.compareBytes a b<0
 · rw[zt h2]
   simp only[cond_true]
   congr 1; omega
 · rw[zf h2]
   simp only[cond_false,Bool.false_or]
   by_cases h3:a=b
   · rw[zt h3]
     simp only[Bool.not_true,cond_false]
     rw[h0.2 h3]
   · rw[zf h3]
     simp only[Bool.not_false,cond_true]
     congr 1
     have:Lib.compareBytes a b≠0:=fun e=>h3 (h0.1 e)
     omega
def cmpP:Path→Path→Int:=cmpL Lib.compareBytes
theorem adS {x y:List UInt8}{a b:Path}:cmpP (x::a) (y::b)=if Lib.compareBytes x y=0 then cmpP a b else Lib.compareBytes x y:=by unfold cmpP; rw[cmpL]
theorem rY {a b:Path} (ha:a.length<1000000):∀ (k i:Nat),a.length-i≤k→i≤a.length→i≤b.length →
   ((aK (iP a b) ((i:Int),()):Option (Unit⊕Int)).bind (bd fun _=>cond (decide ((a.length:Int)<(b.length:Int))) (some (-1)) (some 0)))=some (cmpP (a.drop i) (b.drop i)):=by
 intro k
 have fin:∀ i:Nat,i=a.length→i≤b.length→((aK (iP a b) ((i:Int),()):Option (Unit⊕Int)).bind (bd fun _=>cond (decide ((a.length:Int)<(b.length:Int))) (some (-1)) (some 0)))=some (cmpP (a.drop i) (b.drop i)):=by
   intro i hi h2
   have hl:aK (iP a b) ((i:Int),())=some (.inl ()):=by
     refine aD ?_
     unfold iP
     simp only[ae]
     rw[zn (by omega)]
   rw[hl,ay,List.drop_eq_nil_of_le (by omega:a.length≤i)]
   rw[ae]
   by_cases h5:i<b.length
   · rw[List.drop_eq_getElem_cons h5,zp (by omega)]; rfl
   · rw[List.drop_eq_nil_of_le (by omega),zn (by omega)]; rfl
 induction k with
 | zero=>intro i hk h1 h2; exact fin i (by omega) h2
 | succ k ih =>
   intro i hk h1 h2
   by_cases h3:i<a.length
   · rw[List.drop_eq_getElem_cons h3]
     by_cases h4:i<b.length
     · rw[List.drop_eq_getElem_cons h4,adS]
       have turn:iP a b ((i:Int),())=if Lib.compareBytes a[i] b[i]=0 then some (.inl (((i+1:Nat):Int),())) else some (.inr (.inr (Lib.compareBytes a[i] b[i]))):=by
         unfold iP
         simp only[ae]
         rw[zp (by omega),aP h3]
         simp only[zb]
         rw[zn (by omega),aP h4]
         simp only[zb,rB]
         by_cases hz:Lib.compareBytes a[i] b[i]=0
         · rw[zt hz,zp hz]
           simp only[Bool.not_true,cond_false]
           rw[wrap64 (by omega) (by omega)]; rfl
         · rw[zf hz,zn hz]
           simp only[Bool.not_false,cond_true]
       by_cases hz:Lib.compareBytes a[i] b[i]=0
       · rw[zp hz] at turn ⊢
         rw[aJ turn]
         exact ih (i+1) (by omega) (by omega) (by omega)
       · rw[zn hz] at turn ⊢
         rw[aD turn,ce]
     · have hl : aK (iP a b) ((i : Int), ()) = some (.inr 1) := by
         refine aD ?_
         unfold iP
         simp only[ae]
         rw[zp (by omega),aP h3]
         simp only[zb]
         rw[zp (by omega)]
       rw[hl,ce,List.drop_eq_nil_of_le (by omega:b.length≤i)]; rfl
   · exact fin i (by omega) h2
theorem ja {a b:Path} (ha:a.length<1000000):zbv a b=some (cmpP a b):=by
 have:=rY (b:=b) ha a.length 0 (by omega) (by omega) (by omega)
 simp only[List.drop_zero] at this
 rw[show (((0:Nat):Int))=0 from rfl] at this
 unfold zbv zaw
 rw[this]; rfl
def keyE (e:Ent):Path×Int:=(e.1,e.2.1)
def cmpK:Path×Int→Path×Int→Int:=cmpB cmpP cmpI
theorem ir:Cmp cmpK:=(Cmp.list adY).pair mU
theorem eQ {a b:Ent} (ha:a.1.length<1000000):zbg a b=some (cmpK (keyE a) (keyE b)):=by
 unfold zbg
 simp only[ja ha,jr,or_t,zb]
 rfl
def mayM (c:Int):Bool:=decide (32≤c∧(c<127∨159<c)∧c≠65533)
theorem afp (c:Int):zdp c=some (mayM c):=by
 unfold zdp mayM
 simp only[ae]
 by_cases h1:c≥32
 · rw[zp h1]
   by_cases h2:c<127
   · rw[zp h2,zf (by omega:¬ c=65533),zt (by omega)]; rfl
   · rw[zn h2]
     by_cases h3:c>159
     · rw[zp h3]
       by_cases h4:c=65533
       · rw[zt h4,zf (by omega)]; rfl
       · rw[zf h4,zt (by omega)]; rfl
     · rw[zn h3,zf (by omega)]
 · rw[zn h1,zf (by omega)]
theorem acj:∀ {s:List UInt8}{l:List Int},cD s=some l→l.length≤s.length:=by
 have key:∀ (n:Nat) (s:List UInt8) (l:List Int),s.length≤n→cD s=some l→l.length≤s.length:=by
   intro n
   induction n with
   | zero =>
     intro s l hn h
     have:s=[]:=List.eq_nil_of_length_eq_zero (by omega)
     subst this
     rw[gQ] at h; cases h; simp
   | succ n ih =>
     intro s l hn h
     by_cases hs:s=[]
     · subst hs
       rw[gQ] at h; cases h; simp
     · have hl:s.length≠0:=fun e=>hs (List.eq_nil_of_length_eq_zero e)
       by_cases h0:(aM s).2=0
       · rw[iy hs h0] at h; cases h
       · rw[fR hs h0,Option.map_eq_some_iff] at h
         obtain ⟨l',hl',rfl⟩:=h
         have:=ih _ l' (by rw[List.length_drop]; omega) hl'
         rw[List.length_drop] at this
         simp only[zl]; omega
 intro s l h
 exact key s.length s l (Nat.le_refl _) h
def uM (s:List UInt8):Bool:=match cD s with
 | some l=>decide (1≤l.length∧l.length≤24)&&l.all mayM
 | none=>false
theorem nr {s:List UInt8} (hs:s.length<1000000):zca s=some (uM s):=by
 unfold zca uM
 rw[aci (by omega)]
 simp only[zb]
 have gen:∀ (l:List Int) (ok:Bool),l.length<1000000→aK (qM (l,ok,())) ((0:Int),())=some (if l.all mayM=true then .inl () else .inr false):=by
   intro l ok hl
   have:=je (f:=qM (l,ok,())) (l:=l) (fun i=>((i:Int),())) mayM (.inl ()) (.inr false) (fun i h=>by
     unfold qM
     simp only[ae]
     rw[zp (by omega),aP h]
     simp only[zb,afp]
     cases mayM l[i] with
     | true=>simp only[Bool.not_true,cond_false,if_true]; rw[wrap64 (by omega) (by omega)]; rfl
     | false=>rfl) (by
     unfold qM
     simp only[ae]
     rw[zn (by omega)])
   exact this
 cases hr:cD s with
 | none =>
   have e:gf s []=([],false,()):=by unfold gf; rw[hr]
   rw[e,gen [] false (by simp)]
   rfl
 | some l =>
   have e:gf s []=(l,true,()):=by unfold gf; rw[hr]; rfl
   have hl:l.length≤s.length:=acj hr
   rw[e,gen l true (by omega)]
   cases hm:l.all mayM with
   | false =>
     simp only[Bool.false_eq_true,if_false,ce,hm,Bool.and_false]
   | true =>
     simp only[if_true,ay,cond_true,hm,Bool.and_true,ae]
     by_cases h1:(l.length:Int)≥1
     · rw[zp h1]
       congr 1
       rw[decide_eq_decide]; omega
     · rw[zn h1,zf (by omega)]
def fK (p:Path):Int:=if p.length=0 then 8 else if p.length>8 then 9 else if p.all uM=true then 0 else 8
theorem yH {p:Path} (hs:∀ x∈p,x.length<1000000):zco p=some (fK p):=by
 unfold zco fK
 simp only[ae]
 by_cases h1:(p.length:Int)=0
 · rw[zp h1,zp (show p.length=0 by omega)]
 rw[zn h1,zn (show ¬ p.length=0 by omega)]
 by_cases h2:(p.length:Int)>8
 · rw[zp h2,zp (show p.length>8 by omega)]
 rw[zn h2,zn (show ¬ p.length>8 by omega)]
 have:=je (f:=vU p) (l:=p) (fun i=>((i:Int),())) uM (0:Int) 8 (fun i h=>by
   unfold vU
   simp only[ae]
   rw[zp (by omega),aP h]
   simp only[zb,nr (hs _ (zm h))]
   cases uM p[i] with
   | true=>simp only[Bool.not_true,cond_false,if_true]; rw[wrap64 (by omega) (by omega)]; rfl
   | false=>rfl) (by
   unfold vU
   simp only[ae]
   rw[zn (by omega)])
 exact this
instance decE1:DecidableEq (List Val×Int×Unit):=fun a b => @instDecidableEqProd (List Val) (Int×Unit) inferInstance inferInstance a b
instance decE2:DecidableEq (Int×List Val×Int×Unit):=fun a b => @instDecidableEqProd Int (List Val×Int×Unit) inferInstance decE1 a b
instance decE:DecidableEq Ent:=fun a b => @instDecidableEqProd Path (Int×List Val×Int×Unit) inferInstance decE2 a b
instance decC1:DecidableEq (Ent×Unit):=fun a b => @instDecidableEqProd Ent Unit decE inferInstance a b
instance decC2:DecidableEq (Ent×Ent×Unit):=fun a b => @instDecidableEqProd Ent (Ent×Unit) decE decC1 a b
instance decC:DecidableEq Chg:=fun a b => @instDecidableEqProd Int (Ent×Ent×Unit) inferInstance decC2 a b
theorem anj {p:Prop} [Decidable p]:(if decide p=true then true else false)=decide p:=by cases decide p<;>rfl
theorem ite_bool {b:Bool}:(if b=true then true else false)=b:=by cases b<;>rfl
theorem wM {a b:Path} (ha:a.length<1000000):zay a b=some (decide (a=b)):=by
 unfold zay
 by_cases hl:a.length=b.length
 · rw[zt (by omega)]
   simp only[Bool.not_true,cond_false]
   have:=gy (f:=wz a b) (l:=a) (m:=b) (fun i=>((i:Int),())) (fun x y=>decide (x=y)) true false hl (fun i h h'=>by
     unfold wz
     simp only[ae]
     rw[zp (by omega),aP h,aP h']
     simp only[zb]
     cases decide (a[i]=b[i]) with
     | true=>simp only[Bool.not_true,cond_false,if_true]; rw[wrap64 (by omega) (by omega)]; rfl
     | false=>rfl) (by
     unfold wz
     simp only[ae]
     rw[zn (by omega)])
   rw[hJ,ite_bool] at this
   exact this
 · rw[zf (by omega)]
   have:a≠b:=fun e=>hl (by rw[e])
   rw[zf this]; rfl
theorem lW {a b:Path} (ha:a.length<1000000):zc7 a b=some (decide (a=b)):=by
 unfold zc7
 by_cases hl:a.length=b.length
 · rw[zt (by omega)]
   simp only[Bool.not_true,cond_false]
   have:=gy (f:=wb a b) (l:=a) (m:=b) (fun i=>((i:Int),())) (fun x y=>decide (x=y)) true false hl (fun i h h'=>by
     unfold wb
     simp only[ae]
     rw[zp (by omega),aP h,aP h']
     simp only[zb]
     cases decide (a[i]=b[i]) with
     | true=>simp only[Bool.not_true,cond_false,if_true]; rw[wrap64 (by omega) (by omega)]; rfl
     | false=>rfl) (by
     unfold wb
     simp only[ae]
     rw[zn (by omega)])
   rw[hJ,ite_bool] at this
   exact this
 · rw[zf (by omega)]
   have:a≠b:=fun e=>hl (by rw[e])
   rw[zf this]; rfl
theorem ae8 {a b:List Val} (ha:a.length<1000000):zar a b=some (decide (a=b)):=by
 unfold zar
 by_cases hl:a.length=b.length
 · rw[zt (by omega)]
   simp only[Bool.not_true,cond_false]
   have:=gy (f:=wA a b) (l:=a) (m:=b) (fun i=>((i:Int),())) (fun x y=>decide (x=y)) true false hl (fun i h h'=>by
     unfold wA
     simp only[ae]
     rw[zp (by omega),aP h,aP h']
     simp only[zb,zr]
     cases decide (a[i]=b[i]) with
     | true=>simp only[Bool.not_true,cond_false,if_true]; rw[wrap64 (by omega) (by omega)]; rfl
     | false=>rfl) (by
     unfold wA
     simp only[ae]
     rw[zn (by omega)])
   rw[hJ,ite_bool] at this
   exact this
 · rw[zf (by omega)]
   have:a≠b:=fun e=>hl (by rw[e])
   rw[zf this]; rfl
def lowE (e:Ent):Prop:=e.1.length<1000000∧e.2.2.1.length<1000000
theorem oz {a b:Path} (ha:a.length<1000000):zdh a b=some (decide (a=b)):=by
 unfold zdh
 rw[wM ha]; rfl
theorem yk {a b:Ent} (ha:lowE a):zdg a b=some (decide (a=b)):=by
 obtain ⟨p,k,l,n,⟨⟩⟩:=a
 obtain ⟨p',k',l',n',⟨⟩⟩:=b
 unfold zdg
 simp only[oz ha.1,ae8 ha.2,zb,ae]
 by_cases h1:k=k'
 · rw[zp h1]
   simp only[zb]
   by_cases h2:n=n'
   · by_cases h3:p=p'
     · by_cases h4:l=l'
       · simp[h1,h2,h3,h4]
       · simp[h1,h2,h3,h4]
     · simp[h1,h2,h3]
   · simp[h1,h2]
 · rw[zn h1]
   simp[h1]
theorem tk {a b:Ent} (ha:lowE a):zce a b=some (decide (a=b)):=by
 unfold zce zdd zaa
 simp only[zl,List.length_nil,decide_true,Bool.not_true,cond_false]
 have:=gy (f:=wE [a] [b]) (l:=[a]) (m:=[b]) (fun i=>((i:Int),())) (fun x y=>decide (x=y)) true false rfl (fun i h h'=>by
   have hi:i=0:=by simpa using h
   subst hi
   unfold wE
   simp only[ae]
   rw[zp (by simp),aP h,aP h']
   simp only[zb,List.getElem_cons_zero,yk ha]
   by_cases hab:a=b
   · simp only[zt hab,Bool.not_true,cond_false,if_true]; rw[wrap64 (by omega) (by omega)]; rfl
   · simp only[zf hab,Bool.not_false,cond_true,Bool.false_eq_true,if_false]) (by
   unfold wE
   simp only[ae]
   rw[zn (by simp)])
 rw[hJ,ite_bool] at this
 rw[show (0:Int)=((0:Nat):Int) from rfl,this]
 simp
theorem hC {e:Ent} (h:lowE e):zbu e=some e:=by
 unfold zbu zax zaq fJ
 have h1:e.1.length<most:=by unfold most; have:=h.1; omega
 have h2:e.2.2.1.length<most:=by unfold most; have:=h.2; omega
 rw[zp h1,zp h2]
 rfl
def og (e:Ent):Prop:=e.1.length≤12∧(∀ x∈e.1,x.length≤120)∧e.2.2.1.length≤400∧∀ v∈e.2.2.1,dh v=true
theorem wP {p:Path}:zcn p=some (decide (p.length≤12)&&p.all fun x=>decide (x.length≤120)):=by
 unfold zcn
 simp only[ae]
 by_cases h1:(p.length:Int)>12
 · rw[zp h1,zf (by omega)]; rfl
 rw[zn h1,zt (by omega),Bool.true_and]
 have:=je (f:=vV p) (l:=p) (fun i=>((i:Int),())) (fun x=>decide (x.length≤120)) true false (fun i h=>by
   unfold vV
   simp only[ae]
   rw[zp (by omega),aP h]
   simp only[zb]
   by_cases h2:(p[i].length:Int)>120
   · rw[zp h2,zn (by simp; omega)]
   · rw[zn h2,zp (by simp; omega),wrap64 (by omega) (by omega)]; rfl) (by
   unfold vV
   simp only[ae]
   rw[zn (by omega)])
 rw[ite_bool] at this
 exact this
def anF:Ent:=([],0,[],0,())
def uj (x y:Ent):Bool:=decide (x=y)
def uV (x:Ent):Chg:=(2,x,anF,())
def uO (y:Ent):Chg:=(1,anF,y,())
def kL (x y:Ent):Chg:=(3,x,y,())
def j0 (c:Chg):Ent:=if c.1=1 then c.2.2.1 else c.2.1
def dM:List Ent→List Ent→List Chg:=gp cmpK keyE uj uV uO kL
theorem av9:∀ (n:Nat) (a b:List Ent),a.length+b.length≤n→(dM a b).length≤a.length+b.length:=by
 intro n
 induction n with
 | zero =>
   intro a b h
   have e1:a=[]:=List.eq_nil_of_length_eq_zero (by omega)
   have e2:b=[]:=List.eq_nil_of_length_eq_zero (by omega)
   subst e1; subst e2
   simp[dM,gp]
 | succ n ih =>
   intro a b h
   match a,b,h with
   | [],b,h=>simp[dM,gp]
   | x::a,[],h=>simp[dM,gp]
   | x::a,y::b,h =>
     simp only[zl] at h
     have i1:=ih a (y::b) (by simp only[zl]; omega)
     have i2:=ih (x::a) b (by simp only[zl]; omega)
     have i3:=ih a b (by omega)
     simp only[zl] at i1 i2
     unfold dM at i1 i2 i3 ⊢
     rw[gp.eq_def]
     simp only
     split
     · simp only[zl]; omega
     · split
       · simp only[zl]; omega
       · rw[List.length_append]
         have:(if uj x y=true then [] else [kL x y]).length≤1:=by split<;>simp
         simp only[zl]; omega
theorem sub1 {A:Type}{x:A}{l:List A}:subI (x::l) 1 ((x::l).length:Int)=some l:=by
 have:=ex (l:=x::l) (i:=1) (by simp)
 simpa using this
theorem at0 {A:Type}{x:A}{l:List A}:atI (x::l) 0=some x:=by
 have:=iJ (l:=x::l) (i:=0)
 simpa using this
theorem adM:∀ (n:Nat) (a b:List Ent) (o:List Chg),a.length+b.length≤n→a.length+b.length+o.length<1000000→(∀ e∈a,lowE e)→(∀ e∈b,lowE e)→aK iO (a,b,o,())=some (o++dM a b):=by
 intro n
 induction n with
 | zero =>
   intro a b o h _ _ _
   have e1:a=[]:=List.eq_nil_of_length_eq_zero (by omega)
   have e2:b=[]:=List.eq_nil_of_length_eq_zero (by omega)
   subst e1; subst e2
   refine aD ?_
   unfold iO
   simp[dM,gp]
 | succ n ih =>
   intro a b o h hb la lb
   match a,b,h,hb,la,lb with
   | [],[],h,hb,la,lb =>
     refine aD ?_
     unfold iO
     simp[dM,gp]
   | [],y::b,h,hb,la,lb =>
     simp only[zl,List.length_nil] at h hb
     rw[aJ (b:=([],b,o++[uO y],())),ih [] b _ (by simp<;>omega) (by simp<;>omega) (fun e he=>by cases he) (fun e he=>lb e (List.mem_cons_of_mem _ he))]
     · simp[dM,gp]
     · unfold iO
       simp only[ae]
       rw[zn (by simp),zp (by simp<;>omega),ay]
       simp only[]
       rw[zn (by simp<;>omega),zn (by simp),ay]
       simp only[]
       rw[zn (by omega),zp (by omega),at0]
       simp only[zb,hC (lb y (List.mem_cons_self ..))]
       rw[aW (by simp<;>omega)]
       simp only[zb]
       rw[sub1]
       rfl
   | x::a,[],h,hb,la,lb =>
     simp only[zl,List.length_nil] at h hb
     rw[aJ (b:=(a,[],o++[uV x],())),ih a [] _ (by simp<;>omega) (by simp<;>omega) (fun e he=>la e (List.mem_cons_of_mem _ he)) (fun e he=>by cases he)]
     · cases a<;>simp[dM,gp]
     · unfold iO
       simp only[ae]
       rw[zp (by simp<;>omega),ay]
       simp only[]
       rw[zp (by simp),ay]
       simp only[]
       rw[zp (by omega),at0]
       simp only[zb,hC (la x (List.mem_cons_self ..))]
       rw[aW (by simp<;>omega)]
       simp only[zb]
       rw[sub1]
       rfl
   | x::a,y::b,h,hb,la,lb =>
     simp only[zl] at h hb
     have lx:=la x (List.mem_cons_self ..)
     have ly:=lb y (List.mem_cons_self ..)
     have la':∀ e∈a,lowE e:=fun e he=>la e (List.mem_cons_of_mem _ he)
     have lb':∀ e∈b,lowE e:=fun e he=>lb e (List.mem_cons_of_mem _ he)
     have hd:dM (x::a) (y::b)=if cmpK (keyE x) (keyE y)<0 then uV x::dM a (y::b) else if cmpK (keyE x) (keyE y)>0 then uO y::dM (x::a) b else (if uj x y then [] else [kL x y])++dM a b:=by
       unfold dM
       rw[gp.eq_def]
     rw[hd]
     by_cases h1:cmpK (keyE x) (keyE y)<0
     · rw[zp h1,aJ (b:=(a,y::b,o++[uV x],())),ih a (y::b) _ (by simp only[zl]; omega) (by simp<;>omega) la' lb]
       · simp
       · unfold iO
         simp only[ae]
         rw[zp (by simp<;>omega),ay]
         simp only[]
         rw[zn (by simp<;>omega),zp (by simp<;>omega),at0,at0]
         simp only[zb,eQ lx.1,bd]
         rw[zp h1]
         simp only[zb,hC lx]
         rw[aW (by simp<;>omega)]
         simp only[zb]
         rw[sub1]
         rfl
     · rw[zn h1]
       by_cases h2:cmpK (keyE x) (keyE y)>0
       · rw[zp h2,aJ (b:=(x::a,b,o++[uO y],())),ih (x::a) b _ (by simp only[zl]; omega) (by simp<;>omega) la lb']
         · simp
         · unfold iO
           simp only[ae]
           rw[zp (by simp<;>omega),ay]
           simp only[]
           rw[zn (by simp<;>omega),zp (by simp<;>omega),at0,at0]
           simp only[zb,eQ lx.1,bd]
           rw[zn h1,zp h2]
           simp only[zb,hC ly]
           rw[aW (by simp<;>omega)]
           simp only[zb]
           rw[sub1]
           rfl
       · rw [zn h2, aJ (b := (a, b, o ++ (if uj x y then [] else [kL x y]), ())), ih a b _ (by omega) (by
           rw[List.length_append]
           have:(if uj x y=true then [] else [kL x y]).length≤1:=by split<;>simp
           omega) la' lb']
         · simp
         · unfold iO
           simp only[ae]
           rw[zp (by simp<;>omega),ay]
           simp only[]
           rw[zn (by simp<;>omega),zp (by simp<;>omega),at0,at0]
           simp only[zb,eQ lx.1,bd]
           rw[zn h1,zn h2]
           simp only[zb,tk lx,hC lx,hC ly]
           unfold uj
           by_cases hxy:x=y
           · simp only[zt hxy,Bool.not_true,cond_false,if_true,List.append_nil]
             rw[ay,sub1,sub1]
             rfl
           · simp only[zf hxy,Bool.not_false,cond_true,Bool.false_eq_true,if_false]
             rw[aW (by simp<;>omega)]
             simp only[zb,bd]
             rw[sub1,sub1]
             rfl
theorem av6 {a b:List Ent} (h:a.length+b.length<1000000) (la:∀ e∈a,lowE e) (lb:∀ e∈b,lowE e):zcp a b=some (dM a b):=by
 have:=adM _ a b [] (Nat.le_refl _) (by simpa using h) la lb
 simpa [zcp] using this
def ayw (e:Ent):Prop:=lowE e∧∀ x∈e.1,x.length<1000000
theorem ct {R X S:Type}{g:S→X→S}{fin:S→R}:∀ (l:List X) (i:Nat) (s:S),fH (fun _ x s=>.inl (g s x)) fin i l s=fin (l.foldl g s)
 | [],_,s=>rfl
 | x::l,i,s=>by simp only[fH,List.foldl_cons]; exact ct l (i+1) (g s x)
theorem wK {sep:List UInt8}{m:Nat}:∀ {l:List (List UInt8)},(∀ x∈l,x.length≤m)→(Lib.joinTail sep l).length≤l.length*(sep.length+m)
 | [],_=>by simp[Lib.joinTail]
 | x::l,h=>by
   have h1:=h x (List.mem_cons_self ..)
   have h2:=wK (sep:=sep) (l:=l) (fun y hy=>h y (List.mem_cons_of_mem _ hy))
   have e:Lib.joinTail sep (x::l)=sep++x++Lib.joinTail sep l:=by simp[Lib.joinTail]
   rw[e]
   simp only[List.length_append,zl,Nat.succ_mul]
   omega
theorem qe {sep:List UInt8}{m:Nat}{l:List (List UInt8)} (h:∀ x∈l,x.length≤m):(Lib.join l sep).length≤l.length*(sep.length+m):=by
 cases l with
 | nil=>simp[Lib.join_nil]
 | cons x l =>
   have h1:=h x (List.mem_cons_self ..)
   have h2:=wK (sep:=sep) (l:=l) (fun y hy=>h y (List.mem_cons_of_mem _ hy))
   rw[Lib.join_cons]
   simp only[List.length_append,zl,Nat.succ_mul]
   omega
def e8 (s:List UInt8):List UInt8:=s.flatMap fun b=>if b.toNat=47∨b.toNat=92 then [92,b] else [b]
theorem acd {s:List UInt8}:(e8 s).length≤2*s.length:=by
 induction s with
 | nil=>simp[e8]
 | cons b s ih =>
   unfold e8 at ih ⊢
   rw[List.flatMap_cons,List.length_append,zl]
   have:(if b.toNat=47∨b.toNat=92 then [92,b] else [b]).length≤2:=by split<;>simp
   omega
theorem uL {s:List UInt8} (hs:s.length<1000000):zc2 s=some (e8 s):=by
 have key:∀ (k i:Nat) (b:Bool) (o:List UInt8),s.length-i≤k→i≤s.length→o.length≤2*i→aK (nL s) ((i:Int),bI o,(b,(),()),())=some (o++e8 (s.drop i)):=by
   intro k
   have fin:∀ (i:Nat) (b:Bool) (o:List UInt8),i=s.length→o.length≤2*i→aK (nL s) ((i:Int),bI o,(b,(),()),())=some (o++e8 (s.drop i)):=by
     intro i b o hi ho
     refine aD ?_
     unfold nL
     simp only[ae]
     rw[zn (by omega),pE (by omega),List.drop_eq_nil_of_le (by omega)]
     simp[e8]
   induction k with
   | zero=>intro i b o hk hi ho; exact fin i b o (by omega) ho
   | succ k ih =>
     intro i b o hk hi ho
     by_cases hlt:i<s.length
     · have hl:∀ o:List UInt8,(bI o).length=o.length:=fun o=>kD
       have tail:∀ (b:Bool) (o:List UInt8),o.length≤2*i+1→((za1 ((s[i].toNat:Nat):Int) (b,(),()) (bI o)).bind fun q7=>(some (.inl ((IntKind.wrap .i64 ((i:Int)+1)),q7.2.2.1,q7.2.1,())):Option ((Int×List Int×(Bool×Unit×Unit)×Unit)⊕List UInt8)))=some (.inl (((i+1:Nat):Int),bI (o++[s[i]]),(true,(),()),())):=by
         intro b o ho
         rw[dF (by rw[hl]; omega),wrap64 (by omega) (by omega)]
         simp only[zb,jy]
         rfl
       have w92:∀ (b:Bool),za1 92 (b,(),()) (bI o)=some (false,(true,(),()),bI (o++[92]),()):=by
         intro b
         rw[dF (by rw[hl]; omega),jy]
         rfl
       have hd:e8 (s.drop i)=(if s[i].toNat=47∨s[i].toNat=92 then [92,s[i]] else [s[i]])++e8 (s.drop (i+1)):=by
         rw[List.drop_eq_getElem_cons hlt]
         unfold e8
         rw[List.flatMap_cons]
       have turn:nL s ((i:Int),bI o,(b,(),()),())=some (.inl (((i+1:Nat):Int),bI (o++(if s[i].toNat=47∨s[i].toNat=92 then [92,s[i]] else [s[i]])),(true,(),()),())):=by
         unfold nL
         simp only[ae]
         rw[zp (by omega),aP hlt]
         simp only[zb]
         by_cases h1:s[i].toNat=47
         · rw[zp (by omega),w92]
           simp only[zb,bd]
           rw[tail _ _ (by simp<;>omega),zp (.inl h1),List.append_assoc]
           rfl
         · rw[zn (by omega)]
           by_cases h2:s[i].toNat=92
           · rw[zp (by omega),w92]
             simp only[zb,bd]
             rw[tail _ _ (by simp<;>omega),zp (.inr h2),List.append_assoc]
             rfl
           · rw[zn (by omega)]
             simp only[zb,bd]
             rw[tail _ _ (by omega),zn (by omega)]
       rw[aJ turn,ih (i+1) true _ (by omega) (by omega) (by
         rw[List.length_append]
         have:(if s[i].toNat=47∨s[i].toNat=92 then [92,s[i]] else [s[i]]).length≤2:=by split<;>simp
         omega),hd,List.append_assoc]
     · exact fin i b o (by omega) ho
 have:=key s.length 0 false [] (by omega) (by omega) (by simp)
 simpa [zc2,bI] using this
def uC (p:Path):List UInt8:=Lib.join (p.map e8) [47]
theorem agQ {l:List (List UInt8)}{sep:List UInt8}{m:Nat} (hl:l.length≤1000) (hs:sep.length≤1000) (hm:m≤1000000) (h:∀ x∈l,x.length≤m):zbt l sep=some (Lib.join l sep):=by
 unfold zbt afQ
 have:=qe (sep:=sep) h
 have h2:l.length*(sep.length+m)≤1000*1001000:=Nat.mul_le_mul hl (by omega)
 rw[zp ⟨by omega,by omega⟩]
theorem ki {p:Path} (h:∀ x∈p,x.length≤120):∀ x∈p.map e8,x.length≤240:=by
 intro x hx
 rw[List.mem_map] at hx
 obtain ⟨y,hy,rfl⟩:=hx
 have:=h y hy
 have:=acd (s:=y)
 omega
theorem rX {p:Path} (h1:p.length≤12) (h:∀ x∈p,x.length≤120):(uC p).length≤3000:=by
 have:=qe (sep:=[47]) (ki h)
 rw[List.length_map] at this
 have h2:p.length*(([47]:List UInt8).length+240)≤12*241:=Nat.mul_le_mul h1 (by simp)
 unfold uC
 omega
theorem yQ {p:Path} (h1:p.length≤12) (h:∀ x∈p,x.length≤120):zdf p=some (uC p):=by
 have:=bG (f:=vM p) (l:=p) (S:=List (List UInt8)) (fun i o=>((i:Int),o,())) (fun i x o=>.inl (o++[e8 x])) (fun _=>uC p) (fun i o=>o=(p.take i).map e8) (fun i hi o ho=>.inl ⟨_,rfl,by
   unfold vM
   simp only[ae]
   have hq:=h _ (zm hi)
   rw[zp (by omega),aP hi]
   simp only[zb,uL (show p[i].length<1000000 by omega)]
   rw[aW (by rw[ho]; simp; omega),wrap64 (by omega) (by omega)]
   rfl,by
   rw[ho,List.take_add_one,List.map_append,zg hi]
   rfl⟩) (fun o ho=>by
   unfold vM
   simp only[ae]
   rw[List.take_length] at ho
   subst ho
   rw[zn (by omega),agQ (m:=240) (by simp; omega) (by simp) (by omega) (ki h)]
   rfl) [] (by simp)
 rw[ct] at this
 exact this
def ym (l:List Val):List UInt8:=Lib.join (l.map jM) [32]
def uQ (e:Ent):List UInt8 :=
 if e.2.1=1 then uC e.1++[32,61,32]++ym e.2.2.1 else if e.2.1=2 then uC e.1++[32,58,32]++ym e.2.2.1 else uC e.1++[32,35,32]++Lib.itoa e.2.2.2.1
theorem ab4 {v:Val} (h:dh v=true):(jM v).length≤1000:=by
 rcases ko h with ⟨n,rfl,g1,g2⟩ | ⟨s,l,rfl,g1,g2⟩ | rfl | rfl
 · have:=xc (n:=n) (by omega) (by omega)
   show (Lib.itoa n).length≤1000
   omega
 · have:=rR s
   show ([34]++cT s++[34]).length≤1000
   simp only[List.length_append,zl,List.length_nil]; omega
 · decide
 · decide
theorem wG {l:List Val} (h:∀ v∈l,dh v=true):∀ x∈l.map jM,x.length≤1000:=by
 intro x hx
 rw[List.mem_map] at hx
 obtain ⟨v,hv,rfl⟩:=hx
 exact ab4 (h v hv)
theorem rn {l:List Val} (hl:l.length≤400) (h:∀ v∈l,dh v=true):(ym l).length≤500000:=by
 have:=qe (sep:=[32]) (wG h)
 rw[List.length_map] at this
 have h2:l.length*(([32]:List UInt8).length+1000)≤400*1001:=Nat.mul_le_mul hl (by simp)
 unfold ym
 omega
theorem su {n:Int} (h:inR n):(Lib.itoa n).length≤21:=xc h.1 h.2
theorem jh {e:Ent} (h:og e) (hn:inR e.2.2.2.1):(uQ e).length≤600000:=by
 have h1:=rX h.1 h.2.1
 have h2:=rn h.2.2.1 h.2.2.2
 have h3:=su hn
 unfold uQ
 split
 · simp only[List.length_append,zl,List.length_nil]; omega
 · split<;>simp only[List.length_append,zl,List.length_nil]<;>omega
theorem nU {e:Ent} (h:og e) (hn:inR e.2.2.2.1):zdj e=some (uQ e):=by
 have l1:=bG (f:=vK e) (l:=e.2.2.1) (S:=List (List UInt8)) (fun i o=>((i:Int),o,())) (fun i x o=>.inl (o++[jM x])) (fun o=>(.inl (o,()):(List (List UInt8)×Unit)⊕List UInt8)) (fun i o=>o.length≤i) (fun i hi o ho=>.inl ⟨_,rfl,by
   unfold vK
   simp only[ae]
   have hv:=h.2.2.2 _ (zm hi)
   have hl:=h.2.2.1
   rw[zp (by omega),aP hi]
   simp only[zb,tZ hv]
   rw[aW (by simp; omega),wrap64 (by omega) (by omega)]
   rfl,by simp; omega⟩) (fun o ho=>by
   unfold vK
   simp only[ae]
   rw[zn (by omega)]) [] (by simp)
 rw[ct] at l1
 have fl:∀ (l:List Val) (o:List (List UInt8)),l.foldl (fun s x=>s++[jM x]) o=o++l.map jM:=by
   intro l
   induction l with
   | nil=>intro o; simp
   | cons x l ih=>intro o; rw[List.foldl_cons,ih]; simp
 rw[fl,List.nil_append] at l1
 have hl:=h.2.2.1
 have p1:=rX h.1 h.2.1
 have p2:=rn h.2.2.1 h.2.2.2
 have p3:=su hn
 have hj:zbt (e.2.2.1.map jM) [32]=some (ym e.2.2.1):=agQ (m:=1000) (by simp; omega) (by simp) (by omega) (wG h.2.2.2)
 unfold zdj
 rw[show ((0:Int),([]:List (List UInt8)),())=(((0:Nat):Int),[],()) from rfl,l1,ay]
 simp only[hj,zb,yQ h.1 h.2.1,rA hn,ae]
 unfold uQ
 by_cases h1:e.2.1=1
 · rw[zp h1,zp h1,cw (by simp; omega)]
   simp only[zb]
   rw[cw (by simp; omega)]
   rfl
 · rw[zn h1,zn h1]
   by_cases h2:e.2.1=2
   · rw[zp h2,zp h2,cw (by simp; omega)]
     simp only[zb]
     rw[cw (by simp; omega)]
     rfl
   · rw[zn h2,zn h2,cw (by simp; omega)]
     simp only[zb]
     rw[cw (by simp; omega)]
     rfl
def jg (c:Chg):List UInt8:=(if c.1=1 then [] else [45,32]++uQ c.2.1++[10])++(if c.1=2 then [] else [43,32]++uQ c.2.2.1++[10])
def fitC (c:Chg):Prop:=(og c.2.1∧inR c.2.1.2.2.2.1)∧og c.2.2.1∧inR c.2.2.1.2.2.2.1
theorem ac6 {c:Chg} (h:fitC c):(jg c).length≤1300000:=by
 have h1:=jh h.1.1 h.1.2
 have h2:=jh h.2.1 h.2.2
 unfold jg
 split<;>split<;>simp only[List.length_append,zl,List.length_nil]<;>omega
theorem fN {s:List UInt8}{v:Bool×Unit×Unit}{o:List UInt8} (hw:o.length+s.length<4294967000):zaz s v (bI o)=some (((s.length:Int),false,()),(true,(),()),bI (o++s),()):=by
 unfold zaz
 have h:za2 v (bI o)=some ((),(true,(),()),bI o,()):=by
   obtain ⟨b,_,_⟩:=v
   unfold za2
   cases b<;>rfl
 rw[h]
 simp only[zb]
 rw[aW (by rw[kD]; simp; omega),jy]
 rfl
theorem tj {l:List Chg} (hl:l.length≤1000) (hf:∀ c∈l,fitC c):zb7 l=some (l.flatMap jg):=by
 have:=bG (f:=wq l) (l:=l) (S:=Bool×List UInt8) (fun i s=>((i:Int),bI s.2,(s.1,(),()),())) (fun _ c s=>.inl (if c.1=1∧c.1=2 then s.1 else true,s.2++jg c)) (fun s=>s.2) (fun i s=>s.2.length≤1300000*i) (fun i hi s ho=>.inl ⟨_,rfl,by
   have hc:=hf _ (zm hi)
   have g1:=jh hc.1.1 hc.1.2
   have g2:=jh hc.2.1 hc.2.2
   have w1:IntKind.wrap .i64 ((i:Int)+1)=((i+1:Nat):Int):=by rw[wrap64 (by omega) (by omega)]; rfl
   unfold wq
   simp only[ae]
   rw[zp (by omega),aP hi]
   have v1:=nU hc.1.1 hc.1.2
   have v2:=nU hc.2.1 hc.2.2
   simp only[zb,v1,w1]
   generalize l[i]=c at *
   unfold jg
   rw[zn (show ¬ (c.1=1∧c.1=2) by omega)]
   by_cases h1:c.1=1
   · rw[zt h1,zp h1,zn (show ¬ c.1=2 by omega)]
     simp only[Bool.not_true,cond_false,zb,bd]
     rw[zf (show ¬ c.1=2 by omega)]
     simp only[Bool.not_false,cond_true,v2,zb]
     rw[cw (by simp; omega)]
     simp only[zb]
     rw[cw (by simp; omega)]
     simp only[zb]
     rw[fN (by simp; omega)]
     rfl
   · rw[zf h1,zn h1]
     simp only[Bool.not_false,cond_true]
     rw[cw (by simp; omega)]
     simp only[zb]
     rw[cw (by simp; omega)]
     simp only[zb]
     rw[fN (by simp; omega)]
     simp only[zb,bd]
     by_cases h2:c.1=2
     · rw[zt h2,zp h2]
       simp only[Bool.not_true,cond_false,List.append_nil]
     · rw[zf h2,zn h2]
       simp only[Bool.not_false,cond_true,v2,zb]
       rw[cw (by simp; omega)]
       simp only[zb]
       rw[cw (by simp; omega)]
       simp only[zb]
       rw[fN (by simp; omega),List.append_assoc s.2]
       rfl,by
   have:=ac6 (hf _ (zm hi))
   simp only[List.length_append]; omega⟩) (fun s ho=>by
   unfold wq
   simp only[ae]
   rw[zn (by omega),pE (by omega)]
   rfl) (false,[]) (by simp)
 rw[ct] at this
 have gen:∀ (l:List Chg) (s:Bool×List UInt8),(l.foldl (fun (s:Bool×List UInt8) (c:Chg)=>(if c.1=1∧c.1=2 then s.1 else true,s.2++jg c)) s).2=s.2++l.flatMap jg:=by
   intro l
   induction l with
   | nil=>intro s; simp
   | cons c l ih=>intro s; rw[List.foldl_cons,ih]; simp[List.flatMap_cons]
 rw[gen] at this
 exact this
theorem sC {n:Nat} (h:n<9000000):shrT .u64 (IntKind.wrap .u64 (IntKind.wrap .i64 (n:Int))) 1=some ((n/2:Nat):Int):=by
 rw[wrap64 (by omega) (by omega)]
 have w:IntKind.wrap .u64 (n:Int)=(n:Int):=by simp[IntKind.wrap,IntKind.bits,IntKind.signed]; omega
 rw[w]
 unfold shrT
 rw[zn (by omega)]
 have e:(2:Int) ^ min (Int.toNat 1) (IntKind.bits .u64)=2:=by decide
 rw[e,Int.fdiv_eq_ediv_of_nonneg _ (by omega)]
 congr 1
def one (c:Int) (a:List Int):Prop:=c = -2∨∃ x,a=[x]∧(c = -1∨c=x)
def Mt:List Int→List Int→Prop
 | [],t=>t=[]
 | c::o,t=>∃ a b,t=a++b∧one c a∧Mt o b
structure Inv (o t:List Int) (k:Nat) (star:Int) (mark i:Nat):Prop where
 k_le:k≤o.length
 i_le:i≤t.length
 no:star<0→(Mt o t↔Mt (o.drop k) (t.drop i))
 is:∀ st:Nat,star=(st:Int)→st<k∧mark≤i∧(Mt o t↔Mt (-2::o.drop (st+1)) (t.drop mark))∧(Mt (o.drop k) (t.drop i)→Mt (o.drop (st+1)) (t.drop mark))∧(∀ u,Mt (o.drop (st+1)) u→Mt (o.drop k) (u.drop (i-mark)))
 le : -1≤star
theorem fk (a b:Val):zbi a b=some (cmpV a b):=by
 unfold zbi cmpV zbd cmpT
 simp only[jr,ays,zb]
abbrev Dot1:=Int×Int×Unit
abbrev Ref1:=Dot1×Int×Unit
abbrev Op1:=Int×Path×Val×Int×List Ref1×Unit
abbrev Txn1:=Dot1×Int×Int×Bool×List Op1×Unit
abbrev aZ:=Ref1×Op1×Int×Unit
abbrev kK:Ty:=.agg (.cons (.agg (.cons (.int .i64) (.cons (.int .i64) .unit))) (.cons (.int .i64) .unit))
theorem vE {K L:Type}{c:K→K→Int} (h:Cmp c) (f:L→K) (hf:∀ a b,f a=f b→a=b):Cmp fun a b=>c (f a) (f b) where
 one a b:=h.one _ _
 neg a b:=h.neg _ _
 zero a b:=⟨fun e=>hf _ _ ((h.zero _ _).1 e),fun e=>(h.zero _ _).2 (by rw[e])⟩
 trans a b d:=h.trans _ _ _
theorem d5:Cmp cmpD:=by
 have:cmpD=fun a b=>cmpB cmpI cmpI ((fun x:Dot1=>(x.1,x.2.1)) a) ((fun x:Dot1=>(x.1,x.2.1)) b):=rfl
 rw[this]
 exact vE (mU.pair mU) _ fun a b h=>by
   obtain ⟨a1,a2,⟨⟩⟩:=a; obtain ⟨b1,b2,⟨⟩⟩:=b
   simp only[Prod.mk.injEq] at h
   rw[h.1,h.2]
def cmpR (a b:Ref1):Int:=orI (cmpD a.1 b.1) (cmpI a.2.1 b.2.1)
theorem fI:Cmp cmpV:=by
 have:cmpV=fun a b=>cmpB cmpI (cmpB cmpI Lib.compareBytes) ((fun x:Val=>(x.1,x.2.1,x.2.2.1)) a) ((fun x:Val=>(x.1,x.2.1,x.2.2.1)) b):=rfl
 rw[this]
 exact vE (mU.pair (mU.pair adY)) _ fun a b h=>by
   obtain ⟨a1,a2,a3,⟨⟩⟩:=a; obtain ⟨b1,b2,b3,⟨⟩⟩:=b
   simp only[Prod.mk.injEq] at h
   rw[h.1,h.2.1,h.2.2]
theorem adl (a b:Int):zcq a b=some (cmpI a b):=by
 unfold zcq cmpI
 simp only[ae]
 by_cases h1:a<b
 · rw[zp h1,zp h1]
 · by_cases h2:a>b
   · rw[zn h1,zp h2,zn h1,zp h2]
   · rw[zn h1,zn h2,zn h1,zn h2]
theorem ta (a b:Int):cmpI a b=0↔a=b:=mU.zero a b
theorem iX (a b:Dot1):zbk a b=some (cmpD a b):=by
 unfold zbk cmpD orI
 simp only[adl,zb,bm]
 by_cases h:a.1=b.1
 · rw[zp h,zp ((ta _ _).2 h)]
 · rw[zn h,zn (fun e=>h ((ta _ _).1 e))]
theorem afo (a b:Ref1):zc1 a b=some (cmpR a b):=by
 unfold zc1 cmpR orI
 simp only[iX,adl,zb,bm]
 by_cases h:cmpD a.1 b.1=0
 · rw[zp h,zp h]
 · rw[zn h,zn h]
theorem mN (a b:Dot1):zb0 a b=some (cmpD a b):=by
 unfold zb0
 simp only[jr,or_t,zb]
 rfl
theorem dH (d:Dot1):zcj d=some (bg d):=by
 unfold zcj bg
 simp only[ae]
 by_cases h1:d.1≥0<;>by_cases h2:d.1≤15<;>by_cases h3:d.2.1≥1<;>by_cases h4:d.2.1≤1048576<;>simp[h1,h2,h3,h4]<;>omega
theorem lT {A K:Type}{c:K→K→Int}{key:A→K} (hc:Cmp c):∀ {l:List A},(∀ i,(h:i+1<l.length)→c (key l[i]) (key l[i+1])<0)→iM c key l
 | [],_=>List.Pairwise.nil
 | [x],_=>List.pairwise_singleton ..
 | x::y::l,h=>by
   have ih:=lT hc (l:=y::l) (fun i hi=>h (i+1) (by simpa using hi))
   have h0:=h 0 (by simp)
   refine List.pairwise_cons.2 ⟨fun z hz => ?_,ih⟩
   rcases List.mem_cons.1 hz with e | hz'
   · subst e; exact h0
   · exact hc.trans _ _ _ h0 ((List.pairwise_cons.1 ih).1 z hz')
theorem adE (a b:Ref1):eqV kK a b=decide (a=b):=by
 obtain ⟨⟨a1,a2,⟨⟩⟩,a3,⟨⟩⟩:=a
 obtain ⟨⟨b1,b2,⟨⟩⟩,b3,⟨⟩⟩:=b
 simp only[eqV,Prod.mk.injEq,and_true]
 by_cases h1:a1=b1<;>by_cases h2:a2=b2<;>by_cases h3:a3=b3<;>simp[h1,h2,h3]
theorem kc (a b:Dot1):eqV (.agg (.cons (.int .i64) (.cons (.int .i64) .unit))) a b=decide (a=b):=by
 obtain ⟨a1,a2,⟨⟩⟩:=a
 obtain ⟨b1,b2,⟨⟩⟩:=b
 simp only[eqV,Prod.mk.injEq,and_true]
 by_cases h1:a1=b1<;>by_cases h2:a2=b2<;>simp[h1,h2]
def avL (x:Ref1):Bool:=bg x.1&&decide (0≤x.2.1∧x.2.1≤15)
def acu (l:List Ref1) (i:Nat):Bool :=
 match l[i]? with
 | some x=>avL x&&(decide (i=0)||match l[i-1]? with
   | some y=>decide (cmpR y x = -1)
   | none=>false)
 | none=>false
open Classical in
noncomputable def kM (l:List Ref1):Bool:=if (∀ i,i<l.length→acu l i=true) then true else false
theorem acv {l:List Ref1} (hl:l.length<1000000):zc4 l=some (kM l):=by
 have:=mn (f:=we l) l.length (fun i=>((i:Int),())) (acu l) true false (fun i h=>by
   unfold we acu avL
   rw[zg h]
   simp only[ae]
   rw[zp (by omega),aP h]
   simp only[zb,dH]
   by_cases h0:bg l[i].1=true
   · simp only[h0,Bool.not_true,cond_false,Bool.true_and]
     by_cases h1:l[i].2.1<0
     · rw[zp h1,zf (by omega)]; rfl
     rw[zn h1]
     by_cases h2:l[i].2.1>15
     · rw[zp h2,zf (by omega)]; rfl
     rw[zn h2,zt (by omega),Bool.true_and]
     by_cases h3:i=0
     · subst h3
       rw[zn (by omega),wrap64 (by omega) (by omega)]; rfl
     · rw[zp (by omega),wrap64 (by omega) (by omega),show (i:Int)-1=((i-1:Nat):Int) by omega,aP (by omega),zg (show i-1<l.length by omega)]
       simp only[zb,afo,bm]
       by_cases h4:cmpR l[i-1] l[i] = -1
       · rw[zp h4,wrap64 (by omega) (by omega)]; simp[h3,h4]
       · rw[zn h4]; simp[h3,h4]
   · have h0:bg l[i].1=false:=by simpa using h0
     simp only[h0,Bool.not_false,cond_true,Bool.false_and]; rfl) (by
   unfold we
   simp only[ae]
   rw[zn (by omega)])
 unfold zc4 kM
 rw[show ((0:Int),())=(((0:Nat):Int),()) from rfl,this]
def zeroV:Val:=(0,0,[],())
noncomputable def opM (o:Op1):Int :=
 if o.1<1∨5<o.1 then 18 else if fK o.2.1≠0 then fK o.2.1
 else if (o.1=3∨o.1=5)∧o.2.2.1≠zeroV then 2
 else if ¬ (o.1=3∨o.1=5)∧dh o.2.2.1=false then 2
 else if o.1≠3∧o.2.2.2.1≠0 then 2
 else if o.1=3∧(o.2.2.2.1=0∨o.2.2.2.1>2147483647∨o.2.2.2.1 < -2147483647) then 2
 else if (o.1=2∨o.1=3)∧0<o.2.2.2.2.1.length then 2
 else if 256<o.2.2.2.2.1.length then 7
 else if kM o.2.2.2.2.1=true then 0 else 2
def rG (o:Op1):Prop:=o.2.1.length≤12∧(∀ x∈o.2.1,x.length≤120)∧o.2.2.1.2.2.1.length≤200∧o.2.2.2.2.1.length≤300
theorem amC {o:Op1} (h:rG o):zby o=some (opM o):=by
 obtain ⟨s1,s2,s3,s4⟩:=h
 obtain ⟨k,p,v,n,sn,⟨⟩⟩:=o
 simp only at s1 s2 s3 s4
 unfold zby opM
 simp only[ae,bm,zr,yH (p:=p) (fun x hx=>by have:=s2 x hx; omega),uw (v:=v) (by omega),acv (l:=sn) (by omega),zb]
 have ez:((0,0,[],()):Val)=zeroV:=rfl
 simp only[ez]
 by_cases a1:k<1
 · rw[zp a1,zp (.inl a1)]
 rw[zn a1]
 by_cases a2:k>5
 · rw[zp a2,zp (.inr a2)]
 rw[zn a2]
 rw[zn (show ¬ (k<1∨5<k) by omega)]
 by_cases a3:¬ fK p=0
 · rw[zn a3,zp (show fK p≠0 from a3)]
 have a3:fK p=0:=Classical.not_not.1 a3
 rw[zp a3,zn (show ¬ fK p≠0 from fun e=>e a3)]
 have hlen:((sn.length:Int)>0)↔0<sn.length:=by omega
 have hlen2:((sn.length:Int)>256)↔256<sn.length:=by omega
 simp only[hlen,hlen2]
 have last:(cond (!kM sn) (some (2:Int)) (some 0))=some (if kM sn=true then 0 else 2):=by cases kM sn<;>rfl
 by_cases k3:k=3
 · subst k3
   by_cases hz:v=zeroV
   · by_cases n0:n=0
     · simp[hz,n0]
     · by_cases n1:n>2147483647
       · simp[hz,n0,n1]
       · by_cases n2:n < -2147483647
         · simp[hz,n0,n1,n2]
         · by_cases l0:0<sn.length
           · simp[hz,n0,n1,n2,l0]
           · by_cases l2:256<sn.length
             · omega
             · simp[hz,n0,n1,n2,l0,l2,last]
   · simp[hz]
 · by_cases k5:k=5
   · subst k5
     by_cases hz:v=zeroV
     · by_cases n0:n=0
       · by_cases l2:256<sn.length
         · simp[hz,n0,l2]
         · simp[hz,n0,l2,last]
       · simp[hz,n0]
     · simp[hz]
   · cases hr:dh v with
     | false=>simp[k3,k5,hr]
     | true =>
       by_cases n0:n=0
       · by_cases k2:k=2
         · subst k2
           by_cases l0:0<sn.length
           · simp[n0,l0]
           · by_cases l2:256<sn.length
             · omega
             · simp[n0,l0,l2,last]
         · by_cases l2:256<sn.length
           · simp[k2,k3,k5,n0,l2]
           · simp[k2,k3,k5,n0,l2,last]
       · simp[k3,k5,n0]
def j8 (o:Op1):Bool:=decide (o.1=0∧o.2.1=[]∧o.2.2.1=zeroV∧o.2.2.2.1=0∧o.2.2.2.2.1=[])
theorem av4 (o:Op1):zct o=some (j8 o):=by
 obtain ⟨k,p,v,n,sn,⟨⟩⟩:=o
 unfold zct j8
 simp only[ae,zr]
 have ez:((0,0,[],()):Val)=zeroV:=rfl
 simp only[ez]
 have e1:((p.length:Int)=0)↔p=[]:=by rw[show ((p.length:Int)=0)↔p.length=0 by omega,List.length_eq_zero_iff]
 have e2:((sn.length:Int)=0)↔sn=[]:=by rw[show ((sn.length:Int)=0)↔sn.length=0 by omega,List.length_eq_zero_iff]
 simp only[e1,e2]
 by_cases h1:k=0<;>by_cases h2:p=[]<;>by_cases h3:v=zeroV<;>by_cases h4:n=0<;>by_cases h5:sn=[]<;>simp[h1,h2,h3,h4,h5]
def lL (o:Op1):Bool:=decide (o.2.1.length≤12)&&(o.2.1.all fun x=>decide (x.length≤120))&&decide (o.2.2.1.2.2.1.length≤200)&&decide (o.2.2.2.2.1.length≤300)
theorem acf (o:Op1):zb9 o=some (lL o):=by
 unfold zb9 lL
 simp only[wP,zb,ae]
 cases (decide (o.2.1.length≤12)&&o.2.1.all fun x=>decide (x.length≤120)) with
 | false=>rfl
 | true =>
   rw[cond_true,Bool.true_and]
   by_cases h3:((o.2.2.1.2.2.1.length:Int)≤200)
   · rw[zp h3,zt (show o.2.2.1.2.2.1.length≤200 by omega),Bool.true_and]
     congr 1
     by_cases h4:((o.2.2.2.2.1.length:Int)≤300)
     · rw[zt h4,zt (by omega)]
     · rw[zf h4,zf (by omega)]
   · rw[zn h3,zf (show ¬ o.2.2.1.2.2.1.length≤200 by omega)]; rfl
theorem oj {o:Op1}:lL o=true↔rG o:=by
 unfold lL rG
 simp only[Bool.and_eq_true,decide_eq_true_eq,List.all_eq_true]
 exact ⟨fun h=>⟨h.1.1.1,h.1.1.2,h.1.2,h.2⟩,fun h=>⟨⟨⟨h.1,h.2.1⟩,h.2.2.1⟩,h.2.2.2⟩⟩
noncomputable def ig (t:Txn1):Bool:=decide (t.2.2.2.2.1.length≤20)&&t.2.2.2.2.1.all lL
theorem yr (t:Txn1):zcl t=some (ig t):=by
 unfold zcl ig
 simp only[ae]
 by_cases h1:(t.2.2.2.2.1.length:Int)>20
 · rw[zp h1,zf (by omega)]; rfl
 rw[zn h1,zt (by omega),Bool.true_and]
 have:=je (f:=vX t) (l:=t.2.2.2.2.1) (fun i=>((i:Int),())) lL true false (fun i h=>by
   unfold vX
   simp only[ae]
   rw[zp (by omega),aP h]
   simp only[zb,acf]
   by_cases hs:lL t.2.2.2.2.1[i]=true
   · rw[hs,Bool.not_true,cond_false,zp rfl,wrap64 (by omega) (by omega)]; rfl
   · rw[zn hs,eq_false_of_ne_true hs]; rfl) (by
   unfold vX
   simp only[ae]
   rw[zn (by omega)])
 rw[ite_bool] at this
 exact this
noncomputable def opsM (thin:Bool):List Op1→Int
 | []=>0
 | o::l=>if opM o≠0∧¬ (thin=true∧j8 o=true) then opM o else opsM thin l
noncomputable def txnM (t:Txn1):Int :=
 if bg t.1=false∨t.2.1<0∨7<t.2.1∨t.2.2.1<1∨1099511627776<t.2.2.1 then 2
 else if t.2.2.2.2.1.length=0 then 11 else if 16<t.2.2.2.2.1.length then 7 else opsM t.2.2.2.1 t.2.2.2.2.1
theorem rZ {thin:Bool}:∀ (l:List Op1) (i:Nat),fH (S:=Unit) (fun _ o _=>if opM o≠0∧¬ (thin=true∧j8 o=true) then .inr (opM o) else .inl ()) (fun _=>(0:Int)) i l ()=opsM thin l
 | [],_=>rfl
 | o::l,i=>by
   unfold fH opsM
   by_cases h:opM o≠0∧¬ (thin=true∧j8 o=true)
   · rw[zp h,zp h]
   · rw[zn h,zn h]; exact rZ l (i+1)
theorem yp {t:Txn1} (h:ig t=true):zb5 t=some (txnM t):=by
 unfold ig at h
 simp only[Bool.and_eq_true,decide_eq_true_eq,List.all_eq_true] at h
 obtain ⟨h1,h2⟩:=h
 have loop:=bG (S:=Unit) (R:=Int) (f:=qQ t) (l:=t.2.2.2.2.1) (fun i _=>((i:Int),())) (fun _ o _=>if opM o≠0∧¬ (t.2.2.2.1=true∧j8 o=true) then .inr (opM o) else .inl ()) (fun _=>(0:Int)) (fun _ _=>True) (fun i h s _=>by
   have turn:qQ t ((i:Int),())=if opM t.2.2.2.2.1[i]≠0∧¬ (t.2.2.2.1=true∧j8 t.2.2.2.2.1[i]=true) then some (.inr (opM t.2.2.2.2.1[i])) else some (.inl (((i+1:Nat):Int),())):=by
     unfold qQ
     simp only[ae,bm]
     rw[zp (by omega),aP h]
     simp only[zb,amC (oj.1 (h2 _ (zm h))),av4]
     rw[wrap64 (by omega) (by omega),show (i:Int)+1=((i+1:Nat):Int) by omega]
     by_cases a:opM t.2.2.2.2.1[i]=0
     · rw[zp a,zn (fun e=>e.1 a)]
     · rw[zn a]
       cases ht:t.2.2.2.1 with
       | false=>rw[cond_false,zp ⟨a,by simp⟩]
       | true =>
         rw[cond_true]
         by_cases hg:j8 t.2.2.2.2.1[i]=true
         · rw[hg,Bool.not_true,cond_false,zn (by simp)]
         · rw[eq_false_of_ne_true hg,Bool.not_false,cond_true,zp ⟨a,by simp⟩]
   by_cases hc:opM t.2.2.2.2.1[i]≠0∧¬ (t.2.2.2.1=true∧j8 t.2.2.2.2.1[i]=true)
   · exact .inr ⟨_,by rw[zp hc],by rw[turn,zp hc]⟩
   · exact .inl ⟨(),by rw[zn hc],by rw[turn,zn hc],trivial⟩) (fun s _=>by
   unfold qQ
   simp only[ae]
   rw[zn (by omega)]) () trivial
 rw[rZ] at loop
 rw[show (((0:Nat):Int),())=((0:Int),()) from rfl] at loop
 unfold zb5 txnM
 simp only[ae,dH,zb]
 by_cases a1:bg t.1=true
 · rw[a1,Bool.not_true,cond_false]
   simp only[zb]
   by_cases a2:t.2.1<0
   · rw[zt a2,cond_true,zp (.inr (.inl a2))]
   rw[zf a2,cond_false]
   by_cases a3:t.2.1>7
   · rw[zp a3,zp (.inr (.inr (.inl a3)))]
   rw[zn a3]
   by_cases a4:t.2.2.1<1
   · rw[zp a4,zp (.inr (.inr (.inr (.inl a4))))]
   rw[zn a4]
   by_cases a5:t.2.2.1>1099511627776
   · rw[zp a5,zp (.inr (.inr (.inr (.inr a5))))]
   have nn:¬ (true=false∨t.2.1<0∨7<t.2.1∨t.2.2.1<1∨1099511627776<t.2.2.1):=by
     rintro (h | h | h | h | h)
     · cases h
     · exact a2 h
     · exact a3 h
     · exact a4 h
     · exact a5 h
   rw[zn a5,zn nn]
   by_cases a6:t.2.2.2.2.1.length=0
   · rw[zp (show (t.2.2.2.2.1.length:Int)=0 by omega),zp a6]
   rw[zn (show ¬ (t.2.2.2.2.1.length:Int)=0 by omega),zn a6]
   by_cases a7:16<t.2.2.2.2.1.length
   · rw[zp (show (t.2.2.2.2.1.length:Int)>16 by omega),zp a7]
   rw[zn (show ¬ (t.2.2.2.2.1.length:Int)>16 by omega),zn a7]
   exact loop
 · have a1:bg t.1=false:=by simpa using a1
   rw[zp (show bg t.1=false∨t.2.1<0∨7<t.2.1∨t.2.2.1<1∨1099511627776<t.2.2.1 from .inl a1),a1]
   rfl
noncomputable def ot {A:Type} (key:A→Dot1) (l:List A) (i:Nat):Bool:=match l[i]?,l[i+1]? with
 | some x,some y=>decide (cmpD (key x) (key y) = -1)
 | _,_=>true
theorem yE {A:Type}{key:A→Dot1}{l:List A} (h:∀ i,i<l.length-1→ot key l i=true):iM cmpD key l:=by
 refine lT d5 fun i hi => ?_
 have:=h i (by omega)
 unfold ot at this
 rw[zg hi,zg (show i<l.length by omega)] at this
 simp only[decide_eq_true_eq] at this
 omega
open Classical in
theorem aco {l:List Txn1} (hl:l.length<1000000):zb1 l=some (if (∀ i,i<l.length-1→ot (·.1) l i=true) then true else false):=by
 have:=mn (f:=wx l) (l.length-1) (fun i=>(((i+1:Nat):Int),())) (ot (·.1) l) true false (fun i h=>by
   unfold wx ot
   rw[zg (show i<l.length by omega),zg (show i+1<l.length by omega)]
   simp only[ae,bm]
   rw[zp (by omega),wrap64 (by omega) (by omega),show ((i+1:Nat):Int)-1=(i:Int) by omega,aP (show i<l.length by omega),aP (show i+1<l.length by omega)]
   simp only[zb,iX,decide_eq_true_eq]
   rw[wrap64 (by omega) (by omega)]
   by_cases h4:cmpD l[i].1 l[i+1].1 = -1
   · rw[zp h4,zp h4]; rfl
   · rw[zn h4,zn h4]) (by
   unfold wx
   simp only[ae]
   rw[zn (by omega)])
 exact this
def oneM (x:Ref1):Bool:=bg x.1&&decide (1≤x.2.1∧x.2.1≤64)
theorem ayt (x:Ref1):zdn x=some (oneM x):=by
 unfold zdn oneM
 simp only[dH,zb,ae]
 cases bg x.1 with
 | false=>rfl
 | true =>
   rw[cond_true,Bool.true_and]
   by_cases h1:x.2.1≥1<;>by_cases h2:x.2.1≤64<;>simp[h1,h2]<;>omega
def iI (l:List Ref1) (i:Nat):Bool:=match l[i]? with
 | some x=>oneM x&&(decide (i=0)||match l[i-1]? with
   | some y=>decide (cmpD y.1 x.1 = -1)
   | none=>false)
 | none=>false
open Classical in
theorem afm {l:List Ref1} (hl:l.length<1000000):zbw l=some (if (∀ i,i<l.length→iI l i=true) then true else false):=by
 have:=mn (f:=wg l) l.length (fun i=>((i:Int),())) (iI l) true false (fun i h=>by
   unfold wg iI
   rw[zg h]
   simp only[ae]
   rw[zp (by omega),aP h]
   simp only[zb,ayt]
   by_cases h0:oneM l[i]=true
   · simp only[h0,Bool.not_true,cond_false,Bool.true_and]
     by_cases h3:i=0
     · subst h3
       rw[zn (by omega),wrap64 (by omega) (by omega)]; rfl
     · rw[zp (by omega),wrap64 (by omega) (by omega),show (i:Int)-1=((i-1:Nat):Int) by omega,aP (by omega),zg (show i-1<l.length by omega)]
       simp only[zb,iX,bm]
       by_cases h4:cmpD l[i-1].1 l[i].1 = -1
       · rw[zp h4,wrap64 (by omega) (by omega)]; simp[h3,h4]
       · rw[zn h4]; simp[h3,h4]
   · have h0:oneM l[i]=false:=by simpa using h0
     simp only[h0,Bool.not_false,cond_true,Bool.false_and]; rfl) (by
   unfold wg
   simp only[ae]
   rw[zn (by omega)])
 exact this
abbrev pP (u:List Ref1):Prop:=iM cmpD (·.1) u
structure CountsOk (u:List Ref1):Prop where
 len:u.length≤100
 rise:pP u
 one:∀ x∈u,oneM x=true
theorem counts_of {l:List Ref1} (hl:l.length≤100) (h:∀ i,i<l.length→iI l i=true):CountsOk l where
 len:=hl
 rise:=lT d5 fun i hi=>by
   have:=h (i+1) hi
   unfold iI at this
   rw[zg hi,Nat.add_sub_cancel,zg (show i<l.length by omega)] at this
   simp only[Bool.and_eq_true,Bool.or_eq_true,decide_eq_true_eq] at this
   omega
 one x hx:=by
   obtain ⟨i,hi,rfl⟩:=List.mem_iff_getElem.1 hx
   have:=h i hi
   unfold iI at this
   rw[zg hi] at this
   simp only[Bool.and_eq_true] at this
   exact this.1
structure TxnOk (t:Txn1):Prop where
 len:t.2.2.2.2.1.length≤16
 pos:0<t.2.2.2.2.1.length
 ops:∀ o∈t.2.2.2.2.1,rG o∧(opM o=0∨t.2.2.2.1=true∧j8 o=true)
 dot:bg t.1=true
 user:0≤t.2.1∧t.2.1≤7
 time:1≤t.2.2.1∧t.2.2.1≤1099511627776
theorem wZ {thin:Bool}:∀ {l:List Op1},opsM thin l=0→∀ o∈l,opM o=0∨thin=true∧j8 o=true
 | [],_,o,h=>by cases h
 | p::l,h,o,ho=>by
   unfold opsM at h
   by_cases hc:opM p≠0∧¬ (thin=true∧j8 p=true)
   · rw[zp hc] at h; exact absurd h hc.1
   · rw[zn hc] at h
     rcases List.mem_cons.1 ho with e | ho
     · subst e
       by_cases h1:opM o=0
       · exact .inl h1
       · exact .inr (Classical.not_not.1 fun h2=>hc ⟨h1,h2⟩)
     · exact wZ h o ho
theorem avG {t:Txn1} (h1:ig t=true) (h2:txnM t=0):TxnOk t:=by
 unfold ig at h1
 simp only[Bool.and_eq_true,decide_eq_true_eq,List.all_eq_true] at h1
 unfold txnM at h2
 by_cases a:bg t.1=false∨t.2.1<0∨7<t.2.1∨t.2.2.1<1∨1099511627776<t.2.2.1
 · rw[zp a] at h2; omega
 rw[zn a] at h2
 by_cases b:t.2.2.2.2.1.length=0
 · rw[zp b] at h2; omega
 rw[zn b] at h2
 by_cases c:16<t.2.2.2.2.1.length
 · rw[zp c] at h2; omega
 rw[zn c] at h2
 refine ⟨by omega,by omega,fun o ho=>⟨oj.1 (h1.2 o ho),wZ h2 o ho⟩,?_,?_,?_⟩
 · cases hr:bg t.1 with
   | true=>rfl
   | false=>exact absurd (.inl hr) a
 · constructor
   · exact Int.not_lt.1 fun h=>a (.inr (.inl h))
   · exact Int.not_lt.1 fun h=>a (.inr (.inr (.inl h)))
 · constructor
   · exact Int.not_lt.1 fun h=>a (.inr (.inr (.inr (.inl h))))
   · exact Int.not_lt.1 fun h=>a (.inr (.inr (.inr (.inr h))))
abbrev np (l:List Txn1):Prop:=iM cmpD (·.1) l
structure TxnsOk (l:List Txn1) (n:Nat):Prop where
 len:l.length≤n
 rise:np l
 all:∀ t∈l,TxnOk t
open Classical in
def getM (u:List Ref1) (d:Dot1):Int:=match u with
 | []=>0
 | x::u=>if x.1=d then x.2.1 else getM u d
abbrev loU (d:Dot1) (u:List Ref1):List Ref1:=lo cmpD (·.1) d u
abbrev hiU (d:Dot1) (u:List Ref1):List Ref1:=hi cmpD (·.1) d u
theorem sF {d:Dot1}:∀ {u:List Ref1},(∀ x∈u,x.1≠d)→getM u d=0
 | [],_=>rfl
 | x::u,h=>by
   unfold getM
   rw[zn (h x (List.mem_cons_self ..))]
   exact sF fun y hy=>h y (List.mem_cons_of_mem _ hy)
theorem xr {d:Dot1}:∀ {p q:List Ref1},(∀ x∈p,x.1≠d)→getM (p++q) d=getM q d
 | [],_,_=>rfl
 | x::p,q,h=>by
   rw[List.cons_append]
   conv=>lhs; unfold getM
   rw[zn (h x (List.mem_cons_self ..))]
   exact xr fun y hy=>h y (List.mem_cons_of_mem _ hy)
theorem pD (a b:Ref1):zbl a b=some (cmpD a.1 b.1):=by
 unfold zbl
 rw[mN]; rfl
theorem rv {u:List Ref1}{d:Ref1} (hl:u.length<1000000) (hr:pP u):∀ (k i j:Nat),j-i≤k→i≤(loU d.1 u).length→(loU d.1 u).length≤j→j≤u.length →
   aK (nS u d) ((i:Int),(j:Int),())=some (.inl (((loU d.1 u).length:Int),())):=by
 intro k
 induction k with
 | zero =>
   intro i j hk h1 h2 h3
   refine aD ?_
   unfold nS
   simp only[ae]
   rw[zn (by omega),show (loU d.1 u).length=i by omega]
 | succ k ih =>
   intro i j hk h1 h2 h3
   by_cases hij:i<j
   · have hh:(i+j)/2<u.length:=by omega
     have turn:nS u d ((i:Int),(j:Int),())=if cmpD u[(i+j)/2].1 d.1<0 then some (.inl ((((i+j)/2+1:Nat):Int),(j:Int),())) else some (.inl ((i:Int),(((i+j)/2:Nat):Int),())):=by
       unfold nS
       simp only[ae]
       rw[zp (by omega),show (i:Int)+(j:Int)=((i+j:Nat):Int) by omega,sC (by omega)]
       simp only[zb]
       rw[wrap64 (n:=(((i+j)/2:Nat):Int)) (by omega) (by omega),aP hh]
       simp only[zb,pD]
       rw[wrap64 (by omega) (by omega)]; rfl
     by_cases hn:(i+j)/2<(loU d.1 u).length
     · rw[zp (anz hh hn)] at turn
       rw[aJ turn]
       exact ih _ _ (by omega) (by omega) h2 h3
     · have:=anA d5 hr hh (k:=d.1) (Nat.le_of_not_lt hn)
       rw[zn (by omega)] at turn
       rw[aJ turn]
       exact ih _ _ (by omega) h1 (by omega) (by omega)
   · refine aD ?_
     unfold nS
     simp only[ae]
     rw[zn (by omega),show (loU d.1 u).length=i by omega]
theorem vh {a b:Dot1} (h:cmpD a b≠0):a≠b:=fun e=>h ((d5.zero _ _).2 e)
def av2 (q:List Ref1) (d:Dot1):Bool:=match q with
 | []=>false
 | x::_=>decide (cmpD x.1 d=0)
theorem abZ {u:List Ref1}{d:Ref1} (hl:u.length<1000000) (hr:pP u) :
   zac u d ()=some (((loU d.1 u).length:Int),av2 (hiU d.1 u) d.1,()):=by
 have e2:loU d.1 u++hiU d.1 u=u:=lohi
 have hlen:(loU d.1 u).length+(hiU d.1 u).length=u.length:=by rw[← List.length_append,e2]
 unfold zac
 have:=rv (d:=d) hl hr u.length 0 u.length (by omega) (by omega) (by omega) (by omega)
 rw[show ((0:Int),(u.length:Int),())=(((0:Nat):Int),(u.length:Int),()) from rfl,this,ay]
 simp only[ae]
 cases hq:hiU d.1 u with
 | nil =>
   rw[hq] at hlen
   simp only[List.length_nil] at hlen
   rw[zn (by omega)]; rfl
 | cons x q =>
   rw[hq] at hlen e2
   simp only[zl] at hlen
   rw[zp (by omega),iJ]
   have e3:u[(loU d.1 u).length]? = some x:=by
     have:(loU d.1 u++x::q)[(loU d.1 u).length]? = some x:=by simp
     rw[e2] at this
     exact this
   rw[e3]
   simp only[zb,pD]
   rfl
theorem avX {u:List Ref1}{d:Dot1}{x:Ref1} (hx:x∈loU d u):x.1≠d:=by
 have h:=jf (c:=cmpD) (key:=fun y:Ref1=>y.1) (k:=d) (l:=u) x hx
 exact vh (fun e=>by rw[e] at h; omega)
theorem nY {u:List Ref1}{d:Dot1} (hl:u.length<1000000) (hr:pP u):zdl u d=some (getM u d):=by
 have e2:loU d u++hiU d u=u:=lohi
 have hlo:∀ x∈loU d u,x.1≠d:=fun x hx=>avX hx
 unfold zdl zds
 rw[abZ (d:=(d,0,())) hl hr]
 simp only[zb]
 have hg:getM u d=getM (hiU d u) d:=by
   conv=>lhs; rw[← e2]
   exact xr hlo
 rw[hg]
 cases hq:hiU d u with
 | nil=>rfl
 | cons x q =>
   have hab:=kY d5 hr hq
   unfold av2
   simp only[ae]
   by_cases h0:cmpD x.1 d=0
   · rw[zp h0,iJ]
     have e3:u[(loU d u).length]? = some x:=by
       have:(loU d u++x::q)[(loU d u).length]? = some x:=by simp
       rw[← hq,e2] at this
       exact this
     rw[e3]
     simp only[zb]
     unfold getM
     rw[zp ((d5.zero _ _).1 h0)]
   · rw[zn h0,sF]
     intro y hy
     rcases List.mem_cons.1 hy with e | hy
     · subst e; exact vh h0
     · exact vh (by have:=hab.2 y hy; omega)
def fQ (u:List Ref1) (d:Dot1):Bool:=match remT (getM u d) 2 with
 | some x=>decide (x=0)
 | none=>false
theorem rem2 (a:Int):∃ x,remT a 2=some x:=⟨_,by unfold remT; rw[zn (by omega)]⟩
theorem ix {u:List Ref1}{d:Dot1} (hl:u.length<1000000) (hr:pP u):zc5 u d=some (fQ u d):=by
 unfold zc5 fQ
 rw[nY hl hr]
 obtain ⟨x,hx⟩:=rem2 (getM u d)
 simp only[zb,hx]
theorem xx {x y:Ref1}{v:Bool}:∀ {m:List (Ref1×Bool)},fv kK x (putK kK y v m)=if x=y then some v else fv kK x m
 | []=>by
   unfold putK fv
   rw[adE,ae]
   unfold fv
   rfl
 | e::m=>by
   unfold putK
   rw[adE]
   by_cases hy:y=e.1
   · rw[zt hy,cond_true]
     conv=>lhs; unfold fv
     conv=>rhs; rhs; unfold fv
     rw[adE,adE,ae,ae,← hy]
     by_cases hx:x=y
     · rw[zp hx,zp hx]
     · rw[zn hx,zn hx,zn hx]
   · rw[zf hy,cond_false]
     conv=>lhs; unfold fv
     conv=>rhs; rhs; unfold fv
     rw[adE,ae,ae,xx]
     by_cases hx:x=e.1
     · rw[zp hx,zn (fun e'=>hy (by rw[← e',hx])),zp hx]
     · rw[zn hx,zn hx]
def hasK (x:Ref1) (m:List (Ref1×Bool)):Bool:=(getK kK false x m).1
theorem am6 {x y:Ref1}{m:List (Ref1×Bool)}:hasK x (putK kK y true m)=(decide (x=y)||hasK x m):=by
 unfold hasK getK
 rw[xx]
 by_cases h:x=y
 · rw[zp h,zt h]; rfl
 · rw[zn h,zf h,Bool.false_or]
def kp (m:List (Ref1×Bool)) (l:List Ref1):List (Ref1×Bool):=l.foldl (fun m x=>putK kK x true m) m
theorem uU {x:Ref1}:∀ {l:List Ref1}{m:List (Ref1×Bool)},hasK x (kp m l)=(l.any (fun y=>decide (x=y))||hasK x m)
 | [],m=>rfl
 | y::l,m=>by
   have:=uU (x:=x) (l:=l) (m:=putK kK y true m)
   unfold kp at this ⊢
   rw[List.foldl_cons,this,am6,List.any_cons]
   cases decide (x=y)<;>cases l.any (fun y=>decide (x=y))<;>rfl
def sV (o:Op1) (x:Ref1):Bool:=o.2.2.2.2.1.any fun y=>decide (x=y)
def covT (m:List (Ref1×Bool)) (l:List Op1):List (Ref1×Bool):=l.foldl (fun m o=>kp m o.2.2.2.2.1) m
theorem xj {x:Ref1}:∀ {l:List Op1}{m:List (Ref1×Bool)},hasK x (covT m l)=(l.any (fun o=>sV o x)||hasK x m)
 | [],m=>rfl
 | o::l,m=>by
   have:=xj (x:=x) (l:=l) (m:=kp m o.2.2.2.2.1)
   unfold covT at this ⊢
   rw[List.foldl_cons,this,uU,List.any_cons]
   unfold sV
   cases o.2.2.2.2.1.any (fun y=>decide (x=y))<;>cases l.any (fun o=>o.2.2.2.2.1.any fun y=>decide (x=y))<;>rfl
def covL (u:List Ref1) (m:List (Ref1×Bool)) (l:List Txn1):List (Ref1×Bool):=l.foldl (fun m t=>if fQ u t.1=true then covT m t.2.2.2.2.1 else m) m
def covM (l:List Txn1) (u:List Ref1) (x:Ref1):Bool:=l.any fun t=>fQ u t.1&&t.2.2.2.2.1.any fun o=>sV o x
theorem xk {x:Ref1}{u:List Ref1}:∀ {l:List Txn1}{m:List (Ref1×Bool)},hasK x (covL u m l)=(covM l u x||hasK x m)
 | [],m=>rfl
 | t::l,m=>by
   have:=xk (x:=x) (u:=u) (l:=l) (m:=if fQ u t.1=true then covT m t.2.2.2.2.1 else m)
   unfold covL at this ⊢
   rw[List.foldl_cons,this]
   unfold covM
   rw[List.any_cons]
   by_cases hs:fQ u t.1=true
   · rw[zp hs,xj,hs,Bool.true_and]
     cases t.2.2.2.2.1.any (fun o=>sV o x)<;>cases l.any (fun t=>fQ u t.1&&t.2.2.2.2.1.any fun o=>sV o x)<;>rfl
   · rw[zn hs,eq_false_of_ne_true hs,Bool.false_and,Bool.false_or]
structure Low (l:List Txn1):Prop where
 len:l.length≤1000
 ops:∀ t∈l,t.2.2.2.2.1.length≤1000
 seen:∀ t∈l,∀ o∈t.2.2.2.2.1,o.2.2.2.2.1.length<1000000
structure LowU (u:List Ref1):Prop where
 len:u.length<1000000
 rise:pP u
theorem adO {l:List Txn1}{u:List Ref1} (hl:Low l) (hu:LowU u):zbr l u=some (covL u [] l):=by
 have outer:=bG (S:=List (Ref1×Bool)) (f:=wj l u) (l:=l) (fun i m=>((i:Int),m,())) (fun _ t m=>.inl (if fQ u t.1=true then covT m t.2.2.2.2.1 else m)) (fun m=>m) (fun _ _=>True) (fun i h m _=>by
   refine .inl ⟨_,rfl,?_,trivial⟩
   have hi:=hl.len
   unfold wj
   simp only[ae]
   rw[zp (by omega),aP h]
   simp only[zb,ix hu.len hu.rise]
   have hops:=hl.ops _ (zm h)
   by_cases hs:fQ u l[i].1=true
   · rw[hs,Bool.not_true,cond_false,zp rfl]
     have mid:=bG (S:=List (Ref1×Bool)) (f:=wi ((i:Int),m,()) l[i]) (l:=l[i].2.2.2.2.1) (fun k m=>((k:Int),m,())) (fun _ o m=>.inl (kp m o.2.2.2.2.1)) (fun m'=>(.inl (((i+1:Nat):Int),m',()):(Int×List (Ref1×Bool)×Unit)⊕List (Ref1×Bool))) (fun _ _=>True) (fun k hk m' _=>by
       refine .inl ⟨_,rfl,?_,trivial⟩
       have hseen:=hl.seen _ (zm h) _ (zm hk)
       unfold wi
       simp only[ae]
       rw[zp (by omega),aP hk]
       simp only[zb]
       have inner:=bG (S:=List (Ref1×Bool)) (f:=pm ((k:Int),m',()) l[i].2.2.2.2.1[k]) (l:=l[i].2.2.2.2.1[k].2.2.2.2.1) (fun j m=>((j:Int),m,())) (fun _ x m=>.inl (putK kK x true m)) (fun m''=>(.inl (((k+1:Nat):Int),m'',()):(Int×List (Ref1×Bool)×Unit)⊕((Int×List (Ref1×Bool)×Unit)⊕List (Ref1×Bool)))) (fun _ _=>True) (fun j hj m'' _=>by
         refine .inl ⟨_,rfl,?_,trivial⟩
         unfold pm
         simp only[ae]
         rw[zp (by omega),aP hj]
         simp only[zb]
         rw[wrap64 (by omega) (by omega)]; rfl) (fun m'' _=>by
         unfold pm
         simp only[ae]
         rw[zn (by omega),wrap64 (by omega) (by omega)]; rfl) m' trivial
       rw[show ((0:Int),m',())=(((0:Nat):Int),m',()) from rfl,inner,ct]
       rfl) (fun m' _=>by
       unfold wi
       simp only[ae]
       rw[zn (by omega),wrap64 (by omega) (by omega)]; rfl) m trivial
     rw[show ((0:Int),m,())=(((0:Nat):Int),m,()) from rfl,mid,ct]
     rfl
   · rw[zn hs,eq_false_of_ne_true hs,Bool.not_false,cond_true,wrap64 (by omega) (by omega)]; rfl) (fun m _=>by
   unfold wj
   simp only[ae]
   rw[zn (by omega)]) [] trivial
 unfold zbr
 rw[show ((0:Int),([]:List (Ref1×Bool)),())=(((0:Nat):Int),[],()) from rfl,outer,ct]
 rfl
def fq (k:Int):Bool:=decide (1≤k∧k≤3)
def ku (p:Ref1→Bool) (t:Txn1) (k:Nat) (o:Op1):List aZ:=if fq o.1=true∧p (t.1,(k:Int),())=false then [((t.1,(k:Int),()),o,t.2.2.1,())] else []
def eK (p:Ref1→Bool) (t:Txn1):Nat→List Op1→List aZ
 | _,[]=>[]
 | k,o::l=>ku p t k o++eK p t (k+1) l
def allM (l:List Txn1) (u:List Ref1):List aZ:=l.flatMap fun t=>if fQ u t.1=true then eK (covM l u) t 0 t.2.2.2.2.1 else []
theorem oM {p:Ref1→Bool}{t:Txn1}{k:Nat}{o:Op1}:(ku p t k o).length≤1:=by
 unfold ku; split<;>simp
theorem mF {p:Ref1→Bool}{t:Txn1}:∀ {l:List Op1}{k:Nat},(eK p t k l).length≤l.length
 | [],_=>Nat.le_refl _
 | o::l,k=>by
   have:=mF (p:=p) (t:=t) (l:=l) (k:=k+1)
   have:=oM (p:=p) (t:=t) (k:=k) (o:=o)
   unfold eK
   rw[List.length_append,zl]; omega
theorem oL {R:Type}{p:Ref1→Bool}{t:Txn1}{fin:List aZ→R}:∀ (l:List Op1) (k:Nat) (o:List aZ),fH (fun k x o=>.inl (o++ku p t k x)) fin k l o=fin (o++eK p t k l)
 | [],k,o=>by simp[fH,eK]
 | x::l,k,o=>by
   unfold fH eK
   simp only
   rw[oL l (k+1),List.append_assoc]
theorem sJ {A B R:Type}{g:A→List B}{fin:List B→R}:∀ (l:List A) (i:Nat) (o:List B),fH (fun _ x o=>.inl (o++g x)) fin i l o=fin (o++l.flatMap g)
 | [],i,o=>by simp[fH]
 | x::l,i,o=>by
   unfold fH
   simp only
   rw[sJ l (i+1),List.flatMap_cons,List.append_assoc]
theorem aed {l:List Txn1}{u:List Ref1} (hl:Low l) (hu:LowU u):zdt l u=some (allM l u):=by
 unfold zdt
 rw[adO hl hu,zb]
 have hp:(fun x=>hasK x (covL u [] l))=covM l u:=by
   funext x
   rw[xk]
   exact Bool.or_false _
 generalize hm:covL u [] l=m at hp ⊢
 have outer:=bG (S:=List aZ) (f:=vH l u) (l:=l) (fun i o=>((i:Int),m,o,())) (fun _ t o=>.inl (o++if fQ u t.1=true then eK (covM l u) t 0 t.2.2.2.2.1 else [])) (fun o=>o) (fun i o=>o.length≤i*1000) (fun i h o ho=>by
   have hi:=hl.len
   have hops:=hl.ops _ (zm h)
   refine .inl ⟨_,rfl,?_,?_⟩
   · unfold vH
     simp only[ae]
     rw[zp (by omega),aP h]
     simp only[zb,ix hu.len hu.rise]
     by_cases hs:fQ u l[i].1=true
     · rw[hs,Bool.not_true,cond_false,zp rfl]
       have inner:=bG (S:=List aZ) (f:=vG ((i:Int),m,o,()) l[i]) (l:=l[i].2.2.2.2.1) (fun k o=>((k:Int),m,o,l[i],())) (fun k x o=>.inl (o++ku (covM l u) l[i] k x)) (fun o'=>(.inl (((i+1:Nat):Int),m,o',()):(Int×List (Ref1×Bool)×List aZ×Unit)⊕List aZ)) (fun k o'=>o'.length≤i*1000+k) (fun k hk o' ho'=>by
         refine .inl ⟨_,rfl,?_,?_⟩
         · have hget:(getK kK false (l[i].1,(k:Int),()) m).1=covM l u (l[i].1,(k:Int),()):=by rw[← hp]; rfl
           unfold vG ku
           simp only[ae]
           rw[zp (by omega),aP hk]
           simp only[zb]
           have hget:(getK (.agg (.cons (.agg (.cons (.int .i64) (.cons (.int .i64) .unit))) (.cons (.int .i64) .unit))) false (l[i].1,(k:Int),()) m).1=covM l u (l[i].1,(k:Int),()):=hget
           rw[hget,wrap64 (by omega) (by omega),aW (by simp; omega)]
           simp only[zb]
           have hk':fq l[i].2.2.2.2.1[k].1=true↔(l[i].2.2.2.2.1[k].1=1∨l[i].2.2.2.2.1[k].1=2∨l[i].2.2.2.2.1[k].1=3):=by unfold fq; simp only[decide_eq_true_eq]; omega
           by_cases hc:covM l u (l[i].1,(k:Int),())=true
           · rw[hc]
             simp only[Bool.not_true,cond_false,Bool.true_eq_false,and_false,if_false,List.append_nil]
             split
             · rfl
             · split
               · rfl
               · split<;>rfl
           · rw[eq_false_of_ne_true hc]
             simp only[Bool.not_false,cond_true,and_true]
             by_cases h1:l[i].2.2.2.2.1[k].1=1
             · rw[zp h1,zp (hk'.2 (.inl h1))]; rfl
             · by_cases h2:l[i].2.2.2.2.1[k].1=2
               · rw[zn h1,zp h2,zp (hk'.2 (.inr (.inl h2)))]; rfl
               · by_cases h3:l[i].2.2.2.2.1[k].1=3
                 · rw[zn h1,zn h2,zp h3,zp (hk'.2 (.inr (.inr h3)))]; rfl
                 · rw[zn h1,zn h2,zn h3,zn (fun e=>by rcases hk'.1 e with e | e | e; exact h1 e; exact h2 e; exact h3 e),List.append_nil]; rfl
         · have:=oM (p:=covM l u) (t:=l[i]) (k:=k) (o:=l[i].2.2.2.2.1[k])
           rw[List.length_append]; omega) (fun o' ho'=>by
         unfold vG
         simp only[ae]
         rw[zn (by omega),wrap64 (by omega) (by omega)]; rfl) o (by omega)
       rw[show ((0:Int),m,o,l[i],())=(((0:Nat):Int),m,o,l[i],()) from rfl,inner,oL]
     · rw[zn hs,eq_false_of_ne_true hs,Bool.not_false,cond_true,wrap64 (by omega) (by omega),List.append_nil]; rfl
   · have:=mF (p:=covM l u) (t:=l[i]) (l:=l[i].2.2.2.2.1) (k:=0)
     rw[List.length_append,Nat.succ_mul]
     split
     · omega
     · simp; omega) (fun o _=>by
   unfold vH
   simp only[ae]
   rw[zn (by omega)]) [] (by simp)
 rw[show ((0:Int),m,([]:List aZ),())=(((0:Nat):Int),m,[],()) from rfl,outer,sJ]
 rfl
theorem acT {A:Type}{q:A→Bool}:∀ {l:List A}{R:Type}{yes no:R},(if l.all (fun x => !q x)=true then no else yes)=if l.any q=true then yes else no
 | [],_,_,_=>rfl
 | x::l,R,yes,no=>by
   rw[List.all_cons,List.any_cons]
   cases q x with
   | true=>rfl
   | false =>
     rw[Bool.not_false,Bool.true_and,Bool.false_or]
     exact acT (l:=l)
theorem afE {A R X:Type}{f:A→Option (A⊕R)}{l:List X} (enc:Nat→A) (q:X→Bool) (yes no:R)
   (hturn:∀ (i:Nat) (h:i<l.length),f (enc i)=some (if q l[i]=true then .inr yes else .inl (enc (i+1)))) (hend:f (enc l.length)=some (.inr no)):aK f (enc 0)=some (if l.any q=true then yes else no):=by
 have:=je (f:=f) (l:=l) enc (fun x => !q x) no yes (fun i h=>by
   rw[hturn i h]
   cases q l[i]<;>rfl) hend
 rw[this,acT]
def nA (k:Int):Int:=if k=1 then 1 else if k=2∨k=4 then 2 else if k=3 then 3 else 0
theorem w5 (k:Int):zdz k=some (nA k):=by
 unfold zdz nA
 simp only[ae]
 by_cases h1:k=1
 · rw[zp h1,zp h1]
 · by_cases h2:k=2
   · subst h2; rfl
   · by_cases h4:k=4
     · subst h4; rfl
     · by_cases h3:k=3
       · subst h3; rfl
       · simp[h1,h2,h3,h4]
def isAt (p:Path) (leaf:Int) (x:aZ):Bool:=decide (nA x.2.1.1=leaf)&&decide (x.2.1.2.1=p)
def atM (l:List aZ) (p:Path) (leaf:Int):List aZ:=l.filter (isAt p leaf)
theorem oU {A:Type}{q:A→Bool}:∀ {l:List A},(l.flatMap fun x=>if q x=true then [x] else [])=l.filter q
 | []=>rfl
 | x::l=>by
   rw[List.flatMap_cons,oU,List.filter_cons]
   split<;>rfl
structure LowI (l:List aZ):Prop where
 len:l.length<1000000
 path:∀ x∈l,x.2.1.2.1.length<1000000∧∀ s∈x.2.1.2.1,s.length<1000000
theorem at_t {l:List aZ}{p:Path}{leaf:Int} (hl:LowI l):zdy l p leaf=some (atM l p leaf):=by
 have hlen:=hl.len
 have:=eq (f:=vF l p leaf) (l:=l) (fun i o=>((i:Int),o,())) (fun x=>if isAt p leaf x=true then [x] else []) (fun o=>o) 1 (fun x _=>by split<;>simp) (fun i h o ho=>by
   have hp:=(hl.path _ (zm h)).1
   unfold vF isAt
   simp only[ae]
   rw[zp (by omega),aP h]
   simp only[zb,w5,oz hp]
   rw[wrap64 (by omega) (by omega),aW (by simp; omega)]
   simp only[zb,ae]
   by_cases h1:nA l[i].2.1.1=leaf
   · rw[zp h1,zt h1,Bool.true_and]
     by_cases h2:l[i].2.1.2.1=p
     · rw[zp h2,zt h2]; rfl
     · rw[zn h2,zf h2]; simp
   · rw[zn h1,zf h1]; simp) (fun o _=>by
   unfold vF
   simp only[ae]
   rw[zn (by omega)])
 unfold zdy atM
 rw[show ((0:Int),([]:List aZ),())=(((0:Nat):Int),[],()) from rfl,this,oU]
theorem vv {l:List aZ}{p:Path}{leaf:Int} (hl:LowI l):LowI (atM l p leaf):=⟨Nat.lt_of_le_of_lt (List.length_filter_le ..) hl.len,fun x hx=>hl.path x (List.mem_filter.1 hx).1⟩
theorem dX {A:Type}{w:List A} (h:0<w.length):w.isEmpty=false:=by cases w with
 | nil=>cases h
 | cons _ _=>rfl
theorem fy {n a b:Nat} (h1:a≤b) (h2:b≤n):lD n (a:Int) (b:Int)=some (a,b-a):=by
 unfold lD
 rw[zp ⟨by omega,by omega,by omega⟩]; simp
theorem iU {A:Type} [DecidableEq A] {l:List A}{i:Nat} (hi:i<l.length) (h0:0<i):sqz (l.take (i+1))=if l[i-1]'(by omega)=l[i] then sqz (l.take i) else sqz (l.take i)++[l[i]]:=by
 rw[List.take_add_one,zg hi,Option.toList_some,pG]
 unfold sqzS
 have e:(sqz (l.take i)).getLast? = some (l[i-1]'(by omega)):=by
   rw[afc,List.getLast?_eq_getElem?,List.length_take,show min i l.length-1=i-1 by omega,List.getElem?_take_of_lt (by omega),zg (by omega)]
 rw[e]
 by_cases h:l[i-1]'(by omega)=l[i]
 · rw[zp (by rw[h]),zp h]
 · rw[zn (fun e=>h (Option.some.inj e)),zn h]
structure Mid (l w:List Val) (i0 k i:Nat):Prop where
 len:w.length=l.length
 head:w.take i=sqz (l.take (i0+k))
 rest:∀ j,i0+k-1≤j→w[j]? = l[j]?
 low:i≤i0+k-1
theorem qx {l:List Val}{i0:Nat} (hl:l.length<1000000) (h0:0<i0) (hi0:i0<l.length):∀ (n k i:Nat) (w:List Val),l.length-i0-k≤n→1≤k→k≤l.length-i0→Mid l w i0 k i →
   ∃ w' i',Mid l w' i0 (l.length-i0) i'∧aK nQ ((i:Int),(i0,l.length-i0),(k:Int),w,())=some (.inl ((i':Int),w',())):=by
 intro n
 induction n with
 | zero =>
   intro k i w hn hk1 hk hm
   have e:k=l.length-i0:=by omega
   subst e
   refine ⟨w,i,hm,aD ?_⟩
   unfold nQ
   simp only[ae]
   rw[zn (by omega)]
 | succ n ih =>
   intro k i w hn hk1 hk hm
   by_cases hlt:k<l.length-i0
   · have hwl:=hm.len
     have hw:0<w.length:=by omega
     have hk0:i0+k<l.length:=by omega
     have ea:w[i0+k]? = some (l[i0+k]):=by rw[hm.rest _ (by omega),zg hk0]
     have eb:w[i0+(k-1)]? = some (l[i0+k-1]'(by omega)):=by rw[show i0+(k-1)=i0+k-1 by omega,hm.rest _ (by omega),zg (by omega)]
     have hlow:=hm.low
     have hiw:i<w.length:=by omega
     have turn:nQ ((i:Int),(i0,l.length-i0),(k:Int),w,())=if l[i0+k-1]'(by omega)=l[i0+k] then some (.inl ((i:Int),(i0,l.length-i0),((k+1:Nat):Int),w,())) else some (.inl (((i+1:Nat):Int),(i0,l.length-i0),((k+1:Nat):Int),w.set i l[i0+k],())):=by
       unfold nQ
       simp only[ae]
       rw[zp (by omega),dX hw]
       simp only[cond_false]
       rw[ck hlt,wrap64 (n:=(k:Int)-1) (by omega) (by omega),show (k:Int)-1=((k-1:Nat):Int) by omega,ck (show k-1<l.length-i0 by omega)]
       simp only[zb]
       rw[ea,eb]
       simp only[zb,zr]
       rw[wrap64 (by omega) (by omega),wrap64 (by omega) (by omega)]
       by_cases hx:l[i0+k]=l[i0+k-1]'(by omega)
       · rw[zp hx.symm,zt hx]; rfl
       · rw[zn (fun e=>hx e.symm),zf hx,ck hiw]
         simp only[Bool.not_false,cond_true,zb]
         rw[zg hiw]
         rfl
     have hsq:=iU (l:=l) (i:=i0+k) hk0 (by omega)
     by_cases hx:l[i0+k-1]'(by omega)=l[i0+k]
     · rw[zp hx] at turn hsq
       rw[aJ turn]
       exact ih (k+1) i w (by omega) (by omega) (by omega) ⟨hwl,by rw[hm.head,show i0+(k+1)=i0+k+1 by omega,hsq],fun j hj=>hm.rest j (by omega),by omega⟩
     · rw[zn hx] at turn hsq
       rw[aJ turn]
       refine ih (k+1) (i+1) _ (by omega) (by omega) (by omega) ⟨by rw[List.length_set]; exact hwl,?_,fun j hj => ?_,by omega⟩
       · rw[show i0+(k+1)=i0+k+1 by omega,hsq,← hm.head,List.take_add_one,List.take_set_of_le (by omega),List.getElem?_set_self hiw]; rfl
       · rw[List.getElem?_set_ne (by omega)]
         exact hm.rest j (by omega)
   · have e:k=l.length-i0:=by omega
     subst e
     refine ⟨w,i,hm,aD ?_⟩
     unfold nQ
     simp only[ae]
     rw[zn (by omega)]
theorem qw {l:List Val} (hl:l.length<1000000):∀ (n i:Nat),l.length-i≤n→1≤i→i≤l.length→sqz (l.take i)=l.take i →
   aK lp ((i:Int),l,())=some (sqz l):=by
 intro n
 induction n with
 | zero =>
   intro i hn h1 hi hs
   have e:i=l.length:=by omega
   subst e
   rw[List.take_of_length_le (Nat.le_refl _)] at hs
   refine aD ?_
   unfold lp
   simp only[ae]
   rw[zn (by omega),hs]
 | succ n ih =>
   intro i hn h1 hi hs
   by_cases hlt:i<l.length
   · have hsq:=iU (l:=l) (i:=i) hlt (by omega)
     have he:l.isEmpty=false:=dX (by omega)
     by_cases hx:l[i-1]'(by omega)=l[i]
     · refine aD ?_
       unfold lp
       simp only[ae]
       rw[zp (by omega),ck hlt,wrap64 (by omega) (by omega),show (i:Int)-1=((i-1:Nat):Int) by omega,ck (show i-1<l.length by omega)]
       simp only[zb,zg hlt,zg (show i-1<l.length by omega),zr]
       rw[zt hx.symm,cond_true,he,cond_false,fy (by omega) (Nat.le_refl _)]
       simp only[zb]
       rw[zp hx] at hsq
       obtain ⟨w',i',hm,hrun⟩:=qx hl (by omega) hlt (l.length-i) 1 i l (by omega) (Nat.le_refl _) (by omega) ⟨rfl,by rw[hsq,hs],fun j _=>rfl,by omega⟩
       rw[show ((1:Int))=((1:Nat):Int) from rfl,hrun,ay]
       have hwl:=hm.len
       have hlow:=hm.low
       have hle:i'≤w'.length:=by omega
       have hw:0<w'.length:=by omega
       have e2:i+(l.length-i)=l.length:=by omega
       have hhead:w'.take i'=sqz l:=by rw[hm.head,e2,List.take_of_length_le (Nat.le_refl _)]
       simp only
       rw[dX hw,cond_false,fy hle (Nat.le_refl _)]
       simp only[zb,cond_false]
       rw[zp (by omega)]
       simp only[zb]
       have hlen2:(List.take i' w'++List.replicate (w'.length-i') ((0,0,[],()):Val)++List.drop (i'+(w'.length-i')) w').length=w'.length:=by
         rw[List.length_append,List.length_append,List.length_take,List.length_replicate,List.length_drop]; omega
       rw[dX (by rw[hlen2]; exact hw),cond_false,hlen2,show ((0:Int))=((0:Nat):Int) from rfl,fy (Nat.zero_le _) hle]
       simp only[zb,cond_false]
       rw[zp (by omega)]
       simp only[Option.map_some,List.drop_zero,Nat.sub_zero]
       rw[List.append_assoc,List.take_append_of_le_length (by rw[List.length_take]; omega),List.take_take,Nat.min_self,hhead]
     · have turn : lp ((i : Int), l, ()) = some (.inl (((i + 1 : Nat) : Int), l, ())) := by
         unfold lp
         simp only[ae]
         rw[zp (by omega),ck hlt,wrap64 (by omega) (by omega),show (i:Int)-1=((i-1:Nat):Int) by omega,ck (show i-1<l.length by omega)]
         simp only[zb,zg hlt,zg (show i-1<l.length by omega),zr]
         rw[zf (fun e=>hx e.symm),cond_false,wrap64 (by omega) (by omega)]; rfl
       rw[aJ turn]
       rw[zn hx,hs] at hsq
       refine ih (i+1) (by omega) (by omega) (by omega) ?_
       rw[hsq,List.take_add_one,zg hlt]; rfl
   · have e:i=l.length:=by omega
     subst e
     rw[List.take_of_length_le (Nat.le_refl _)] at hs
     refine aD ?_
     unfold lp
     simp only[ae]
     rw[zn (by omega),hs]
theorem adQ {l:List Val} (hl:l.length<1000000):zan l=some (sqz l,()):=by
 unfold zan alu
 simp only[ae]
 match l,hl with
 | [],_=>rfl
 | [x],_=>rfl
 | x::y::l,hl =>
   rw[zn (by simp only[zl]; omega)]
   have:=qw hl (x::y::l).length 1 (by omega) (Nat.le_refl _) (by simp) rfl
   rw[show ((1:Int))=((1:Nat):Int) from rfl,this]
   rfl
def insV (o:List Val) (v:Val):List Val:=match o with
 | []=>[v]
 | x::l=>if cmpV v x=0 then x::l else if cmpV v x<0 then v::x::l else x::insV l v
abbrev acp (o:List Val):Prop:=iM cmpV (fun v=>v) o
theorem qh {v x:Val}:∀ {o:List Val},x∈insV o v↔x=v∨x∈o
 | []=>by simp[insV]
 | y::l=>by
   unfold insV
   split
   · rename_i h
     have e:=(fI.zero _ _).1 h
     subst e
     simp
   · split
     · simp
     · rw[List.mem_cons,qh,List.mem_cons]
       constructor
       · rintro (h | h | h)
         · exact .inr (.inl h)
         · exact .inl h
         · exact .inr (.inr h)
       · rintro (h | h | h)
         · exact .inr (.inl h)
         · exact .inl h
         · exact .inr (.inr h)
theorem oO {v:Val}:∀ {o:List Val},acp o→acp (insV o v)
 | [],_=>List.pairwise_singleton ..
 | y::l,h=>by
   have h':=List.pairwise_cons.1 h
   unfold insV
   split
   · exact h
   · rename_i h0
     split
     · rename_i h1
       refine List.pairwise_cons.2 ⟨fun z hz => ?_,h⟩
       rcases List.mem_cons.1 hz with e | hz
       · subst e; exact h1
       · exact fI.trans _ _ _ h1 (h'.1 z hz)
     · rename_i h1
       refine List.pairwise_cons.2 ⟨fun z hz => ?_,oO h'.2⟩
       rcases qh.1 hz with e | hz
       · subst e
         have h2:=fI.neg z y
         show cmpV y z<0
         omega
       · exact h'.1 z hz
def jK (l:List Val):List Val:=l.foldl insV []
theorem lI:∀ (l o:List Val),acp o→acp (l.foldl insV o)∧∀ x,x∈l.foldl insV o↔x∈o∨x∈l
 | [],o,h=>⟨h,fun x=>by simp⟩
 | v::l,o,h=>by
   obtain ⟨h1,h2⟩:=lI l (insV o v) (oO h)
   refine ⟨h1,fun x => ?_⟩
   rw[List.foldl_cons,h2,qh,List.mem_cons]
   constructor
   · rintro ((h | h) | h)
     · exact .inr (.inl h)
     · exact .inl h
     · exact .inr (.inr h)
   · rintro (h | h | h)
     · exact .inl (.inr h)
     · exact .inl (.inl h)
     · exact .inr h
theorem lG (l:List Val):acp (jK l):=(lI l [] List.Pairwise.nil).1
theorem lH (l:List Val) (x:Val):x∈jK l↔x∈l:=by
 have:=(lI l [] List.Pairwise.nil).2 x
 simpa [jK] using this
theorem xf {v:Val}:∀ {o:List Val},(insV o v).length≤o.length+1
 | []=>Nat.le_refl _
 | y::l=>by
   unfold insV
   split
   · omega
   · split
     · simp
     · have:=xf (v:=v) (o:=l)
       simp only[zl]; omega
theorem rk:∀ (l o:List Val),(l.foldl insV o).length≤o.length+l.length
 | [],o=>Nat.le_refl _
 | v::l,o=>by
   have:=rk l (insV o v)
   have:=xf (v:=v) (o:=o)
   rw[List.foldl_cons,zl]; omega
theorem rD {l:List Val} (hl:l.length<1000000):∃ s,zak l=some ((),s,())∧zan s=some (jK l,()):=by
 obtain ⟨s,h1,h2,h3⟩:=rE (c:=cmpV) (key:=fun v:Val=>v) (cmp:=fun x y=>zbi x y) (xs:=l) fI (fun x _ y _=>fk x y) (by omega)
 refine ⟨s,by unfold zak; rw[h1]; rfl,?_⟩
 rw[adQ (by rw[h2.length_eq]; exact hl)]
 have:sqz s=jK l:=by
   refine dV fI (key:=fun v:Val=>v) (rC fI (fun a b=>(fI.zero a b).1) _ s rfl h3) (lG l) fun x => ?_
   rw[pF _ s rfl,lH]
   exact h2.mem_iff
 rw[this]
def rq (l:List aZ) (p:Path):List Val:=(atM l p 1).map fun x=>x.2.1.2.2.1
theorem uu {l:List aZ}{p:Path} (hl:LowI l):zc6 l p=some (jK (rq l p)):=by
 unfold zc6 rq
 rw[at_t hl]
 have hlow:=(vv (p:=p) (leaf:=1) hl).len
 generalize atM l p 1=q at hlow
 simp only[zb]
 have:=eq (f:=wd q) (l:=q) (fun i o=>((i:Int),o,())) (fun x=>[x.2.1.2.2.1]) (fun o=>(.inl (o,()):(List Val×Unit)⊕List Val)) 1 (fun x _=>Nat.le_refl _) (fun i h o ho=>by
   unfold wd
   simp only[ae]
   rw[zp (by omega),aP h]
   simp only[zb]
   rw[wrap64 (by omega) (by omega),aW (by simp; omega)]; rfl) (fun o _=>by
   unfold wd
   simp only[ae]
   rw[zn (by omega)])
 rw[show ((0:Int),([]:List Val),())=(((0:Nat):Int),[],()) from rfl,this,ay]
 have e:(q.flatMap fun x=>[x.2.1.2.2.1])=q.map fun x=>x.2.1.2.2.1:=by
   clear this hlow
   induction q with
   | nil=>rfl
   | cons x q ih=>rw[List.flatMap_cons,List.map_cons,ih]; rfl
 obtain ⟨s,h1,h2⟩:=rD (l:=q.map fun x=>x.2.1.2.2.1) (by rw[List.length_map]; exact hlow)
 simp only[e]
 rw[h1]
 simp only[zb,h2]
structure LowP (l:List Txn1):Prop where
 low:Low l
 ops:∀ t∈l,∀ o∈t.2.2.2.2.1,(o.2.1.length<1000000∧∀ s∈o.2.1,s.length<1000000)∧o.2.2.1.2.2.1.length<1000000
theorem mE {p:Ref1→Bool}{t:Txn1}:∀ {l:List Op1}{k:Nat}{x:aZ},x∈eK p t k l→∃ (j:Nat) (o:Op1),o∈l∧fq o.1=true∧p (t.1,(j:Int),())=false∧x=((t.1,(j:Int),()),o,t.2.2.1,())
 | [],_,x,h=>by cases h
 | o::l,k,x,h=>by
   unfold eK at h
   rcases List.mem_append.1 h with h | h
   · unfold ku at h
     split at h
     · rename_i hc
       rw[List.mem_singleton] at h
       exact ⟨k,o,List.mem_cons_self ..,hc.1,hc.2,h⟩
     · cases h
   · obtain ⟨j,o',h1,h2⟩:=mE h
     exact ⟨j,o',List.mem_cons_of_mem _ h1,h2⟩
theorem agi {l:List Txn1}{u:List Ref1}{x:aZ} (h:x∈allM l u):∃ t∈l,∃ (j:Nat) (o:Op1),o∈t.2.2.2.2.1∧fq o.1=true∧fQ u t.1=true∧covM l u (t.1,(j:Int),())=false∧x=((t.1,(j:Int),()),o,t.2.2.1,()):=by
 unfold allM at h
 obtain ⟨t,ht,hx⟩:=List.mem_flatMap.1 h
 split at hx
 · rename_i hs
   obtain ⟨j,o,h1,h2,h3,h4⟩:=mE hx
   exact ⟨t,ht,j,o,h1,h2,hs,h3,h4⟩
 · cases hx
theorem xw {A B:Type}{g:A→List B}{n:Nat}:∀ {l:List A},(∀ x∈l,(g x).length≤n)→(l.flatMap g).length≤l.length*n
 | [],_=>Nat.zero_le _
 | x::l,h=>by
   have:=xw (l:=l) fun y hy=>h y (List.mem_cons_of_mem _ hy)
   have:=h x (List.mem_cons_self ..)
   rw[List.flatMap_cons,List.length_append,zl,Nat.succ_mul]; omega
theorem kV {l:List Txn1}{n:Nat} (h:TxnsOk l n) (hn:n≤900):LowP l:=by
 refine ⟨⟨by have:=h.len; omega,fun t ht=>by have:=(h.all t ht).len; omega,fun t ht o ho => ?_⟩,fun t ht o ho => ?_⟩
 · have:=((h.all t ht).ops o ho).1.2.2.2; omega
 · have:=((h.all t ht).ops o ho).1
   exact ⟨⟨by have:=this.1; omega,fun s hs=>by have:=this.2.1 s hs; omega⟩,by have:=this.2.2.1; omega⟩
theorem zB {u:List Ref1} (h:CountsOk u):LowU u:=⟨by have:=h.len; omega,h.rise⟩
abbrev cm:=Path×Int×Unit
def nH (a b:cm):Int:=orI (cmpP a.1 b.1) (cmpI a.2.1 b.2.1)
theorem awb:Cmp cmpP:=Cmp.list adY
theorem iq:Cmp nH:=by
 have:nH=fun a b=>cmpB cmpP cmpI ((fun x:cm=>(x.1,x.2.1)) a) ((fun x:cm=>(x.1,x.2.1)) b):=rfl
 rw[this]
 exact vE (awb.pair mU) _ fun a b h=>by
   obtain ⟨a1,a2,⟨⟩⟩:=a; obtain ⟨b1,b2,⟨⟩⟩:=b
   simp only[Prod.mk.injEq] at h
   rw[h.1,h.2]
theorem ab0 {a b:cm} (ha:a.1.length<1000000):zbq a b=some (nH a b):=by
 unfold zbq
 simp only[ja ha,jr,or_t,zb]
 rfl
theorem ada {a b:cm} (ha:a.1.length<1000000):zbj a b=some (decide (a=b)):=by
 unfold zbj
 rw[ab0 ha]
 simp only[zb]
 by_cases h:a=b
 · rw[zt h,zt ((iq.zero _ _).2 h)]
 · rw[zf h,zf (fun e=>h ((iq.zero _ _).1 e))]
structure MidS (l w:List (List UInt8)) (i0 k i:Nat):Prop where
 len:w.length=l.length
 head:w.take i=sqz (l.take (i0+k))
 rest:∀ j,i0+k-1≤j→w[j]? = l[j]?
 low:i≤i0+k-1
structure MidL (l w:List cm) (i0 k i:Nat):Prop where
 len:w.length=l.length
 head:w.take i=sqz (l.take (i0+k))
 rest:∀ j,i0+k-1≤j→w[j]? = l[j]?
 low:i≤i0+k-1
theorem nG {l:List cm}{i0:Nat} (hl:l.length<1000000) (hE:∀ a b,a∈l→zbj a b=some (decide (a=b))) (h0:0<i0) (hi0:i0<l.length):∀ (n k i:Nat) (w:List cm),l.length-i0-k≤n→1≤k→k≤l.length-i0→MidL l w i0 k i →
   ∃ w' i',MidL l w' i0 (l.length-i0) i'∧aK nR ((i:Int),(i0,l.length-i0),(k:Int),w,())=some (.inl ((i':Int),w',())):=by
 intro n
 induction n with
 | zero =>
   intro k i w hn hk1 hk hm
   have e:k=l.length-i0:=by omega
   subst e
   refine ⟨w,i,hm,aD ?_⟩
   unfold nR
   simp only[ae]
   rw[zn (by omega)]
 | succ n ih =>
   intro k i w hn hk1 hk hm
   by_cases hlt:k<l.length-i0
   · have hwl:=hm.len
     have hw:0<w.length:=by omega
     have hk0:i0+k<l.length:=by omega
     have ea:w[i0+k]? = some (l[i0+k]):=by rw[hm.rest _ (by omega),zg hk0]
     have eb:w[i0+(k-1)]? = some (l[i0+k-1]'(by omega)):=by rw[show i0+(k-1)=i0+k-1 by omega,hm.rest _ (by omega),zg (by omega)]
     have hlow:=hm.low
     have hiw:i<w.length:=by omega
     have turn:nR ((i:Int),(i0,l.length-i0),(k:Int),w,())=if l[i0+k-1]'(by omega)=l[i0+k] then some (.inl ((i:Int),(i0,l.length-i0),((k+1:Nat):Int),w,())) else some (.inl (((i+1:Nat):Int),(i0,l.length-i0),((k+1:Nat):Int),w.set i l[i0+k],())):=by
       unfold nR
       simp only[ae]
       rw[zp (by omega),dX hw]
       simp only[cond_false]
       rw[ck hlt,wrap64 (n:=(k:Int)-1) (by omega) (by omega),show (k:Int)-1=((k-1:Nat):Int) by omega,ck (show k-1<l.length-i0 by omega)]
       simp only[zb]
       rw[ea,eb]
       simp only[zb,hE,zm]
       rw[wrap64 (by omega) (by omega),wrap64 (by omega) (by omega)]
       by_cases hx:l[i0+k]=l[i0+k-1]'(by omega)
       · rw[zp hx.symm]
         first | (rw[zt hx]; rfl) | (rw[zp hx])
       · rw[zn (fun e=>hx e.symm),zf hx,ck hiw]
         simp only[Bool.not_false,cond_true,zb]
         rw[zg hiw]
         rfl
     have hsq:=iU (l:=l) (i:=i0+k) hk0 (by omega)
     by_cases hx:l[i0+k-1]'(by omega)=l[i0+k]
     · rw[zp hx] at turn hsq
       rw[aJ turn]
       exact ih (k+1) i w (by omega) (by omega) (by omega) ⟨hwl,by rw[hm.head,show i0+(k+1)=i0+k+1 by omega,hsq],fun j hj=>hm.rest j (by omega),by omega⟩
     · rw[zn hx] at turn hsq
       rw[aJ turn]
       refine ih (k+1) (i+1) _ (by omega) (by omega) (by omega) ⟨by rw[List.length_set]; exact hwl,?_,fun j hj => ?_,by omega⟩
       · rw[show i0+(k+1)=i0+k+1 by omega,hsq,← hm.head,List.take_add_one,List.take_set_of_le (by omega),List.getElem?_set_self hiw]; rfl
       · rw[List.getElem?_set_ne (by omega)]
         exact hm.rest j (by omega)
   · have e:k=l.length-i0:=by omega
     subst e
     refine ⟨w,i,hm,aD ?_⟩
     unfold nR
     simp only[ae]
     rw[zn (by omega)]
theorem nF {l:List cm} (hl:l.length<1000000) (hE:∀ a b,a∈l→zbj a b=some (decide (a=b))):∀ (n i:Nat),l.length-i≤n→1≤i→i≤l.length→sqz (l.take i)=l.take i →
   aK lq ((i:Int),l,())=some (sqz l):=by
 intro n
 induction n with
 | zero =>
   intro i hn h1 hi hs
   have e:i=l.length:=by omega
   subst e
   rw[List.take_of_length_le (Nat.le_refl _)] at hs
   refine aD ?_
   unfold lq
   simp only[ae]
   rw[zn (by omega),hs]
 | succ n ih =>
   intro i hn h1 hi hs
   by_cases hlt:i<l.length
   · have hsq:=iU (l:=l) (i:=i) hlt (by omega)
     have he:l.isEmpty=false:=dX (by omega)
     by_cases hx:l[i-1]'(by omega)=l[i]
     · refine aD ?_
       unfold lq
       simp only[ae]
       rw[zp (by omega),ck hlt,wrap64 (by omega) (by omega),show (i:Int)-1=((i-1:Nat):Int) by omega,ck (show i-1<l.length by omega)]
       simp only[zb,zg hlt,zg (show i-1<l.length by omega),hE,zm]
       first | rw[zt hx.symm,cond_true] | rw[zp hx.symm]
       rw[he,cond_false,fy (by omega) (Nat.le_refl _)]
       simp only[zb]
       rw[zp hx] at hsq
       obtain ⟨w',i',hm,hrun⟩:=nG hl hE (by omega) hlt (l.length-i) 1 i l (by omega) (Nat.le_refl _) (by omega) ⟨rfl,by rw[hsq,hs],fun j _=>rfl,by omega⟩
       rw[show ((1:Int))=((1:Nat):Int) from rfl,hrun,ay]
       have hwl:=hm.len
       have hlow:=hm.low
       have hle:i'≤w'.length:=by omega
       have hw:0<w'.length:=by omega
       have e2:i+(l.length-i)=l.length:=by omega
       have hhead:w'.take i'=sqz l:=by rw[hm.head,e2,List.take_of_length_le (Nat.le_refl _)]
       simp only
       rw[dX hw,cond_false,fy hle (Nat.le_refl _)]
       simp only[zb,cond_false]
       rw[zp (by omega)]
       simp only[zb]
       have hlen2:(List.take i' w'++List.replicate (w'.length-i') (([],0,()):cm)++List.drop (i'+(w'.length-i')) w').length=w'.length:=by
         rw[List.length_append,List.length_append,List.length_take,List.length_replicate,List.length_drop]; omega
       rw[dX (by rw[hlen2]; exact hw),cond_false,hlen2,show ((0:Int))=((0:Nat):Int) from rfl,fy (Nat.zero_le _) hle]
       simp only[zb,cond_false]
       rw[zp (by omega)]
       simp only[Option.map_some,List.drop_zero,Nat.sub_zero]
       rw[List.append_assoc,List.take_append_of_le_length (by rw[List.length_take]; omega),List.take_take,Nat.min_self,hhead]
     · have turn : lq ((i : Int), l, ()) = some (.inl (((i + 1 : Nat) : Int), l, ())) := by
         unfold lq
         simp only[ae]
         rw[zp (by omega),ck hlt,wrap64 (by omega) (by omega),show (i:Int)-1=((i-1:Nat):Int) by omega,ck (show i-1<l.length by omega)]
         simp only[zb,zg hlt,zg (show i-1<l.length by omega),hE,zm]
         first | rw[zf (fun e=>hx e.symm),cond_false] | rw[zn (fun e=>hx e.symm)]
         rw[wrap64 (by omega) (by omega)]; rfl
       rw[aJ turn]
       rw[zn hx,hs] at hsq
       refine ih (i+1) (by omega) (by omega) (by omega) ?_
       rw[hsq,List.take_add_one,zg hlt]; rfl
   · have e:i=l.length:=by omega
     subst e
     rw[List.take_of_length_le (Nat.le_refl _)] at hs
     refine aD ?_
     unfold lq
     simp only[ae]
     rw[zn (by omega),hs]
theorem zC {l:List cm} (hl:l.length<1000000) (hE:∀ a b,a∈l→zbj a b=some (decide (a=b))):zai l=some (sqz l,()):=by
 unfold zai alK
 simp only[ae]
 match l,hl,hE with
 | [],_,_=>rfl
 | [x],_,_=>rfl
 | x::y::l,hl,hE =>
   rw[zn (by simp only[zl]; omega)]
   have:=nF hl hE (x::y::l).length 1 (by omega) (Nat.le_refl _) (by simp) rfl
   rw[show ((1:Int))=((1:Nat):Int) from rfl,this]
   rfl
def iR (q p:Path):Bool:=decide (q.take p.length=p)
theorem rr {q p:Path} (h:iR q p=true):p.length≤q.length:=by
 unfold iR at h
 rw[decide_eq_true_eq] at h
 have:=congrArg List.length h
 rw[List.length_take] at this; omega
def eJ (x:aZ):cm:=(x.2.1.2.1,nA x.2.1.1,())
def cg (l:List aZ):List cm:=uniq nH (l.map eJ)
theorem p9 {l:List aZ} (hl:LowI l):zb6 l=some (cg l):=by
 have hlen:=hl.len
 have:=eq (f:=wr l) (l:=l) (fun i o=>((i:Int),o,())) (fun x=>[eJ x]) (fun o=>(.inl (o,()):(List cm×Unit)⊕List cm)) 1 (fun x _=>Nat.le_refl _) (fun i h o ho=>by
   have hp:=(hl.path _ (zm h)).1
   unfold wr
   simp only[ae]
   rw[zp (by omega),aP h]
   have hc:zax l[i].2.1.2.1=some l[i].2.1.2.1:=by
     unfold zax fJ
     rw[zp (by simp only[most]; omega)]
   simp only[zb,hc,w5]
   rw[wrap64 (by omega) (by omega),aW (by simp; omega)]; rfl) (fun o _=>by
   unfold wr
   simp only[ae]
   rw[zn (by omega)])
 unfold zb6
 rw[show ((0:Int),([]:List cm),())=(((0:Nat):Int),[],()) from rfl,this,ay]
 have e:(l.flatMap fun x=>[eJ x])=l.map eJ:=by
   clear this hlen hl
   induction l with
   | nil=>rfl
   | cons x l ih=>rw[List.flatMap_cons,List.map_cons,ih]; rfl
 have hp:∀ x∈l.map eJ,x.1.length<1000000:=fun x hx=>by
   obtain ⟨y,hy,rfl⟩:=List.mem_map.1 hx
   exact (hl.path y hy).1
 obtain ⟨s,h1,h2,h3⟩:=rE (c:=nH) (key:=fun v:cm=>v) (cmp:=fun x y=>zbq x y) (xs:=l.map eJ) iq (fun x hx y _=>ab0 (hp x hx)) (by rw[List.length_map]; omega)
 have hs:zam (l.map eJ)=some ((),s,()):=by unfold zam; rw[h1]; rfl
 simp only[e]
 rw[hs]
 simp only[zb]
 rw[zC (by rw[h2.length_eq,List.length_map]; omega) (fun a b ha=>ada (hp a (h2.mem_iff.1 ha)))]
 simp only[zb]
 congr 1
 unfold cg
 refine dV iq (key:=fun v:cm=>v) (rC iq (fun a b=>(iq.zero a b).1) _ s rfl h3) (gN iq _) fun x => ?_
 rw[pF _ s rfl,kU iq]
 exact h2.mem_iff
def avW (y:cm):Prop:=y.1.length<1000000∧(∀ s∈y.1,s.length<1000000)∧0≤y.2.1∧y.2.1≤3
theorem afL (k:Int):0≤nA k∧nA k≤3:=by unfold nA; split<;>(try split)<;>(try split)<;>omega
theorem zd {l:List aZ} (hl:LowI l) {x:aZ} (hx:x∈l):avW (eJ x):=⟨(hl.path x hx).1,(hl.path x hx).2,afL _⟩
theorem mz {l:List aZ} (hl:LowI l):(cg l).length<1000000:=by
 have h1:=wH (c:=nH) (l.map eJ)
 rw[List.length_map] at h1
 have:=hl.len
 unfold cg; omega
theorem dJ {l:List aZ}{y:cm}:y∈cg l↔∃ x∈l,eJ x=y:=by
 unfold cg
 rw[kU iq,List.mem_map]
structure OpOk (o:Op1):Prop where
 kind:1≤o.1∧o.1≤5
 path:fK o.2.1=0
 val:o.1≠3→o.1≠5→dh o.2.2.1=true
 noval:o.1=3∨o.1=5→o.2.2.1=zeroV
 num:o.1=3→o.2.2.2.1≠0∧o.2.2.2.1≤2147483647 ∧ -2147483647≤o.2.2.2.1
 nonum:o.1≠3→o.2.2.2.1=0
 noseen:o.1=2∨o.1=3→o.2.2.2.2.1=[]
 seen:o.2.2.2.2.1.length≤256∧kM o.2.2.2.2.1=true
theorem avO {o:Op1} (h:opM o=0):OpOk o:=by
 unfold opM at h
 by_cases a1:o.1<1∨5<o.1
 · rw[zp a1] at h; omega
 rw[zn a1] at h
 by_cases a2:fK o.2.1≠0
 · rw[zp a2] at h; exact absurd h a2
 rw[zn a2] at h
 by_cases a3:(o.1=3∨o.1=5)∧o.2.2.1≠zeroV
 · rw[zp a3] at h; omega
 rw[zn a3] at h
 by_cases a4:¬ (o.1=3∨o.1=5)∧dh o.2.2.1=false
 · rw[zp a4] at h; omega
 rw[zn a4] at h
 by_cases a5:o.1≠3∧o.2.2.2.1≠0
 · rw[zp a5] at h; omega
 rw[zn a5] at h
 by_cases a6:o.1=3∧(o.2.2.2.1=0∨o.2.2.2.1>2147483647∨o.2.2.2.1 < -2147483647)
 · rw[zp a6] at h; omega
 rw[zn a6] at h
 by_cases a7:(o.1=2∨o.1=3)∧0<o.2.2.2.2.1.length
 · rw[zp a7] at h; omega
 rw[zn a7] at h
 by_cases a8:256<o.2.2.2.2.1.length
 · rw[zp a8] at h; omega
 rw[zn a8] at h
 by_cases a9:kM o.2.2.2.2.1=true
 · refine ⟨by omega,Classical.not_not.1 a2,fun h1 h2 => ?_,fun h1 => ?_,fun h1 => ?_,fun h1 => ?_,fun h1 => ?_,by omega,a9⟩
   · cases hr:dh o.2.2.1 with
     | true=>rfl
     | false=>exact absurd ⟨by omega,hr⟩ a4
   · exact Classical.not_not.1 fun h2=>a3 ⟨h1,h2⟩
   · exact ⟨fun h2=>a6 ⟨h1,.inl h2⟩,Int.not_lt.1 fun h2=>a6 ⟨h1,.inr (.inl h2)⟩,Int.not_lt.1 fun h2=>a6 ⟨h1,.inr (.inr h2)⟩⟩
   · exact Classical.not_not.1 fun h2=>a5 ⟨h1,h2⟩
   · exact List.length_eq_zero_iff.1 (by omega)
 · rw[zn a9] at h; omega
structure ItemsOk (l:List aZ):Prop where
 len:l.length≤320
 op:∀ x∈l,OpOk x.2.1∧rG x.2.1∧fq x.2.1.1=true
theorem fV {l:List Txn1}{u:List Ref1} (h:TxnsOk l 20):ItemsOk (allM l u):=by
 constructor
 · have : (allM l u).length ≤ l.length * 16 := by
     unfold allM
     refine xw fun t ht => ?_
     split
     · exact Nat.le_trans mF (h.all t ht).len
     · simp
   have:=h.len; omega
 · intro x hx
   obtain ⟨t,ht,j,o,ho,hk,_,_,rfl⟩:=agi hx
   obtain ⟨h1,h2⟩:=(h.all t ht).ops o ho
   refine ⟨?_,h1,hk⟩
   rcases h2 with h2 | ⟨_,h2⟩
   · exact avO h2
   · unfold j8 at h2
     unfold fq at hk
     simp only[decide_eq_true_eq] at h2 hk
     omega
theorem de {l:List aZ} (h:ItemsOk l):LowI l:=⟨by have:=h.len; omega,fun x hx=>by
 have:=(h.op x hx).2.1
 exact ⟨by have:=this.1; omega,fun s hs=>by have:=this.2.1 s hs; omega⟩⟩
theorem atOk {l:List aZ}{p:Path}{k:Int} (h:ItemsOk l):ItemsOk (atM l p k):=⟨Nat.le_trans (List.length_filter_le ..) h.len,fun x hx=>h.op x (List.mem_filter.1 hx).1⟩
theorem ac8 {k:Int} (h:fq k=true):nA k=k:=by
 unfold fq at h
 simp only[decide_eq_true_eq] at h
 unfold nA
 split
 · omega
 · split
   · omega
   · split<;>omega
theorem ad7 {l:List aZ}{p:Path}{k:Int} (h:ItemsOk l):∀ x∈atM l p k,x.2.1.1=k∧x.2.1.2.1=p:=fun x hx=>by
 obtain ⟨h1,h2⟩:=List.mem_filter.1 hx
 unfold isAt at h2
 simp only[Bool.and_eq_true,decide_eq_true_eq] at h2
 exact ⟨by rw[← ac8 (h.op x h1).2.2]; exact h2.1,h2.2⟩
theorem am3 {A:Type}{p q:List A}{y:A} (h:(p++q).length<1000000):insT (p++q) (p.length:Int) [y]=some (p++y::q):=by
 simp only[List.length_append] at h
 unfold insT
 rw[zp ⟨by omega,by simp only[List.length_append]; omega,by simp,by simp only[List.length_append,zl,List.length_nil]; unfold most; omega⟩]
 simp
theorem yl (l:List Val):jK l=uniq cmpV l:=by
 refine dV fI (key:=fun v:Val=>v) (lG l) (gN fI l) fun x => ?_
 rw[lH,kU fI]
theorem qY {u:List Val}{d:Val} (hl:u.length<1000000) (hr:fo cmpV u):∀ (k i j:Nat),j-i≤k→i≤(loA cmpV d u).length→(loA cmpV d u).length≤j→j≤u.length →
   aK (nT u d) ((i:Int),(j:Int),())=some (.inl (((loA cmpV d u).length:Int),())):=by
 intro k
 induction k with
 | zero =>
   intro i j hk h1 h2 h3
   refine aD ?_
   unfold nT
   simp only[ae]
   rw[zn (by omega),show (loA cmpV d u).length=i by omega]
 | succ k ih =>
   intro i j hk h1 h2 h3
   by_cases hij:i<j
   · have hh:(i+j)/2<u.length:=by omega
     have turn:nT u d ((i:Int),(j:Int),())=if cmpV u[(i+j)/2] d<0 then some (.inl ((((i+j)/2+1:Nat):Int),(j:Int),())) else some (.inl ((i:Int),(((i+j)/2:Nat):Int),())):=by
       unfold nT
       simp only[ae]
       rw[zp (by omega),show (i:Int)+(j:Int)=((i+j:Nat):Int) by omega,sC (by omega)]
       simp only[zb]
       rw[wrap64 (n:=(((i+j)/2:Nat):Int)) (by omega) (by omega),aP hh]
       simp only[zb,fk]
       rw[wrap64 (by omega) (by omega)]; rfl
     by_cases hn:(i+j)/2<(loA cmpV d u).length
     · rw[zp (anz (c:=cmpV) (key:=fun v:Val=>v) hh hn)] at turn
       rw[aJ turn]
       exact ih _ _ (by omega) (by omega) h2 h3
     · have:=anA fI (key:=fun v:Val=>v) hr hh (k:=d) (Nat.le_of_not_lt hn)
       rw[zn (by omega)] at turn
       rw[aJ turn]
       exact ih _ _ (by omega) h1 (by omega) (by omega)
   · refine aD ?_
     unfold nT
     simp only[ae]
     rw[zn (by omega),show (loA cmpV d u).length=i by omega]
def am5 (q:List Val) (d:Val):Bool:=match q with
 | []=>false
 | x::_=>decide (cmpV x d=0)
theorem abU {u:List Val}{d:Val} (hl:u.length<1000000) (hr:fo cmpV u) :
   zab u d ()=some (((loA cmpV d u).length:Int),am5 (hiA cmpV d u) d,()):=by
 have e2:loA cmpV d u++hiA cmpV d u=u:=ac3
 have hlen:(loA cmpV d u).length+(hiA cmpV d u).length=u.length:=by rw[← List.length_append,e2]
 unfold zab
 have:=qY (d:=d) hl hr u.length 0 u.length (by omega) (by omega) (by omega) (by omega)
 rw[show ((0:Int),(u.length:Int),())=(((0:Nat):Int),(u.length:Int),()) from rfl,this,ay]
 simp only[ae]
 cases hq:hiA cmpV d u with
 | nil =>
   rw[hq] at hlen
   simp only[List.length_nil] at hlen
   rw[zn (by omega)]; rfl
 | cons x q =>
   rw[hq] at hlen e2
   simp only[zl] at hlen
   rw[zp (by omega),iJ]
   have e3:u[(loA cmpV d u).length]? = some x:=by
     have:(loA cmpV d u++x::q)[(loA cmpV d u).length]? = some x:=by simp
     rw[e2] at this
     exact this
   rw[e3]
   simp only[zb,fk]
   rfl
def ad4 (l:List aZ) (p:Path):List Val:=(atM l p 2).map fun x=>x.2.1.2.2.1
theorem vt {l:List aZ}{p:Path} (hl:LowI l):zcv l p=some (jK (ad4 l p)):=by
 unfold zcv ad4
 rw[at_t hl]
 have hlow:=(vv (p:=p) (leaf:=2) hl).len
 generalize atM l p 2=q at hlow
 simp only[zb]
 have loop:=bG (S:=List Val) (f:=vS q) (l:=q) (fun i o=>((i:Int),o,())) (fun _ x o=>.inl (putU cmpV o x.2.1.2.2.1)) (fun o=>o) (fun i o=>fo cmpV o∧o.length≤i) (fun i h o ho=>by
   refine .inl ⟨_,rfl,?_,ov fI ho.1,by have:=afv (c:=cmpV) (o:=o) (v:=q[i].2.1.2.2.1); have:=ho.2; omega⟩
   have ho2:=ho.2
   unfold vS
   simp only[ae]
   rw[zp (by omega),aP h]
   simp only[zb,abU (show o.length<1000000 by omega) ho.1]
   rw[wrap64 (by omega) (by omega)]
   generalize q[i].2.1.2.2.1=v
   have e:loA cmpV v o++hiA cmpV v o=o:=ac3
   have ins:insT o ((loA cmpV v o).length:Int) [v]=some (loA cmpV v o++v::hiA cmpV v o):=by
     have:=am3 (p:=loA cmpV v o) (q:=hiA cmpV v o) (y:=v) (by rw[e]; omega)
     rwa [e] at this
   unfold zao putU
   cases hq:hiA cmpV v o with
   | nil =>
     rw[hq] at ins
     simp only[am5,Bool.not_false,cond_true,ins,Option.map_some,zb]; rfl
   | cons y r =>
     rw[hq] at ins
     simp only[am5]
     by_cases h0:cmpV y v=0
     · rw[zt h0,Bool.not_true,cond_false,zp h0]; rfl
     · rw[zf h0,Bool.not_false,cond_true,zn h0,ins]; rfl) (fun o _=>by
   unfold vS
   simp only[ae]
   rw[zn (by omega)]) [] ⟨List.Pairwise.nil,by simp⟩
 rw[show ((0:Int),([]:List Val),())=(((0:Nat):Int),[],()) from rfl,loop,ct,yl,← afq fI,List.foldl_map]
def sumI (q:List aZ):Int:=q.foldl (fun n x=>n+x.2.1.2.2.2.1) 0
def ab9 (q:List aZ):Prop:=∀ x∈q,-2147483647≤x.2.1.2.2.2.1∧x.2.1.2.2.2.1≤2147483647
theorem ayp {l:List aZ}{p:Path} (hl:LowI l) (hn:ab9 (atM l p 3)):zdb l p=some (sumI (atM l p 3)):=by
 unfold zdb
 rw[at_t hl]
 have hlow:=(vv (p:=p) (leaf:=3) hl).len
 generalize atM l p 3=q at hlow hn
 simp only[zb]
 have loop:=bG (S:=Int) (f:=vO q) (l:=q) (fun i n=>(n,(i:Int),())) (fun _ x n=>.inl (n+x.2.1.2.2.2.1)) (fun n=>n) (fun i n => -2147483648*(i:Int)≤n∧n≤2147483648*(i:Int)) (fun i h n hb=>by
   have hx:=hn _ (zm h)
   refine .inl ⟨_,rfl,?_,by constructor<;>omega⟩
   unfold vO
   simp only[ae]
   rw[zp (by omega),aP h]
   simp only[zb]
   rw[wrap64 (n:=(i:Int)+1) (by omega) (by omega),wrap64 (by omega) (by omega)]; rfl) (fun n _=>by
   unfold vO
   simp only[ae]
   rw[zn (by omega)]) 0 (by omega)
 rw[ct] at loop
 exact loop
def entM (l:List aZ) (p:Path) (k:Int):Ent:=(p,k,if k=1 then jK (rq l p) else if k=2 then jK (ad4 l p) else [],if k=3 then sumI (atM l p 3) else 0,())
theorem acS {l:List aZ}{p:Path} (h:ItemsOk l):ab9 (atM l p 3):=fun x hx=>by
 have h1:=(ad7 h x hx).1
 have h2:=((atOk h).op x hx).1.num h1
 omega
theorem anq {p:Path} (hp:p.length<1000000):zax p=some p:=by
 unfold zax fJ
 rw[zp (by simp only[most]; omega)]
theorem ae6 {l:List aZ}{p:Path}{k:Int} (h:ItemsOk l) (hp:p.length<1000000):zdx l p k=some (entM l p k):=by
 have hl:=de h
 unfold zdx entM
 rw[anq hp]
 simp only[zb,ae,uu hl,vt hl,ayp hl (acS h)]
 by_cases h1:k=1
 · rw[zp h1,zp h1,zn (by omega)]
 · rw[zn h1,zn h1]
   by_cases h2:k=2
   · rw[zp h2,zp h2,zn (by omega)]
   · rw[zn h2,zn h2]
     by_cases h3:k=3
     · rw[zp h3,zp h3]
     · rw[zn h3,zn h3]
def ic (l:List aZ):List Ent:=(cg l).map fun y=>entM l y.1 y.2.1
theorem dp {A B:Type}{g:A→B}:∀ {l:List A},(l.flatMap fun x=>[g x])=l.map g
 | []=>rfl
 | x::l=>by rw[List.flatMap_cons,List.map_cons,dp]; rfl
theorem oG {l:List aZ} (h:ItemsOk l) {y:cm} (hy:y∈cg l):y.1.length≤12∧∀ s∈y.1,s.length≤120:=by
 obtain ⟨x,hx,rfl⟩:=dJ.1 hy
 have:=(h.op x hx).2.1
 exact ⟨this.1,this.2.1⟩
theorem oF {l:List aZ} (h:ItemsOk l):(cg l).length≤320:=by
 have h1:=wH (c:=nH) (l.map eJ)
 rw[List.length_map] at h1
 have:=h.len
 unfold cg; omega
theorem nW {l:List aZ}{p:Path}{k:Int} (h:ItemsOk l) (hk:k=1∨k=2):∀ v∈(atM l p k).map (fun x=>x.2.1.2.2.1),dh v=true:=fun v hv=>by
 obtain ⟨x,hx,rfl⟩:=List.mem_map.1 hv
 have h1:=(ad7 h x hx).1
 exact ((atOk h).op x hx).1.val (by omega) (by omega)
theorem lF {q:List Val} (hq:q.length≤320) (hr:∀ v∈q,dh v=true):(jK q).length≤400∧∀ v∈jK q,dh v=true:=by
 constructor
 · have:=rk q []
   simp only[List.length_nil,Nat.zero_add] at this
   unfold jK; omega
 · intro v hv
   exact hr v ((lH q v).1 hv)
theorem agJ:∀ (q:List aZ) (n:Int) (k:Nat),ab9 q→(-2147483647*(k:Int)≤n∧n≤2147483647*(k:Int)) → -2147483647*((k+q.length:Nat):Int)≤q.foldl (fun n x=>n+x.2.1.2.2.2.1) n∧q.foldl (fun n x=>n+x.2.1.2.2.2.1) n≤2147483647*((k+q.length:Nat):Int)
 | [],n,k,_,h=>h
 | x::q,n,k,hn,h=>by
   have hx:=hn x (List.mem_cons_self ..)
   rw[List.foldl_cons,zl,show k+(q.length+1)=(k+1)+q.length by omega]
   exact agJ q _ (k+1) (fun y hy=>hn y (List.mem_cons_of_mem _ hy)) (by omega)
theorem adG {l:List aZ}{p:Path}{k:Int} (h:ItemsOk l) (hp:p.length≤12) (hs:∀ s∈p,s.length≤120):og (entM l p k)∧inR (entM l p k).2.2.2.1:=by
 have hat:∀ k,(atM l p k).length≤320:=fun k=>(atOk h).len
 refine ⟨⟨hp,hs,?_⟩,?_⟩
 · unfold entM
   simp only
   by_cases h1:k=1
   · rw[zp h1]
     exact lF (by simp only[rq,List.length_map]; exact hat 1) (nW h (.inl rfl))
   · rw[zn h1]
     by_cases h2:k=2
     · rw[zp h2]
       exact lF (by simp only[ad4,List.length_map]; exact hat 2) (nW h (.inr rfl))
     · rw[zn h2]
       exact ⟨by simp,fun v hv=>by cases hv⟩
 · unfold entM inR
   simp only
   have h1:=agJ (atM l p 3) 0 0 (acS h) (by simp)
   have:=hat 3
   unfold sumI
   split<;>omega
theorem ane {l:List aZ}{p:Path}{k:Int} (h:ItemsOk l) (hp:p.length≤12) (hs:∀ s∈p,s.length≤120):lowE (entM l p k):=by
 have:=(adG (k:=k) h hp hs).1
 exact ⟨by have:=this.1; omega,by have:=this.2.2.1; omega⟩
theorem iQ {l:List aZ}{e:Ent} (h:e∈ic l):∃ y∈cg l,e=entM l y.1 y.2.1:=by
 obtain ⟨y,hy,rfl⟩:=List.mem_map.1 h
 exact ⟨y,hy,rfl⟩
theorem ae5 {l:List aZ} (h:ItemsOk l):(ic l).length≤320:=by unfold ic; rw[List.length_map]; exact oF h
def NS (G:Prop) {A:Type} (o:Option A) (b:A):Prop:=o=some b∨¬ G∧o=none
theorem NS.bind {G:Prop}{A B:Type}{o:Option A}{a:A}{f:A→Option B}{b:B} (h:NS G o a) (hf:NS G (f a) b):NS G (o.bind f) b:=by
 rcases h with h | ⟨h1,h2⟩
 · rw[h,zb]; exact hf
 · exact .inr ⟨h1,by rw[h2]; rfl⟩
abbrev afl:List Ent→Prop:=iM cmpK keyE
def seen (q:List Ent) (k:Path×Int):Bool:=match q with
 | x::_=>decide (cmpK (keyE x) k=0)
 | []=>false
structure VOk (v:List Ent):Prop where
 len:v.length≤320
 easy:∀ e∈v,ayw e
 rise:afl v
theorem VOk.low {v:List Ent} (h:VOk v):∀ e∈v,lowE e:=fun e he=>(h.easy e he).1
abbrev W1:=Path×List Ent×Int×Unit
theorem ani {a b:List Ent} (ha:VOk a) (hb:VOk b):zcp a b=some (dM a b):=av6 (by have:=ha.len; have:=hb.len; omega) ha.low hb.low
theorem awa {a b:List Ent} (ha:VOk a) (hb:VOk b):(dM a b).length≤640:=by
 have:=av9 _ a b (Nat.le_refl _)
 have:=ha.len
 have:=hb.len
 omega
theorem acs:kM []=true:=by
 unfold kM
 rw[zp (by intro i h; simp at h)]
theorem avJ {a:UInt8} (h:a.toNat<128):cD [a]=some [(a.toNat:Int)]:=by
 have hc:aM [a]=((a.toNat:Int),1):=by simp only[aM]; rw[zp h]
 rw[fR (by simp) (by rw[hc]; simp),hc]
 show (cD []).map _=_
 rw[gQ]; rfl
theorem ayv {a:UInt8} (h:a.toNat<128) (hm:mayM (a.toNat:Int)=true):uM [a]=true:=by
 unfold uM
 rw[avJ h]
 simp[hm]
theorem adV:fK [[97]]=0:=by
 unfold fK
 simp[ayv (a:=97) (by decide) (by decide)]
theorem avM {p:Path} (h:fK p=0):opM (1,p,(1,1,[],()),0,[],())=0:=by
 unfold opM
 simp[h,dh,acs]
theorem oK {p q:Ref1→Bool}{c:Ref1→Bool} (h:∀ x,q x=(p x||c x)) {t:Txn1}:∀ (l:List Op1) (k:Nat),eK q t k l=(eK p t k l).filter fun y => !c y.1
 | [],k=>rfl
 | o::l,k=>by
   unfold eK
   rw[List.filter_append,← oK h l (k+1)]
   congr 1
   unfold ku
   rw[h]
   by_cases h1:fq o.1=true∧p (t.1,(k:Int),())=false
   · rw[zp h1]
     cases hc:c (t.1,(k:Int),()) with
     | true=>rw[zn (by simp),List.filter_cons_of_neg (by simp[hc])]; rfl
     | false=>rw[zp ⟨h1.1,by rw[h1.2]; rfl⟩,List.filter_cons_of_pos (by simp[hc])]; rfl
   · rw[zn h1,zn (fun e=>h1 ⟨e.1,by have:=e.2; rw[Bool.or_eq_false_iff] at this; exact this.1⟩)]; rfl
theorem kr {l:List aZ} (hl:LowI l):∀ y∈cg l,avW y:=fun y hy=>by
 obtain ⟨x,hx,e⟩:=dJ.1 hy
 rw[← e]; exact zd hl hx
theorem wF {l:List aZ} (h:ItemsOk l):zd0 l=some (ic l):=by
 have hlen:=oF h
 unfold zd0
 rw[p9 (de h)]
 simp only[zb]
 have this:=eq (f:=vP l (cg l)) (l:=cg l) (fun i o=>((i:Int),o,())) (fun y=>[entM l y.1 y.2.1]) (fun o=>o) 1 (fun x _=>Nat.le_refl _) (fun i hi o ho=>by
   have hs:=oG h (zm hi)
   unfold vP
   simp only[ae]
   rw[zp (by omega),aP hi]
   simp only[zb,ae6 h (show (cg l)[i].1.length<1000000 by omega)]
   rw[wrap64 (by omega) (by omega),aW (by simp; omega)]; rfl) (fun o _=>by
   unfold vP
   simp only[ae]
   rw[zn (by omega)])
 rw[show ((0:Int),([]:List Ent),())=(((0:Nat):Int),[],()) from rfl,this,dp]
 rfl
theorem uB {q p:Path} (hq:q.length<1000000):zcx q p=some (iR q p):=by
 unfold zcx
 simp only[ae]
 by_cases h:p.length≤q.length
 · rw[zp (by omega),show (0:Int)=((0:Nat):Int) from rfl,wL (Nat.zero_le _) h,List.drop_zero]
   simp only[zb]
   rw[wM (by rw[List.length_take]; omega)]
   rfl
 · rw[zn (by omega)]
   cases hu:iR q p with
   | false=>rfl
   | true=>exact absurd (rr hu) h
theorem yG {q p:Path} (hq:q.length<1000000):zb4 q p=some (iR q p):=by
 unfold zb4
 simp only[ae]
 by_cases h:p.length≤q.length
 · rw[zn (by omega)]
   have hl:(q.take p.length).length=p.length:=by rw[List.length_take]; omega
   have:=gy (f:=wu q p) (l:=q.take p.length) (m:=p) (fun i=>((i:Int),())) (fun x y=>decide (x=y)) true false hl (fun i h1 h2=>by
     unfold wu
     simp only[ae,bm]
     rw[zp (by omega),aP (show i<q.length by omega),aP h2]
     simp only[zb]
     rw[List.getElem_take,wrap64 (by omega) (by omega)]
     by_cases e:q[i]=p[i]
     · rw[zp e,zp (by rw[e]; simp)]; rfl
     · rw[zn e,zn (by simpa using e)]) (by
     unfold wu
     simp only[ae]
     rw[zn (by omega)])
   rw[hJ,anj] at this
   exact this
 · rw[zp (by omega)]
   cases hu:iR q p with
   | false=>rfl
   | true=>exact absurd (rr hu) h
abbrev nJ:=List Int×List Dot1×Unit
abbrev St1:=List Txn1×List Ref1×nJ×nJ×List (List Dot1)×Unit
theorem cd {A R S:Type}{f:A→Option (A⊕R)} (n:Nat) (enc:Nat→S→A) (inv:Nat→S→Prop) (Q:R→Prop)
   (hturn:∀ i s,i<n→inv i s→(∃ s',f (enc i s)=some (.inl (enc (i+1) s'))∧inv (i+1) s')∨(∃ r,f (enc i s)=some (.inr r)∧Q r))
   (hend:∀ s,inv n s→∃ r,f (enc n s)=some (.inr r)∧Q r):∀ s,inv 0 s→∃ r,aK f (enc 0 s)=some r∧Q r:=by
 have key:∀ (k i:Nat) (s:S),n-i≤k→i≤n→inv i s→∃ r,aK f (enc i s)=some r∧Q r:=by
   intro k
   induction k with
   | zero =>
     intro i s hk hi hv
     have:i=n:=by omega
     subst this
     obtain ⟨r,h1,h2⟩:=hend s hv
     exact ⟨r,aD h1,h2⟩
   | succ k ih =>
     intro i s hk hi hv
     by_cases hlt:i<n
     · rcases hturn i s hlt hv with ⟨s',h1,h2⟩ | ⟨r,h1,h2⟩
       · obtain ⟨r,h3,h4⟩:=ih (i+1) s' (by omega) (by omega) h2
         exact ⟨r,(aJ h1).trans h3,h4⟩
       · exact ⟨r,aD h1,h2⟩
     · have:i=n:=by omega
       subst this
       obtain ⟨r,h1,h2⟩:=hend s hv
       exact ⟨r,aD h1,h2⟩
 exact fun s hv=>key n 0 s (by omega) (by omega) hv
theorem ans {R:Type}{f:Int×Int×Unit→Option ((Int×Int×Unit)⊕((Int×Unit)⊕R))} (c:Nat→Bool) (n:Nat)
   (hturn:∀ i j:Nat,i<j→j≤n→f ((i:Int),(j:Int),())=some (.inl (if c ((i+j)/2)=true then ((((i+j)/2+1:Nat):Int),(j:Int),()) else ((i:Int),(((i+j)/2:Nat):Int),()))))
   (hend:∀ i:Nat,f ((i:Int),(i:Int),())=some (.inr (.inl ((i:Int),())))) :
   ∃ k:Nat,k≤n∧aK f ((0:Int),(n:Int),())=some (.inl ((k:Int),())):=by
 have key:∀ (q i j:Nat),j-i≤q→i≤j→j≤n→∃ k:Nat,k≤n∧aK f ((i:Int),(j:Int),())=some (.inl ((k:Int),())):=by
   intro q
   induction q with
   | zero =>
     intro i j h1 h2 h3
     have:i=j:=by omega
     subst this
     exact ⟨i,h3,aD (hend i)⟩
   | succ q ih =>
     intro i j h1 h2 h3
     by_cases hij:i<j
     · have ht:=hturn i j hij h3
       by_cases hc:c ((i+j)/2)=true
       · rw[zp hc] at ht
         obtain ⟨k,k1,k2⟩:=ih ((i+j)/2+1) j (by omega) (by omega) h3
         exact ⟨k,k1,(aJ ht).trans k2⟩
       · rw[zn hc] at ht
         obtain ⟨k,k1,k2⟩:=ih i ((i+j)/2) (by omega) (by omega) (by omega)
         exact ⟨k,k1,(aJ ht).trans k2⟩
     · have:i=j:=by omega
       subst this
       exact ⟨i,h3,aD (hend i)⟩
 exact key n 0 n (by omega) (by omega) (Nat.le_refl _)
theorem gY (d:Dot1):zdr d=some (bg d):=by
 unfold zdr bg
 simp only[ae]
 by_cases h1:d.1≥0<;>by_cases h2:d.1<16<;>by_cases h3:d.2.1≥1<;>by_cases h4:d.2.1≤1048576<;>simp[h1,h2,h3,h4]<;>omega
theorem gT {d:Dot1} (h:bg d=true):∃ k:Nat,k<16∧d.1=(k:Int)∧inI 16 d.1=some k:=by
 unfold bg at h
 simp only[decide_eq_true_eq] at h
 refine ⟨d.1.toNat,by omega,by omega,?_⟩
 unfold inI
 rw[zp (by omega)]
theorem ae7 {v:List Int}{d:Dot1} (hv:v.length=16):∃ b,zd2 v d=some b:=by
 unfold zd2
 rw[gY]
 simp only[zb]
 cases h:bg d with
 | false=>exact ⟨_,rfl⟩
 | true =>
   obtain ⟨k,h1,h2,h3⟩:=gT h
   rw[cond_true,h3]
   simp only[zb]
   rw[zg (by omega)]
   exact ⟨_,rfl⟩
theorem mM {l:List Dot1}{d:Dot1} (hl:l.length<1000000) :
   ∃ k:Nat,k≤l.length∧∃ b,zad l d ()=some ((k:Int),b,())∧(b=true→∃ x∈l,x=d):=by
 obtain ⟨k,h1,h2⟩:=ans (f:=wD l d) (fun m=>match l[m]? with | some x=>decide (cmpD x d<0) | none=>false) l.length (fun i j hij hj=>by
   have hh:(i+j)/2<l.length:=by omega
   unfold wD
   simp only[ae]
   rw[zp (by omega),show (i:Int)+(j:Int)=((i+j:Nat):Int) by omega,sC (by omega)]
   simp only[zb]
   rw[wrap64 (n:=(((i+j)/2:Nat):Int)) (by omega) (by omega),aP hh]
   simp only[zb,mN,zg hh,decide_eq_true_eq]
   rw[wrap64 (by omega) (by omega)]
   by_cases hc:cmpD l[(i+j)/2] d<0
   · rw[zp hc,zp hc]; rfl
   · rw[zn hc,zn hc]) (fun i=>by
   unfold wD
   simp only[ae]
   rw[zn (by omega)])
 refine ⟨k,h1,?_⟩
 unfold zad
 rw[h2,ay]
 simp only[ae]
 by_cases hk:k<l.length
 · rw[zp (by omega),aP hk]
   simp only[zb,mN]
   exact ⟨_,rfl,fun h=>⟨_,zm hk,(d5.zero _ _).1 (of_decide_eq_true h)⟩⟩
 · rw[zn (by omega)]
   exact ⟨_,rfl,fun h=>by cases h⟩
theorem sQ {s:nJ}{d:Dot1} (hv:s.1.length=16) (hm:s.2.1.length<1000000):∃ b,zdu s d=some b:=by
 obtain ⟨b,hb⟩:=ae7 (d:=d) hv
 obtain ⟨k,_,c,hc,_⟩:=mM (d:=d) hm
 unfold zdu
 rw[hb,hc]
 simp only[zb]
 cases b<;>exact ⟨_,rfl⟩
structure DOk (s:nJ) (n:Nat):Prop where
 vec:s.1.length=16
 len:s.2.1.length≤n
 right:∀ d∈s.2.1,bg d=true
theorem avV {v:List Int}{l:List Dot1} (hv:v.length=16) (hl:l.length<1000000) (hr:∀ d∈l,bg d=true):∃ s,zdk v l=some s∧DOk s l.length:=by
 unfold zdk
 refine cd (S:=List Int×List Dot1) (f:=vJ l) l.length (fun i s=>((i:Int),([0,0,0,0,0,0,0,0,0,0,0,0,0,0,0,0],(),()),(s.1,(),()),s.2,())) (fun i s=>s.1.length=16∧s.2.length≤i∧∀ d∈s.2,bg d=true) (fun s=>DOk s l.length) (fun i s hi hs => ?_) (fun s hs => ?_) (v,[]) ⟨hv,by simp,fun d hd=>by cases hd⟩
 · obtain ⟨w,m⟩:=s
   obtain ⟨s1,s2,s3⟩:=hs
   have hx:=hr _ (zm hi)
   obtain ⟨k,k1,k2,k3⟩:=gT hx
   have k4:k<w.length:=by simp only at s1; omega
   have push:(∀ d∈m++[l[i]],bg d=true):=fun d hd=>by
     rcases List.mem_append.1 hd with h | h
     · exact s3 d h
     · rw[List.mem_singleton.1 h]; exact hx
   simp only at s1 s2 s3
   have room:bT (m.length+[l[i]].length)=some ():=aW (by simp; omega)
   refine .inl ?_
   unfold vJ
   simp only[ae]
   rw[zp (by omega),aP hi]
   simp only[zb,k3]
   rw[zg k4]
   simp only[zb]
   rw[wrap64 (n:=(i:Int)+1) (by omega) (by omega)]
   by_cases c1:l[i].2.1≤w[k]
   · rw[zp c1]; exact ⟨(w,m),rfl,s1,by simp only; omega,s3⟩
   rw[zn c1]
   by_cases c2:l[i].2.1=IntKind.wrap .i64 (w[k]+1)
   · rw[zp c2]; exact ⟨(w.set k l[i].2.1,m),rfl,by simp only[List.length_set]; exact s1,by simp only; omega,s3⟩
   rw[zn c2]
   by_cases c3:(m.length:Int)=0
   · rw[zp c3,room]; exact ⟨(w,m++[l[i]]),rfl,s1,by simp; omega,push⟩
   rw[zn c3,wrap64 (by omega) (by omega),show (m.length:Int)-1=((m.length-1:Nat):Int) by omega,ck (by omega)]
   simp only[zb]
   rw[zg (by omega)]
   simp only[zb,kc,bm]
   by_cases c4:m[m.length-1]'(by omega)=l[i]
   · rw[zp c4]; exact ⟨(w,m),rfl,s1,by simp only; omega,s3⟩
   · rw[zn c4,room]; exact ⟨(w,m++[l[i]]),rfl,s1,by simp; omega,push⟩
 · unfold vJ
   simp only[ae]
   rw[zn (by omega)]
   exact ⟨_,rfl,hs.1,hs.2.1,hs.2.2⟩
theorem adJ {s:nJ}{d:Dot1}{n:Nat} (hs:DOk s n) (hn:n<100000):∃ t,zdv s d=some t∧DOk t (n+1):=by
 unfold zdv
 rw[gY]
 simp only[zb]
 have up:DOk s (n+1):=⟨hs.vec,Nat.le_trans hs.len (by omega),hs.right⟩
 cases h:bg d with
 | false=>exact ⟨s,rfl,up⟩
 | true =>
   have hl:=hs.len
   obtain ⟨b,hb⟩:=sQ (d:=d) hs.vec (by omega)
   rw[Bool.not_true,cond_false,hb]
   simp only[zb]
   cases b with
   | true=>exact ⟨s,rfl,up⟩
   | false =>
     obtain ⟨k,k1,c,hc,_⟩:=mM (l:=s.2.1) (d:=d) (by omega)
     rw[cond_false,hc]
     simp only[zb]
     have e1:zav s.2.1=some s.2.1:=by
       unfold zav fJ
       rw[zp (by simp only[most]; omega)]
     have e2:zap (k:Int) [d] s.2.1=some (s.2.1.take k++[d]++s.2.1.drop k,()):=by
       unfold zap zat insT
       rw[zp ⟨by omega,by omega,by simp,by simp only[most,List.length_singleton]; omega⟩]
       simp
     rw[e1]
     simp only[zb]
     rw[e2]
     simp only[zb]
     have hlen:(s.2.1.take k++[d]++s.2.1.drop k).length=s.2.1.length+1:=by simp; omega
     obtain ⟨t,t1,t2⟩:=avV (v:=s.1) (l:=s.2.1.take k++[d]++s.2.1.drop k) hs.vec (by omega) (fun x hx=>by
       rcases List.mem_append.1 hx with hx | hx
       · rcases List.mem_append.1 hx with hx | hx
         · exact hs.right x (List.mem_of_mem_take hx)
         · rw[List.mem_singleton.1 hx]; exact h
       · exact hs.right x (List.mem_of_mem_drop hx))
     rw[t1]
     exact ⟨t,rfl,t2.vec,by have:=t2.len; omega,t2.right⟩
theorem xy {s:nJ}{n:Nat} (hs:DOk s n) (hn:n<100000):∃ t,zbs s=some t∧DOk t n:=by
 have hl:=hs.len
 unfold zbs
 refine cd (S:=List Int×List Dot1) (f:=wh s) s.2.1.length (fun i t=>((i:Int),([0,0,0,0,0,0,0,0,0,0,0,0,0,0,0,0],(),()),(t.1,(),()),t.2,())) (fun i t=>t.1.length=16∧t.2.length≤i∧∀ d∈t.2,bg d=true) (fun t=>DOk t n) (fun i t hi ht => ?_) (fun t ht => ?_) (s.1,[]) ⟨hs.vec,by simp,fun d hd=>by cases hd⟩
 · obtain ⟨w,m⟩:=t
   obtain ⟨s1,s2,s3⟩:=ht
   have hx:=hs.right _ (zm hi)
   obtain ⟨k,k1,k2,k3⟩:=gT hx
   have k4:k<w.length:=by simp only at s1; omega
   have push:(∀ d∈m++[s.2.1[i]],bg d=true):=fun d hd=>by
     rcases List.mem_append.1 hd with h | h
     · exact s3 d h
     · rw[List.mem_singleton.1 h]; exact hx
   simp only at s1 s2 s3
   have room:bT (m.length+[s.2.1[i]].length)=some ():=aW (by simp; omega)
   refine .inl ?_
   unfold wh
   simp only[ae]
   rw[zp (by omega),aP hi]
   simp only[zb,k3]
   rw[zg k4]
   simp only[zb]
   rw[wrap64 (n:=(i:Int)+1) (by omega) (by omega)]
   by_cases c2:s.2.1[i].2.1=IntKind.wrap .i64 (w[k]+1)
   · rw[zp c2]; exact ⟨(w.set k s.2.1[i].2.1,m),rfl,by simp only[List.length_set]; exact s1,by simp only; omega,s3⟩
   rw[zn c2]
   by_cases c3:s.2.1[i].2.1>w[k]
   · rw[zp c3,room]; exact ⟨(w,m++[s.2.1[i]]),rfl,s1,by simp; omega,push⟩
   · rw[zn c3]; exact ⟨(w,m),rfl,s1,by simp only; omega,s3⟩
 · unfold wh
   simp only[ae]
   rw[zn (by omega)]
   exact ⟨_,rfl,ht.1,by have:=ht.2.1; simp only; omega,ht.2.2⟩
theorem am8 {v:List Int}{d:Dot1} (hv:v.length=16):∃ b,zdo v d=some b:=by
 unfold zdo
 rw[dH]
 simp only[zb]
 cases h:bg d with
 | false=>exact ⟨_,rfl⟩
 | true =>
   obtain ⟨k,h1,h2,h3⟩:=gT h
   rw[cond_true,h3]
   simp only[zb]
   rw[zg (by omega)]
   exact ⟨_,rfl⟩
theorem am7 {s:nJ}{d:Dot1} (hv:s.1.length=16) (hm:s.2.1.length<1000000):∃ b,zdi s d=some b:=by
 obtain ⟨b,hb⟩:=am8 (d:=d) hv
 unfold zdi
 rw[hb]
 simp only[zb]
 cases b with
 | true=>exact ⟨_,rfl⟩
 | false =>
   obtain ⟨r,hr,_⟩:=cd (S:=Unit) (f:=vL s d) s.2.1.length (fun i _=>((i:Int),())) (fun _ _=>True) (fun _=>True) (fun i _ hi _=>by
     unfold vL
     simp only[ae,kc]
     rw[zp (by omega),aP hi]
     simp only[zb]
     rw[wrap64 (by omega) (by omega)]
     by_cases c:s.2.1[i]=d
     · rw[zp c]; exact .inr ⟨_,rfl,trivial⟩
     · rw[zn c]; exact .inl ⟨(),rfl,trivial⟩) (fun _ _=>by
     unfold vL
     simp only[ae]
     rw[zn (by omega)]
     exact ⟨_,rfl,trivial⟩) () trivial
   exact ⟨r,hr⟩
theorem amG {s:nJ}{d:Dot1}{n:Nat} (hs:DOk s n) (hn:n<10000):∃ t,zde s d=some t∧DOk t (n+1):=by
 have hl:=hs.len
 have up:DOk s (n+1):=⟨hs.vec,by omega,hs.right⟩
 unfold zde
 rw[dH]
 simp only[zb]
 cases h:bg d with
 | false=>exact ⟨s,rfl,up⟩
 | true =>
   obtain ⟨b,hb⟩:=am7 (d:=d) hs.vec (show s.2.1.length<1000000 by omega)
   rw[Bool.not_true,cond_false,hb]
   simp only[zb]
   cases b with
   | true=>exact ⟨s,rfl,up⟩
   | false =>
     rw[cond_false]
     obtain ⟨r,h1,laid,l,rfl,h2,h3⟩:=cd (S:=Bool×List Dot1) (f:=vN s d) s.2.1.length (fun i t=>(t.1,(i:Int),([0,0,0,0,0,0,0,0,0,0,0,0,0,0,0,0],(),()),t.2,())) (fun i t=>(t.2.length=i+(if t.1=true then 1 else 0))∧∀ x∈t.2,bg x=true) (fun r=>∃ laid l,r = .inl (laid,([0,0,0,0,0,0,0,0,0,0,0,0,0,0,0,0],(),()),l,())∧(l.length=s.2.1.length+(if laid=true then 1 else 0))∧∀ x∈l,bg x=true) (fun i t hi ht=>by
       obtain ⟨laid,l⟩:=t
       obtain ⟨t1,t2⟩:=ht
       have hx:=hs.right _ (zm hi)
       simp only at t1 t2
       have bl:l.length≤i+1:=by cases laid<;>simp at t1<;>omega
       have room:∀ (m:List Dot1) (x:Dot1),m.length≤i+5→bT (m.length+[x].length)=some ():=fun m x hm=>aW (by simp; omega)
       refine .inl ?_
       unfold vN
       simp only[ae]
       rw[zp (by omega),aP hi,wrap64 (n:=(i:Int)+1) (by omega) (by omega)]
       simp only[zb,iX]
       cases laid with
       | true =>
         rw[Bool.not_true,cond_false,ay]
         simp only
         rw[room l _ (by omega)]
         refine ⟨(true,l++[s.2.1[i]]),rfl,by simp at t1 ⊢; omega,fun x hx2 => ?_⟩
         rcases List.mem_append.1 hx2 with q | q
         · exact t2 x q
         · rw[List.mem_singleton.1 q]; exact hx
       | false =>
         rw[Bool.not_false,cond_true]
         by_cases c:cmpD d s.2.1[i]<0
         · rw[zp c,room l _ (by omega)]
           simp only[zb]
           rw[mC]
           simp only
           rw[room (l++[d]) _ (by simp; omega)]
           refine ⟨(true,l++[d]++[s.2.1[i]]),rfl,by simp at t1 ⊢; omega,fun x hx2 => ?_⟩
           rcases List.mem_append.1 hx2 with q | q
           · rcases List.mem_append.1 q with q | q
             · exact t2 x q
             · rw[List.mem_singleton.1 q]; exact h
           · rw[List.mem_singleton.1 q]; exact hx
         · rw[zn c,ay]
           simp only
           rw[room l _ (by omega)]
           refine ⟨(false,l++[s.2.1[i]]),rfl,by simp at t1 ⊢; omega,fun x hx2 => ?_⟩
           rcases List.mem_append.1 hx2 with q | q
           · exact t2 x q
           · rw[List.mem_singleton.1 q]; exact hx) (fun t ht=>by
       unfold vN
       simp only[ae]
       rw[zn (by omega)]
       exact ⟨_,rfl,_,_,rfl,ht.1,ht.2⟩) (false,[]) ⟨rfl,fun x hx=>by cases hx⟩
     rw[show ((false,(0:Int),(([0,0,0,0,0,0,0,0,0,0,0,0,0,0,0,0]:List Int),(),()),([]:List Dot1),()):Bool×Int×(List Int×Unit×Unit)×List Dot1×Unit)=(false,((0:Nat):Int),([0,0,0,0,0,0,0,0,0,0,0,0,0,0,0,0],(),()),[],()) from rfl,h1,ay]
     cases laid with
     | true =>
       simp only[Bool.not_true,cond_false]
       rw[ay]
       simp at h2
       obtain ⟨t,t1,t2⟩:=xy (s:=(s.1,l,())) (n:=n+1) ⟨hs.vec,by simp only; omega,h3⟩ (by omega)
       simp only
       rw[t1]; exact ⟨t,rfl,t2⟩
     | false =>
       simp only[Bool.not_false,cond_true]
       simp at h2
       rw[aW (by simp; omega)]
       simp only[zb]
       rw[mC]
       obtain ⟨t,t1,t2⟩:=xy (s:=(s.1,l++[d],())) (n:=n+1) ⟨hs.vec,by simp; omega,fun x hx=>by
         rcases List.mem_append.1 hx with q | q
         · exact h3 x q
         · rw[List.mem_singleton.1 q]; exact h⟩ (by omega)
       simp only
       rw[t1]; exact ⟨t,rfl,t2⟩
structure Wide (s:St1):Prop where
 known:s.2.2.1.1.length=16
 fast:s.2.2.2.1.1.length=16
 redo:s.2.2.2.2.1.length=8
structure ShortS (s:St1):Prop where
 txns:s.1.length≤20
 undos:s.2.1.length≤100
 known:s.2.2.1.2.1.length≤100
 fast:s.2.2.2.1.2.1.length≤100
 all:∀ t∈s.1,ig t=true
 redo:∀ l∈s.2.2.2.2.1,l.length≤40
theorem fE {A R X:Type}{f:A→Option (A⊕R)}{l:List X} (enc:Nat→A) (P:X→Prop) (yes no:R)
   (hturn:∀ (i:Nat) (h:i<l.length),(f (enc i)=some (.inl (enc (i+1)))∧P l[i])∨f (enc i)=some (.inr no)) (hend:f (enc l.length)=some (.inr yes)) :
   (aK f (enc 0)=some yes∧∀ x∈l,P x)∨aK f (enc 0)=some no:=by
 obtain ⟨r,h1,h2⟩:=cd (S:=Unit) (f:=f) l.length (fun i _=>enc i) (fun i _=>∀ k (h:k<l.length),k<i→P l[k]) (fun r=>(r=yes∧∀ x∈l,P x)∨r=no) (fun i _ hi hv=>by
   rcases hturn i hi with ⟨h1,h2⟩ | h1
   · exact .inl ⟨(), h1, fun k hk hki => by
       by_cases e:k=i
       · subst e; exact h2
       · exact hv k hk (by omega)⟩
   · exact .inr ⟨no,h1,.inr rfl⟩) (fun _ hv=>⟨yes,hend,.inl ⟨rfl,fun x hx=>by
   obtain ⟨k,hk,rfl⟩:=List.mem_iff_getElem.1 hx
   exact hv k hk hk⟩⟩) () (fun k hk hki=>by omega)
 rcases h2 with ⟨rfl,h2⟩ | rfl
 · exact .inl ⟨h1,h2⟩
 · exact .inr h1
theorem acg {s:St1} (hw:Wide s):∃ b,zb3 s=some b∧(b=true→ShortS s):=by
 have l1:s.1.length≤20→((aK (nO) (((0:Nat):Int),s,())=some (.inl (s,()))∧∀ t∈s.1,ig t=true)∨aK (nO) (((0:Nat):Int),s,())=some (.inr false)):=fun hl=>by
   refine fE (f:=nO) (l:=s.1) (fun i=>((i:Int),s,())) (fun t=>ig t=true) (.inl (s,())) (.inr false) (fun i h => ?_) ?_
   · unfold nO
     simp only[ae]
     rw[zp (by omega),aP h]
     simp only[zb,yr]
     cases hs:ig s.1[i] with
     | false=>exact .inr rfl
     | true =>
       refine .inl ⟨?_,by trivial⟩
       rw[Bool.not_true,cond_false,wrap64 (by omega) (by omega)]; rfl
   · unfold nO
     simp only[ae]
     rw[zn (by omega)]
 have l2:(aK (nN) (((0:Nat):Int),s,())=some true∧∀ l∈s.2.2.2.2.1,l.length≤40)∨aK (nN) (((0:Nat):Int),s,())=some false:=by
   have hr:=hw.redo
   refine fE (f:=nN) (l:=s.2.2.2.2.1) (fun i=>((i:Int),s,())) (fun l=>l.length≤40) true false (fun i h => ?_) ?_
   · unfold nN
     simp only[ae]
     rw[zp (by omega),ck (by omega)]
     simp only[zb]
     rw[zg h]
     simp only[zb]
     by_cases c:((s.2.2.2.2.1[i].length:Int)>40)
     · rw[zp c]; exact .inr rfl
     · rw[zn c,wrap64 (by omega) (by omega)]; exact .inl ⟨rfl,by omega⟩
   · unfold nN
     simp only[ae]
     rw[zn (by omega)]
 unfold zb3
 simp only[ae]
 by_cases c1:(s.1.length:Int)>20
 · rw[zp c1]; exact ⟨false,rfl,fun h=>by cases h⟩
 rw[zn c1]
 simp only[zb,ae]
 by_cases c2:(s.2.1.length:Int)>100
 · rw[zp c2]; exact ⟨false,rfl,fun h=>by cases h⟩
 rw[zn c2]
 by_cases c3:(s.2.2.1.2.1.length:Int)>100
 · rw[zp c3]; exact ⟨false,rfl,fun h=>by cases h⟩
 rw[zn c3]
 by_cases c4:(s.2.2.2.1.2.1.length:Int)>100
 · rw[zp c4]; exact ⟨false,rfl,fun h=>by cases h⟩
 rw[zn c4]
 rcases l1 (by omega) with ⟨h1,h2⟩ | h1
 · rw[show ((0:Int),s,())=(((0:Nat):Int),s,()) from rfl,h1,ay]
   simp only
   rcases l2 with ⟨h3,h4⟩ | h3
   · rw[show ((0:Int),s,())=(((0:Nat):Int),s,()) from rfl,h3]
     exact ⟨true,rfl,fun _=>⟨by omega,by omega,by omega,by omega,h2,h4⟩⟩
   · rw[show ((0:Int),s,())=(((0:Nat):Int),s,()) from rfl,h3]
     exact ⟨false,rfl,fun h=>by cases h⟩
 · rw[show ((0:Int),s,())=(((0:Nat):Int),s,()) from rfl,h1]
   exact ⟨false,rfl,fun h=>by cases h⟩
theorem acr {v:List Int} (hv:v.length=16):∃ b,zch v=some b:=by
 unfold zch
 obtain ⟨r,h,_⟩:=cd (S:=Unit) (f:=vY) 16 (fun i _=>((i:Int),v,())) (fun _ _=>True) (fun _=>True) (fun i _ hi _=>by
   unfold vY
   simp only[ae]
   rw[zp (by omega),ck (by omega)]
   simp only[zb]
   rw[zg (by omega),wrap64 (by omega) (by omega)]
   simp only[zb]
   by_cases c1:v[i]<0
   · rw[zp c1]; exact .inr ⟨_,rfl,trivial⟩
   rw[zn c1]
   by_cases c2:v[i]>1048576
   · rw[zp c2]; exact .inr ⟨_,rfl,trivial⟩
   · rw[zn c2]; exact .inl ⟨(),rfl,trivial⟩) (fun _ _=>by
   unfold vY
   simp only[ae]
   rw[zn (by omega)]
   exact ⟨_,rfl,trivial⟩) () trivial
 exact ⟨r,h⟩
theorem rO {s:nJ} (hv:s.1.length=16) (hm:s.2.1.length≤100):∃ b,zcm s=some b∧(b=true→DOk s 100):=by
 obtain ⟨b,hb⟩:=acr hv
 unfold zcm
 rw[hb]
 simp only[zb]
 cases b with
 | false=>exact ⟨false,rfl,fun h=>by cases h⟩
 | true =>
   simp only[Bool.not_true,cond_false,ae]
   rw[zn (by omega)]
   have:=fE (f:=vW) (l:=s.2.1) (fun i=>((i:Int),s,())) (fun d=>bg d=true) true false (fun i h=>by
     unfold vW
     simp only[ae]
     rw[zp (by omega),aP h]
     simp only[zb,dH]
     cases hs:bg s.2.1[i] with
     | false=>exact .inr rfl
     | true =>
       obtain ⟨k,k1,k2,k3⟩:=gT hs
       simp only[Bool.not_true,cond_false]
       rw[k3]
       simp only[zb]
       rw[zg (by omega),wrap64 (n:=(i:Int)+1) (by omega) (by omega)]
       simp only[zb]
       by_cases c1:IntKind.wrap .i64 (s.2.1[i].2.1-1)≤s.1[k]'(by omega)
       · rw[zp c1]; exact .inr rfl
       rw[zn c1]
       by_cases c2:(i:Int)>0
       · rw[zp c2,wrap64 (by omega) (by omega),show (i:Int)-1=((i-1:Nat):Int) by omega,aP (by omega)]
         simp only[zb,iX,bm]
         by_cases c3:cmpD (s.2.1[i-1]'(by omega)) s.2.1[i] = -1
         · rw[zp c3]; exact .inl ⟨rfl,by trivial⟩
         · rw[zn c3]; exact .inr rfl
       · rw[zn c2]; exact .inl ⟨rfl,by trivial⟩) (by
     unfold vW
     simp only[ae]
     rw[zn (by omega)])
   rcases this with ⟨h1,h2⟩ | h1
   · exact ⟨true,h1,fun _=>⟨hv,hm,h2⟩⟩
   · exact ⟨false,h1,fun h=>by cases h⟩
theorem amV {l:List Txn1} (hl:l.length≤1000):∃ s,zcf l=some s:=by
 unfold zcf
 obtain ⟨r,h,_⟩:=cd (S:=nJ) (f:=wa l) l.length (fun i s=>((i:Int),([0,0,0,0,0,0,0,0,0,0,0,0,0,0,0,0],(),()),s,())) (fun i s=>DOk s i) (fun _=>True) (fun i s hi hs=>by
   obtain ⟨t,t1,t2⟩:=amG (d:=l[i].1) hs (by omega)
   unfold wa
   simp only[ae]
   rw[zp (by omega),aP hi]
   simp only[zb]
   rw[t1,wrap64 (by omega) (by omega)]
   exact .inl ⟨t,rfl,t2⟩) (fun s _=>by
   unfold wa
   simp only[ae]
   rw[zn (by omega)]
   exact ⟨_,rfl,trivial⟩) ([0,0,0,0,0,0,0,0,0,0,0,0,0,0,0,0],[],()) ⟨rfl,by simp,fun d hd=>by cases hd⟩
 exact ⟨r,h⟩
theorem afg {a b:List Dot1} (ha:a.length<1000000):∃ c,zcu a b=some c:=by
 unfold zcu
 simp only[bm]
 by_cases h:(a.length:Int)=b.length
 · rw[zp h]
   obtain ⟨r,h,_⟩:=cd (S:=Unit) (f:=vT a b) a.length (fun i _=>((i:Int),())) (fun _ _=>True) (fun _=>True) (fun i _ hi _=>by
     unfold vT
     simp only[ae]
     rw[zp (by omega),aP hi,aP (by omega),wrap64 (by omega) (by omega)]
     simp only[zb,kc,bm]
     by_cases c:a[i]=b[i]'(by omega)
     · rw[zp c]; exact .inl ⟨(),rfl,trivial⟩
     · rw[zn c]; exact .inr ⟨_,rfl,trivial⟩) (fun _ _=>by
     unfold vT
     simp only[ae]
     rw[zn (by omega)]
     exact ⟨_,rfl,trivial⟩) () trivial
   exact ⟨r,h⟩
 · rw[zn h]; exact ⟨_,rfl⟩
structure GoodS (s:St1):Prop where
 txns:TxnsOk s.1 20
 undos:CountsOk s.2.1
 known:DOk s.2.2.1 100
 fast:DOk s.2.2.2.1 100
 rlen:s.2.2.2.2.1.length=8
 redo:∀ l∈s.2.2.2.2.1,l.length≤40
theorem acq {s:St1} (hw:Wide s) (hs:ShortS s):∃ b,zb2 s=some b∧(b=true→GoodS s):=by
 have n1:=hs.txns; have n2:=hs.undos; have n3:=hs.known; have n4:=hs.fast; have hr:=hw.redo
 have no:∀ {Q:Prop},∃ b,some false=some b∧(b=true→Q):=fun {Q}=>⟨false,rfl,fun h=>by cases h⟩
 unfold zb2
 simp only[ae]
 rw[zn (by omega),aco (by omega)]
 simp only[zb]
 by_cases r1:∀ i,i<s.1.length-1→ot (·.1) s.1 i=true
 rotate_left
 · rw[zn r1]; exact no
 rw[zp r1,Bool.not_true,cond_false,afm (by omega)]
 simp only[zb]
 by_cases r2:∀ i,i<s.2.1.length→iI s.2.1 i=true
 rotate_left
 · rw[zn r2]; exact no
 rw[zp r2,Bool.not_true,cond_false]
 obtain ⟨b3,r3,k3⟩:=rO hw.fast n4
 rw[r3]
 simp only[zb]
 cases b3 with
 | false=>exact no
 | true =>
 rw[Bool.not_true,cond_false]
 have l1:=fE (f:=ww) (l:=s.1) (fun i=>((i:Int),s,())) (fun t=>txnM t=0) (.inl (s,())) (.inr false) (fun i h=>by
   unfold ww
   simp only[ae]
   rw[zp (by omega),aP h]
   simp only[zb]
   rw[yp (hs.all _ (zm h)),wrap64 (by omega) (by omega)]
   simp only[zb,bm]
   by_cases c:txnM s.1[i]=0
   · rw[zp c]; exact .inl ⟨rfl,c⟩
   · rw[zn c]; exact .inr rfl) (by
   unfold ww
   simp only[ae]
   rw[zn (by omega)])
 rcases l1 with ⟨h1,h2⟩ | h1
 rotate_left
 · rw[show ((0:Int),s,())=(((0:Nat):Int),s,()) from rfl,h1]; exact no
 rw[show ((0:Int),s,())=(((0:Nat):Int),s,()) from rfl,h1,ay]
 simp only
 have l2:(aK nP (((0:Nat):Int),s,())=some (.inl (s,()))∧∀ l∈s.2.2.2.2.1,True)∨aK nP (((0:Nat):Int),s,())=some (.inr false):=by
   refine fE (f:=nP) (l:=s.2.2.2.2.1) (fun i=>((i:Int),s,())) (fun _=>True) (.inl (s,())) (.inr false) (fun i h => ?_) ?_
   · have hl:=hs.redo _ (zm h)
     have inner:=fE (f:=pr ((i:Int),s,())) (l:=s.2.2.2.2.1[i]) (fun k=>((k:Int),s,())) (fun _=>True) (.inl ((((i+1:Nat):Int),s,()))) (.inr (.inr false)) (fun k hk=>by
       unfold pr
       simp only
       rw[ck (show i<8 by omega)]
       simp only[zb]
       rw[zg h]
       simp only[zb,ae]
       rw[zp (by omega),aP hk,wrap64 (n:=(k:Int)+1) (by omega) (by omega)]
       simp only[zb,dH]
       cases bg s.2.2.2.2.1[i][k] with
       | false=>exact .inr rfl
       | true=>exact .inl ⟨rfl,trivial⟩) (by
       unfold pr
       simp only
       rw[ck (show i<8 by omega)]
       simp only[zb]
       rw[zg h]
       simp only[zb,ae]
       rw[zn (by omega),wrap64 (n:=(i:Int)+1) (by omega) (by omega)]; rfl)
     unfold nP
     simp only[ae]
     rw[zp (by omega),ck (by omega)]
     simp only[zb]
     rw[zg h]
     simp only[zb]
     rw[zn (by omega)]
     rcases inner with ⟨q,_⟩ | q
     · exact .inl ⟨q,trivial⟩
     · exact .inr q
   · unfold nP
     simp only[ae]
     rw[zn (by omega)]
 rcases l2 with ⟨h3,_⟩ | h3
 rotate_left
 · rw[show ((0:Int),s,())=(((0:Nat):Int),s,()) from rfl,h3]; exact no
 rw[show ((0:Int),s,())=(((0:Nat):Int),s,()) from rfl,h3,ay]
 simp only
 obtain ⟨b5,r5,k5⟩:=rO hw.known n3
 rw[r5]
 simp only[zb]
 cases b5 with
 | false=>exact no
 | true =>
 rw[cond_true]
 obtain ⟨kn,hk⟩:=amV (l:=s.1) (by omega)
 rw[hk]
 simp only[zb]
 have fin:GoodS s:=⟨⟨n1,yE r1,fun t ht=>avG (hs.all t ht) (h2 t ht)⟩,counts_of n2 r2,k5 rfl,k3 rfl,hr,hs.redo⟩
 unfold zc0
 cases eqV (.arr 16 (.int .i64)) s.2.2.1.1 kn.1 with
 | false=>exact ⟨false,rfl,fun _=>fin⟩
 | true =>
   obtain ⟨c,hc⟩:=afg (a:=s.2.2.1.2.1) (b:=kn.2.1) (by omega)
   rw[cond_true,hc]
   exact ⟨c,rfl,fun _=>fin⟩
theorem xn {s:St1} (hw:Wide s):∃ b,zcz s=some b∧(b=true→GoodS s):=by
 obtain ⟨b,h1,h2⟩:=acg hw
 unfold zcz
 rw[h1]
 simp only[zb]
 cases b with
 | false=>exact ⟨false,rfl,fun h=>by cases h⟩
 | true =>
   obtain ⟨c,h3,h4⟩:=acq hw (h2 rfl)
   rw[cond_true,h3]
   exact ⟨c,rfl,h4⟩
def iG:List Ref1→Ref1→List Ref1
 | [],x=>[x]
 | y::l,x=>if cmpD y.1 x.1<0 then y::iG l x else if 0<cmpD y.1 x.1 then x::y::l else (y.1,max y.2.1 x.2.1,())::l
theorem ss {x:Ref1}:∀ (l:List Ref1),(iG l x).length≤l.length+1
 | []=>by simp[iG]
 | y::l=>by
   have:=ss (x:=x) l
   unfold iG
   split
   · simp; omega
   · split<;>simp
theorem sr {x z:Ref1}:∀ {l:List Ref1},z∈iG l x→z.1=x.1∨∃ y∈l,z.1=y.1
 | [],h=>by
   rw[List.mem_singleton.1 h]; exact .inl rfl
 | y::l,h=>by
   unfold iG at h
   split at h
   · rcases List.mem_cons.1 h with e | h
     · exact .inr ⟨y,List.mem_cons_self ..,by rw[e]⟩
     · rcases sr h with e | ⟨w,w1,w2⟩
       · exact .inl e
       · exact .inr ⟨w,List.mem_cons_of_mem _ w1,w2⟩
   · split at h
     · rcases List.mem_cons.1 h with e | h
       · exact .inl (by rw[e])
       · exact .inr ⟨z,h,rfl⟩
     · rcases List.mem_cons.1 h with e | h
       · exact .inr ⟨y,List.mem_cons_self ..,by rw[e]⟩
       · exact .inr ⟨z,List.mem_cons_of_mem _ h,rfl⟩
theorem sq {x:Ref1} (hx:oneM x=true):∀ {l:List Ref1},(∀ y∈l,oneM y=true)→∀ z∈iG l x,oneM z=true
 | [],_,z,h=>by rw[List.mem_singleton.1 h]; exact hx
 | y::l,hl,z,h=>by
   unfold iG at h
   split at h
   · rcases List.mem_cons.1 h with e | h
     · rw[e]; exact hl y (List.mem_cons_self ..)
     · exact sq hx (fun w hw=>hl w (List.mem_cons_of_mem _ hw)) z h
   · split at h
     · rcases List.mem_cons.1 h with e | h
       · rw[e]; exact hx
       · exact hl z h
     · rcases List.mem_cons.1 h with e | h
       · have hy:=hl y (List.mem_cons_self ..)
         rw[e]
         unfold oneM at hx hy ⊢
         simp only[Bool.and_eq_true,decide_eq_true_eq] at hx hy ⊢
         exact ⟨hy.1,by omega,by omega⟩
       · exact hl z (List.mem_cons_of_mem _ h)
theorem oH {x:Ref1}:∀ {l:List Ref1},pP l→pP (iG l x)
 | [],_=>List.pairwise_singleton ..
 | y::l,h=>by
   have h1:=List.pairwise_cons.1 h
   unfold iG
   split
   · rename_i c
     refine List.pairwise_cons.2 ⟨fun z hz => ?_,oH h1.2⟩
     show cmpD y.1 z.1<0
     rcases sr hz with e | ⟨w,w1,w2⟩
     · rw[e]; exact c
     · rw[w2]; exact h1.1 w w1
   · rename_i c
     split
     · rename_i d
       have d':cmpD x.1 y.1<0:=by have:=d5.neg x.1 y.1; omega
       refine List.pairwise_cons.2 ⟨fun z hz => ?_,h⟩
       rcases List.mem_cons.1 hz with e | hz
       · rw[e]; exact d'
       · exact d5.trans _ _ _ d' (h1.1 z hz)
     · exact List.pairwise_cons.2 ⟨h1.1,h1.2⟩
theorem mD:∀ (a out:List Ref1),a.length+out.length<1000000→aK ge (a,[],out,())=some (out++a)
 | [],out,_=>by
   refine (aD ?_).trans (by rw[List.append_nil])
   unfold ge
   simp
 | y::a,out,h=>by
   have turn:ge (y::a,[],out,())=some (.inl (a,[],out++[y],())):=by
     unfold ge
     simp only[ae,zl,List.length_nil]
     rw[zp (by omega),ay,zn (by omega),zn (by omega),ay]
     simp only
     rw[zp (by omega),show atI (y::a) 0=some y from rfl]
     simp only[zb]
     rw[aW (by simp at h ⊢; omega)]
     simp only[zb]
     rw[show ((a.length+1:Nat):Int)=((y::a).length:Int) from rfl,show (1:Int)=((1:Nat):Int) from rfl,ex (by simp)]
     rfl
   rw[aJ turn,mD a (out++[y]) (by simp at h ⊢; omega),List.append_assoc]; rfl
theorem oI:∀ (a out:List Ref1),a.length+out.length<1000000→aK ge ([],a,out,())=some (out++a)
 | [],out,_=>by
   refine (aD ?_).trans (by rw[List.append_nil])
   unfold ge
   simp
 | y::a,out,h=>by
   have turn:ge ([],y::a,out,())=some (.inl ([],a,out++[y],())):=by
     unfold ge
     simp only[ae,zl,List.length_nil]
     rw[zn (by omega),zp (by omega),ay,zp (by omega),ay]
     simp only
     rw[zn (by omega),zp (by omega),show atI (y::a) 0=some y from rfl]
     simp only[zb]
     rw[aW (by simp at h ⊢; omega)]
     simp only[zb]
     rw[show ((a.length+1:Nat):Int)=((y::a).length:Int) from rfl,show (1:Int)=((1:Nat):Int) from rfl,ex (by simp)]
     rfl
   rw[aJ turn,oI a (out++[y]) (by simp at h ⊢; omega),List.append_assoc]; rfl
theorem so {x:Ref1}:∀ (a out:List Ref1),a.length+out.length<900000→aK ge (a,[x],out,())=some (out++iG a x)
 | [],out,h=>by rw[oI [x] out (by simp at h ⊢; omega)]; rfl
 | y::a,out,h=>by
   simp only[zl] at h
   have head:ge (y::a,[x],out,())=if cmpD y.1 x.1<0 then some (.inl (a,[x],out++[y],())) else if 0<cmpD y.1 x.1 then some (.inl (y::a,[],out++[x],())) else some (.inl (a,[],out++[(y.1,max y.2.1 x.2.1,())],())):=by
     unfold ge
     simp only[ae,zl,List.length_nil]
     rw[zp (by omega),ay,zn (by omega),zp (by omega),show atI (y::a) 0=some y from rfl,show atI [x] 0=some x from rfl]
     simp only[zb,pD]
     rw[mC]
     simp only
     rw[aW (show out.length+1<4294967296 by omega),show ((a.length+1:Nat):Int)=((y::a).length:Int) from rfl,show ((0+1:Nat):Int)=(([x]:List Ref1).length:Int) from rfl,show (1:Int)=((1:Nat):Int) from rfl,ex (l:=y::a) (i:=1) (by simp),ex (l:=[x]) (i:=1) (by simp)]
     rfl
   unfold iG
   by_cases c:cmpD y.1 x.1<0
   · rw[zp c] at head ⊢
     rw[aJ head,so a (out++[y]) (by simp; omega),List.append_assoc]; rfl
   · rw[zn c] at head ⊢
     by_cases c2:0<cmpD y.1 x.1
     · rw[zp c2] at head ⊢
       rw[aJ head,mD (y::a) (out++[x]) (by simp; omega),List.append_assoc]; rfl
     · rw[zn c2] at head ⊢
       rw[aJ head,mD a (out++[(y.1,max y.2.1 x.2.1,())]) (by simp; omega),List.append_assoc]; rfl
theorem amX {a:List Ref1}{x:Ref1} (h:a.length<800000):zc8 a [x]=some (iG a x):=by
 unfold zc8
 rw[so a [] (by simp; omega)]; rfl
structure UOk (u:List Ref1) (n:Nat):Prop where
 len:u.length≤n
 rise:pP u
 one:∀ x∈u,oneM x=true
theorem UOk.low {u:List Ref1}{n:Nat} (h:UOk u n) (hn:n<100000):LowU u:=⟨by have:=h.len; omega,h.rise⟩
theorem UOk.join {u:List Ref1}{n:Nat}{x:Ref1} (h:UOk u n) (hx:oneM x=true):UOk (iG u x) (n+1):=⟨by have:=ss (x:=x) u; have:=h.len; omega,oH h.rise,sq hx h.one⟩
theorem adt {d:Dot1}:∀ {u:List Ref1},(∀ x∈u,oneM x=true)→0≤getM u d∧getM u d≤64
 | [],_=>by unfold getM; omega
 | x::u,h=>by
   unfold getM
   by_cases e:x.1=d
   · rw[zp e]
     have:=h x (List.mem_cons_self ..)
     unfold oneM at this
     simp only[Bool.and_eq_true,decide_eq_true_eq] at this
     omega
   · rw[zn e]; exact adt fun y hy=>h y (List.mem_cons_of_mem _ hy)
theorem od {u:List Ref1}{d:Dot1}{n:Nat} (h:UOk u n) (hn:n<100000) :
   zcc u d=some (if bg d=false then (((0,0,()),0,()),2,()) else if getM u d≥64 then (((0,0,()),0,()),14,()) else ((d,getM u d+1,()),0,())):=by
 have hg:=adt (d:=d) h.one
 unfold zcc
 rw[nY (h.low hn).len h.rise,gY]
 simp only[zb,ae]
 rw[wrap64 (by omega) (by omega)]
 cases bg d with
 | false=>rfl
 | true =>
   by_cases c:getM u d≥64<;>simp[c]
structure StOk (s:St1) (n:Nat):Prop where
 txns:s.1.length≤1000
 undos:UOk s.2.1 n
 vec:s.2.2.2.1.1.length=16
 more:s.2.2.2.1.2.1.length≤100000
 rlen:s.2.2.2.2.1.length=8
theorem GoodS.st {s:St1} (h:GoodS s):StOk s 100:=⟨by have:=h.txns.len; omega,⟨h.undos.len,h.undos.rise,h.undos.one⟩,h.fast.vec,by have:=h.fast.len; omega,h.rlen⟩
theorem afb {s:St1}{n:Nat}{d:Dot1} (h:StOk s n) (hn:n<100000):∃ b,zdu s.2.2.2.1 d=some b∧zda s d=some (if b=true then 13 else if bg d=false then 2 else if getM s.2.1 d≥64 then 14 else 0):=by
 obtain ⟨b,hb⟩:=sQ (d:=d) h.vec (by have:=h.more; omega)
 refine ⟨b,hb,?_⟩
 unfold zda
 rw[hb,od h.undos hn]
 simp only[zb]
 cases b with
 | true=>rfl
 | false =>
   by_cases c1:bg d=false<;>by_cases c2:getM s.2.1 d≥64<;>simp[c1,c2]
def keyT (t:Txn1):Int×Dot1:=(t.2.2.1,t.1)
def ayx:Int×Dot1→Int×Dot1→Int:=cmpB cmpI cmpD
def cmpT (a b:Txn1):Int:=ayx (keyT a) (keyT b)
def Cand (s:St1) (user:Int) (t:Txn1):Prop:=t∈s.1∧t.2.1=user∧fQ s.2.1 t.1=true
structure Best (s:St1) (user:Int) (t:Txn1):Prop where
 cand:Cand s user t
 top:∀ x,Cand s user x→cmpT x t≤0
theorem afk {l:List Txn1} (h:np l) {a b:Txn1} (ha:a∈l) (hb:b∈l) (e:a.1=b.1):a=b:=by
 induction l with
 | nil=>cases ha
 | cons x l ih =>
   have h1:=List.pairwise_cons.1 h
   rcases List.mem_cons.1 ha with ea | ha<;>rcases List.mem_cons.1 hb with eb | hb
   · rw[ea,eb]
   · have q:cmpD x.1 b.1<0:=h1.1 b hb
     rw[← ea,e,(d5.zero _ _).2 rfl] at q; omega
   · have q:cmpD x.1 a.1<0:=h1.1 a ha
     rw[← eb,e,(d5.zero _ _).2 rfl] at q; omega
   · exact ih h1.2 ha hb
structure Undone (s u:St1) (t:Txn1) (k:Nat) (l:List Dot1):Prop where
 txns:u.1=s.1
 get:∀ d,getM u.2.1 d=if d=t.1 then getM s.2.1 t.1+1 else getM s.2.1 d
 st:StOk u 101
 fast:u.2.2.2.1=s.2.2.2.1
 redo:u.2.2.2.2.1[k]? = some (l++[t.1])
theorem anG {k:Nat} (h:k<16):([0,0,0,0,0,0,0,0,0,0,0,0,0,0,0,0]:List Int)[k]? = some 0:=by
 revert h; revert k; decide
theorem uh {d:Dot1} (h:bg d=true):zdu ([0,0,0,0,0,0,0,0,0,0,0,0,0,0,0,0],[],()) d=some false:=by
 obtain ⟨k,k1,k2,k3⟩:=gT h
 have hr:=h
 unfold bg at hr
 simp only[decide_eq_true_eq] at hr
 obtain ⟨m,_,b,hb,hb2⟩:=mM (l:=[]) (d:=d) (by simp)
 have:b=false:=by
   cases b with
   | false=>rfl
   | true=>obtain ⟨x,h1,_⟩:=hb2 rfl; cases h1
 subst this
 unfold zdu zd2
 rw[gY,h]
 simp only[zb,cond_true]
 rw[k3]
 simp only[zb]
 rw[anG k1]
 simp only[zb,ae]
 rw[zn (by omega),hb]
 rfl
theorem abT {s:St1} (h:okV (.agg (.cons (.sl (.agg (.cons (.agg (.cons (.int .i64) (.cons (.int .i64) .unit))) (.cons (.int .i64) (.cons (.int .i64) (.cons .bool (.cons (.sl (.agg (.cons (.int .i64) (.cons (.sl .str) (.cons (.agg (.cons (.int .i64) (.cons (.int .i64) (.cons .str .unit)))) (.cons (.int .i64) (.cons (.sl (.agg (.cons (.agg (.cons (.int .i64) (.cons (.int .i64) .unit))) (.cons (.int .i64) .unit)))) .unit))))))) .unit))))))) (.cons (.sl (.agg (.cons (.agg (.cons (.int .i64) (.cons (.int .i64) .unit))) (.cons (.int .i64) .unit)))) (.cons (.agg (.cons (.arr 16 (.int .i64)) (.cons (.sl (.agg (.cons (.int .i64) (.cons (.int .i64) .unit)))) .unit))) (.cons (.agg (.cons (.arr 16 (.int .i64)) (.cons (.sl (.agg (.cons (.int .i64) (.cons (.int .i64) .unit)))) .unit))) (.cons (.arr 8 (.sl (.agg (.cons (.int .i64) (.cons (.int .i64) .unit))))) .unit)))))) s):Wide s:=by
 obtain ⟨_,_,h3,h4,h5,_⟩:=h
 exact ⟨h3.1.1,h4.1.1,h5.1⟩
end Go.Proofs.YtnbgkhdcidbkaaaGreatDoor.Q
