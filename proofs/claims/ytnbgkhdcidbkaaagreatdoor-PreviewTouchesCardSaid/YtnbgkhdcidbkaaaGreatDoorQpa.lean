import Derived.Test.YtnbgkhdcidbkaaaGreatDoorW
import Derived.Test.YtnbgkhdcidbkaaaGreatDoorT14
import Derived.Test.YtnbgkhdcidbkaaaGreatDoorT32
set_option linter.unusedVariables false
set_option linter.unusedSimpArgs false
set_option maxRecDepth 100000
namespace Go.Proofs.YtnbgkhdcidbkaaaGreatDoor.Q
open Go.EM Go.TY Go.Proofs Go.Proofs.YtnbgkhdcidbkaaaGreatDoor.Y
def aK:List UInt8→Int×Nat
 | []=>(0,0)
 | a::t =>
   if a.toNat<128 then (a.toNat,1)
   else if 194≤a.toNat∧a.toNat<224 then (match t with
     | b::_=>if 128≤b.toNat∧b.toNat≤191 then (64*((a.toNat:Int)-192)+b.toNat-128,2) else (0,0)
     | _=>(0,0))
   else if 224≤a.toNat∧a.toNat<240 then (match t with
     | b :: c :: _ => if (128 ≤ b.toNat ∧ b.toNat ≤ 191) ∧ (128 ≤ c.toNat ∧ c.toNat ≤ 191) then
         let r:Int:=64*(64*((a.toNat:Int)-224)+b.toNat-128)+c.toNat-128
         if r<2048∨(55296≤r∧r≤57343) then (0,0) else (r,3)
       else (0,0)
     | _=>(0,0))
   else if 240≤a.toNat∧a.toNat<245 then (match t with
     | b :: c :: d :: _ => if (128 ≤ b.toNat ∧ b.toNat ≤ 191) ∧ (128 ≤ c.toNat ∧ c.toNat ≤ 191) ∧ (128 ≤ d.toNat ∧ d.toNat ≤ 191) then
         let r:Int:=64*(64*(64*((a.toNat:Int)-240)+b.toNat-128)+c.toNat-128)+d.toNat-128
         if r<65536∨1114111<r then (0,0) else (r,4)
       else (0,0)
     | _=>(0,0))
   else (0,0)
theorem nW {s:List UInt8}{q:Int×Int×Int×Unit}{x:Int}{i:Nat}{b:UInt8} (hi:(i:Int)<q.2.1) (hi4:i≤4) (h:s[i]? = some b) (hx:0≤x) (hx2:x≤100000000) :
   gj s q (x,(i:Int),())=if 128≤b.toNat∧b.toNat≤191 then some (.inl (64*x+b.toNat-128,((i+1:Nat):Int),())) else some (.inr (.inr (0,0,()))):=by
 have hb:b.toNat<256:=b.toNat_lt
 simp only[gj,iG,h,zb,ae,zp hi]
 rw[wrap64 (n:=64*x) (by omega) (by omega),wrap64 (n:=(b.toNat:Int)) (by omega) (by omega),wrap64 (n:=64*x+b.toNat) (by omega) (by omega),wrap64 (n:=64*x+b.toNat-128) (by omega) (by omega),wrap64 (n:=(i:Int)+1) (by omega) (by omega)]
 by_cases h1:b.toNat<128
 · rw[zp (by omega),zn (by omega)]
 · rw[zn (by omega)]
   by_cases h2:b.toNat>191
   · rw[zp (by omega),zn (by omega)]
   · rw[zn (by omega),zp (by omega)]; rfl
theorem ab8 {s:List UInt8}{q:Int×Int×Int×Unit}{x:Int}{i:Nat} (hi:¬ (i:Int)<q.2.1):gj s q (x,(i:Int),())=some (.inr (.inl (x,()))):=by
 simp only[gj,ae,zn hi]
theorem afK {a b:UInt8}{t:List UInt8}{l:Int}{c x:Int} (hx:0≤x) (hx2:x≤1000) :
   aI (gj (a::b::t) (c,2,l,())) (x,1,())=if 128≤b.toNat∧b.toNat≤191 then some (.inl (64*x+b.toNat-128,())) else some (.inr (0,0,())):=by
 have h:=nW (s:=a::b::t) (q:=(c,2,l,())) (i:=1) (b:=b) (x:=x) (by simp) (by omega) rfl hx (by omega)
 by_cases hb:128≤b.toNat∧b.toNat≤191
 · rw[zp hb] at h ⊢
   exact (aH h).trans (aD (ab8 (by simp)))
 · rw[zn hb] at h ⊢
   exact aD h
theorem afJ {a b d:UInt8}{t:List UInt8}{l:Int}{c x:Int} (hx:0≤x) (hx2:x≤1000) :
   aI (gj (a::b::d::t) (c,3,l,())) (x,1,())=if (128≤b.toNat∧b.toNat≤191)∧(128≤d.toNat∧d.toNat≤191) then some (.inl (64*(64*x+b.toNat-128)+d.toNat-128,())) else some (.inr (0,0,())):=by
 have hb':=b.toNat_lt
 have h:=nW (s:=a::b::d::t) (q:=(c,3,l,())) (i:=1) (b:=b) (x:=x) (by simp) (by omega) rfl hx (by omega)
 by_cases hb:128≤b.toNat∧b.toNat≤191
 · rw[zp hb] at h
   have h2:=nW (s:=a::b::d::t) (q:=(c,3,l,())) (i:=2) (b:=d) (x:=64*x+b.toNat-128) (by simp) (by omega) rfl (by omega) (by omega)
   by_cases hd:128≤d.toNat∧d.toNat≤191
   · rw[zp hd] at h2
     rw[zp ⟨hb,hd⟩]
     exact ((aH h).trans (aH h2)).trans (aD (ab8 (by simp)))
   · rw[zn hd] at h2
     rw[zn (fun e=>hd e.2)]
     exact (aH h).trans (aD h2)
 · rw[zn hb] at h
   rw[zn (fun e=>hb e.1)]
   exact aD h
theorem afI {a b d e:UInt8}{t:List UInt8}{l:Int}{c x:Int} (hx:0≤x) (hx2:x≤1000) :
   aI (gj (a::b::d::e::t) (c,4,l,())) (x,1,())=if (128≤b.toNat∧b.toNat≤191)∧(128≤d.toNat∧d.toNat≤191)∧(128≤e.toNat∧e.toNat≤191) then some (.inl (64*(64*(64*x+b.toNat-128)+d.toNat-128)+e.toNat-128,())) else some (.inr (0,0,())):=by
 have hb':=b.toNat_lt
 have hd':=d.toNat_lt
 have h:=nW (s:=a::b::d::e::t) (q:=(c,4,l,())) (i:=1) (b:=b) (x:=x) (by simp) (by omega) rfl hx (by omega)
 by_cases hb:128≤b.toNat∧b.toNat≤191
 · rw[zp hb] at h
   have h2:=nW (s:=a::b::d::e::t) (q:=(c,4,l,())) (i:=2) (b:=d) (x:=64*x+b.toNat-128) (by simp) (by omega) rfl (by omega) (by omega)
   by_cases hd:128≤d.toNat∧d.toNat≤191
   · rw[zp hd] at h2
     have h3:=nW (s:=a::b::d::e::t) (q:=(c,4,l,())) (i:=3) (b:=e) (x:=64*(64*x+b.toNat-128)+d.toNat-128) (by simp) (by omega) rfl (by omega) (by omega)
     by_cases he:128≤e.toNat∧e.toNat≤191
     · rw[zp he] at h3
       rw[zp ⟨hb,hd,he⟩]
       exact (((aH h).trans (aH h2)).trans (aH h3)).trans (aD (ab8 (by simp)))
     · rw[zn he] at h3
       rw[zn (fun q=>he q.2.2)]
       exact ((aH h).trans (aH h2)).trans (aD h3)
   · rw[zn hd] at h2
     rw[zn (fun q=>hd q.2.1)]
     exact (aH h).trans (aD h2)
 · rw[zn hb] at h
   rw[zn (fun q=>hb q.1)]
   exact aD h
theorem ag0 (s:List UInt8):zc6 s=some ((aK s).1,((aK s).2:Int),()):=by
 cases s with
 | nil=>simp[zc6,aK]
 | cons a t =>
   have ha:a.toNat<256:=a.toNat_lt
   have h0:¬ (((a::t).length:Int)=0):=by simp only[zl]; omega
   have hi:atI (a::t) 0=some a:=by simp[atI]
   unfold zc6
   simp only[ae,zn h0,hi,zb,agn,afW,am8]
   rw[wrap64 (n:=(a.toNat:Int)) (by omega) (by omega)]
   by_cases c1:a.toNat<128
   · rw[zp (by omega)]
     simp only[b7,aK,zp c1]; rfl
   rw[zn (by omega)]
   by_cases c2:194≤a.toNat∧a.toNat<224
   · rw[zp (by omega),wrap64 (by omega) (by omega)]
     simp only[ay]
     match t with
     | []=>simp[aK,c1,c2]
     | b::t =>
       rw[zn (by simp only[zl]; omega),afK (by omega) (by omega)]
       by_cases hb:128≤b.toNat∧b.toNat≤191
       · rw[zp hb]
         simp only[ay]
         rw[j7,zn (by omega)]
         simp only[aK,c1,c2,hb,if_true,if_false,and_self]; rfl
       · rw[zn hb]
         simp only[b7]
         simp[aK,c1,c2,hb]
   rw[zn (by omega)]
   by_cases c3:224≤a.toNat∧a.toNat<240
   · rw[zp (by omega),wrap64 (by omega) (by omega)]
     simp only[ay]
     match t with
     | []=>simp[aK,c1,c2,c3]
     | [b]=>simp[aK,c1,c2,c3]
     | b::c::t =>
       have hb:=b.toNat_lt
       have hc:=c.toNat_lt
       rw[zn (by simp only[zl]; omega),afJ (by omega) (by omega)]
       by_cases hb':(128≤b.toNat∧b.toNat≤191)∧(128≤c.toNat∧c.toNat≤191)
       · rw[zp hb']
         simp only[ay]
         rw[j7]
         simp only[aK,c1,c2,c3,hb',if_true,if_false,and_self]
         by_cases hr:64*(64*((a.toNat:Int)-224)+b.toNat-128)+c.toNat-128<2048∨(55296≤64*(64*((a.toNat:Int)-224)+b.toNat-128)+c.toNat-128∧64*(64*((a.toNat:Int)-224)+b.toNat-128)+c.toNat-128≤57343)
         · rw[zp (by omega),zp hr]; rfl
         · rw[zn (by omega),zn hr]; rfl
       · rw[zn hb']
         simp only[b7]
         simp[aK,c1,c2,c3,hb']
   rw[zn (by omega)]
   by_cases c4:240≤a.toNat∧a.toNat<245
   · rw[zp (by omega),wrap64 (by omega) (by omega)]
     simp only[ay]
     match t with
     | []=>simp[aK,c1,c2,c3,c4]
     | [b]=>simp[aK,c1,c2,c3,c4]
     | [b,c]=>simp[aK,c1,c2,c3,c4]
     | b::c::d::t =>
       have hb:=b.toNat_lt
       have hc:=c.toNat_lt
       have hd:=d.toNat_lt
       rw[zn (by simp only[zl]; omega),afI (by omega) (by omega)]
       by_cases hb':(128≤b.toNat∧b.toNat≤191)∧(128≤c.toNat∧c.toNat≤191)∧(128≤d.toNat∧d.toNat≤191)
       · rw[zp hb']
         simp only[ay]
         rw[j7]
         simp only[aK,c1,c2,c3,c4,hb',if_true,if_false,and_self]
         by_cases hr:64*(64*(64*((a.toNat:Int)-240)+b.toNat-128)+c.toNat-128)+d.toNat-128<65536∨1114111<64*(64*(64*((a.toNat:Int)-240)+b.toNat-128)+c.toNat-128)+d.toNat-128
         · rw[zp (by omega),zp hr]; rfl
         · rw[zn (by omega),zn hr]; rfl
       · rw[zn hb']
         simp only[b7]
         simp[aK,c1,c2,c3,c4,hb']
   rw[zn (by omega)]
   simp only[b7]
   simp[aK,c1,c2,c3,c4]
theorem xI (s:List UInt8):(aK s).2≤s.length:=by
 unfold aK
 repeat' split
 all_goals (try simp only[])
 all_goals (try split)
 all_goals (try simp only[zl])
 all_goals omega
theorem js (s:List UInt8):0≤(aK s).1∧(aK s).1≤1114111:=by
 unfold aK
 repeat' split
 all_goals (try simp only[])
 all_goals (try split)
 all_goals (try simp only[])
 all_goals omega
def cw (s:List UInt8):Option (List Int) :=
 if h:s=[] then some []
 else if h0:(aK s).2=0 then none
 else (cw (s.drop (aK s).2)).map fun l=>(aK s).1::l
termination_by s.length
decreasing_by
 have:s.length≠0:=fun e=>h (List.eq_nil_of_length_eq_zero e)
 simp only[List.length_drop]; omega
theorem gM:cw []=some []:=by rw[cw,dif_pos rfl]
theorem iu {s:List UInt8} (h:s≠[]) (h0:(aK s).2=0):cw s=none:=by rw[cw,dif_neg h,dif_pos h0]
theorem fM {s:List UInt8} (h:s≠[]) (h0:(aK s).2≠0):cw s=(cw (s.drop (aK s).2)).map fun l=>(aK s).1::l:=by rw[cw,dif_neg h,dif_neg h0]
def ga (s:List UInt8) (out:List Int):List Int×Bool×Unit :=
 match cw s with
 | some m=>(out++m,true,())
 | none=>([],false,())
theorem yw {s:List UInt8} (hs:s.length<4294967296):∀ (k i:Nat) (l:List Int),s.length-i≤k→i≤s.length→l.length≤i→aI (nO s) ((i:Int),l,())=some (ga (s.drop i) l):=by
 intro k
 have fin:∀ (i:Nat) (l:List Int),¬ i<s.length→aI (nO s) ((i:Int),l,())=some (ga (s.drop i) l):=by
   intro i l hi
   rw[List.drop_eq_nil_of_le (by omega),aD (x:=(l,true,())) (by simp only[nO,ae]; rw[zn (by omega)])]
   simp[ga,gM]
 induction k with
 | zero=>intro i l hk hi hl; exact fin i l (by omega)
 | succ k ih =>
   intro i l hk hi hl
   by_cases hlt:i<s.length
   · have hne:s.drop i≠[]:=fun e=>by have:=congrArg List.length e; simp at this; omega
     have hle:=xI (s.drop i)
     simp only[List.length_drop] at hle
     by_cases h0:(aK (s.drop i)).2=0
     · rw[aD (x:=([],false,()))]
       · simp only[ga,iu hne h0]
       · simp only[nO,ae]
         rw[zp (by omega),ep (by omega)]
         simp only[zb,ag0]
         rw[zp (by omega)]
     · rw[aH (b:=(((i+(aK (s.drop i)).2:Nat):Int),l++[(aK (s.drop i)).1],()))]
       · rw[ih _ _ (by omega) (by omega) (by simp; omega)]
         simp only[ga,fM hne h0,List.drop_drop]
         cases cw (s.drop (i+(aK (s.drop i)).2))<;>simp
       · simp only[nO,ae]
         rw[zp (by omega),ep (by omega)]
         simp only[zb,ag0]
         rw[zn (by omega),aU (by simp; omega)]
         simp only[zb]
         rw[wrap64 (by omega) (by omega)]
         simp
   · exact fin i l hlt
theorem ack {s:List UInt8} (hs:s.length<4294967296):zca s=some (ga s []):=by
 have:=yw hs s.length 0 [] (by omega) (by omega) (by simp)
 simpa [zca] using this
def decN (l:List UInt8):Nat×Nat:=if (aK l).2=0 then (65533,1) else ((aK l).1.toNat,(aK l).2)
theorem get_at {s:List UInt8}{i:Nat}{b:UInt8} (h:s[i]? = some b):(⟨s.toArray⟩:ByteArray).get! i=b:=by
 have:(⟨s.toArray⟩:ByteArray).get! i=s.toArray[i]! := rfl
 rw[this]
 simp[h]
theorem anw {s:List UInt8}{i:Nat} (h:s.length≤i):decide (i<(⟨s.toArray⟩:ByteArray).size)=false:=by
 have:(⟨s.toArray⟩:ByteArray).size=s.length:=by simp[ByteArray.size]
 rw[this]; simp; omega
theorem agh {s:List UInt8}{i:Nat} (h:i<s.length):decide (i<(⟨s.toArray⟩:ByteArray).size)=true:=by
 have:(⟨s.toArray⟩:ByteArray).size=s.length:=by simp[ByteArray.size]
 rw[this]; simp; omega
theorem drop_at {s t:List UInt8}{i k:Nat}{b:UInt8} (h:s.drop i=t) (hb:t[k]? = some b):s[i+k]? = some b:=by
 rw[← h,List.getElem?_drop] at hb; exact hb
theorem agc {s t:List UInt8}{i:Nat} (h:s.drop i=t) (hi:i≤s.length):s.length=i+t.length:=by
 rw[← h,List.length_drop]; omega
def decV (b0:Nat) (b1 b2 b3:Option Nat):Nat×Nat :=
 let cont (b:Option Nat):Bool:=match b with
   | some b=>b/64==2
   | none=>false
 if b0<0x80 then (b0,1)
 else if b0/32==6&&cont b1 then
   let c:=(b0%32)*64+b1.getD 0%64
   if c≥0x80 then (c,2) else (65533,1)
 else if b0/16==14&&cont b1&&cont b2 then
   let c:=(b0%16)*4096+(b1.getD 0%64)*64+b2.getD 0%64
   if c≥0x800&&Utf8.valid c then (c,3) else (65533,1)
 else if b0/8==30&&cont b1&&cont b2&&cont b3 then
   let c:=(b0%8)*262144+(b1.getD 0%64)*4096+(b2.getD 0%64)*64+b3.getD 0%64
   if c≥0x10000&&Utf8.valid c then (c,4) else (65533,1)
 else (65533,1)
theorem agd {s t:List UInt8}{i:Nat}{a:UInt8} (h:s.drop i=a::t) (hi:i≤s.length):Utf8.decode ⟨s.toArray⟩ i=decV a.toNat (t[0]?.map (·.toNat)) (t[1]?.map (·.toNat)) (t[2]?.map (·.toNat)):=by
 have hlen:=agc h hi
 have g0:(⟨s.toArray⟩:ByteArray).get! (i+0)=a:=get_at (drop_at h rfl)
 have gk:∀ k b,t[k]? = some b→(⟨s.toArray⟩:ByteArray).get! (i+(k+1))=b:=fun k b hb=>get_at (drop_at h (by simpa using hb))
 have cy:∀ k b,t[k]? = some b→decide (i+(k+1)<(⟨s.toArray⟩:ByteArray).size)=true:=fun k b hb=>agh (by
   rcases Nat.lt_or_ge k t.length with h' | h'
   · simp only[zl] at hlen; omega
   · rw[List.getElem?_eq_none h'] at hb; cases hb)
 have cn:∀ k,t[k]? = none→decide (i+(k+1)<(⟨s.toArray⟩:ByteArray).size)=false:=fun k hb=>anw (by
   rw[List.getElem?_eq_none_iff] at hb
   simp only[zl] at hlen; omega)
 unfold Utf8.decode decV
 simp only[g0]
 have e:Utf8.runeError=65533:=rfl
 cases h1:t[0]? with
 | none =>
   have c1:=cn 0 h1
   have h2:t[1]? = none:=by rw[List.getElem?_eq_none_iff] at h1 ⊢; omega
   have h3:t[2]? = none:=by rw[List.getElem?_eq_none_iff] at h1 ⊢; omega
   simp only[Nat.zero_add] at c1
   simp[c1,h2,h3,e]
 | some b =>
   have c1:=cy 0 b h1
   have d1:=gk 0 b h1
   simp only[Nat.zero_add] at c1 d1
   cases h2:t[1]? with
   | none =>
     have c2:=cn 1 h2
     have h3:t[2]? = none:=by rw[List.getElem?_eq_none_iff] at h2 ⊢; omega
     simp only[Nat.reduceAdd] at c2
     simp[c1,c2,d1,h3,e]
   | some c =>
     have c2:=cy 1 c h2
     have d2:=gk 1 c h2
     simp only[Nat.reduceAdd] at c2 d2
     cases h3:t[2]? with
     | none =>
       have c3:=cn 2 h3
       simp only[Nat.reduceAdd] at c3
       simp[c1,c2,c3,d1,d2,e]
     | some d =>
       have c3:=cy 2 d h3
       have d3:=gk 2 d h3
       simp only[Nat.reduceAdd] at c3 d3
       simp[c1,c2,c3,d1,d2,d3,e]
theorem anq {b:Nat}:(b/64==2)=decide (128≤b∧b≤191):=by
 rw[Bool.eq_iff_iff]; simp; omega
theorem awi (a:UInt8) (t:List UInt8):decV a.toNat (t[0]?.map (·.toNat)) (t[1]?.map (·.toNat)) (t[2]?.map (·.toNat))=decN (a::t):=by
 have ha:=a.toNat_lt
 unfold decV decN
 by_cases c1:a.toNat<128
 · simp[aK,c1]
 have c1':¬ a.toNat<0x80:=c1
 simp only[zn c1']
 by_cases c2:a.toNat/32=6
 · have e2:(a.toNat/32==6)=true:=by simp[c2]
   match t with
   | [] =>
     have e3:¬ a.toNat/16=14:=by omega
     have e4:¬ a.toNat/8=30:=by omega
     have d3:¬ (224≤a.toNat∧a.toNat<240):=by omega
     have d4:¬ (240≤a.toNat∧a.toNat<245):=by omega
     simp[aK,c1,e3,e4,d3,d4]
   | b::t =>
     have hb:=b.toNat_lt
     have e3:¬ a.toNat/16=14:=by omega
     have e4:¬ a.toNat/8=30:=by omega
     have d3:¬ (224≤a.toNat∧a.toNat<240):=by omega
     have d4:¬ (240≤a.toNat∧a.toNat<245):=by omega
     simp only[List.getElem?_cons_zero,Option.map_some,e2,anq,Bool.true_and,Option.getD_some]
     by_cases hb':128≤b.toNat∧b.toNat≤191
     · rw[zp (by simpa using hb')]
       by_cases c3:194≤a.toNat
       · rw[zp (by omega)]
         have q:194≤a.toNat∧a.toNat<224:=by omega
         simp only[aK,zn c1,zp q,zp hb']
         rw[zn (by omega)]
         congr 1
         omega
       · rw[zn (by omega)]
         have q:¬ (194≤a.toNat∧a.toNat<224):=by omega
         simp[aK,c1,q,d3,d4]
     · rw[zn (by simpa using hb')]
       have x3:(a.toNat/16==14)=false:=by simp[e3]
       have x4:(a.toNat/8==30)=false:=by simp[e4]
       simp only[x3,x4,Bool.false_and,Bool.false_eq_true,if_false]
       by_cases c3:194≤a.toNat∧a.toNat<224
       · simp[aK,c1,c3,hb']
       · simp[aK,c1,c3,d3,d4]
 have e2:(a.toNat/32==6)=false:=by simp[c2]
 simp only[e2,Bool.false_and,Bool.false_eq_true,if_false]
 have d2:¬ (194≤a.toNat∧a.toNat<224):=by omega
 by_cases c3:a.toNat/16=14
 · have e3:(a.toNat/16==14)=true:=by simp[c3]
   have d3:(224≤a.toNat∧a.toNat<240):=by omega
   have x4:(a.toNat/8==30)=false:=by simp; omega
   simp only[e3,x4,Bool.true_and,Bool.false_and,Bool.false_eq_true,if_false]
   match t with
   | []=>simp[aK,c1,d2,d3]
   | [b]=>simp[aK,c1,d2,d3]
   | b::c::t =>
     have hb:=b.toNat_lt
     have hc:=c.toNat_lt
     simp only[List.getElem?_cons_zero,List.getElem?_cons_succ,Option.map_some,anq,Option.getD_some]
     by_cases hb':(128≤b.toNat∧b.toNat≤191)∧(128≤c.toNat∧c.toNat≤191)
     · rw[zp (by simp only[Bool.and_eq_true,decide_eq_true_eq]; exact hb')]
       simp only[aK,zn c1,zn d2,zp d3,zp hb']
       by_cases hr:64*(64*((a.toNat:Int)-224)+b.toNat-128)+c.toNat-128<2048∨(55296≤64*(64*((a.toNat:Int)-224)+b.toNat-128)+c.toNat-128∧64*(64*((a.toNat:Int)-224)+b.toNat-128)+c.toNat-128≤57343)
       · rw [zp hr, zn (by
           simp only[Utf8.valid,Bool.and_eq_true,Bool.or_eq_true,decide_eq_true_eq]; omega)]
         rfl
       · rw [zn hr, zp (by
           simp only[Utf8.valid,Bool.and_eq_true,Bool.or_eq_true,decide_eq_true_eq]; omega),zn (by simp)]
         congr 1
         omega
     · rw[zn (by simp only[Bool.and_eq_true,decide_eq_true_eq]; exact hb')]
       simp only[aK,zn c1,zn d2,zp d3,zn hb']
       rfl
 have e3:(a.toNat/16==14)=false:=by simp[c3]
 have d3:¬ (224≤a.toNat∧a.toNat<240):=by omega
 simp only[e3,Bool.false_and,Bool.false_eq_true,if_false]
 by_cases c4:a.toNat/8=30
 · have e4:(a.toNat/8==30)=true:=by simp[c4]
   simp only[e4,Bool.true_and]
   match t with
   | []=>simp[aK,c1,d2,d3]
   | [b]=>simp[aK,c1,d2,d3]
   | [b,c]=>simp[aK,c1,d2,d3]
   | b::c::d::t =>
     have hb:=b.toNat_lt
     have hc:=c.toNat_lt
     have hd:=d.toNat_lt
     simp only[List.getElem?_cons_zero,List.getElem?_cons_succ,Option.map_some,anq,Option.getD_some]
     by_cases hb':(128≤b.toNat∧b.toNat≤191)∧(128≤c.toNat∧c.toNat≤191)∧(128≤d.toNat∧d.toNat≤191)
     · rw[zp (by simp only[Bool.and_eq_true,decide_eq_true_eq]; exact ⟨⟨hb'.1,hb'.2.1⟩,hb'.2.2⟩)]
       by_cases d4:(240≤a.toNat∧a.toNat<245)
       · simp only[aK,zn c1,zn d2,zn d3,zp d4,zp hb']
         by_cases hr:64*(64*(64*((a.toNat:Int)-240)+b.toNat-128)+c.toNat-128)+d.toNat-128<65536∨1114111<64*(64*(64*((a.toNat:Int)-240)+b.toNat-128)+c.toNat-128)+d.toNat-128
         · rw [zp hr, zn (by
             simp only[Utf8.valid,Bool.and_eq_true,Bool.or_eq_true,decide_eq_true_eq]; omega)]
           rfl
         · rw [zn hr, zp (by
             simp only[Utf8.valid,Bool.and_eq_true,Bool.or_eq_true,decide_eq_true_eq]; omega),zn (by simp)]
           congr 1
           omega
       · rw [zn (by
           simp only[Utf8.valid,Bool.and_eq_true,Bool.or_eq_true,decide_eq_true_eq]; omega)]
         simp only[aK,zn c1,zn d2,zn d3,zn d4]
         rfl
     · rw[zn (by simp only[Bool.and_eq_true,decide_eq_true_eq]; exact fun e=>hb' ⟨e.1.1,e.1.2,e.2⟩)]
       by_cases d4:(240≤a.toNat∧a.toNat<245)
       · simp only[aK,zn c1,zn d2,zn d3,zp d4,zn hb']
         rfl
       · simp only[aK,zn c1,zn d2,zn d3,zn d4]
         rfl
 · have e4:(a.toNat/8==30)=false:=by simp[c4]
   have d4:¬ (240≤a.toNat∧a.toNat<245):=by omega
   simp[e4,aK,c1,d2,d3,d4]
theorem decode_N {s:List UInt8}{i:Nat} (hi:i<s.length):Utf8.decode ⟨s.toArray⟩ i=decN (s.drop i):=by
 cases h:s.drop i with
 | nil=>have:=congrArg List.length h; simp at this; omega
 | cons a t=>rw[agd h (by omega),awi]
def cmpI (a b:Int):Int:=if a<b then -1 else if a>b then 1 else 0
theorem jr (a b:Int):zbh a b=some (cmpI a b):=by
 unfold zbh zbl cmpI
 simp only[zb,decide_true,Bool.not_true,cond_false,ae]
 by_cases h1:a<b
 · simp[h1]
 · by_cases h2:a>b<;>simp[h1,h2]
def orI (a b:Int):Int:=if a=0 then b else a
theorem or_t (a b:Int):zcy [a,b]=some (orI a b):=by
 unfold zcy orI
 by_cases h1:a=0
 · rw[zp h1]
   have t0:f8 [a,b] (0,())=some (.inl (1,())):=by
     unfold f8
     simp only[ae,zl,List.length_nil]
     rw[zp (by decide)]
     simp[atI,h1,wrap64]
   rw[aH t0]
   by_cases h2:b=0
   · have t1 : f8 [a, b] (1, ()) = some (.inl (2, ())) := by
       unfold f8
       simp only[ae,zl,List.length_nil]
       rw[zp (by decide)]
       simp[atI,h2,wrap64]
     rw[aH t1,h2]
     refine aD ?_
     unfold f8
     simp only[ae,zl,List.length_nil]
     rw[zn (by decide)]
   · refine aD ?_
     unfold f8
     simp only[ae,zl,List.length_nil]
     rw[zp (by decide)]
     simp[atI,h2]
 · rw[zn h1]
   refine aD ?_
   unfold f8
   simp only[ae,zl,List.length_nil]
   rw[zp (by decide)]
   simp[atI,h1]
def cmpD (a b:Int×Int×Unit):Int:=orI (cmpI a.1 b.1) (cmpI a.2.1 b.2.1)
def bI (s:List UInt8):List Int:=s.map fun b=>(b.toNat:Int)
theorem jy {s t:List UInt8}:bI (s++t)=bI s++bI t:=by simp[bI]
theorem kE {s:List UInt8}:(bI s).length=s.length:=by simp[bI]
theorem anG {s:List UInt8}:((bI s).map fun n=>UInt8.ofNat n.toNat)=s:=by
 unfold bI
 rw[List.map_map]
 conv=>rhs; rw[← List.map_id s]
 congr 1
 funext b
 simp
theorem agJ {n:Int}:IntKind.wrap .u8 n=n%256:=by
 simp[IntKind.wrap,IntKind.signed,IntKind.bits]
theorem dz {c:Int}{v:Bool×Unit×Unit}{w:List Int} (hw:w.length<4294967000):za4 c v w=some (false,(true,(),()),w++[c],()):=by
 unfold za4
 have h:za3 v w=some ((),(true,(),()),w,()):=by
   obtain ⟨b,_,_⟩:=v
   unfold za3
   cases b<;>rfl
 rw[h]
 simp only[zb]
 rw[aU (by simp; omega)]
 rfl
theorem pD {v:Bool×Unit×Unit}{s:List UInt8} (hs:s.length<4294967296):za7 v (bI s)=some (s,v,()):=by
 unfold za7
 cases s with
 | nil=>rfl
 | cons b s =>
   have:(bI (b::s)).isEmpty=false:=rfl
   rw[this,cond_false,anG]
   have:qW 0 (bI (b::s)).length ((bI (b::s)).length:Int)=some ():=by
     unfold qW
     rw[kE,zp ⟨rfl,rfl,by simp only[zl]; omega,by omega⟩]
   rw[this]; rfl
theorem anp {n k b:Nat} (hb:0<b) (h:n<b ^ (k+1)):n/b<b ^ k:=by
 rw[Nat.div_lt_iff_lt_mul hb]
 rw[Nat.pow_succ] at h; exact h
theorem mO {u:Nat} (h:u<10):Lib.decDigits u=[UInt8.ofNat (48+u)]:=by rw[Lib.decDigits,dif_pos h]
theorem ant {u:Nat} (h:¬ u<10):Lib.decDigits u=Lib.decDigits (u/10)++[UInt8.ofNat (48+u%10)]:=by rw[Lib.decDigits,dif_neg h]
theorem vf:∀ (k u:Nat),u<10 ^ k→(Lib.decDigits u).length≤k+1
 | 0,u,h=>by rw[mO (by simp at h; omega)]; simp
 | k+1,u,h=>by
   by_cases hu:u<10
   · rw[mO hu]; simp
   · rw[ant hu,List.length_append]
     have:=vf k (u/10) (anp (by omega) h)
     simp only[zl,List.length_nil]; omega
theorem xe {n:Int} (h : -9223372036854775808≤n) (h2:n≤9223372036854775807):(Lib.itoa n).length≤21:=by
 unfold Lib.itoa
 split
 · have:=vf 19 n.natAbs (by simp only[Nat.reducePow]; omega)
   rw[zl]; omega
 · have:=vf 19 n.toNat (by simp only[Nat.reducePow]; omega)
   omega
theorem afU {n:Nat}:Lib.itoa (n:Int)=Lib.decDigits n:=by unfold Lib.itoa; rw[zn (by omega),Int.toNat_natCast]
def inR (n:Int):Prop := -9223372036854775808≤n∧n≤9223372036854775807
theorem rz {n:Int} (h:inR n):zbw n=some (Lib.itoa n):=zp h
def be (d:Int×Int×Unit):Bool:=decide (0≤d.1∧d.1≤15∧1≤d.2.1∧d.2.1≤1048576)
theorem nj {n:Nat}{x:UInt8} (h:n=x.toNat):UInt8.ofNat n=x:=by subst h; exact UInt8.ofNat_toNat
def encN (c:Nat):List UInt8 :=
 if c<128 then [UInt8.ofNat c]
 else if c<2048 then [UInt8.ofNat (192+c/64),UInt8.ofNat (128+c%64)]
 else if c<65536 then [UInt8.ofNat (224+c/4096),UInt8.ofNat (128+c/64%64),UInt8.ofNat (128+c%64)]
 else [UInt8.ofNat (240+c/262144),UInt8.ofNat (128+c/4096%64),UInt8.ofNat (128+c/64%64),UInt8.ofNat (128+c%64)]
theorem adK {r:Int} (h:Utf8.valid r=true):(Utf8.encode r).data.toList=encN r.toNat:=by
 unfold Utf8.encode encN
 simp only[h,if_true]
 split
 · rfl
 · split
   · rfl
   · split<;>rfl
theorem kU {r:Int} (h0:0≤r) (h1:r≤1114111) (h2:¬ (55296≤r∧r≤57343)):Utf8.valid r=true:=by
 simp[Utf8.valid]; omega
theorem af9 {s:List UInt8} (h:(aK s).2≠0):(Utf8.encode (aK s).1).data.toList=s.take (aK s).2:=by
 match s with
 | []=>exact absurd rfl h
 | a::t =>
   have ha:=a.toNat_lt
   by_cases c1:a.toNat<128
   · have e:aK (a::t)=((a.toNat:Int),1):=by simp only[aK,zp c1]
     rw[e,adK (kU (by omega) (by omega) (by omega))]
     simp only[Int.toNat_natCast,encN,zp c1]
     rw[nj rfl]; rfl
   by_cases c2:194≤a.toNat∧a.toNat<224
   · match t with
     | []=>simp only[aK,zn c1,zp c2,ne_eq,not_true_eq_false] at h
     | b::t =>
       by_cases hb:128≤b.toNat∧b.toNat≤191
       · have e:aK (a::b::t)=(64*((a.toNat:Int)-192)+b.toNat-128,2):=by simp only[aK,zn c1,zp c2,zp hb]
         rw[e,adK (kU (by simp only[]; omega) (by simp only[]; omega) (by simp only[]; omega))]
         simp only[]
         have:(64*((a.toNat:Int)-192)+b.toNat-128).toNat=64*(a.toNat-192)+(b.toNat-128):=by omega
         rw[this]
         unfold encN
         rw[zn (by omega),zp (by omega),nj (x:=a) (by omega),nj (x:=b) (by omega)]; rfl
       · simp only[aK,zn c1,zp c2,zn hb,ne_eq,not_true_eq_false] at h
   by_cases c3:224≤a.toNat∧a.toNat<240
   · match t with
     | []=>simp only[aK,zn c1,zn c2,zp c3,ne_eq,not_true_eq_false] at h
     | [b]=>simp only[aK,zn c1,zn c2,zp c3,ne_eq,not_true_eq_false] at h
     | b::c::t =>
       by_cases hb:(128≤b.toNat∧b.toNat≤191)∧(128≤c.toNat∧c.toNat≤191)
       · by_cases hr:64*(64*((a.toNat:Int)-224)+b.toNat-128)+c.toNat-128<2048∨(55296≤64*(64*((a.toNat:Int)-224)+b.toNat-128)+c.toNat-128∧64*(64*((a.toNat:Int)-224)+b.toNat-128)+c.toNat-128≤57343)
         · simp only[aK,zn c1,zn c2,zp c3,zp hb,zp hr,ne_eq,not_true_eq_false] at h
         · have e:aK (a::b::c::t)=(64*(64*((a.toNat:Int)-224)+b.toNat-128)+c.toNat-128,3):=by simp only[aK,zn c1,zn c2,zp c3,zp hb,zn hr]
           rw[e,adK (kU (by simp only[]; omega) (by simp only[]; omega) (by simp only[]; omega))]
           simp only[]
           have:(64*(64*((a.toNat:Int)-224)+b.toNat-128)+c.toNat-128).toNat=4096*(a.toNat-224)+64*(b.toNat-128)+(c.toNat-128):=by omega
           rw[this]
           unfold encN
           rw[zn (by omega),zn (by omega),zp (by omega),nj (x:=a) (by omega),nj (x:=b) (by omega),nj (x:=c) (by omega)]; rfl
       · simp only[aK,zn c1,zn c2,zp c3,zn hb,ne_eq,not_true_eq_false] at h
   by_cases c4:240≤a.toNat∧a.toNat<245
   · match t with
     | []=>simp only[aK,zn c1,zn c2,zn c3,zp c4,ne_eq,not_true_eq_false] at h
     | [b]=>simp only[aK,zn c1,zn c2,zn c3,zp c4,ne_eq,not_true_eq_false] at h
     | [b,c]=>simp only[aK,zn c1,zn c2,zn c3,zp c4,ne_eq,not_true_eq_false] at h
     | b::c::d::t =>
       by_cases hb:(128≤b.toNat∧b.toNat≤191)∧(128≤c.toNat∧c.toNat≤191)∧(128≤d.toNat∧d.toNat≤191)
       · by_cases hr:64*(64*(64*((a.toNat:Int)-240)+b.toNat-128)+c.toNat-128)+d.toNat-128<65536∨1114111<64*(64*(64*((a.toNat:Int)-240)+b.toNat-128)+c.toNat-128)+d.toNat-128
         · simp only[aK,zn c1,zn c2,zn c3,zp c4,zp hb,zp hr,ne_eq,not_true_eq_false] at h
         · have e:aK (a::b::c::d::t)=(64*(64*(64*((a.toNat:Int)-240)+b.toNat-128)+c.toNat-128)+d.toNat-128,4):=by simp only[aK,zn c1,zn c2,zn c3,zp c4,zp hb,zn hr]
           rw[e,adK (kU (by simp only[]; omega) (by simp only[]; omega) (by simp only[]; omega))]
           simp only[]
           have:(64*(64*(64*((a.toNat:Int)-240)+b.toNat-128)+c.toNat-128)+d.toNat-128).toNat=262144*(a.toNat-240)+4096*(b.toNat-128)+64*(c.toNat-128)+(d.toNat-128):=by omega
           rw[this]
           unfold encN
           rw[zn (by omega),zn (by omega),zn (by omega),nj (x:=a) (by omega),nj (x:=b) (by omega),nj (x:=c) (by omega),nj (x:=d) (by omega)]; rfl
       · simp only[aK,zn c1,zn c2,zn c3,zp c4,zn hb,ne_eq,not_true_eq_false] at h
   · simp only[aK,zn c1,zn c2,zn c3,zn c4,ne_eq,not_true_eq_false] at h
def Good (c:Int):Prop:=∃ s,(aK s).2≠0∧(aK s).1=c
theorem af8 {n:Nat} (h:128≤n) (h2:n≤1114111):∀ b∈encN n,128≤b.toNat:=by
 have e:∀ n:Nat,128≤n→n<256→128≤(UInt8.ofNat n).toNat:=by
   intro n h1 h2
   rw[UInt8.toNat_ofNat_of_lt' (by simpa using h2)]; exact h1
 intro b hb
 unfold encN at hb
 rw[zn (by omega)] at hb
 split at hb
 · simp only[List.mem_cons,List.mem_nil_iff,or_false] at hb
   rcases hb with rfl | rfl<;>exact e _ (by omega) (by omega)
 · split at hb
   · simp only[List.mem_cons,List.mem_nil_iff,or_false] at hb
     rcases hb with rfl | rfl | rfl<;>exact e _ (by omega) (by omega)
   · simp only[List.mem_cons,List.mem_nil_iff,or_false] at hb
     rcases hb with rfl | rfl | rfl | rfl<;>exact e _ (by omega) (by omega)
theorem vp {s:List UInt8} (h0:(aK s).2≠0):s.take (aK s).2=encN (aK s).1.toNat:=by
 have hi:=js s
 have he:=af9 h0
 by_cases hv:Utf8.valid (aK s).1=true
 · rw[← he,adK hv]
 · exfalso
   have hs:55296≤(aK s).1∧(aK s).1≤57343:=by
     simp[Utf8.valid] at hv; omega
   have h3:(aK s).2=3∨(aK s).2≠3:=by omega
   revert hs h0
   unfold aK
   repeat' split
   all_goals (try simp only[])
   all_goals (try split)
   all_goals (try simp only[])
   all_goals omega
theorem abU {n:Int} (h:0≤n) (h2:n<4294967296):IntKind.wrap .u32 n=n:=by
 simp[IntKind.wrap,IntKind.signed,IntKind.bits]; omega
theorem am0:∀ x:Fin 256,(IntKind.wrap .u8 ((BitVec.ofInt (IntKind.bits .u8) 128 ||| BitVec.ofInt (IntKind.bits .u8) (IntKind.wrap .u8 ((BitVec.ofInt (IntKind.bits .u8) ((x.val:Nat):Int) &&& BitVec.ofInt (IntKind.bits .u8) 63).toNat:Nat))).toNat:Nat))=((128+x.val%64:Nat):Int):=by decide +kernel
theorem yY {c:Int}:(IntKind.wrap .u8 ((BitVec.ofInt (IntKind.bits .u8) 128 ||| BitVec.ofInt (IntKind.bits .u8) (IntKind.wrap .u8 ((BitVec.ofInt (IntKind.bits .u8) (IntKind.wrap .u8 c) &&& BitVec.ofInt (IntKind.bits .u8) 63).toNat:Nat))).toNat:Nat))=128+c%64:=by
 have h0:0≤c%256:=by omega
 have h1:c%256<256:=by omega
 have:=am0 ⟨(c%256).toNat,by omega⟩
 simp only at this
 rw[show (((c%256).toNat:Nat):Int)=c%256 by omega] at this
 rw[agJ (n:=c),this]
 omega
theorem ud:(∀ x:Fin 32,(IntKind.wrap .u8 ((BitVec.ofInt (IntKind.bits .u8) 192 ||| BitVec.ofInt (IntKind.bits .u8) (IntKind.wrap .u8 ((x.val:Nat):Int))).toNat:Nat))=((192+x.val:Nat):Int))∧(∀ x:Fin 16,(IntKind.wrap .u8 ((BitVec.ofInt (IntKind.bits .u8) 224 ||| BitVec.ofInt (IntKind.bits .u8) (IntKind.wrap .u8 ((x.val:Nat):Int))).toNat:Nat))=((224+x.val:Nat):Int))∧(∀ x:Fin 8,(IntKind.wrap .u8 ((BitVec.ofInt (IntKind.bits .u8) 240 ||| BitVec.ofInt (IntKind.bits .u8) (IntKind.wrap .u8 ((x.val:Nat):Int))).toNat:Nat))=((240+x.val:Nat):Int)):=by decide +kernel
theorem top2 {x:Int} (h:0≤x) (h2:x<32):(IntKind.wrap .u8 ((BitVec.ofInt (IntKind.bits .u8) 192 ||| BitVec.ofInt (IntKind.bits .u8) (IntKind.wrap .u8 x)).toNat:Nat))=192+x:=by
 have:=ud.1 ⟨x.toNat,by omega⟩
 simp only at this
 rw[show ((x.toNat:Nat):Int)=x by omega] at this
 rw[this]; omega
theorem top3 {x:Int} (h:0≤x) (h2:x<16):(IntKind.wrap .u8 ((BitVec.ofInt (IntKind.bits .u8) 224 ||| BitVec.ofInt (IntKind.bits .u8) (IntKind.wrap .u8 x)).toNat:Nat))=224+x:=by
 have:=ud.2.1 ⟨x.toNat,by omega⟩
 simp only at this
 rw[show ((x.toNat:Nat):Int)=x by omega] at this
 rw[this]; omega
theorem top4 {x:Int} (h:0≤x) (h2:x<8):(IntKind.wrap .u8 ((BitVec.ofInt (IntKind.bits .u8) 240 ||| BitVec.ofInt (IntKind.bits .u8) (IntKind.wrap .u8 x)).toNat:Nat))=240+x:=by
 have:=ud.2.2 ⟨x.toNat,by omega⟩
 simp only at this
 rw[show ((x.toNat:Nat):Int)=x by omega] at this
 rw[this]; omega
theorem amG {c:Int}{n:Int}{k:Nat} (hn:n=(k:Int)) (hk:k≤32):shrT .i32 c n=some (c/(2 ^ k:Nat)):=by
 subst hn
 unfold shrT
 rw[zn (by omega)]
 congr 1
 rw[Int.toNat_natCast,Int.fdiv_eq_ediv_of_nonneg _ (by exact_mod_cast Nat.zero_le _)]
 have:min k (IntKind.bits .i32)=k:=by show min k 32=k; omega
 rw[this]
 norm_cast
def anM (c:Int):Prop:=0≤c∧c≤1114111∧¬ (55296≤c∧c≤57343)
theorem agl {l:List Nat} (h:∀ n∈l,n<256):bI (l.map UInt8.ofNat)=l.map fun (n:Nat)=>(n:Int):=by
 unfold bI
 rw[List.map_map]
 refine List.map_congr_left fun n hn => ?_
 simp only[Function.comp]
 rw[UInt8.toNat_ofNat_of_lt' (by simpa using h n hn)]
theorem agm {c:Int}{w:List Int} (hc:anM c) (hw:w.length<4294967000):zbg c w=some ((),w++bI (encN c.toNat),()):=by
 obtain ⟨h0,h1,h2⟩:=hc
 obtain ⟨n,rfl⟩:∃ n:Nat,c=(n:Int):=⟨c.toNat,by omega⟩
 unfold zbg
 rw[Int.toNat_natCast]
 simp only[ae,abU (n:=(n:Int)) (by omega) (by omega)]
 by_cases c1:n<128
 · rw[zp (by omega),aU (by simp; omega),zb]
   unfold encN
   rw[zp c1,agJ]
   have e:[UInt8.ofNat n]=[n].map UInt8.ofNat:=rfl
   rw[e,agl (by intro m hm; simp at hm; omega)]
   simp only[List.map_cons,List.map_nil]
   rw[show (n:Int)%256=n by omega]
 rw[zn (by omega)]
 have room:∀ l:List Int,l.length≤4→bP (w.length+l.length)=some ():=fun l hl=>aU (by omega)
 have key:za5 (n:Int) w=some ((),w++bI (encN n),()):=by
   unfold za5 encN
   rw[zn c1]
   simp only[ae,abU (n:=(n:Int)) (by omega) (by omega),amG (n:=6) (k:=6) rfl (by omega),amG (n:=12) (k:=12) rfl (by omega),amG (n:=18) (k:=18) rfl (by omega),zb]
   by_cases c2:n<2048
   · rw[zp (by omega),zp c2,room _ (by simp),zb,yY,top2 (by omega) (by omega)]
     have e:[UInt8.ofNat (192+n/64),UInt8.ofNat (128+n%64)]=[192+n/64,128+n%64].map UInt8.ofNat:=rfl
     rw[e,agl (by intro m hm; simp at hm; omega)]
     simp only[List.map_cons,List.map_nil,show ((2 ^ 6:Nat):Int)=64 from rfl,show ((2 ^ 12:Nat):Int)=4096 from rfl,show ((2 ^ 18:Nat):Int)=262144 from rfl,Int.natCast_add,Int.natCast_ediv,Int.natCast_emod,Int.cast_ofNat_Int]
   rw[zn (by omega),zn c2]
   by_cases c3:n<65536
   · have hA : ((if (n : Int) < 55296 then some (Sum.inl (decide ((n : Int) < 55296), w, ())) else
         (if 57343<(n:Int) then some (decide ((n:Int)≤65535),w,()) else some (false,w,())).bind fun v3=>some (Sum.inl (v3.1,v3.2.1,()))):Option ((Bool×List Int×Unit)⊕(Unit×List Int×Unit)))=some (.inl (true,w,())):=by
       by_cases g:(n:Int)<55296
       · rw[zp g]; simp[g]
       · rw[zn g,zp (by omega)]; simp; omega
     rw[hA,ay,zp c3]
     simp only[cond_true]
     rw[room _ (by simp),zb,yY,yY,top3 (by omega) (by omega)]
     have e:[UInt8.ofNat (224+n/4096),UInt8.ofNat (128+n/64%64),UInt8.ofNat (128+n%64)]=[224+n/4096,128+n/64%64,128+n%64].map UInt8.ofNat:=rfl
     rw[e,agl (by intro m hm; simp at hm; omega)]
     simp only[List.map_cons,List.map_nil,show ((2 ^ 6:Nat):Int)=64 from rfl,show ((2 ^ 12:Nat):Int)=4096 from rfl,show ((2 ^ 18:Nat):Int)=262144 from rfl,Int.natCast_add,Int.natCast_ediv,Int.natCast_emod,Int.cast_ofNat_Int]
   · have hA : ((if (n : Int) < 55296 then some (Sum.inl (decide ((n : Int) < 55296), w, ())) else
         (if 57343<(n:Int) then some (decide ((n:Int)≤65535),w,()) else some (false,w,())).bind fun v3=>some (Sum.inl (v3.1,v3.2.1,()))):Option ((Bool×List Int×Unit)⊕(Unit×List Int×Unit)))=some (.inl (false,w,())):=by
       rw[zn (by omega),zp (by omega)]; simp; omega
     rw[hA,ay,zn c3]
     simp only[cond_false]
     rw[zp (by omega),zp (by omega),room _ (by simp),zb,yY,yY,yY,top4 (by omega) (by omega)]
     have e:[UInt8.ofNat (240+n/262144),UInt8.ofNat (128+n/4096%64),UInt8.ofNat (128+n/64%64),UInt8.ofNat (128+n%64)]=[240+n/262144,128+n/4096%64,128+n/64%64,128+n%64].map UInt8.ofNat:=rfl
     rw[e,agl (by intro m hm; simp at hm; omega)]
     simp only[List.map_cons,List.map_nil,show ((2 ^ 6:Nat):Int)=64 from rfl,show ((2 ^ 12:Nat):Int)=4096 from rfl,show ((2 ^ 18:Nat):Int)=262144 from rfl,Int.natCast_add,Int.natCast_ediv,Int.natCast_emod,Int.cast_ofNat_Int]
 rw[key]; rfl
theorem vq {s:List UInt8} (h0:(aK s).2≠0):anM (aK s).1:=by
 have hi:=js s
 refine ⟨hi.1,hi.2,?_⟩
 intro hs
 revert hs h0
 unfold aK
 repeat' split
 all_goals (try simp only[])
 all_goals (try split)
 all_goals (try simp only[])
 all_goals omega
theorem aga {n:Nat}:1≤(encN n).length∧(encN n).length≤4:=by
 unfold encN
 repeat' split
 all_goals simp
abbrev Val:=Int×Int×List UInt8×Unit
theorem uE {l:List Int}{i:Nat}{x:Int} (h:l[i]? = some x) (hl:l.length<1000000):f8 l ((i:Int),())=if x=0 then some (.inl (((i+1:Nat):Int),())) else some (.inr x):=by
 have hi:i<l.length:=by
   rcases Nat.lt_or_ge i l.length with h' | h'
   · exact h'
   · rw[List.getElem?_eq_none h'] at h; cases h
 unfold f8
 simp only[ae]
 rw[zp (by omega),iG,h]
 simp only[zb]
 by_cases hx:x=0
 · rw[zp hx]
   simp only[hx,decide_true,Bool.not_true,cond_false]
   rw[wrap64 (by omega) (by omega)]; rfl
 · rw[zn hx]
   simp only[hx,decide_false,Bool.not_false,cond_true]
theorem ayD (a b c:Int):zcy [a,b,c]=some (orI a (orI b c)):=by
 unfold zcy
 have t0:=uE (l:=[a,b,c]) (i:=0) (x:=a) rfl (by simp)
 have t1:=uE (l:=[a,b,c]) (i:=1) (x:=b) rfl (by simp)
 have t2:=uE (l:=[a,b,c]) (i:=2) (x:=c) rfl (by simp)
 have t3:f8 [a,b,c] (((3:Nat):Int),())=some (.inr 0):=by
   unfold f8
   simp only[ae,zl,List.length_nil]
   rw[zn (by decide)]
 unfold orI
 by_cases h0:a=0
 · rw[zp h0] at t0 ⊢
   rw[show ((0:Int),())=(((0:Nat):Int),()) from rfl,aH t0]
   by_cases h1:b=0
   · rw[zp h1] at t1 ⊢
     rw[aH t1]
     by_cases h2:c=0
     · rw[zp h2] at t2
       rw[aH t2,aD t3,h2]
     · rw[zn h2] at t2
       rw[aD t2]
   · rw[zn h1] at t1 ⊢
     rw[aD t1]
 · rw[zn h0] at t0 ⊢
   exact aD t0
theorem ad0:∀ a b:List UInt8,Lib.compareBytes b a = - Lib.compareBytes a b
 | [],[]=>rfl
 | [],_::_=>rfl
 | _::_,[]=>rfl
 | x::a,y::b=>by
   simp only[Lib.compareBytes,UInt8.lt_iff_toNat_lt]
   by_cases h1:x.toNat<y.toNat
   · have h2:¬ y.toNat<x.toNat:=by omega
     simp only[zp h1,zn h2]
     rfl
   · by_cases h2:y.toNat<x.toNat
     · simp only[zp h2,zn h1]
     · simp only[zn h2,zn h1]; exact ad0 a b
theorem qz:∀ a b:List UInt8,Lib.compareBytes a b=0↔a=b
 | [],[]=>by simp[Lib.compareBytes]
 | [],_::_=>by simp[Lib.compareBytes]
 | _::_,[]=>by simp[Lib.compareBytes]
 | x::a,y::b=>by
   simp only[Lib.compareBytes,UInt8.lt_iff_toNat_lt]
   by_cases h1:x.toNat<y.toNat
   · rw[zp h1]
     constructor
     · intro h; cases h
     · intro h; cases h; omega
   · rw[zn h1]
     by_cases h2:y.toNat<x.toNat
     · rw[zp h2]
       constructor
       · intro h; cases h
       · intro h; cases h; omega
     · rw[zn h2,qz a b]
       have:x=y:=UInt8.toNat_inj.1 (by omega)
       subst this
       simp
theorem adZ:∀ a b:List UInt8,Lib.compareBytes a b = -1∨Lib.compareBytes a b=0∨Lib.compareBytes a b=1
 | [],[]=>.inr (.inl rfl)
 | [],_::_=>.inl rfl
 | _::_,[]=>.inr (.inr rfl)
 | x::a,y::b=>by
   simp only[Lib.compareBytes]
   split
   · exact .inl rfl
   · split
     · exact .inr (.inr rfl)
     · exact adZ a b
theorem xJ:∀ a b c:List UInt8,Lib.compareBytes a b≤0→Lib.compareBytes b c≤0→Lib.compareBytes a c≤0
 | [],b,[],_,_=>by simp[Lib.compareBytes]
 | [],b,_::_,_,_=>by simp[Lib.compareBytes]
 | _::_,[],_,h,_=>by simp[Lib.compareBytes] at h
 | x::a,y::b,[],_,h=>by simp[Lib.compareBytes] at h
 | x::a,y::b,z::c,h,k=>by
   simp only[Lib.compareBytes,UInt8.lt_iff_toNat_lt] at h k ⊢
   by_cases h1:x.toNat<y.toNat
   · by_cases k1:y.toNat<z.toNat
     · rw[zp (by omega)]; omega
     · rw[zn k1] at k
       by_cases k2:z.toNat<y.toNat
       · rw[zp k2] at k; omega
       · rw[zp (by omega)]; omega
   · rw[zn h1] at h
     by_cases h2:y.toNat<x.toNat
     · rw[zp h2] at h; omega
     · rw[zn h2] at h
       by_cases k1:y.toNat<z.toNat
       · rw[zp (by omega)]; omega
       · rw[zn k1] at k
         by_cases k2:z.toNat<y.toNat
         · rw[zp k2] at k; omega
         · rw[zn k2] at k
           rw[zn (by omega),zn (by omega)]
           exact xJ a b c h k
def cmpV (a b:Val):Int:=orI (cmpI a.1 b.1) (orI (cmpI a.2.1 b.2.1) (Lib.compareBytes a.2.2.1 b.2.2.1))
theorem zu (a b:Val):eqV (.agg (.cons (.int .i64) (.cons (.int .i64) (.cons .str .unit)))) a b=decide (a=b):=by
 obtain ⟨k,n,s,⟨⟩⟩:=a
 obtain ⟨k',n',s',⟨⟩⟩:=b
 simp only[eqV,Bool.and_true]
 rw[Bool.eq_iff_iff]
 simp
theorem acn {s:List UInt8}:(ga s []).2.1=(cw s).isSome:=by
 unfold ga; cases cw s<;>rfl
def cZ (v:Val):Bool:=decide ((v.1=1∧v.2.2.1=[] ∧ -2147483647≤v.2.1∧v.2.1≤2147483647)∨(v.1=2∧v.2.1=0∧(cw v.2.2.1).isSome=true∧v.2.2.1.length≤64)∨(v.1=3∧v.2.2.1=[]∧0≤v.2.1∧v.2.1≤1))
theorem uu {v:Val} (hv:v.2.2.1.length<4294967296):zco v=some (cZ v):=by
 unfold zco cZ
 simp only[ack (s:=v.2.2.1) (by omega),zb,acn,ae]
 by_cases h1:v.1=1
 · rw[zp h1]
   by_cases h2:v.2.2.1=[]
   · by_cases h3:v.2.1 ≥ -2147483647
     · simp only[h1,h2,h3]; simp<;>omega
     · simp only[h1,h2]; simp[h3]<;>omega
   · simp[h1,h2]
 rw[zn h1]
 by_cases h2:v.1=2
 · rw[zp h2]
   cases hr:(cw v.2.2.1).isSome with
   | true =>
     by_cases h3:v.2.1=0
     · simp only[h2,h3]; simp<;>omega
     · simp[h2,h3]
   | false=>by_cases h3:v.2.1=0<;>simp[h2,h3]
 rw[zn h2]
 by_cases h3:v.1=3
 · rw[zp h3]
   by_cases h4:v.2.2.1=[]
   · by_cases h5:v.2.1≥0
     · simp only[h3,h4]; simp[h5]<;>omega
     · simp only[h3,h4]; simp[h5]<;>omega
   · simp[h3,h4]
 rw[zn h3]
 simp[h1,h2,h3]
def uh (b:UInt8):Bool:=decide (b.toNat=34)||decide (b.toNat=92)
def spec (c:Int):Bool:=decide (c=34)||decide (c=92)
def cM (s:List UInt8):List UInt8:=s.flatMap fun b=>if uh b then [92,b] else [b]
theorem jP {b:UInt8}{s:List UInt8}:cM (b::s)=(if uh b then [92,b] else [b])++cM s:=by unfold cM; rw[List.flatMap_cons]
theorem acB {s t:List UInt8}:cM (s++t)=cM s++cM t:=by unfold cM; rw[List.flatMap_append]
theorem rQ:∀ (s:List UInt8),(cM s).length≤2*s.length
 | []=>by simp[cM]
 | b::s=>by
   have:=rQ s
   rw[jP,List.length_append,zl]
   split<;>simp<;>omega
theorem ot:∀ (s:List UInt8),(∀ b∈s,128≤b.toNat)→cM s=s
 | [],_=>rfl
 | b::s,h=>by
   have h1:=h b (List.mem_cons_self ..)
   have:uh b=false:=by
     simp only[uh,Bool.or_eq_false_iff,decide_eq_false_iff_not]; omega
   rw[jP,this,ot s (fun x hx=>h x (List.mem_cons_of_mem _ hx))]; rfl
theorem ab9 {a:UInt8}:spec (a.toNat:Int)=uh a:=by
 unfold spec uh
 have h1:decide ((a.toNat:Int)=34)=decide (a.toNat=34):=by rw[decide_eq_decide]; omega
 have h3:decide ((a.toNat:Int)=92)=decide (a.toNat=92):=by rw[decide_eq_decide]; omega
 rw[h1,h3]
theorem yK {s:List UInt8} (h0:(aK s).2≠0):cM s=(if spec (aK s).1 then [92] else [])++encN (aK s).1.toNat++cM (s.drop (aK s).2):=by
 have hi:=js s
 have hv:=vp h0
 have hq:cM s=cM (s.take (aK s).2)++cM (s.drop (aK s).2):=by rw[← acB,List.take_append_drop]
 rw[hq]
 congr 1
 by_cases hc:(aK s).1.toNat<128
 · have hb:encN (aK s).1.toNat=[UInt8.ofNat (aK s).1.toNat]:=by unfold encN; rw[zp hc]
   have ht:(UInt8.ofNat (aK s).1.toNat).toNat=(aK s).1.toNat:=UInt8.toNat_ofNat_of_lt' (by show _<256; omega)
   rw[hv,hb]
   generalize hbb:UInt8.ofNat (aK s).1.toNat=b at ht ⊢
   have hcb:(aK s).1=(b.toNat:Int):=by omega
   rw[hcb,ab9,jP]
   have hnil:cM []=[]:=rfl
   rw[hnil,List.append_nil]
   cases uh b<;>rfl
 · have hsp : spec (aK s).1 = false := by
     simp only[spec,Bool.or_eq_false_iff,decide_eq_false_iff_not]; omega
   rw[ot _ (by rw[hv]; exact af8 (by omega) (by omega)),hsp,hv]; rfl
theorem lw {c:Int}{v:Bool×Unit×Unit}{w:List Int} (hc:anM c) (hw:w.length<4294967000):∃ n,za2 c v w=some ((n,false,()),(true,(),()),w++bI (encN c.toNat),()):=by
 unfold za2
 have h:za3 v w=some ((),(true,(),()),w,()):=by
   obtain ⟨b,_,_⟩:=v
   unfold za3
   cases b<;>rfl
 rw[h]
 simp only[zb,agm hc hw]
 exact ⟨_,rfl⟩
theorem awp:bI [92]=[92]:=rfl
theorem awq:bI [34]=[34]:=rfl
theorem yL {s:List UInt8} (hs:s.length<1000000):∀ (k i:Nat) (out:List UInt8) (b:Bool) (l:List Int),s.length-i≤k→i≤s.length→out.length≤5*i+1→cw (s.drop i)=some l →
   aI (nK s) (bI out,(b,(),()),i,())=some (out++cM (s.drop i)++[34]):=by
 intro k
 have fin:∀ (i:Nat) (out:List UInt8) (b:Bool),¬ i<s.length→out.length≤5*s.length+1→aI (nK s) (bI out,(b,(),()),i,())=some (out++cM (s.drop i)++[34]):=by
   intro i out b hi ho
   refine aD ?_
   unfold nK
   rw[ae,zn (by simp only[]; exact hi),dz (by rw[kE]; omega)]
   simp only[zb]
   rw[← awq,← jy,pD (by rw[List.length_append]; simp only[zl,List.length_nil]; omega),List.drop_eq_nil_of_le (by omega)]
   simp[cM]
 induction k with
 | zero=>intro i out b l hk hi ho hl; exact fin i out b (by omega) (by omega)
 | succ k ih =>
   intro i out b l hk hi ho hl
   by_cases hlt:i<s.length
   · have hne:s.drop i≠[]:=fun e=>by have:=congrArg List.length e; simp at this; omega
     have hle:=xI (s.drop i)
     simp only[List.length_drop] at hle
     by_cases h0:(aK (s.drop i)).2=0
     · rw[iu hne h0] at hl; cases hl
     · rw[fM hne h0,List.drop_drop,Option.map_eq_some_iff] at hl
       obtain ⟨l',hl',rfl⟩:=hl
       have hc:=vq h0
       have hstep:=yK h0
       rw[List.drop_drop] at hstep
       have hen:=aga (n:=(aK (s.drop i)).1.toNat)
       have turn:nK s (bI out,(b,(),()),i,())=some (.inl (bI (out++((if spec (aK (s.drop i)).1 then [92] else [])++encN (aK (s.drop i)).1.toNat)),(true,(),()),i+(aK (s.drop i)).2,())):=by
         unfold nK
         rw[ae,zp (by simp only[]; exact hlt)]
         have hnat:(((aK (s.drop i)).1.toNat:Nat):Int)=(aK (s.drop i)).1:=by have:=js (s.drop i); omega
         simp only[decode_N hlt,decN,zn h0,hnat,zb]
         obtain ⟨n2,e2⟩:=lw (v:=(true,(),())) (w:=bI out++[92]) hc (by rw[List.length_append,kE]; simp only[zl,List.length_nil]; omega)
         obtain ⟨n1,e1⟩:=lw (v:=(b,(),())) (w:=bI out) hc (by rw[kE]; omega)
         have es:spec (aK (s.drop i)).1=(decide ((aK (s.drop i)).1=34)||decide ((aK (s.drop i)).1=92)):=rfl
         rw[es]
         cases h34:decide ((aK (s.drop i)).1=34) with
         | true =>
           simp only[cond_true,Bool.true_or,if_true]
           rw[dz (by rw[kE]; omega)]
           simp only[zb]
           rw[e2]
           simp only[zb]
           rw[← awp,← jy,← jy,List.append_assoc]
         | false =>
           simp only[cond_false,Bool.false_or]
           cases h92:decide ((aK (s.drop i)).1=92) with
           | true =>
             simp only[cond_true,if_true]
             rw[dz (by rw[kE]; omega)]
             simp only[zb]
             rw[e2]
             simp only[zb]
             rw[← awp,← jy,← jy,List.append_assoc]
           | false =>
             simp only[cond_false,Bool.false_eq_true,if_false,List.nil_append]
             rw[e1]
             simp only[zb]
             rw[← jy]
       rw[aH turn,ih _ _ _ l' (by omega) (by omega) ?_ hl',hstep]
       · simp only[List.append_assoc]
       · have h1:(if spec (aK (s.drop i)).1 then ([92]:List UInt8) else []).length≤1:=by split<;>simp
         have h5:((if spec (aK (s.drop i)).1 then ([92]:List UInt8) else [])++encN (aK (s.drop i)).1.toNat).length≤5*(aK (s.drop i)).2:=by
           rw[List.length_append]; omega
         rw[List.length_append]
         omega
   · exact fin i out b (by omega) (by omega)
theorem amN {s:List UInt8}{l:List Int} (hs:s.length<1000000) (hl:cw s=some l):zcp s=some ([34]++cM s++[34]):=by
 have:=yL hs s.length 0 [34] true l (by omega) (by omega) (by simp) (by simpa using hl)
 unfold zcp
 rw[dz (by simp)]
 simp only[zb,List.nil_append]
 simpa [awq] using this
def jL (v:Val):List UInt8:=if v.1=1 then Lib.itoa v.2.1 else if v.1=3 then (if v.2.1=1 then [116,114,117,101] else [102,97,108,115,101]) else [34]++cM v.2.2.1++[34]
theorem kp {v:Val} (h:cZ v=true):(∃ n:Int,v=(1,n,[],()) ∧ -2147483647≤n∧n≤2147483647)∨(∃ s l,v=(2,0,s,())∧cw s=some l∧s.length≤64)∨v=(3,0,[],())∨v=(3,1,[],()):=by
 obtain ⟨k,n,s,⟨⟩⟩:=v
 unfold cZ at h
 simp only[decide_eq_true_eq] at h
 rcases h with ⟨rfl,rfl,h1,h2⟩ | ⟨rfl,rfl,h1,h2⟩ | ⟨rfl,rfl,h1,h2⟩
 · exact .inl ⟨n,rfl,h1,h2⟩
 · cases hr:cw s with
   | none=>rw[hr] at h1; cases h1
   | some l=>exact .inr (.inl ⟨s,l,rfl,hr,h2⟩)
 · have:n=0∨n=1:=by omega
   rcases this with rfl | rfl
   · exact .inr (.inr (.inl rfl))
   · exact .inr (.inr (.inr rfl))
theorem tY {v:Val} (h:cZ v=true):zc5 v=some (jL v):=by
 rcases kp h with ⟨n,rfl,h1,h2⟩ | ⟨s,l,rfl,h1,h2⟩ | rfl | rfl
 · unfold zc5 jL
   simp only[rz (show inR n from ⟨by omega,by omega⟩)]
   rfl
 · unfold zc5 jL
   simp only[amN (by omega) h1]
   rfl
 · rfl
 · rfl
abbrev Path:=List (List UInt8)
abbrev Ent:=Path×Int×List Val×Int×Unit
abbrev Chg:=Int×Ent×Ent×Unit
theorem ad1:Cmp Lib.compareBytes where
 one a b:=by have:=adZ a b; omega
 neg a b:=ad0 a b
 zero a b:=qz a b
 trans a b d h1 h2:=by
   have h3:=xJ a b d (by omega) (by omega)
   rcases Int.lt_or_eq_of_le h3 with h | h
   · exact h
   · have e:=(qz a d).1 h
     subst e
     have:=ad0 a b
     omega
theorem mT:Cmp cmpI where
 one a b:=by
   unfold cmpI
   split
   · omega
   · split<;>omega
 neg a b:=by
   unfold cmpI
   by_cases h1:a<b
   · rw[zn (by omega),zp (by omega),zp h1]; rfl
   · by_cases h2:a>b
     · rw[zp (by omega),zn h1,zp h2]
     · rw[zn (by omega),zn (by omega),zn h1,zn h2]; rfl
 zero a b:=by
   unfold cmpI
   by_cases h1:a<b
   · rw[zp h1]; constructor<;>intro h<;>omega
   · by_cases h2:a>b
     · rw[zn h1,zp h2]; constructor<;>intro h<;>omega
     · rw[zn h1,zn h2]; constructor<;>intro h<;>omega
 trans a b d h1 h2:=by
   unfold cmpI at h1 h2 ⊢
   have e1:a<b:=by
     by_cases h:a<b
     · exact h
     · rw[zn h] at h1; split at h1<;>omega
   have e2:b<d:=by
     by_cases h:b<d
     · exact h
     · rw[zn h] at h2; split at h2<;>omega
   rw[zp (by omega)]; omega
theorem ac9:∀ a b:List UInt8,Op.bytesLess a b=decide (Lib.compareBytes a b<0)
 | [],[]=>rfl
 | _::_,[]=>rfl
 | [],_::_=>rfl
 | x::a,y::b=>by
   simp only[Op.bytesLess,Lib.compareBytes]
   by_cases h1:x<y
   · simp[h1]
   · by_cases h2:y<x
     · have h3:x≠y:=fun e=>by subst e; exact h1 h2
       simp[h1,h2,h3]
     · have h3:x=y:=UInt8.toNat_inj.1 (by rw[UInt8.lt_iff_toNat_lt] at h1 h2; omega)
       subst h3
       simp[h1,ac9 a b]
theorem rA (a b:List UInt8):zba a b=some (Lib.compareBytes a b):=by
 unfold zba zbd
 simp only[decide_true,Bool.not_true,zb,cond_false,ac9]
 have h1:=adZ a b
 have h0:=qz a b
 by_cases h2:Lib.compareBytes a b<0
 · rw[zt h2]
   simp only[cond_true]
   congr 1; omega
 · rw[zf h2]
   simp only[cond_false,Bool.false_or]
   by_cases h3:a=b
   · rw[zt h3]
     simp only[Bool.not_true,cond_false]
     rw[h0.2 h3]
   · rw[zf h3]
     simp only[Bool.not_false,cond_true]
     congr 1
     have:Lib.compareBytes a b≠0:=fun e=>h3 (h0.1 e)
     omega
def cmpP:Path→Path→Int:=cmpL Lib.compareBytes
theorem adV {x y:List UInt8}{a b:Path}:cmpP (x::a) (y::b)=if Lib.compareBytes x y=0 then cmpP a b else Lib.compareBytes x y:=by unfold cmpP; rw[cmpL]
theorem rX {a b:Path} (ha:a.length<1000000):∀ (k i:Nat),a.length-i≤k→i≤a.length→i≤b.length →
   ((aI (iM a b) ((i:Int),()):Option (Unit⊕Int)).bind (bc fun _=>cond (decide ((a.length:Int)<(b.length:Int))) (some (-1)) (some 0)))=some (cmpP (a.drop i) (b.drop i)):=by
 intro k
 have fin:∀ i:Nat,i=a.length→i≤b.length→((aI (iM a b) ((i:Int),()):Option (Unit⊕Int)).bind (bc fun _=>cond (decide ((a.length:Int)<(b.length:Int))) (some (-1)) (some 0)))=some (cmpP (a.drop i) (b.drop i)):=by
   intro i hi h2
   have hl:aI (iM a b) ((i:Int),())=some (.inl ()):=by
     refine aD ?_
     unfold iM
     simp only[ae]
     rw[zn (by omega)]
   rw[hl,ay,List.drop_eq_nil_of_le (by omega:a.length≤i)]
   rw[ae]
   by_cases h5:i<b.length
   · rw[List.drop_eq_getElem_cons h5,zp (by omega)]; rfl
   · rw[List.drop_eq_nil_of_le (by omega),zn (by omega)]; rfl
 induction k with
 | zero=>intro i hk h1 h2; exact fin i (by omega) h2
 | succ k ih =>
   intro i hk h1 h2
   by_cases h3:i<a.length
   · rw[List.drop_eq_getElem_cons h3]
     by_cases h4:i<b.length
     · rw[List.drop_eq_getElem_cons h4,adV]
       have turn:iM a b ((i:Int),())=if Lib.compareBytes a[i] b[i]=0 then some (.inl (((i+1:Nat):Int),())) else some (.inr (.inr (Lib.compareBytes a[i] b[i]))):=by
         unfold iM
         simp only[ae]
         rw[zp (by omega),aN h3]
         simp only[zb]
         rw[zn (by omega),aN h4]
         simp only[zb,rA]
         by_cases hz:Lib.compareBytes a[i] b[i]=0
         · rw[zt hz,zp hz]
           simp only[Bool.not_true,cond_false]
           rw[wrap64 (by omega) (by omega)]; rfl
         · rw[zf hz,zn hz]
           simp only[Bool.not_false,cond_true]
       by_cases hz:Lib.compareBytes a[i] b[i]=0
       · rw[zp hz] at turn ⊢
         rw[aH turn]
         exact ih (i+1) (by omega) (by omega) (by omega)
       · rw[zn hz] at turn ⊢
         rw[aD turn,b7]
     · have hl : aI (iM a b) ((i : Int), ()) = some (.inr 1) := by
         refine aD ?_
         unfold iM
         simp only[ae]
         rw[zp (by omega),aN h3]
         simp only[zb]
         rw[zp (by omega)]
       rw[hl,b7,List.drop_eq_nil_of_le (by omega:b.length≤i)]; rfl
   · exact fin i (by omega) h2
theorem iY {a b:Path} (ha:a.length<1000000):zbt a b=some (cmpP a b):=by
 have:=rX (b:=b) ha a.length 0 (by omega) (by omega) (by omega)
 simp only[List.drop_zero] at this
 rw[show (((0:Nat):Int))=0 from rfl] at this
 unfold zbt zaw
 rw[this]; rfl
def keyE (e:Ent):Path×Int:=(e.1,e.2.1)
def cmpK:Path×Int→Path×Int→Int:=cmpB cmpP cmpI
theorem il:Cmp cmpK:=(Cmp.list ad1).pair mT
theorem eK {a b:Ent} (ha:a.1.length<1000000):zbk a b=some (cmpK (keyE a) (keyE b)):=by
 unfold zbk
 simp only[iY ha,jr,or_t,zb]
 rfl
def mayM (c:Int):Bool:=decide (32≤c∧(c<127∨159<c)∧c≠65533)
theorem aft (c:Int):zdj c=some (mayM c):=by
 unfold zdj mayM
 simp only[ae]
 by_cases h1:c≥32
 · rw[zp h1]
   by_cases h2:c<127
   · rw[zp h2,zf (by omega:¬ c=65533),zt (by omega)]; rfl
   · rw[zn h2]
     by_cases h3:c>159
     · rw[zp h3]
       by_cases h4:c=65533
       · rw[zt h4,zf (by omega)]; rfl
       · rw[zf h4,zt (by omega)]; rfl
     · rw[zn h3,zf (by omega)]
 · rw[zn h1,zf (by omega)]
theorem acl:∀ {s:List UInt8}{l:List Int},cw s=some l→l.length≤s.length:=by
 have key:∀ (n:Nat) (s:List UInt8) (l:List Int),s.length≤n→cw s=some l→l.length≤s.length:=by
   intro n
   induction n with
   | zero =>
     intro s l hn h
     have:s=[]:=List.eq_nil_of_length_eq_zero (by omega)
     subst this
     rw[gM] at h; cases h; simp
   | succ n ih =>
     intro s l hn h
     by_cases hs:s=[]
     · subst hs
       rw[gM] at h; cases h; simp
     · have hl:s.length≠0:=fun e=>hs (List.eq_nil_of_length_eq_zero e)
       by_cases h0:(aK s).2=0
       · rw[iu hs h0] at h; cases h
       · rw[fM hs h0,Option.map_eq_some_iff] at h
         obtain ⟨l',hl',rfl⟩:=h
         have:=ih _ l' (by rw[List.length_drop]; omega) hl'
         rw[List.length_drop] at this
         simp only[zl]; omega
 intro s l h
 exact key s.length s l (Nat.le_refl _) h
def uL (s:List UInt8):Bool:=match cw s with
 | some l=>decide (1≤l.length∧l.length≤24)&&l.all mayM
 | none=>false
theorem nq {s:List UInt8} (hs:s.length<1000000):zcc s=some (uL s):=by
 unfold zcc uL
 rw[ack (by omega)]
 simp only[zb]
 have gen:∀ (l:List Int) (ok:Bool),l.length<1000000→aI (qL (l,ok,())) ((0:Int),())=some (if l.all mayM=true then .inl () else .inr false):=by
   intro l ok hl
   have:=jd (f:=qL (l,ok,())) (l:=l) (fun i=>((i:Int),())) mayM (.inl ()) (.inr false) (fun i h=>by
     unfold qL
     simp only[ae]
     rw[zp (by omega),aN h]
     simp only[zb,aft]
     cases mayM l[i] with
     | true=>simp only[Bool.not_true,cond_false,if_true]; rw[wrap64 (by omega) (by omega)]; rfl
     | false=>rfl) (by
     unfold qL
     simp only[ae]
     rw[zn (by omega)])
   exact this
 cases hr:cw s with
 | none =>
   have e:ga s []=([],false,()):=by unfold ga; rw[hr]
   rw[e,gen [] false (by simp)]
   rfl
 | some l =>
   have e:ga s []=(l,true,()):=by unfold ga; rw[hr]; rfl
   have hl:l.length≤s.length:=acl hr
   rw[e,gen l true (by omega)]
   cases hm:l.all mayM with
   | false =>
     simp only[Bool.false_eq_true,if_false,b7,hm,Bool.and_false]
   | true =>
     simp only[if_true,ay,cond_true,hm,Bool.and_true,ae]
     by_cases h1:(l.length:Int)≥1
     · rw[zp h1]
       congr 1
       rw[decide_eq_decide]; omega
     · rw[zn h1,zf (by omega)]
def fF (p:Path):Int:=if p.length=0 then 8 else if p.length>8 then 9 else if p.all uL=true then 0 else 8
theorem yI {p:Path} (hs:∀ x∈p,x.length<1000000):zcb p=some (fF p):=by
 unfold zcb fF
 simp only[ae]
 by_cases h1:(p.length:Int)=0
 · rw[zp h1,zp (show p.length=0 by omega)]
 rw[zn h1,zn (show ¬ p.length=0 by omega)]
 by_cases h2:(p.length:Int)>8
 · rw[zp h2,zp (show p.length>8 by omega)]
 rw[zn h2,zn (show ¬ p.length>8 by omega)]
 have:=jd (f:=wh p) (l:=p) (fun i=>((i:Int),())) uL (0:Int) 8 (fun i h=>by
   unfold wh
   simp only[ae]
   rw[zp (by omega),aN h]
   simp only[zb,nq (hs _ (zm h))]
   cases uL p[i] with
   | true=>simp only[Bool.not_true,cond_false,if_true]; rw[wrap64 (by omega) (by omega)]; rfl
   | false=>rfl) (by
   unfold wh
   simp only[ae]
   rw[zn (by omega)])
 exact this
instance decE1:DecidableEq (List Val×Int×Unit):=fun a b => @instDecidableEqProd (List Val) (Int×Unit) inferInstance inferInstance a b
instance decE2:DecidableEq (Int×List Val×Int×Unit):=fun a b => @instDecidableEqProd Int (List Val×Int×Unit) inferInstance decE1 a b
instance decE:DecidableEq Ent:=fun a b => @instDecidableEqProd Path (Int×List Val×Int×Unit) inferInstance decE2 a b
instance decC1:DecidableEq (Ent×Unit):=fun a b => @instDecidableEqProd Ent Unit decE inferInstance a b
instance decC2:DecidableEq (Ent×Ent×Unit):=fun a b => @instDecidableEqProd Ent (Ent×Unit) decE decC1 a b
instance decC:DecidableEq Chg:=fun a b => @instDecidableEqProd Int (Ent×Ent×Unit) inferInstance decC2 a b
theorem ans {p:Prop} [Decidable p]:(if decide p=true then true else false)=decide p:=by cases decide p<;>rfl
theorem ite_bool {b:Bool}:(if b=true then true else false)=b:=by cases b<;>rfl
theorem wN {a b:Path} (ha:a.length<1000000):zaz a b=some (decide (a=b)):=by
 unfold zaz
 by_cases hl:a.length=b.length
 · rw[zt (by omega)]
   simp only[Bool.not_true,cond_false]
   have:=gv (f:=wA a b) (l:=a) (m:=b) (fun i=>((i:Int),())) (fun x y=>decide (x=y)) true false hl (fun i h h'=>by
     unfold wA
     simp only[ae]
     rw[zp (by omega),aN h,aN h']
     simp only[zb]
     cases decide (a[i]=b[i]) with
     | true=>simp only[Bool.not_true,cond_false,if_true]; rw[wrap64 (by omega) (by omega)]; rfl
     | false=>rfl) (by
     unfold wA
     simp only[ae]
     rw[zn (by omega)])
   rw[gY,ite_bool] at this
   exact this
 · rw[zf (by omega)]
   have:a≠b:=fun e=>hl (by rw[e])
   rw[zf this]; rfl
theorem lY {a b:Path} (ha:a.length<1000000):zcs a b=some (decide (a=b)):=by
 unfold zcs
 by_cases hl:a.length=b.length
 · rw[zt (by omega)]
   simp only[Bool.not_true,cond_false]
   have:=gv (f:=vV a b) (l:=a) (m:=b) (fun i=>((i:Int),())) (fun x y=>decide (x=y)) true false hl (fun i h h'=>by
     unfold vV
     simp only[ae]
     rw[zp (by omega),aN h,aN h']
     simp only[zb]
     cases decide (a[i]=b[i]) with
     | true=>simp only[Bool.not_true,cond_false,if_true]; rw[wrap64 (by omega) (by omega)]; rfl
     | false=>rfl) (by
     unfold vV
     simp only[ae]
     rw[zn (by omega)])
   rw[gY,ite_bool] at this
   exact this
 · rw[zf (by omega)]
   have:a≠b:=fun e=>hl (by rw[e])
   rw[zf this]; rfl
theorem afc {a b:List Val} (ha:a.length<1000000):zas a b=some (decide (a=b)):=by
 unfold zas
 by_cases hl:a.length=b.length
 · rw[zt (by omega)]
   simp only[Bool.not_true,cond_false]
   have:=gv (f:=wB a b) (l:=a) (m:=b) (fun i=>((i:Int),())) (fun x y=>decide (x=y)) true false hl (fun i h h'=>by
     unfold wB
     simp only[ae]
     rw[zp (by omega),aN h,aN h']
     simp only[zb,zu]
     cases decide (a[i]=b[i]) with
     | true=>simp only[Bool.not_true,cond_false,if_true]; rw[wrap64 (by omega) (by omega)]; rfl
     | false=>rfl) (by
     unfold wB
     simp only[ae]
     rw[zn (by omega)])
   rw[gY,ite_bool] at this
   exact this
 · rw[zf (by omega)]
   have:a≠b:=fun e=>hl (by rw[e])
   rw[zf this]; rfl
def lowE (e:Ent):Prop:=e.1.length<1000000∧e.2.2.1.length<1000000
theorem oy {a b:Path} (ha:a.length<1000000):zdl a b=some (decide (a=b)):=by
 unfold zdl
 rw[wN ha]; rfl
theorem yl {a b:Ent} (ha:lowE a):zdq a b=some (decide (a=b)):=by
 obtain ⟨p,k,l,n,⟨⟩⟩:=a
 obtain ⟨p',k',l',n',⟨⟩⟩:=b
 unfold zdq
 simp only[oy ha.1,afc ha.2,zb,ae]
 by_cases h1:k=k'
 · rw[zp h1]
   simp only[zb]
   by_cases h2:n=n'
   · by_cases h3:p=p'
     · by_cases h4:l=l'
       · simp[h1,h2,h3,h4]
       · simp[h1,h2,h3,h4]
     · simp[h1,h2,h3]
   · simp[h1,h2]
 · rw[zn h1]
   simp[h1]
theorem tj {a b:Ent} (ha:lowE a):zb4 a b=some (decide (a=b)):=by
 unfold zb4 zdi zaa
 simp only[zl,List.length_nil,decide_true,Bool.not_true,cond_false]
 have:=gv (f:=wF [a] [b]) (l:=[a]) (m:=[b]) (fun i=>((i:Int),())) (fun x y=>decide (x=y)) true false rfl (fun i h h'=>by
   have hi:i=0:=by simpa using h
   subst hi
   unfold wF
   simp only[ae]
   rw[zp (by simp),aN h,aN h']
   simp only[zb,List.getElem_cons_zero,yl ha]
   by_cases hab:a=b
   · simp only[zt hab,Bool.not_true,cond_false,if_true]; rw[wrap64 (by omega) (by omega)]; rfl
   · simp only[zf hab,Bool.not_false,cond_true,Bool.false_eq_true,if_false]) (by
   unfold wF
   simp only[ae]
   rw[zn (by simp)])
 rw[gY,ite_bool] at this
 rw[show (0:Int)=((0:Nat):Int) from rfl,this]
 simp
theorem gW {e:Ent} (h:lowE e):zbu e=some e:=by
 unfold zbu za0 zar fE
 have h1:e.1.length<most:=by unfold most; have:=h.1; omega
 have h2:e.2.2.1.length<most:=by unfold most; have:=h.2; omega
 rw[zp h1,zp h2]
 rfl
def oe (e:Ent):Prop:=e.1.length≤12∧(∀ x∈e.1,x.length≤120)∧e.2.2.1.length≤400∧∀ v∈e.2.2.1,cZ v=true
theorem wQ {p:Path}:zcq p=some (decide (p.length≤12)&&p.all fun x=>decide (x.length≤120)):=by
 unfold zcq
 simp only[ae]
 by_cases h1:(p.length:Int)>12
 · rw[zp h1,zf (by omega)]; rfl
 rw[zn h1,zt (by omega),Bool.true_and]
 have:=jd (f:=vX p) (l:=p) (fun i=>((i:Int),())) (fun x=>decide (x.length≤120)) true false (fun i h=>by
   unfold vX
   simp only[ae]
   rw[zp (by omega),aN h]
   simp only[zb]
   by_cases h2:(p[i].length:Int)>120
   · rw[zp h2,zn (by simp; omega)]
   · rw[zn h2,zp (by simp; omega),wrap64 (by omega) (by omega)]; rfl) (by
   unfold vX
   simp only[ae]
   rw[zn (by omega)])
 rw[ite_bool] at this
 exact this
def anO:Ent:=([],0,[],0,())
def ui (x y:Ent):Bool:=decide (x=y)
def uW (x:Ent):Chg:=(2,x,anO,())
def uN (y:Ent):Chg:=(1,anO,y,())
def kM (x y:Ent):Chg:=(3,x,y,())
def j0 (c:Chg):Ent:=if c.1=1 then c.2.2.1 else c.2.1
def dM:List Ent→List Ent→List Chg:=gh cmpK keyE ui uW uN kM
theorem awk:∀ (n:Nat) (a b:List Ent),a.length+b.length≤n→(dM a b).length≤a.length+b.length:=by
 intro n
 induction n with
 | zero =>
   intro a b h
   have e1:a=[]:=List.eq_nil_of_length_eq_zero (by omega)
   have e2:b=[]:=List.eq_nil_of_length_eq_zero (by omega)
   subst e1; subst e2
   simp[dM,gh]
 | succ n ih =>
   intro a b h
   match a,b,h with
   | [],b,h=>simp[dM,gh]
   | x::a,[],h=>simp[dM,gh]
   | x::a,y::b,h =>
     simp only[zl] at h
     have i1:=ih a (y::b) (by simp only[zl]; omega)
     have i2:=ih (x::a) b (by simp only[zl]; omega)
     have i3:=ih a b (by omega)
     simp only[zl] at i1 i2
     unfold dM at i1 i2 i3 ⊢
     rw[gh.eq_def]
     simp only
     split
     · simp only[zl]; omega
     · split
       · simp only[zl]; omega
       · rw[List.length_append]
         have:(if ui x y=true then [] else [kM x y]).length≤1:=by split<;>simp
         simp only[zl]; omega
theorem sub1 {A:Type}{x:A}{l:List A}:subI (x::l) 1 ((x::l).length:Int)=some l:=by
 have:=ep (l:=x::l) (i:=1) (by simp)
 simpa using this
theorem at0 {A:Type}{x:A}{l:List A}:atI (x::l) 0=some x:=by
 have:=iG (l:=x::l) (i:=0)
 simpa using this
theorem adP:∀ (n:Nat) (a b:List Ent) (o:List Chg),a.length+b.length≤n→a.length+b.length+o.length<1000000→(∀ e∈a,lowE e)→(∀ e∈b,lowE e)→aI iL (a,b,o,())=some (o++dM a b):=by
 intro n
 induction n with
 | zero =>
   intro a b o h _ _ _
   have e1:a=[]:=List.eq_nil_of_length_eq_zero (by omega)
   have e2:b=[]:=List.eq_nil_of_length_eq_zero (by omega)
   subst e1; subst e2
   refine aD ?_
   unfold iL
   simp[dM,gh]
 | succ n ih =>
   intro a b o h hb la lb
   match a,b,h,hb,la,lb with
   | [],[],h,hb,la,lb =>
     refine aD ?_
     unfold iL
     simp[dM,gh]
   | [],y::b,h,hb,la,lb =>
     simp only[zl,List.length_nil] at h hb
     rw[aH (b:=([],b,o++[uN y],())),ih [] b _ (by simp<;>omega) (by simp<;>omega) (fun e he=>by cases he) (fun e he=>lb e (List.mem_cons_of_mem _ he))]
     · simp[dM,gh]
     · unfold iL
       simp only[ae]
       rw[zn (by simp),zp (by simp<;>omega),ay]
       simp only[]
       rw[zn (by simp<;>omega),zn (by simp),ay]
       simp only[]
       rw[zn (by omega),zp (by omega),at0]
       simp only[zb,gW (lb y (List.mem_cons_self ..))]
       rw[aU (by simp<;>omega)]
       simp only[zb]
       rw[sub1]
       rfl
   | x::a,[],h,hb,la,lb =>
     simp only[zl,List.length_nil] at h hb
     rw[aH (b:=(a,[],o++[uW x],())),ih a [] _ (by simp<;>omega) (by simp<;>omega) (fun e he=>la e (List.mem_cons_of_mem _ he)) (fun e he=>by cases he)]
     · cases a<;>simp[dM,gh]
     · unfold iL
       simp only[ae]
       rw[zp (by simp<;>omega),ay]
       simp only[]
       rw[zp (by simp),ay]
       simp only[]
       rw[zp (by omega),at0]
       simp only[zb,gW (la x (List.mem_cons_self ..))]
       rw[aU (by simp<;>omega)]
       simp only[zb]
       rw[sub1]
       rfl
   | x::a,y::b,h,hb,la,lb =>
     simp only[zl] at h hb
     have lx:=la x (List.mem_cons_self ..)
     have ly:=lb y (List.mem_cons_self ..)
     have la':∀ e∈a,lowE e:=fun e he=>la e (List.mem_cons_of_mem _ he)
     have lb':∀ e∈b,lowE e:=fun e he=>lb e (List.mem_cons_of_mem _ he)
     have hd:dM (x::a) (y::b)=if cmpK (keyE x) (keyE y)<0 then uW x::dM a (y::b) else if cmpK (keyE x) (keyE y)>0 then uN y::dM (x::a) b else (if ui x y then [] else [kM x y])++dM a b:=by
       unfold dM
       rw[gh.eq_def]
     rw[hd]
     by_cases h1:cmpK (keyE x) (keyE y)<0
     · rw[zp h1,aH (b:=(a,y::b,o++[uW x],())),ih a (y::b) _ (by simp only[zl]; omega) (by simp<;>omega) la' lb]
       · simp
       · unfold iL
         simp only[ae]
         rw[zp (by simp<;>omega),ay]
         simp only[]
         rw[zn (by simp<;>omega),zp (by simp<;>omega),at0,at0]
         simp only[zb,eK lx.1,bc]
         rw[zp h1]
         simp only[zb,gW lx]
         rw[aU (by simp<;>omega)]
         simp only[zb]
         rw[sub1]
         rfl
     · rw[zn h1]
       by_cases h2:cmpK (keyE x) (keyE y)>0
       · rw[zp h2,aH (b:=(x::a,b,o++[uN y],())),ih (x::a) b _ (by simp only[zl]; omega) (by simp<;>omega) la lb']
         · simp
         · unfold iL
           simp only[ae]
           rw[zp (by simp<;>omega),ay]
           simp only[]
           rw[zn (by simp<;>omega),zp (by simp<;>omega),at0,at0]
           simp only[zb,eK lx.1,bc]
           rw[zn h1,zp h2]
           simp only[zb,gW ly]
           rw[aU (by simp<;>omega)]
           simp only[zb]
           rw[sub1]
           rfl
       · rw [zn h2, aH (b := (a, b, o ++ (if ui x y then [] else [kM x y]), ())), ih a b _ (by omega) (by
           rw[List.length_append]
           have:(if ui x y=true then [] else [kM x y]).length≤1:=by split<;>simp
           omega) la' lb']
         · simp
         · unfold iL
           simp only[ae]
           rw[zp (by simp<;>omega),ay]
           simp only[]
           rw[zn (by simp<;>omega),zp (by simp<;>omega),at0,at0]
           simp only[zb,eK lx.1,bc]
           rw[zn h1,zn h2]
           simp only[zb,tj lx,gW lx,gW ly]
           unfold ui
           by_cases hxy:x=y
           · simp only[zt hxy,Bool.not_true,cond_false,if_true,List.append_nil]
             rw[ay,sub1,sub1]
             rfl
           · simp only[zf hxy,Bool.not_false,cond_true,Bool.false_eq_true,if_false]
             rw[aU (by simp<;>omega)]
             simp only[zb,bc]
             rw[sub1,sub1]
             rfl
theorem awh {a b:List Ent} (h:a.length+b.length<1000000) (la:∀ e∈a,lowE e) (lb:∀ e∈b,lowE e):zb1 a b=some (dM a b):=by
 have:=adP _ a b [] (Nat.le_refl _) (by simpa using h) la lb
 simpa [zb1] using this
def ayH (e:Ent):Prop:=lowE e∧∀ x∈e.1,x.length<1000000
theorem cm {R X S:Type}{g:S→X→S}{fin:S→R}:∀ (l:List X) (i:Nat) (s:S),fB (fun _ x s=>.inl (g s x)) fin i l s=fin (l.foldl g s)
 | [],_,s=>rfl
 | x::l,i,s=>by simp only[fB,List.foldl_cons]; exact cm l (i+1) (g s x)
theorem wL {sep:List UInt8}{m:Nat}:∀ {l:List (List UInt8)},(∀ x∈l,x.length≤m)→(Lib.joinTail sep l).length≤l.length*(sep.length+m)
 | [],_=>by simp[Lib.joinTail]
 | x::l,h=>by
   have h1:=h x (List.mem_cons_self ..)
   have h2:=wL (sep:=sep) (l:=l) (fun y hy=>h y (List.mem_cons_of_mem _ hy))
   have e:Lib.joinTail sep (x::l)=sep++x++Lib.joinTail sep l:=by simp[Lib.joinTail]
   rw[e]
   simp only[List.length_append,zl,Nat.succ_mul]
   omega
theorem qd {sep:List UInt8}{m:Nat}{l:List (List UInt8)} (h:∀ x∈l,x.length≤m):(Lib.join l sep).length≤l.length*(sep.length+m):=by
 cases l with
 | nil=>simp[Lib.join_nil]
 | cons x l =>
   have h1:=h x (List.mem_cons_self ..)
   have h2:=wL (sep:=sep) (l:=l) (fun y hy=>h y (List.mem_cons_of_mem _ hy))
   rw[Lib.join_cons]
   simp only[List.length_append,zl,Nat.succ_mul]
   omega
def eT (s:List UInt8):List UInt8:=s.flatMap fun b=>if b.toNat=47∨b.toNat=92 then [92,b] else [b]
theorem acf {s:List UInt8}:(eT s).length≤2*s.length:=by
 induction s with
 | nil=>simp[eT]
 | cons b s ih =>
   unfold eT at ih ⊢
   rw[List.flatMap_cons,List.length_append,zl]
   have:(if b.toNat=47∨b.toNat=92 then [92,b] else [b]).length≤2:=by split<;>simp
   omega
theorem uK {s:List UInt8} (hs:s.length<1000000):zcz s=some (eT s):=by
 have key:∀ (k i:Nat) (b:Bool) (o:List UInt8),s.length-i≤k→i≤s.length→o.length≤2*i→aI (nJ s) ((i:Int),bI o,(b,(),()),())=some (o++eT (s.drop i)):=by
   intro k
   have fin:∀ (i:Nat) (b:Bool) (o:List UInt8),i=s.length→o.length≤2*i→aI (nJ s) ((i:Int),bI o,(b,(),()),())=some (o++eT (s.drop i)):=by
     intro i b o hi ho
     refine aD ?_
     unfold nJ
     simp only[ae]
     rw[zn (by omega),pD (by omega),List.drop_eq_nil_of_le (by omega)]
     simp[eT]
   induction k with
   | zero=>intro i b o hk hi ho; exact fin i b o (by omega) ho
   | succ k ih =>
     intro i b o hk hi ho
     by_cases hlt:i<s.length
     · have hl:∀ o:List UInt8,(bI o).length=o.length:=fun o=>kE
       have tail:∀ (b:Bool) (o:List UInt8),o.length≤2*i+1→((za4 ((s[i].toNat:Nat):Int) (b,(),()) (bI o)).bind fun q7=>(some (.inl ((IntKind.wrap .i64 ((i:Int)+1)),q7.2.2.1,q7.2.1,())):Option ((Int×List Int×(Bool×Unit×Unit)×Unit)⊕List UInt8)))=some (.inl (((i+1:Nat):Int),bI (o++[s[i]]),(true,(),()),())):=by
         intro b o ho
         rw[dz (by rw[hl]; omega),wrap64 (by omega) (by omega)]
         simp only[zb,jy]
         rfl
       have w92:∀ (b:Bool),za4 92 (b,(),()) (bI o)=some (false,(true,(),()),bI (o++[92]),()):=by
         intro b
         rw[dz (by rw[hl]; omega),jy]
         rfl
       have hd:eT (s.drop i)=(if s[i].toNat=47∨s[i].toNat=92 then [92,s[i]] else [s[i]])++eT (s.drop (i+1)):=by
         rw[List.drop_eq_getElem_cons hlt]
         unfold eT
         rw[List.flatMap_cons]
       have turn:nJ s ((i:Int),bI o,(b,(),()),())=some (.inl (((i+1:Nat):Int),bI (o++(if s[i].toNat=47∨s[i].toNat=92 then [92,s[i]] else [s[i]])),(true,(),()),())):=by
         unfold nJ
         simp only[ae]
         rw[zp (by omega),aN hlt]
         simp only[zb]
         by_cases h1:s[i].toNat=47
         · rw[zp (by omega),w92]
           simp only[zb,bc]
           rw[tail _ _ (by simp<;>omega),zp (.inl h1),List.append_assoc]
           rfl
         · rw[zn (by omega)]
           by_cases h2:s[i].toNat=92
           · rw[zp (by omega),w92]
             simp only[zb,bc]
             rw[tail _ _ (by simp<;>omega),zp (.inr h2),List.append_assoc]
             rfl
           · rw[zn (by omega)]
             simp only[zb,bc]
             rw[tail _ _ (by omega),zn (by omega)]
       rw[aH turn,ih (i+1) true _ (by omega) (by omega) (by
         rw[List.length_append]
         have:(if s[i].toNat=47∨s[i].toNat=92 then [92,s[i]] else [s[i]]).length≤2:=by split<;>simp
         omega),hd,List.append_assoc]
     · exact fin i b o (by omega) ho
 have:=key s.length 0 false [] (by omega) (by omega) (by simp)
 simpa [zcz,bI] using this
def uB (p:Path):List UInt8:=Lib.join (p.map eT) [47]
theorem agV {l:List (List UInt8)}{sep:List UInt8}{m:Nat} (hl:l.length≤1000) (hs:sep.length≤1000) (hm:m≤1000000) (h:∀ x∈l,x.length≤m):zby l sep=some (Lib.join l sep):=by
 unfold zby afT
 have:=qd (sep:=sep) h
 have h2:l.length*(sep.length+m)≤1000*1001000:=Nat.mul_le_mul hl (by omega)
 rw[zp ⟨by omega,by omega⟩]
theorem kj {p:Path} (h:∀ x∈p,x.length≤120):∀ x∈p.map eT,x.length≤240:=by
 intro x hx
 rw[List.mem_map] at hx
 obtain ⟨y,hy,rfl⟩:=hx
 have:=h y hy
 have:=acf (s:=y)
 omega
theorem rW {p:Path} (h1:p.length≤12) (h:∀ x∈p,x.length≤120):(uB p).length≤3000:=by
 have:=qd (sep:=[47]) (kj h)
 rw[List.length_map] at this
 have h2:p.length*(([47]:List UInt8).length+240)≤12*241:=Nat.mul_le_mul h1 (by simp)
 unfold uB
 omega
theorem yR {p:Path} (h1:p.length≤12) (h:∀ x∈p,x.length≤120):zde p=some (uB p):=by
 have:=bE (f:=vP p) (l:=p) (S:=List (List UInt8)) (fun i o=>((i:Int),o,())) (fun i x o=>.inl (o++[eT x])) (fun _=>uB p) (fun i o=>o=(p.take i).map eT) (fun i hi o ho=>.inl ⟨_,rfl,by
   unfold vP
   simp only[ae]
   have hq:=h _ (zm hi)
   rw[zp (by omega),aN hi]
   simp only[zb,uK (show p[i].length<1000000 by omega)]
   rw[aU (by rw[ho]; simp; omega),wrap64 (by omega) (by omega)]
   rfl,by
   rw[ho,List.take_add_one,List.map_append,zg hi]
   rfl⟩) (fun o ho=>by
   unfold vP
   simp only[ae]
   rw[List.take_length] at ho
   subst ho
   rw[zn (by omega),agV (m:=240) (by simp; omega) (by simp) (by omega) (kj h)]
   rfl) [] (by simp)
 rw[cm] at this
 exact this
def yn (l:List Val):List UInt8:=Lib.join (l.map jL) [32]
def uP (e:Ent):List UInt8 :=
 if e.2.1=1 then uB e.1++[32,61,32]++yn e.2.2.1 else if e.2.1=2 then uB e.1++[32,58,32]++yn e.2.2.1 else uB e.1++[32,35,32]++Lib.itoa e.2.2.2.1
theorem ab6 {v:Val} (h:cZ v=true):(jL v).length≤1000:=by
 rcases kp h with ⟨n,rfl,g1,g2⟩ | ⟨s,l,rfl,g1,g2⟩ | rfl | rfl
 · have:=xe (n:=n) (by omega) (by omega)
   show (Lib.itoa n).length≤1000
   omega
 · have:=rQ s
   show ([34]++cM s++[34]).length≤1000
   simp only[List.length_append,zl,List.length_nil]; omega
 · decide
 · decide
theorem wH {l:List Val} (h:∀ v∈l,cZ v=true):∀ x∈l.map jL,x.length≤1000:=by
 intro x hx
 rw[List.mem_map] at hx
 obtain ⟨v,hv,rfl⟩:=hx
 exact ab6 (h v hv)
theorem rk {l:List Val} (hl:l.length≤400) (h:∀ v∈l,cZ v=true):(yn l).length≤500000:=by
 have:=qd (sep:=[32]) (wH h)
 rw[List.length_map] at this
 have h2:l.length*(([32]:List UInt8).length+1000)≤400*1001:=Nat.mul_le_mul hl (by simp)
 unfold yn
 omega
theorem ss {n:Int} (h:inR n):(Lib.itoa n).length≤21:=xe h.1 h.2
theorem jg {e:Ent} (h:oe e) (hn:inR e.2.2.2.1):(uP e).length≤600000:=by
 have h1:=rW h.1 h.2.1
 have h2:=rk h.2.2.1 h.2.2.2
 have h3:=ss hn
 unfold uP
 split
 · simp only[List.length_append,zl,List.length_nil]; omega
 · split<;>simp only[List.length_append,zl,List.length_nil]<;>omega
theorem nT {e:Ent} (h:oe e) (hn:inR e.2.2.2.1):zdf e=some (uP e):=by
 have l1:=bE (f:=vO e) (l:=e.2.2.1) (S:=List (List UInt8)) (fun i o=>((i:Int),o,())) (fun i x o=>.inl (o++[jL x])) (fun o=>(.inl (o,()):(List (List UInt8)×Unit)⊕List UInt8)) (fun i o=>o.length≤i) (fun i hi o ho=>.inl ⟨_,rfl,by
   unfold vO
   simp only[ae]
   have hv:=h.2.2.2 _ (zm hi)
   have hl:=h.2.2.1
   rw[zp (by omega),aN hi]
   simp only[zb,tY hv]
   rw[aU (by simp; omega),wrap64 (by omega) (by omega)]
   rfl,by simp; omega⟩) (fun o ho=>by
   unfold vO
   simp only[ae]
   rw[zn (by omega)]) [] (by simp)
 rw[cm] at l1
 have fl:∀ (l:List Val) (o:List (List UInt8)),l.foldl (fun s x=>s++[jL x]) o=o++l.map jL:=by
   intro l
   induction l with
   | nil=>intro o; simp
   | cons x l ih=>intro o; rw[List.foldl_cons,ih]; simp
 rw[fl,List.nil_append] at l1
 have hl:=h.2.2.1
 have p1:=rW h.1 h.2.1
 have p2:=rk h.2.2.1 h.2.2.2
 have p3:=ss hn
 have hj:zby (e.2.2.1.map jL) [32]=some (yn e.2.2.1):=agV (m:=1000) (by simp; omega) (by simp) (by omega) (wH h.2.2.2)
 unfold zdf
 rw[show ((0:Int),([]:List (List UInt8)),())=(((0:Nat):Int),[],()) from rfl,l1,ay]
 simp only[hj,zb,yR h.1 h.2.1,rz hn,ae]
 unfold uP
 by_cases h1:e.2.1=1
 · rw[zp h1,zp h1,cq (by simp; omega)]
   simp only[zb]
   rw[cq (by simp; omega)]
   rfl
 · rw[zn h1,zn h1]
   by_cases h2:e.2.1=2
   · rw[zp h2,zp h2,cq (by simp; omega)]
     simp only[zb]
     rw[cq (by simp; omega)]
     rfl
   · rw[zn h2,zn h2,cq (by simp; omega)]
     simp only[zb]
     rw[cq (by simp; omega)]
     rfl
def jf (c:Chg):List UInt8:=(if c.1=1 then [] else [45,32]++uP c.2.1++[10])++(if c.1=2 then [] else [43,32]++uP c.2.2.1++[10])
def fitC (c:Chg):Prop:=(oe c.2.1∧inR c.2.1.2.2.2.1)∧oe c.2.2.1∧inR c.2.2.1.2.2.2.1
theorem ac8 {c:Chg} (h:fitC c):(jf c).length≤1300000:=by
 have h1:=jg h.1.1 h.1.2
 have h2:=jg h.2.1 h.2.2
 unfold jf
 split<;>split<;>simp only[List.length_append,zl,List.length_nil]<;>omega
theorem fI {s:List UInt8}{v:Bool×Unit×Unit}{o:List UInt8} (hw:o.length+s.length<4294967000):za1 s v (bI o)=some (((s.length:Int),false,()),(true,(),()),bI (o++s),()):=by
 unfold za1
 have h:za3 v (bI o)=some ((),(true,(),()),bI o,()):=by
   obtain ⟨b,_,_⟩:=v
   unfold za3
   cases b<;>rfl
 rw[h]
 simp only[zb]
 rw[aU (by rw[kE]; simp; omega),jy]
 rfl
theorem ti {l:List Chg} (hl:l.length≤1000) (hf:∀ c∈l,fitC c):zcm l=some (l.flatMap jf):=by
 have:=bE (f:=vY l) (l:=l) (S:=Bool×List UInt8) (fun i s=>((i:Int),bI s.2,(s.1,(),()),())) (fun _ c s=>.inl (if c.1=1∧c.1=2 then s.1 else true,s.2++jf c)) (fun s=>s.2) (fun i s=>s.2.length≤1300000*i) (fun i hi s ho=>.inl ⟨_,rfl,by
   have hc:=hf _ (zm hi)
   have g1:=jg hc.1.1 hc.1.2
   have g2:=jg hc.2.1 hc.2.2
   have w1:IntKind.wrap .i64 ((i:Int)+1)=((i+1:Nat):Int):=by rw[wrap64 (by omega) (by omega)]; rfl
   unfold vY
   simp only[ae]
   rw[zp (by omega),aN hi]
   have v1:=nT hc.1.1 hc.1.2
   have v2:=nT hc.2.1 hc.2.2
   simp only[zb,v1,w1]
   generalize l[i]=c at *
   unfold jf
   rw[zn (show ¬ (c.1=1∧c.1=2) by omega)]
   by_cases h1:c.1=1
   · rw[zt h1,zp h1,zn (show ¬ c.1=2 by omega)]
     simp only[Bool.not_true,cond_false,zb,bc]
     rw[zf (show ¬ c.1=2 by omega)]
     simp only[Bool.not_false,cond_true,v2,zb]
     rw[cq (by simp; omega)]
     simp only[zb]
     rw[cq (by simp; omega)]
     simp only[zb]
     rw[fI (by simp; omega)]
     rfl
   · rw[zf h1,zn h1]
     simp only[Bool.not_false,cond_true]
     rw[cq (by simp; omega)]
     simp only[zb]
     rw[cq (by simp; omega)]
     simp only[zb]
     rw[fI (by simp; omega)]
     simp only[zb,bc]
     by_cases h2:c.1=2
     · rw[zt h2,zp h2]
       simp only[Bool.not_true,cond_false,List.append_nil]
     · rw[zf h2,zn h2]
       simp only[Bool.not_false,cond_true,v2,zb]
       rw[cq (by simp; omega)]
       simp only[zb]
       rw[cq (by simp; omega)]
       simp only[zb]
       rw[fI (by simp; omega),List.append_assoc s.2]
       rfl,by
   have:=ac8 (hf _ (zm hi))
   simp only[List.length_append]; omega⟩) (fun s ho=>by
   unfold vY
   simp only[ae]
   rw[zn (by omega),pD (by omega)]
   rfl) (false,[]) (by simp)
 rw[cm] at this
 have gen:∀ (l:List Chg) (s:Bool×List UInt8),(l.foldl (fun (s:Bool×List UInt8) (c:Chg)=>(if c.1=1∧c.1=2 then s.1 else true,s.2++jf c)) s).2=s.2++l.flatMap jf:=by
   intro l
   induction l with
   | nil=>intro s; simp
   | cons c l ih=>intro s; rw[List.foldl_cons,ih]; simp[List.flatMap_cons]
 rw[gen] at this
 exact this
theorem sB {n:Nat} (h:n<9000000):shrT .u64 (IntKind.wrap .u64 (IntKind.wrap .i64 (n:Int))) 1=some ((n/2:Nat):Int):=by
 rw[wrap64 (by omega) (by omega)]
 have w:IntKind.wrap .u64 (n:Int)=(n:Int):=by simp[IntKind.wrap,IntKind.bits,IntKind.signed]; omega
 rw[w]
 unfold shrT
 rw[zn (by omega)]
 have e:(2:Int) ^ min (Int.toNat 1) (IntKind.bits .u64)=2:=by decide
 rw[e,Int.fdiv_eq_ediv_of_nonneg _ (by omega)]
 congr 1
def one (c:Int) (a:List Int):Prop:=c = -2∨∃ x,a=[x]∧(c = -1∨c=x)
def Mt:List Int→List Int→Prop
 | [],t=>t=[]
 | c::o,t=>∃ a b,t=a++b∧one c a∧Mt o b
structure Inv (o t:List Int) (k:Nat) (star:Int) (mark i:Nat):Prop where
 k_le:k≤o.length
 i_le:i≤t.length
 no:star<0→(Mt o t↔Mt (o.drop k) (t.drop i))
 is:∀ st:Nat,star=(st:Int)→st<k∧mark≤i∧(Mt o t↔Mt (-2::o.drop (st+1)) (t.drop mark))∧(Mt (o.drop k) (t.drop i)→Mt (o.drop (st+1)) (t.drop mark))∧(∀ u,Mt (o.drop (st+1)) u→Mt (o.drop k) (u.drop (i-mark)))
 le : -1≤star
theorem fc (a b:Val):zbo a b=some (cmpV a b):=by
 unfold zbo cmpV zbj cmpT
 simp only[jr,ayD,zb]
abbrev Dot1:=Int×Int×Unit
abbrev Ref1:=Dot1×Int×Unit
abbrev Op1:=Int×Path×Val×Int×List Ref1×Unit
abbrev Txn1:=Dot1×Int×Int×Bool×List Op1×Unit
abbrev aX:=Ref1×Op1×Int×Unit
abbrev kL:Ty:=.agg (.cons (.agg (.cons (.int .i64) (.cons (.int .i64) .unit))) (.cons (.int .i64) .unit))
theorem vF {K L:Type}{c:K→K→Int} (h:Cmp c) (f:L→K) (hf:∀ a b,f a=f b→a=b):Cmp fun a b=>c (f a) (f b) where
 one a b:=h.one _ _
 neg a b:=h.neg _ _
 zero a b:=⟨fun e=>hf _ _ ((h.zero _ _).1 e),fun e=>(h.zero _ _).2 (by rw[e])⟩
 trans a b d:=h.trans _ _ _
theorem dV:Cmp cmpD:=by
 have:cmpD=fun a b=>cmpB cmpI cmpI ((fun x:Dot1=>(x.1,x.2.1)) a) ((fun x:Dot1=>(x.1,x.2.1)) b):=rfl
 rw[this]
 exact vF (mT.pair mT) _ fun a b h=>by
   obtain ⟨a1,a2,⟨⟩⟩:=a; obtain ⟨b1,b2,⟨⟩⟩:=b
   simp only[Prod.mk.injEq] at h
   rw[h.1,h.2]
def cmpR (a b:Ref1):Int:=orI (cmpD a.1 b.1) (cmpI a.2.1 b.2.1)
theorem fD:Cmp cmpV:=by
 have:cmpV=fun a b=>cmpB cmpI (cmpB cmpI Lib.compareBytes) ((fun x:Val=>(x.1,x.2.1,x.2.2.1)) a) ((fun x:Val=>(x.1,x.2.1,x.2.2.1)) b):=rfl
 rw[this]
 exact vF (mT.pair (mT.pair ad1)) _ fun a b h=>by
   obtain ⟨a1,a2,a3,⟨⟩⟩:=a; obtain ⟨b1,b2,b3,⟨⟩⟩:=b
   simp only[Prod.mk.injEq] at h
   rw[h.1,h.2.1,h.2.2]
theorem adn (a b:Int):zc3 a b=some (cmpI a b):=by
 unfold zc3 cmpI
 simp only[ae]
 by_cases h1:a<b
 · rw[zp h1,zp h1]
 · by_cases h2:a>b
   · rw[zn h1,zp h2,zn h1,zp h2]
   · rw[zn h1,zn h2,zn h1,zn h2]
theorem sZ (a b:Int):cmpI a b=0↔a=b:=mT.zero a b
theorem iU (a b:Dot1):zbp a b=some (cmpD a b):=by
 unfold zbp cmpD orI
 simp only[adn,zb,bh]
 by_cases h:a.1=b.1
 · rw[zp h,zp ((sZ _ _).2 h)]
 · rw[zn h,zn (fun e=>h ((sZ _ _).1 e))]
theorem afs (a b:Ref1):zct a b=some (cmpR a b):=by
 unfold zct cmpR orI
 simp only[iU,adn,zb,bh]
 by_cases h:cmpD a.1 b.1=0
 · rw[zp h,zp h]
 · rw[zn h,zn h]
theorem mM (a b:Dot1):zb9 a b=some (cmpD a b):=by
 unfold zb9
 simp only[jr,or_t,zb]
 rfl
theorem dB (d:Dot1):zb8 d=some (be d):=by
 unfold zb8 be
 simp only[ae]
 by_cases h1:d.1≥0<;>by_cases h2:d.1≤15<;>by_cases h3:d.2.1≥1<;>by_cases h4:d.2.1≤1048576<;>simp[h1,h2,h3,h4]<;>omega
theorem lV {A K:Type}{c:K→K→Int}{key:A→K} (hc:Cmp c):∀ {l:List A},(∀ i,(h:i+1<l.length)→c (key l[i]) (key l[i+1])<0)→iJ c key l
 | [],_=>List.Pairwise.nil
 | [x],_=>List.pairwise_singleton ..
 | x::y::l,h=>by
   have ih:=lV hc (l:=y::l) (fun i hi=>h (i+1) (by simpa using hi))
   have h0:=h 0 (by simp)
   refine List.pairwise_cons.2 ⟨fun z hz => ?_,ih⟩
   rcases List.mem_cons.1 hz with e | hz'
   · subst e; exact h0
   · exact hc.trans _ _ _ h0 ((List.pairwise_cons.1 ih).1 z hz')
theorem adH (a b:Ref1):eqV kL a b=decide (a=b):=by
 obtain ⟨⟨a1,a2,⟨⟩⟩,a3,⟨⟩⟩:=a
 obtain ⟨⟨b1,b2,⟨⟩⟩,b3,⟨⟩⟩:=b
 simp only[eqV,Prod.mk.injEq,and_true]
 by_cases h1:a1=b1<;>by_cases h2:a2=b2<;>by_cases h3:a3=b3<;>simp[h1,h2,h3]
theorem kc (a b:Dot1):eqV (.agg (.cons (.int .i64) (.cons (.int .i64) .unit))) a b=decide (a=b):=by
 obtain ⟨a1,a2,⟨⟩⟩:=a
 obtain ⟨b1,b2,⟨⟩⟩:=b
 simp only[eqV,Prod.mk.injEq,and_true]
 by_cases h1:a1=b1<;>by_cases h2:a2=b2<;>simp[h1,h2]
def avX (x:Ref1):Bool:=be x.1&&decide (0≤x.2.1∧x.2.1≤15)
def acw (l:List Ref1) (i:Nat):Bool :=
 match l[i]? with
 | some x=>avX x&&(decide (i=0)||match l[i-1]? with
   | some y=>decide (cmpR y x = -1)
   | none=>false)
 | none=>false
open Classical in
noncomputable def kN (l:List Ref1):Bool:=if (∀ i,i<l.length→acw l i=true) then true else false
theorem acx {l:List Ref1} (hl:l.length<1000000):zc4 l=some (kN l):=by
 have:=mn (f:=wj l) l.length (fun i=>((i:Int),())) (acw l) true false (fun i h=>by
   unfold wj acw avX
   rw[zg h]
   simp only[ae]
   rw[zp (by omega),aN h]
   simp only[zb,dB]
   by_cases h0:be l[i].1=true
   · simp only[h0,Bool.not_true,cond_false,Bool.true_and]
     by_cases h1:l[i].2.1<0
     · rw[zp h1,zf (by omega)]; rfl
     rw[zn h1]
     by_cases h2:l[i].2.1>15
     · rw[zp h2,zf (by omega)]; rfl
     rw[zn h2,zt (by omega),Bool.true_and]
     by_cases h3:i=0
     · subst h3
       rw[zn (by omega),wrap64 (by omega) (by omega)]; rfl
     · rw[zp (by omega),wrap64 (by omega) (by omega),show (i:Int)-1=((i-1:Nat):Int) by omega,aN (by omega),zg (show i-1<l.length by omega)]
       simp only[zb,afs,bh]
       by_cases h4:cmpR l[i-1] l[i] = -1
       · rw[zp h4,wrap64 (by omega) (by omega)]; simp[h3,h4]
       · rw[zn h4]; simp[h3,h4]
   · have h0:be l[i].1=false:=by simpa using h0
     simp only[h0,Bool.not_false,cond_true,Bool.false_and]; rfl) (by
   unfold wj
   simp only[ae]
   rw[zn (by omega)])
 unfold zc4 kN
 rw[show ((0:Int),())=(((0:Nat):Int),()) from rfl,this]
def zeroV:Val:=(0,0,[],())
noncomputable def opM (o:Op1):Int :=
 if o.1<1∨5<o.1 then 18 else if fF o.2.1≠0 then fF o.2.1
 else if (o.1=3∨o.1=5)∧o.2.2.1≠zeroV then 2
 else if ¬ (o.1=3∨o.1=5)∧cZ o.2.2.1=false then 2
 else if o.1≠3∧o.2.2.2.1≠0 then 2
 else if o.1=3∧(o.2.2.2.1=0∨o.2.2.2.1>2147483647∨o.2.2.2.1 < -2147483647) then 2
 else if (o.1=2∨o.1=3)∧0<o.2.2.2.2.1.length then 2
 else if 256<o.2.2.2.2.1.length then 7
 else if kN o.2.2.2.2.1=true then 0 else 2
def rF (o:Op1):Prop:=o.2.1.length≤12∧(∀ x∈o.2.1,x.length≤120)∧o.2.2.1.2.2.1.length≤200∧o.2.2.2.2.1.length≤300
theorem amL {o:Op1} (h:rF o):zb0 o=some (opM o):=by
 obtain ⟨s1,s2,s3,s4⟩:=h
 obtain ⟨k,p,v,n,sn,⟨⟩⟩:=o
 simp only at s1 s2 s3 s4
 unfold zb0 opM
 simp only[ae,bh,zu,yI (p:=p) (fun x hx=>by have:=s2 x hx; omega),uu (v:=v) (by omega),acx (l:=sn) (by omega),zb]
 have ez:((0,0,[],()):Val)=zeroV:=rfl
 simp only[ez]
 by_cases a1:k<1
 · rw[zp a1,zp (.inl a1)]
 rw[zn a1]
 by_cases a2:k>5
 · rw[zp a2,zp (.inr a2)]
 rw[zn a2]
 rw[zn (show ¬ (k<1∨5<k) by omega)]
 by_cases a3:¬ fF p=0
 · rw[zn a3,zp (show fF p≠0 from a3)]
 have a3:fF p=0:=Classical.not_not.1 a3
 rw[zp a3,zn (show ¬ fF p≠0 from fun e=>e a3)]
 have hlen:((sn.length:Int)>0)↔0<sn.length:=by omega
 have hlen2:((sn.length:Int)>256)↔256<sn.length:=by omega
 simp only[hlen,hlen2]
 have last:(cond (!kN sn) (some (2:Int)) (some 0))=some (if kN sn=true then 0 else 2):=by cases kN sn<;>rfl
 by_cases k3:k=3
 · subst k3
   by_cases hz:v=zeroV
   · by_cases n0:n=0
     · simp[hz,n0]
     · by_cases n1:n>2147483647
       · simp[hz,n0,n1]
       · by_cases n2:n < -2147483647
         · simp[hz,n0,n1,n2]
         · by_cases l0:0<sn.length
           · simp[hz,n0,n1,n2,l0]
           · by_cases l2:256<sn.length
             · omega
             · simp[hz,n0,n1,n2,l0,l2,last]
   · simp[hz]
 · by_cases k5:k=5
   · subst k5
     by_cases hz:v=zeroV
     · by_cases n0:n=0
       · by_cases l2:256<sn.length
         · simp[hz,n0,l2]
         · simp[hz,n0,l2,last]
       · simp[hz,n0]
     · simp[hz]
   · cases hr:cZ v with
     | false=>simp[k3,k5,hr]
     | true =>
       by_cases n0:n=0
       · by_cases k2:k=2
         · subst k2
           by_cases l0:0<sn.length
           · simp[n0,l0]
           · by_cases l2:256<sn.length
             · omega
             · simp[n0,l0,l2,last]
         · by_cases l2:256<sn.length
           · simp[k2,k3,k5,n0,l2]
           · simp[k2,k3,k5,n0,l2,last]
       · simp[k3,k5,n0]
def j8 (o:Op1):Bool:=decide (o.1=0∧o.2.1=[]∧o.2.2.1=zeroV∧o.2.2.2.1=0∧o.2.2.2.2.1=[])
theorem awf (o:Op1):zcv o=some (j8 o):=by
 obtain ⟨k,p,v,n,sn,⟨⟩⟩:=o
 unfold zcv j8
 simp only[ae,zu]
 have ez:((0,0,[],()):Val)=zeroV:=rfl
 simp only[ez]
 have e1:((p.length:Int)=0)↔p=[]:=by rw[show ((p.length:Int)=0)↔p.length=0 by omega,List.length_eq_zero_iff]
 have e2:((sn.length:Int)=0)↔sn=[]:=by rw[show ((sn.length:Int)=0)↔sn.length=0 by omega,List.length_eq_zero_iff]
 simp only[e1,e2]
 by_cases h1:k=0<;>by_cases h2:p=[]<;>by_cases h3:v=zeroV<;>by_cases h4:n=0<;>by_cases h5:sn=[]<;>simp[h1,h2,h3,h4,h5]
def lN (o:Op1):Bool:=decide (o.2.1.length≤12)&&(o.2.1.all fun x=>decide (x.length≤120))&&decide (o.2.2.1.2.2.1.length≤200)&&decide (o.2.2.2.2.1.length≤300)
theorem ach (o:Op1):zck o=some (lN o):=by
 unfold zck lN
 simp only[wQ,zb,ae]
 cases (decide (o.2.1.length≤12)&&o.2.1.all fun x=>decide (x.length≤120)) with
 | false=>rfl
 | true =>
   rw[cond_true,Bool.true_and]
   by_cases h3:((o.2.2.1.2.2.1.length:Int)≤200)
   · rw[zp h3,zt (show o.2.2.1.2.2.1.length≤200 by omega),Bool.true_and]
     congr 1
     by_cases h4:((o.2.2.2.2.1.length:Int)≤300)
     · rw[zt h4,zt (by omega)]
     · rw[zf h4,zf (by omega)]
   · rw[zn h3,zf (show ¬ o.2.2.1.2.2.1.length≤200 by omega)]; rfl
theorem oi {o:Op1}:lN o=true↔rF o:=by
 unfold lN rF
 simp only[Bool.and_eq_true,decide_eq_true_eq,List.all_eq_true]
 exact ⟨fun h=>⟨h.1.1.1,h.1.1.2,h.1.2,h.2⟩,fun h=>⟨⟨⟨h.1,h.2.1⟩,h.2.2.1⟩,h.2.2.2⟩⟩
noncomputable def hX (t:Txn1):Bool:=decide (t.2.2.2.2.1.length≤20)&&t.2.2.2.2.1.all lN
theorem yu (t:Txn1):zce t=some (hX t):=by
 unfold zce hX
 simp only[ae]
 by_cases h1:(t.2.2.2.2.1.length:Int)>20
 · rw[zp h1,zf (by omega)]; rfl
 rw[zn h1,zt (by omega),Bool.true_and]
 have:=jd (f:=wg t) (l:=t.2.2.2.2.1) (fun i=>((i:Int),())) lN true false (fun i h=>by
   unfold wg
   simp only[ae]
   rw[zp (by omega),aN h]
   simp only[zb,ach]
   by_cases hs:lN t.2.2.2.2.1[i]=true
   · rw[hs,Bool.not_true,cond_false,zp rfl,wrap64 (by omega) (by omega)]; rfl
   · rw[zn hs,eq_false_of_ne_true hs]; rfl) (by
   unfold wg
   simp only[ae]
   rw[zn (by omega)])
 rw[ite_bool] at this
 exact this
noncomputable def opsM (thin:Bool):List Op1→Int
 | []=>0
 | o::l=>if opM o≠0∧¬ (thin=true∧j8 o=true) then opM o else opsM thin l
noncomputable def txnM (t:Txn1):Int :=
 if be t.1=false∨t.2.1<0∨7<t.2.1∨t.2.2.1<1∨1099511627776<t.2.2.1 then 2
 else if t.2.2.2.2.1.length=0 then 11 else if 16<t.2.2.2.2.1.length then 7 else opsM t.2.2.2.1 t.2.2.2.2.1
theorem rY {thin:Bool}:∀ (l:List Op1) (i:Nat),fB (S:=Unit) (fun _ o _=>if opM o≠0∧¬ (thin=true∧j8 o=true) then .inr (opM o) else .inl ()) (fun _=>(0:Int)) i l ()=opsM thin l
 | [],_=>rfl
 | o::l,i=>by
   unfold fB opsM
   by_cases h:opM o≠0∧¬ (thin=true∧j8 o=true)
   · rw[zp h,zp h]
   · rw[zn h,zn h]; exact rY l (i+1)
theorem yq {t:Txn1} (h:hX t=true):zb5 t=some (txnM t):=by
 unfold hX at h
 simp only[Bool.and_eq_true,decide_eq_true_eq,List.all_eq_true] at h
 obtain ⟨h1,h2⟩:=h
 have loop:=bE (S:=Unit) (R:=Int) (f:=qQ t) (l:=t.2.2.2.2.1) (fun i _=>((i:Int),())) (fun _ o _=>if opM o≠0∧¬ (t.2.2.2.1=true∧j8 o=true) then .inr (opM o) else .inl ()) (fun _=>(0:Int)) (fun _ _=>True) (fun i h s _=>by
   have turn:qQ t ((i:Int),())=if opM t.2.2.2.2.1[i]≠0∧¬ (t.2.2.2.1=true∧j8 t.2.2.2.2.1[i]=true) then some (.inr (opM t.2.2.2.2.1[i])) else some (.inl (((i+1:Nat):Int),())):=by
     unfold qQ
     simp only[ae,bh]
     rw[zp (by omega),aN h]
     simp only[zb,amL (oi.1 (h2 _ (zm h))),awf]
     rw[wrap64 (by omega) (by omega),show (i:Int)+1=((i+1:Nat):Int) by omega]
     by_cases a:opM t.2.2.2.2.1[i]=0
     · rw[zp a,zn (fun e=>e.1 a)]
     · rw[zn a]
       cases ht:t.2.2.2.1 with
       | false=>rw[cond_false,zp ⟨a,by simp⟩]
       | true =>
         rw[cond_true]
         by_cases hg:j8 t.2.2.2.2.1[i]=true
         · rw[hg,Bool.not_true,cond_false,zn (by simp)]
         · rw[eq_false_of_ne_true hg,Bool.not_false,cond_true,zp ⟨a,by simp⟩]
   by_cases hc:opM t.2.2.2.2.1[i]≠0∧¬ (t.2.2.2.1=true∧j8 t.2.2.2.2.1[i]=true)
   · exact .inr ⟨_,by rw[zp hc],by rw[turn,zp hc]⟩
   · exact .inl ⟨(),by rw[zn hc],by rw[turn,zn hc],trivial⟩) (fun s _=>by
   unfold qQ
   simp only[ae]
   rw[zn (by omega)]) () trivial
 rw[rY] at loop
 rw[show (((0:Nat):Int),())=((0:Int),()) from rfl] at loop
 unfold zb5 txnM
 simp only[ae,dB,zb]
 by_cases a1:be t.1=true
 · rw[a1,Bool.not_true,cond_false]
   simp only[zb]
   by_cases a2:t.2.1<0
   · rw[zt a2,cond_true,zp (.inr (.inl a2))]
   rw[zf a2,cond_false]
   by_cases a3:t.2.1>7
   · rw[zp a3,zp (.inr (.inr (.inl a3)))]
   rw[zn a3]
   by_cases a4:t.2.2.1<1
   · rw[zp a4,zp (.inr (.inr (.inr (.inl a4))))]
   rw[zn a4]
   by_cases a5:t.2.2.1>1099511627776
   · rw[zp a5,zp (.inr (.inr (.inr (.inr a5))))]
   have nn:¬ (true=false∨t.2.1<0∨7<t.2.1∨t.2.2.1<1∨1099511627776<t.2.2.1):=by
     rintro (h | h | h | h | h)
     · cases h
     · exact a2 h
     · exact a3 h
     · exact a4 h
     · exact a5 h
   rw[zn a5,zn nn]
   by_cases a6:t.2.2.2.2.1.length=0
   · rw[zp (show (t.2.2.2.2.1.length:Int)=0 by omega),zp a6]
   rw[zn (show ¬ (t.2.2.2.2.1.length:Int)=0 by omega),zn a6]
   by_cases a7:16<t.2.2.2.2.1.length
   · rw[zp (show (t.2.2.2.2.1.length:Int)>16 by omega),zp a7]
   rw[zn (show ¬ (t.2.2.2.2.1.length:Int)>16 by omega),zn a7]
   exact loop
 · have a1:be t.1=false:=by simpa using a1
   rw[zp (show be t.1=false∨t.2.1<0∨7<t.2.1∨t.2.2.1<1∨1099511627776<t.2.2.1 from .inl a1),a1]
   rfl
noncomputable def oq {A:Type} (key:A→Dot1) (l:List A) (i:Nat):Bool:=match l[i]?,l[i+1]? with
 | some x,some y=>decide (cmpD (key x) (key y) = -1)
 | _,_=>true
theorem yF {A:Type}{key:A→Dot1}{l:List A} (h:∀ i,i<l.length-1→oq key l i=true):iJ cmpD key l:=by
 refine lV dV fun i hi => ?_
 have:=h i (by omega)
 unfold oq at this
 rw[zg hi,zg (show i<l.length by omega)] at this
 simp only[decide_eq_true_eq] at this
 omega
open Classical in
theorem acq {l:List Txn1} (hl:l.length<1000000):zcr l=some (if (∀ i,i<l.length-1→oq (·.1) l i=true) then true else false):=by
 have:=mn (f:=vW l) (l.length-1) (fun i=>(((i+1:Nat):Int),())) (oq (·.1) l) true false (fun i h=>by
   unfold vW oq
   rw[zg (show i<l.length by omega),zg (show i+1<l.length by omega)]
   simp only[ae,bh]
   rw[zp (by omega),wrap64 (by omega) (by omega),show ((i+1:Nat):Int)-1=(i:Int) by omega,aN (show i<l.length by omega),aN (show i+1<l.length by omega)]
   simp only[zb,iU,decide_eq_true_eq]
   rw[wrap64 (by omega) (by omega)]
   by_cases h4:cmpD l[i].1 l[i+1].1 = -1
   · rw[zp h4,zp h4]; rfl
   · rw[zn h4,zn h4]) (by
   unfold vW
   simp only[ae]
   rw[zn (by omega)])
 exact this
def oneM (x:Ref1):Bool:=be x.1&&decide (1≤x.2.1∧x.2.1≤64)
theorem ayE (x:Ref1):zdo x=some (oneM x):=by
 unfold zdo oneM
 simp only[dB,zb,ae]
 cases be x.1 with
 | false=>rfl
 | true =>
   rw[cond_true,Bool.true_and]
   by_cases h1:x.2.1≥1<;>by_cases h2:x.2.1≤64<;>simp[h1,h2]<;>omega
def iF (l:List Ref1) (i:Nat):Bool:=match l[i]? with
 | some x=>oneM x&&(decide (i=0)||match l[i-1]? with
   | some y=>decide (cmpD y.1 x.1 = -1)
   | none=>false)
 | none=>false
open Classical in
theorem afq {l:List Ref1} (hl:l.length<1000000):zb6 l=some (if (∀ i,i<l.length→iF l i=true) then true else false):=by
 have:=mn (f:=wz l) l.length (fun i=>((i:Int),())) (iF l) true false (fun i h=>by
   unfold wz iF
   rw[zg h]
   simp only[ae]
   rw[zp (by omega),aN h]
   simp only[zb,ayE]
   by_cases h0:oneM l[i]=true
   · simp only[h0,Bool.not_true,cond_false,Bool.true_and]
     by_cases h3:i=0
     · subst h3
       rw[zn (by omega),wrap64 (by omega) (by omega)]; rfl
     · rw[zp (by omega),wrap64 (by omega) (by omega),show (i:Int)-1=((i-1:Nat):Int) by omega,aN (by omega),zg (show i-1<l.length by omega)]
       simp only[zb,iU,bh]
       by_cases h4:cmpD l[i-1].1 l[i].1 = -1
       · rw[zp h4,wrap64 (by omega) (by omega)]; simp[h3,h4]
       · rw[zn h4]; simp[h3,h4]
   · have h0:oneM l[i]=false:=by simpa using h0
     simp only[h0,Bool.not_false,cond_true,Bool.false_and]; rfl) (by
   unfold wz
   simp only[ae]
   rw[zn (by omega)])
 exact this
abbrev pO (u:List Ref1):Prop:=iJ cmpD (·.1) u
structure CountsOk (u:List Ref1):Prop where
 len:u.length≤100
 rise:pO u
 one:∀ x∈u,oneM x=true
theorem counts_of {l:List Ref1} (hl:l.length≤100) (h:∀ i,i<l.length→iF l i=true):CountsOk l where
 len:=hl
 rise:=lV dV fun i hi=>by
   have:=h (i+1) hi
   unfold iF at this
   rw[zg hi,Nat.add_sub_cancel,zg (show i<l.length by omega)] at this
   simp only[Bool.and_eq_true,Bool.or_eq_true,decide_eq_true_eq] at this
   omega
 one x hx:=by
   obtain ⟨i,hi,rfl⟩:=List.mem_iff_getElem.1 hx
   have:=h i hi
   unfold iF at this
   rw[zg hi] at this
   simp only[Bool.and_eq_true] at this
   exact this.1
structure TxnOk (t:Txn1):Prop where
 len:t.2.2.2.2.1.length≤16
 pos:0<t.2.2.2.2.1.length
 ops:∀ o∈t.2.2.2.2.1,rF o∧(opM o=0∨t.2.2.2.1=true∧j8 o=true)
 dot:be t.1=true
 user:0≤t.2.1∧t.2.1≤7
 time:1≤t.2.2.1∧t.2.2.1≤1099511627776
theorem w6 {thin:Bool}:∀ {l:List Op1},opsM thin l=0→∀ o∈l,opM o=0∨thin=true∧j8 o=true
 | [],_,o,h=>by cases h
 | p::l,h,o,ho=>by
   unfold opsM at h
   by_cases hc:opM p≠0∧¬ (thin=true∧j8 p=true)
   · rw[zp hc] at h; exact absurd h hc.1
   · rw[zn hc] at h
     rcases List.mem_cons.1 ho with e | ho
     · subst e
       by_cases h1:opM o=0
       · exact .inl h1
       · exact .inr (Classical.not_not.1 fun h2=>hc ⟨h1,h2⟩)
     · exact w6 h o ho
theorem avS {t:Txn1} (h1:hX t=true) (h2:txnM t=0):TxnOk t:=by
 unfold hX at h1
 simp only[Bool.and_eq_true,decide_eq_true_eq,List.all_eq_true] at h1
 unfold txnM at h2
 by_cases a:be t.1=false∨t.2.1<0∨7<t.2.1∨t.2.2.1<1∨1099511627776<t.2.2.1
 · rw[zp a] at h2; omega
 rw[zn a] at h2
 by_cases b:t.2.2.2.2.1.length=0
 · rw[zp b] at h2; omega
 rw[zn b] at h2
 by_cases c:16<t.2.2.2.2.1.length
 · rw[zp c] at h2; omega
 rw[zn c] at h2
 refine ⟨by omega,by omega,fun o ho=>⟨oi.1 (h1.2 o ho),w6 h2 o ho⟩,?_,?_,?_⟩
 · cases hr:be t.1 with
   | true=>rfl
   | false=>exact absurd (.inl hr) a
 · constructor
   · exact Int.not_lt.1 fun h=>a (.inr (.inl h))
   · exact Int.not_lt.1 fun h=>a (.inr (.inr (.inl h)))
 · constructor
   · exact Int.not_lt.1 fun h=>a (.inr (.inr (.inr (.inl h))))
   · exact Int.not_lt.1 fun h=>a (.inr (.inr (.inr (.inr h))))
abbrev nl (l:List Txn1):Prop:=iJ cmpD (·.1) l
structure TxnsOk (l:List Txn1) (n:Nat):Prop where
 len:l.length≤n
 rise:nl l
 all:∀ t∈l,TxnOk t
open Classical in
def getM (u:List Ref1) (d:Dot1):Int:=match u with
 | []=>0
 | x::u=>if x.1=d then x.2.1 else getM u d
abbrev loU (d:Dot1) (u:List Ref1):List Ref1:=lo cmpD (·.1) d u
abbrev hiU (d:Dot1) (u:List Ref1):List Ref1:=hi cmpD (·.1) d u
theorem sE {d:Dot1}:∀ {u:List Ref1},(∀ x∈u,x.1≠d)→getM u d=0
 | [],_=>rfl
 | x::u,h=>by
   unfold getM
   rw[zn (h x (List.mem_cons_self ..))]
   exact sE fun y hy=>h y (List.mem_cons_of_mem _ hy)
theorem xw {d:Dot1}:∀ {p q:List Ref1},(∀ x∈p,x.1≠d)→getM (p++q) d=getM q d
 | [],_,_=>rfl
 | x::p,q,h=>by
   rw[List.cons_append]
   conv=>lhs; unfold getM
   rw[zn (h x (List.mem_cons_self ..))]
   exact xw fun y hy=>h y (List.mem_cons_of_mem _ hy)
theorem pC (a b:Ref1):zbr a b=some (cmpD a.1 b.1):=by
 unfold zbr
 rw[mM]; rfl
theorem ru {u:List Ref1}{d:Ref1} (hl:u.length<1000000) (hr:pO u):∀ (k i j:Nat),j-i≤k→i≤(loU d.1 u).length→(loU d.1 u).length≤j→j≤u.length →
   aI (nR u d) ((i:Int),(j:Int),())=some (.inl (((loU d.1 u).length:Int),())):=by
 intro k
 induction k with
 | zero =>
   intro i j hk h1 h2 h3
   refine aD ?_
   unfold nR
   simp only[ae]
   rw[zn (by omega),show (loU d.1 u).length=i by omega]
 | succ k ih =>
   intro i j hk h1 h2 h3
   by_cases hij:i<j
   · have hh:(i+j)/2<u.length:=by omega
     have turn:nR u d ((i:Int),(j:Int),())=if cmpD u[(i+j)/2].1 d.1<0 then some (.inl ((((i+j)/2+1:Nat):Int),(j:Int),())) else some (.inl ((i:Int),(((i+j)/2:Nat):Int),())):=by
       unfold nR
       simp only[ae]
       rw[zp (by omega),show (i:Int)+(j:Int)=((i+j:Nat):Int) by omega,sB (by omega)]
       simp only[zb]
       rw[wrap64 (n:=(((i+j)/2:Nat):Int)) (by omega) (by omega),aN hh]
       simp only[zb,pC]
       rw[wrap64 (by omega) (by omega)]; rfl
     by_cases hn:(i+j)/2<(loU d.1 u).length
     · rw[zp (anI hh hn)] at turn
       rw[aH turn]
       exact ih _ _ (by omega) (by omega) h2 h3
     · have:=anJ dV hr hh (k:=d.1) (Nat.le_of_not_lt hn)
       rw[zn (by omega)] at turn
       rw[aH turn]
       exact ih _ _ (by omega) h1 (by omega) (by omega)
   · refine aD ?_
     unfold nR
     simp only[ae]
     rw[zn (by omega),show (loU d.1 u).length=i by omega]
theorem vi {a b:Dot1} (h:cmpD a b≠0):a≠b:=fun e=>h ((dV.zero _ _).2 e)
def awe (q:List Ref1) (d:Dot1):Bool:=match q with
 | []=>false
 | x::_=>decide (cmpD x.1 d=0)
theorem ab1 {u:List Ref1}{d:Ref1} (hl:u.length<1000000) (hr:pO u) :
   zac u d ()=some (((loU d.1 u).length:Int),awe (hiU d.1 u) d.1,()):=by
 have e2:loU d.1 u++hiU d.1 u=u:=lohi
 have hlen:(loU d.1 u).length+(hiU d.1 u).length=u.length:=by rw[← List.length_append,e2]
 unfold zac
 have:=ru (d:=d) hl hr u.length 0 u.length (by omega) (by omega) (by omega) (by omega)
 rw[show ((0:Int),(u.length:Int),())=(((0:Nat):Int),(u.length:Int),()) from rfl,this,ay]
 simp only[ae]
 cases hq:hiU d.1 u with
 | nil =>
   rw[hq] at hlen
   simp only[List.length_nil] at hlen
   rw[zn (by omega)]; rfl
 | cons x q =>
   rw[hq] at hlen e2
   simp only[zl] at hlen
   rw[zp (by omega),iG]
   have e3:u[(loU d.1 u).length]? = some x:=by
     have:(loU d.1 u++x::q)[(loU d.1 u).length]? = some x:=by simp
     rw[e2] at this
     exact this
   rw[e3]
   simp only[zb,pC]
   rfl
theorem av9 {u:List Ref1}{d:Dot1}{x:Ref1} (hx:x∈loU d u):x.1≠d:=by
 have h:=je (c:=cmpD) (key:=fun y:Ref1=>y.1) (k:=d) (l:=u) x hx
 exact vi (fun e=>by rw[e] at h; omega)
theorem nX {u:List Ref1}{d:Dot1} (hl:u.length<1000000) (hr:pO u):zdb u d=some (getM u d):=by
 have e2:loU d u++hiU d u=u:=lohi
 have hlo:∀ x∈loU d u,x.1≠d:=fun x hx=>av9 hx
 unfold zdb zdu
 rw[ab1 (d:=(d,0,())) hl hr]
 simp only[zb]
 have hg:getM u d=getM (hiU d u) d:=by
   conv=>lhs; rw[← e2]
   exact xw hlo
 rw[hg]
 cases hq:hiU d u with
 | nil=>rfl
 | cons x q =>
   have hab:=kZ dV hr hq
   unfold awe
   simp only[ae]
   by_cases h0:cmpD x.1 d=0
   · rw[zp h0,iG]
     have e3:u[(loU d u).length]? = some x:=by
       have:(loU d u++x::q)[(loU d u).length]? = some x:=by simp
       rw[← hq,e2] at this
       exact this
     rw[e3]
     simp only[zb]
     unfold getM
     rw[zp ((dV.zero _ _).1 h0)]
   · rw[zn h0,sE]
     intro y hy
     rcases List.mem_cons.1 hy with e | hy
     · subst e; exact vi h0
     · exact vi (by have:=hab.2 y hy; omega)
def fL (u:List Ref1) (d:Dot1):Bool:=match remT (getM u d) 2 with
 | some x=>decide (x=0)
 | none=>false
theorem rem2 (a:Int):∃ x,remT a 2=some x:=⟨_,by unfold remT; rw[zn (by omega)]⟩
theorem ir {u:List Ref1}{d:Dot1} (hl:u.length<1000000) (hr:pO u):zc9 u d=some (fL u d):=by
 unfold zc9 fL
 rw[nX hl hr]
 obtain ⟨x,hx⟩:=rem2 (getM u d)
 simp only[zb,hx]
theorem xz {x y:Ref1}{v:Bool}:∀ {m:List (Ref1×Bool)},fk kL x (putK kL y v m)=if x=y then some v else fk kL x m
 | []=>by
   unfold putK fk
   rw[adH,ae]
   unfold fk
   rfl
 | e::m=>by
   unfold putK
   rw[adH]
   by_cases hy:y=e.1
   · rw[zt hy,cond_true]
     conv=>lhs; unfold fk
     conv=>rhs; rhs; unfold fk
     rw[adH,adH,ae,ae,← hy]
     by_cases hx:x=y
     · rw[zp hx,zp hx]
     · rw[zn hx,zn hx,zn hx]
   · rw[zf hy,cond_false]
     conv=>lhs; unfold fk
     conv=>rhs; rhs; unfold fk
     rw[adH,ae,ae,xz]
     by_cases hx:x=e.1
     · rw[zp hx,zn (fun e'=>hy (by rw[← e',hx])),zp hx]
     · rw[zn hx,zn hx]
def hasK (x:Ref1) (m:List (Ref1×Bool)):Bool:=(getK kL false x m).1
theorem ang {x y:Ref1}{m:List (Ref1×Bool)}:hasK x (putK kL y true m)=(decide (x=y)||hasK x m):=by
 unfold hasK getK
 rw[xz]
 by_cases h:x=y
 · rw[zp h,zt h]; rfl
 · rw[zn h,zf h,Bool.false_or]
def kq (m:List (Ref1×Bool)) (l:List Ref1):List (Ref1×Bool):=l.foldl (fun m x=>putK kL x true m) m
theorem uT {x:Ref1}:∀ {l:List Ref1}{m:List (Ref1×Bool)},hasK x (kq m l)=(l.any (fun y=>decide (x=y))||hasK x m)
 | [],m=>rfl
 | y::l,m=>by
   have:=uT (x:=x) (l:=l) (m:=putK kL y true m)
   unfold kq at this ⊢
   rw[List.foldl_cons,this,ang,List.any_cons]
   cases decide (x=y)<;>cases l.any (fun y=>decide (x=y))<;>rfl
def sU (o:Op1) (x:Ref1):Bool:=o.2.2.2.2.1.any fun y=>decide (x=y)
def covT (m:List (Ref1×Bool)) (l:List Op1):List (Ref1×Bool):=l.foldl (fun m o=>kq m o.2.2.2.2.1) m
theorem xl {x:Ref1}:∀ {l:List Op1}{m:List (Ref1×Bool)},hasK x (covT m l)=(l.any (fun o=>sU o x)||hasK x m)
 | [],m=>rfl
 | o::l,m=>by
   have:=xl (x:=x) (l:=l) (m:=kq m o.2.2.2.2.1)
   unfold covT at this ⊢
   rw[List.foldl_cons,this,uT,List.any_cons]
   unfold sU
   cases o.2.2.2.2.1.any (fun y=>decide (x=y))<;>cases l.any (fun o=>o.2.2.2.2.1.any fun y=>decide (x=y))<;>rfl
def covL (u:List Ref1) (m:List (Ref1×Bool)) (l:List Txn1):List (Ref1×Bool):=l.foldl (fun m t=>if fL u t.1=true then covT m t.2.2.2.2.1 else m) m
def covM (l:List Txn1) (u:List Ref1) (x:Ref1):Bool:=l.any fun t=>fL u t.1&&t.2.2.2.2.1.any fun o=>sU o x
theorem xm {x:Ref1}{u:List Ref1}:∀ {l:List Txn1}{m:List (Ref1×Bool)},hasK x (covL u m l)=(covM l u x||hasK x m)
 | [],m=>rfl
 | t::l,m=>by
   have:=xm (x:=x) (u:=u) (l:=l) (m:=if fL u t.1=true then covT m t.2.2.2.2.1 else m)
   unfold covL at this ⊢
   rw[List.foldl_cons,this]
   unfold covM
   rw[List.any_cons]
   by_cases hs:fL u t.1=true
   · rw[zp hs,xl,hs,Bool.true_and]
     cases t.2.2.2.2.1.any (fun o=>sU o x)<;>cases l.any (fun t=>fL u t.1&&t.2.2.2.2.1.any fun o=>sU o x)<;>rfl
   · rw[zn hs,eq_false_of_ne_true hs,Bool.false_and,Bool.false_or]
structure Low (l:List Txn1):Prop where
 len:l.length≤1000
 ops:∀ t∈l,t.2.2.2.2.1.length≤1000
 seen:∀ t∈l,∀ o∈t.2.2.2.2.1,o.2.2.2.2.1.length<1000000
structure LowU (u:List Ref1):Prop where
 len:u.length<1000000
 rise:pO u
theorem adR {l:List Txn1}{u:List Ref1} (hl:Low l) (hu:LowU u):zbx l u=some (covL u [] l):=by
 have outer:=bE (S:=List (Ref1×Bool)) (f:=wl l u) (l:=l) (fun i m=>((i:Int),m,())) (fun _ t m=>.inl (if fL u t.1=true then covT m t.2.2.2.2.1 else m)) (fun m=>m) (fun _ _=>True) (fun i h m _=>by
   refine .inl ⟨_,rfl,?_,trivial⟩
   have hi:=hl.len
   unfold wl
   simp only[ae]
   rw[zp (by omega),aN h]
   simp only[zb,ir hu.len hu.rise]
   have hops:=hl.ops _ (zm h)
   by_cases hs:fL u l[i].1=true
   · rw[hs,Bool.not_true,cond_false,zp rfl]
     have mid:=bE (S:=List (Ref1×Bool)) (f:=wk ((i:Int),m,()) l[i]) (l:=l[i].2.2.2.2.1) (fun k m=>((k:Int),m,())) (fun _ o m=>.inl (kq m o.2.2.2.2.1)) (fun m'=>(.inl (((i+1:Nat):Int),m',()):(Int×List (Ref1×Bool)×Unit)⊕List (Ref1×Bool))) (fun _ _=>True) (fun k hk m' _=>by
       refine .inl ⟨_,rfl,?_,trivial⟩
       have hseen:=hl.seen _ (zm h) _ (zm hk)
       unfold wk
       simp only[ae]
       rw[zp (by omega),aN hk]
       simp only[zb]
       have inner:=bE (S:=List (Ref1×Bool)) (f:=pk ((k:Int),m',()) l[i].2.2.2.2.1[k]) (l:=l[i].2.2.2.2.1[k].2.2.2.2.1) (fun j m=>((j:Int),m,())) (fun _ x m=>.inl (putK kL x true m)) (fun m''=>(.inl (((k+1:Nat):Int),m'',()):(Int×List (Ref1×Bool)×Unit)⊕((Int×List (Ref1×Bool)×Unit)⊕List (Ref1×Bool)))) (fun _ _=>True) (fun j hj m'' _=>by
         refine .inl ⟨_,rfl,?_,trivial⟩
         unfold pk
         simp only[ae]
         rw[zp (by omega),aN hj]
         simp only[zb]
         rw[wrap64 (by omega) (by omega)]; rfl) (fun m'' _=>by
         unfold pk
         simp only[ae]
         rw[zn (by omega),wrap64 (by omega) (by omega)]; rfl) m' trivial
       rw[show ((0:Int),m',())=(((0:Nat):Int),m',()) from rfl,inner,cm]
       rfl) (fun m' _=>by
       unfold wk
       simp only[ae]
       rw[zn (by omega),wrap64 (by omega) (by omega)]; rfl) m trivial
     rw[show ((0:Int),m,())=(((0:Nat):Int),m,()) from rfl,mid,cm]
     rfl
   · rw[zn hs,eq_false_of_ne_true hs,Bool.not_false,cond_true,wrap64 (by omega) (by omega)]; rfl) (fun m _=>by
   unfold wl
   simp only[ae]
   rw[zn (by omega)]) [] trivial
 unfold zbx
 rw[show ((0:Int),([]:List (Ref1×Bool)),())=(((0:Nat):Int),[],()) from rfl,outer,cm]
 rfl
def fh (k:Int):Bool:=decide (1≤k∧k≤3)
def kv (p:Ref1→Bool) (t:Txn1) (k:Nat) (o:Op1):List aX:=if fh o.1=true∧p (t.1,(k:Int),())=false then [((t.1,(k:Int),()),o,t.2.2.1,())] else []
def eE (p:Ref1→Bool) (t:Txn1):Nat→List Op1→List aX
 | _,[]=>[]
 | k,o::l=>kv p t k o++eE p t (k+1) l
def allM (l:List Txn1) (u:List Ref1):List aX:=l.flatMap fun t=>if fL u t.1=true then eE (covM l u) t 0 t.2.2.2.2.1 else []
theorem oL {p:Ref1→Bool}{t:Txn1}{k:Nat}{o:Op1}:(kv p t k o).length≤1:=by
 unfold kv; split<;>simp
theorem mE {p:Ref1→Bool}{t:Txn1}:∀ {l:List Op1}{k:Nat},(eE p t k l).length≤l.length
 | [],_=>Nat.le_refl _
 | o::l,k=>by
   have:=mE (p:=p) (t:=t) (l:=l) (k:=k+1)
   have:=oL (p:=p) (t:=t) (k:=k) (o:=o)
   unfold eE
   rw[List.length_append,zl]; omega
theorem oK {R:Type}{p:Ref1→Bool}{t:Txn1}{fin:List aX→R}:∀ (l:List Op1) (k:Nat) (o:List aX),fB (fun k x o=>.inl (o++kv p t k x)) fin k l o=fin (o++eE p t k l)
 | [],k,o=>by simp[fB,eE]
 | x::l,k,o=>by
   unfold fB eE
   simp only
   rw[oK l (k+1),List.append_assoc]
theorem sI {A B R:Type}{g:A→List B}{fin:List B→R}:∀ (l:List A) (i:Nat) (o:List B),fB (fun _ x o=>.inl (o++g x)) fin i l o=fin (o++l.flatMap g)
 | [],i,o=>by simp[fB]
 | x::l,i,o=>by
   unfold fB
   simp only
   rw[sI l (i+1),List.flatMap_cons,List.append_assoc]
theorem aeg {l:List Txn1}{u:List Ref1} (hl:Low l) (hu:LowU u):zdw l u=some (allM l u):=by
 unfold zdw
 rw[adR hl hu,zb]
 have hp:(fun x=>hasK x (covL u [] l))=covM l u:=by
   funext x
   rw[xm]
   exact Bool.or_false _
 generalize hm:covL u [] l=m at hp ⊢
 have outer:=bE (S:=List aX) (f:=vI l u) (l:=l) (fun i o=>((i:Int),m,o,())) (fun _ t o=>.inl (o++if fL u t.1=true then eE (covM l u) t 0 t.2.2.2.2.1 else [])) (fun o=>o) (fun i o=>o.length≤i*1000) (fun i h o ho=>by
   have hi:=hl.len
   have hops:=hl.ops _ (zm h)
   refine .inl ⟨_,rfl,?_,?_⟩
   · unfold vI
     simp only[ae]
     rw[zp (by omega),aN h]
     simp only[zb,ir hu.len hu.rise]
     by_cases hs:fL u l[i].1=true
     · rw[hs,Bool.not_true,cond_false,zp rfl]
       have inner:=bE (S:=List aX) (f:=vH ((i:Int),m,o,()) l[i]) (l:=l[i].2.2.2.2.1) (fun k o=>((k:Int),m,o,l[i],())) (fun k x o=>.inl (o++kv (covM l u) l[i] k x)) (fun o'=>(.inl (((i+1:Nat):Int),m,o',()):(Int×List (Ref1×Bool)×List aX×Unit)⊕List aX)) (fun k o'=>o'.length≤i*1000+k) (fun k hk o' ho'=>by
         refine .inl ⟨_,rfl,?_,?_⟩
         · have hget:(getK kL false (l[i].1,(k:Int),()) m).1=covM l u (l[i].1,(k:Int),()):=by rw[← hp]; rfl
           unfold vH kv
           simp only[ae]
           rw[zp (by omega),aN hk]
           simp only[zb]
           have hget:(getK (.agg (.cons (.agg (.cons (.int .i64) (.cons (.int .i64) .unit))) (.cons (.int .i64) .unit))) false (l[i].1,(k:Int),()) m).1=covM l u (l[i].1,(k:Int),()):=hget
           rw[hget,wrap64 (by omega) (by omega),aU (by simp; omega)]
           simp only[zb]
           have hk':fh l[i].2.2.2.2.1[k].1=true↔(l[i].2.2.2.2.1[k].1=1∨l[i].2.2.2.2.1[k].1=2∨l[i].2.2.2.2.1[k].1=3):=by unfold fh; simp only[decide_eq_true_eq]; omega
           by_cases hc:covM l u (l[i].1,(k:Int),())=true
           · rw[hc]
             simp only[Bool.not_true,cond_false,Bool.true_eq_false,and_false,if_false,List.append_nil]
             split
             · rfl
             · split
               · rfl
               · split<;>rfl
           · rw[eq_false_of_ne_true hc]
             simp only[Bool.not_false,cond_true,and_true]
             by_cases h1:l[i].2.2.2.2.1[k].1=1
             · rw[zp h1,zp (hk'.2 (.inl h1))]; rfl
             · by_cases h2:l[i].2.2.2.2.1[k].1=2
               · rw[zn h1,zp h2,zp (hk'.2 (.inr (.inl h2)))]; rfl
               · by_cases h3:l[i].2.2.2.2.1[k].1=3
                 · rw[zn h1,zn h2,zp h3,zp (hk'.2 (.inr (.inr h3)))]; rfl
                 · rw[zn h1,zn h2,zn h3,zn (fun e=>by rcases hk'.1 e with e | e | e; exact h1 e; exact h2 e; exact h3 e),List.append_nil]; rfl
         · have:=oL (p:=covM l u) (t:=l[i]) (k:=k) (o:=l[i].2.2.2.2.1[k])
           rw[List.length_append]; omega) (fun o' ho'=>by
         unfold vH
         simp only[ae]
         rw[zn (by omega),wrap64 (by omega) (by omega)]; rfl) o (by omega)
       rw[show ((0:Int),m,o,l[i],())=(((0:Nat):Int),m,o,l[i],()) from rfl,inner,oK]
     · rw[zn hs,eq_false_of_ne_true hs,Bool.not_false,cond_true,wrap64 (by omega) (by omega),List.append_nil]; rfl
   · have:=mE (p:=covM l u) (t:=l[i]) (l:=l[i].2.2.2.2.1) (k:=0)
     rw[List.length_append,Nat.succ_mul]
     split
     · omega
     · simp; omega) (fun o _=>by
   unfold vI
   simp only[ae]
   rw[zn (by omega)]) [] (by simp)
 rw[show ((0:Int),m,([]:List aX),())=(((0:Nat):Int),m,[],()) from rfl,outer,sI]
 rfl
theorem acV {A:Type}{q:A→Bool}:∀ {l:List A}{R:Type}{yes no:R},(if l.all (fun x => !q x)=true then no else yes)=if l.any q=true then yes else no
 | [],_,_,_=>rfl
 | x::l,R,yes,no=>by
   rw[List.all_cons,List.any_cons]
   cases q x with
   | true=>rfl
   | false =>
     rw[Bool.not_false,Bool.true_and,Bool.false_or]
     exact acV (l:=l)
theorem afH {A R X:Type}{f:A→Option (A⊕R)}{l:List X} (enc:Nat→A) (q:X→Bool) (yes no:R)
   (hturn:∀ (i:Nat) (h:i<l.length),f (enc i)=some (if q l[i]=true then .inr yes else .inl (enc (i+1)))) (hend:f (enc l.length)=some (.inr no)):aI f (enc 0)=some (if l.any q=true then yes else no):=by
 have:=jd (f:=f) (l:=l) enc (fun x => !q x) no yes (fun i h=>by
   rw[hturn i h]
   cases q l[i]<;>rfl) hend
 rw[this,acV]
def nw (k:Int):Int:=if k=1 then 1 else if k=2∨k=4 then 2 else if k=3 then 3 else 0
theorem w7 (k:Int):zd1 k=some (nw k):=by
 unfold zd1 nw
 simp only[ae]
 by_cases h1:k=1
 · rw[zp h1,zp h1]
 · by_cases h2:k=2
   · subst h2; rfl
   · by_cases h4:k=4
     · subst h4; rfl
     · by_cases h3:k=3
       · subst h3; rfl
       · simp[h1,h2,h3,h4]
def isAt (p:Path) (leaf:Int) (x:aX):Bool:=decide (nw x.2.1.1=leaf)&&decide (x.2.1.2.1=p)
def atM (l:List aX) (p:Path) (leaf:Int):List aX:=l.filter (isAt p leaf)
theorem oT {A:Type}{q:A→Bool}:∀ {l:List A},(l.flatMap fun x=>if q x=true then [x] else [])=l.filter q
 | []=>rfl
 | x::l=>by
   rw[List.flatMap_cons,oT,List.filter_cons]
   split<;>rfl
structure LowI (l:List aX):Prop where
 len:l.length<1000000
 path:∀ x∈l,x.2.1.2.1.length<1000000∧∀ s∈x.2.1.2.1,s.length<1000000
theorem at_t {l:List aX}{p:Path}{leaf:Int} (hl:LowI l):zdz l p leaf=some (atM l p leaf):=by
 have hlen:=hl.len
 have:=ed (f:=vG l p leaf) (l:=l) (fun i o=>((i:Int),o,())) (fun x=>if isAt p leaf x=true then [x] else []) (fun o=>o) 1 (fun x _=>by split<;>simp) (fun i h o ho=>by
   have hp:=(hl.path _ (zm h)).1
   unfold vG isAt
   simp only[ae]
   rw[zp (by omega),aN h]
   simp only[zb,w7,oy hp]
   rw[wrap64 (by omega) (by omega),aU (by simp; omega)]
   simp only[zb,ae]
   by_cases h1:nw l[i].2.1.1=leaf
   · rw[zp h1,zt h1,Bool.true_and]
     by_cases h2:l[i].2.1.2.1=p
     · rw[zp h2,zt h2]; rfl
     · rw[zn h2,zf h2]; simp
   · rw[zn h1,zf h1]; simp) (fun o _=>by
   unfold vG
   simp only[ae]
   rw[zn (by omega)])
 unfold zdz atM
 rw[show ((0:Int),([]:List aX),())=(((0:Nat):Int),[],()) from rfl,this,oT]
theorem vx {l:List aX}{p:Path}{leaf:Int} (hl:LowI l):LowI (atM l p leaf):=⟨Nat.lt_of_le_of_lt (List.length_filter_le ..) hl.len,fun x hx=>hl.path x (List.mem_filter.1 hx).1⟩
theorem dR {A:Type}{w:List A} (h:0<w.length):w.isEmpty=false:=by cases w with
 | nil=>cases h
 | cons _ _=>rfl
theorem fp {n a b:Nat} (h1:a≤b) (h2:b≤n):lF n (a:Int) (b:Int)=some (a,b-a):=by
 unfold lF
 rw[zp ⟨by omega,by omega,by omega⟩]; simp
theorem iR {A:Type} [DecidableEq A] {l:List A}{i:Nat} (hi:i<l.length) (h0:0<i):sqz (l.take (i+1))=if l[i-1]'(by omega)=l[i] then sqz (l.take i) else sqz (l.take i)++[l[i]]:=by
 rw[List.take_add_one,zg hi,Option.toList_some,pF]
 unfold sqzS
 have e:(sqz (l.take i)).getLast? = some (l[i-1]'(by omega)):=by
   rw[afg,List.getLast?_eq_getElem?,List.length_take,show min i l.length-1=i-1 by omega,List.getElem?_take_of_lt (by omega),zg (by omega)]
 rw[e]
 by_cases h:l[i-1]'(by omega)=l[i]
 · rw[zp (by rw[h]),zp h]
 · rw[zn (fun e=>h (Option.some.inj e)),zn h]
structure Mid (l w:List Val) (i0 k i:Nat):Prop where
 len:w.length=l.length
 head:w.take i=sqz (l.take (i0+k))
 rest:∀ j,i0+k-1≤j→w[j]? = l[j]?
 low:i≤i0+k-1
theorem qw {l:List Val}{i0:Nat} (hl:l.length<1000000) (h0:0<i0) (hi0:i0<l.length):∀ (n k i:Nat) (w:List Val),l.length-i0-k≤n→1≤k→k≤l.length-i0→Mid l w i0 k i →
   ∃ w' i',Mid l w' i0 (l.length-i0) i'∧aI nP ((i:Int),(i0,l.length-i0),(k:Int),w,())=some (.inl ((i':Int),w',())):=by
 intro n
 induction n with
 | zero =>
   intro k i w hn hk1 hk hm
   have e:k=l.length-i0:=by omega
   subst e
   refine ⟨w,i,hm,aD ?_⟩
   unfold nP
   simp only[ae]
   rw[zn (by omega)]
 | succ n ih =>
   intro k i w hn hk1 hk hm
   by_cases hlt:k<l.length-i0
   · have hwl:=hm.len
     have hw:0<w.length:=by omega
     have hk0:i0+k<l.length:=by omega
     have ea:w[i0+k]? = some (l[i0+k]):=by rw[hm.rest _ (by omega),zg hk0]
     have eb:w[i0+(k-1)]? = some (l[i0+k-1]'(by omega)):=by rw[show i0+(k-1)=i0+k-1 by omega,hm.rest _ (by omega),zg (by omega)]
     have hlow:=hm.low
     have hiw:i<w.length:=by omega
     have turn:nP ((i:Int),(i0,l.length-i0),(k:Int),w,())=if l[i0+k-1]'(by omega)=l[i0+k] then some (.inl ((i:Int),(i0,l.length-i0),((k+1:Nat):Int),w,())) else some (.inl (((i+1:Nat):Int),(i0,l.length-i0),((k+1:Nat):Int),w.set i l[i0+k],())):=by
       unfold nP
       simp only[ae]
       rw[zp (by omega),dR hw]
       simp only[cond_false]
       rw[cg hlt,wrap64 (n:=(k:Int)-1) (by omega) (by omega),show (k:Int)-1=((k-1:Nat):Int) by omega,cg (show k-1<l.length-i0 by omega)]
       simp only[zb]
       rw[ea,eb]
       simp only[zb,zu]
       rw[wrap64 (by omega) (by omega),wrap64 (by omega) (by omega)]
       by_cases hx:l[i0+k]=l[i0+k-1]'(by omega)
       · rw[zp hx.symm,zt hx]; rfl
       · rw[zn (fun e=>hx e.symm),zf hx,cg hiw]
         simp only[Bool.not_false,cond_true,zb]
         rw[zg hiw]
         rfl
     have hsq:=iR (l:=l) (i:=i0+k) hk0 (by omega)
     by_cases hx:l[i0+k-1]'(by omega)=l[i0+k]
     · rw[zp hx] at turn hsq
       rw[aH turn]
       exact ih (k+1) i w (by omega) (by omega) (by omega) ⟨hwl,by rw[hm.head,show i0+(k+1)=i0+k+1 by omega,hsq],fun j hj=>hm.rest j (by omega),by omega⟩
     · rw[zn hx] at turn hsq
       rw[aH turn]
       refine ih (k+1) (i+1) _ (by omega) (by omega) (by omega) ⟨by rw[List.length_set]; exact hwl,?_,fun j hj => ?_,by omega⟩
       · rw[show i0+(k+1)=i0+k+1 by omega,hsq,← hm.head,List.take_add_one,List.take_set_of_le (by omega),List.getElem?_set_self hiw]; rfl
       · rw[List.getElem?_set_ne (by omega)]
         exact hm.rest j (by omega)
   · have e:k=l.length-i0:=by omega
     subst e
     refine ⟨w,i,hm,aD ?_⟩
     unfold nP
     simp only[ae]
     rw[zn (by omega)]
theorem qv {l:List Val} (hl:l.length<1000000):∀ (n i:Nat),l.length-i≤n→1≤i→i≤l.length→sqz (l.take i)=l.take i →
   aI lq ((i:Int),l,())=some (sqz l):=by
 intro n
 induction n with
 | zero =>
   intro i hn h1 hi hs
   have e:i=l.length:=by omega
   subst e
   rw[List.take_of_length_le (Nat.le_refl _)] at hs
   refine aD ?_
   unfold lq
   simp only[ae]
   rw[zn (by omega),hs]
 | succ n ih =>
   intro i hn h1 hi hs
   by_cases hlt:i<l.length
   · have hsq:=iR (l:=l) (i:=i) hlt (by omega)
     have he:l.isEmpty=false:=dR (by omega)
     by_cases hx:l[i-1]'(by omega)=l[i]
     · refine aD ?_
       unfold lq
       simp only[ae]
       rw[zp (by omega),cg hlt,wrap64 (by omega) (by omega),show (i:Int)-1=((i-1:Nat):Int) by omega,cg (show i-1<l.length by omega)]
       simp only[zb,zg hlt,zg (show i-1<l.length by omega),zu]
       rw[zt hx.symm,cond_true,he,cond_false,fp (by omega) (Nat.le_refl _)]
       simp only[zb]
       rw[zp hx] at hsq
       obtain ⟨w',i',hm,hrun⟩:=qw hl (by omega) hlt (l.length-i) 1 i l (by omega) (Nat.le_refl _) (by omega) ⟨rfl,by rw[hsq,hs],fun j _=>rfl,by omega⟩
       rw[show ((1:Int))=((1:Nat):Int) from rfl,hrun,ay]
       have hwl:=hm.len
       have hlow:=hm.low
       have hle:i'≤w'.length:=by omega
       have hw:0<w'.length:=by omega
       have e2:i+(l.length-i)=l.length:=by omega
       have hhead:w'.take i'=sqz l:=by rw[hm.head,e2,List.take_of_length_le (Nat.le_refl _)]
       simp only
       rw[dR hw,cond_false,fp hle (Nat.le_refl _)]
       simp only[zb,cond_false]
       rw[zp (by omega)]
       simp only[zb]
       have hlen2:(List.take i' w'++List.replicate (w'.length-i') ((0,0,[],()):Val)++List.drop (i'+(w'.length-i')) w').length=w'.length:=by
         rw[List.length_append,List.length_append,List.length_take,List.length_replicate,List.length_drop]; omega
       rw[dR (by rw[hlen2]; exact hw),cond_false,hlen2,show ((0:Int))=((0:Nat):Int) from rfl,fp (Nat.zero_le _) hle]
       simp only[zb,cond_false]
       rw[zp (by omega)]
       simp only[Option.map_some,List.drop_zero,Nat.sub_zero]
       rw[List.append_assoc,List.take_append_of_le_length (by rw[List.length_take]; omega),List.take_take,Nat.min_self,hhead]
     · have turn : lq ((i : Int), l, ()) = some (.inl (((i + 1 : Nat) : Int), l, ())) := by
         unfold lq
         simp only[ae]
         rw[zp (by omega),cg hlt,wrap64 (by omega) (by omega),show (i:Int)-1=((i-1:Nat):Int) by omega,cg (show i-1<l.length by omega)]
         simp only[zb,zg hlt,zg (show i-1<l.length by omega),zu]
         rw[zf (fun e=>hx e.symm),cond_false,wrap64 (by omega) (by omega)]; rfl
       rw[aH turn]
       rw[zn hx,hs] at hsq
       refine ih (i+1) (by omega) (by omega) (by omega) ?_
       rw[hsq,List.take_add_one,zg hlt]; rfl
   · have e:i=l.length:=by omega
     subst e
     rw[List.take_of_length_le (Nat.le_refl _)] at hs
     refine aD ?_
     unfold lq
     simp only[ae]
     rw[zn (by omega),hs]
theorem adT {l:List Val} (hl:l.length<1000000):zan l=some (sqz l,()):=by
 unfold zan alD
 simp only[ae]
 match l,hl with
 | [],_=>rfl
 | [x],_=>rfl
 | x::y::l,hl =>
   rw[zn (by simp only[zl]; omega)]
   have:=qv hl (x::y::l).length 1 (by omega) (Nat.le_refl _) (by simp) rfl
   rw[show ((1:Int))=((1:Nat):Int) from rfl,this]
   rfl
def insV (o:List Val) (v:Val):List Val:=match o with
 | []=>[v]
 | x::l=>if cmpV v x=0 then x::l else if cmpV v x<0 then v::x::l else x::insV l v
abbrev acr (o:List Val):Prop:=iJ cmpV (fun v=>v) o
theorem qg {v x:Val}:∀ {o:List Val},x∈insV o v↔x=v∨x∈o
 | []=>by simp[insV]
 | y::l=>by
   unfold insV
   split
   · rename_i h
     have e:=(fD.zero _ _).1 h
     subst e
     simp
   · split
     · simp
     · rw[List.mem_cons,qg,List.mem_cons]
       constructor
       · rintro (h | h | h)
         · exact .inr (.inl h)
         · exact .inl h
         · exact .inr (.inr h)
       · rintro (h | h | h)
         · exact .inr (.inl h)
         · exact .inl h
         · exact .inr (.inr h)
theorem oN {v:Val}:∀ {o:List Val},acr o→acr (insV o v)
 | [],_=>List.pairwise_singleton ..
 | y::l,h=>by
   have h':=List.pairwise_cons.1 h
   unfold insV
   split
   · exact h
   · rename_i h0
     split
     · rename_i h1
       refine List.pairwise_cons.2 ⟨fun z hz => ?_,h⟩
       rcases List.mem_cons.1 hz with e | hz
       · subst e; exact h1
       · exact fD.trans _ _ _ h1 (h'.1 z hz)
     · rename_i h1
       refine List.pairwise_cons.2 ⟨fun z hz => ?_,oN h'.2⟩
       rcases qg.1 hz with e | hz
       · subst e
         have h2:=fD.neg z y
         show cmpV y z<0
         omega
       · exact h'.1 z hz
def jJ (l:List Val):List Val:=l.foldl insV []
theorem lK:∀ (l o:List Val),acr o→acr (l.foldl insV o)∧∀ x,x∈l.foldl insV o↔x∈o∨x∈l
 | [],o,h=>⟨h,fun x=>by simp⟩
 | v::l,o,h=>by
   obtain ⟨h1,h2⟩:=lK l (insV o v) (oN h)
   refine ⟨h1,fun x => ?_⟩
   rw[List.foldl_cons,h2,qg,List.mem_cons]
   constructor
   · rintro ((h | h) | h)
     · exact .inr (.inl h)
     · exact .inl h
     · exact .inr (.inr h)
   · rintro (h | h | h)
     · exact .inl (.inr h)
     · exact .inl (.inl h)
     · exact .inr h
theorem lI (l:List Val):acr (jJ l):=(lK l [] List.Pairwise.nil).1
theorem lJ (l:List Val) (x:Val):x∈jJ l↔x∈l:=by
 have:=(lK l [] List.Pairwise.nil).2 x
 simpa [jJ] using this
theorem xh {v:Val}:∀ {o:List Val},(insV o v).length≤o.length+1
 | []=>Nat.le_refl _
 | y::l=>by
   unfold insV
   split
   · omega
   · split
     · simp
     · have:=xh (v:=v) (o:=l)
       simp only[zl]; omega
theorem rg:∀ (l o:List Val),(l.foldl insV o).length≤o.length+l.length
 | [],o=>Nat.le_refl _
 | v::l,o=>by
   have:=rg l (insV o v)
   have:=xh (v:=v) (o:=o)
   rw[List.foldl_cons,zl]; omega
theorem rC {l:List Val} (hl:l.length<1000000):∃ s,zak l=some ((),s,())∧zan s=some (jJ l,()):=by
 obtain ⟨s,h1,h2,h3⟩:=rD (c:=cmpV) (key:=fun v:Val=>v) (cmp:=fun x y=>zbo x y) (xs:=l) fD (fun x _ y _=>fc x y) (by omega)
 refine ⟨s,by unfold zak; rw[h1]; rfl,?_⟩
 rw[adT (by rw[h2.length_eq]; exact hl)]
 have:sqz s=jJ l:=by
   refine dP fD (key:=fun v:Val=>v) (rB fD (fun a b=>(fD.zero a b).1) _ s rfl h3) (lI l) fun x => ?_
   rw[pE _ s rfl,lJ]
   exact h2.mem_iff
 rw[this]
def rn (l:List aX) (p:Path):List Val:=(atM l p 1).map fun x=>x.2.1.2.2.1
theorem ut {l:List aX}{p:Path} (hl:LowI l):zc8 l p=some (jJ (rn l p)):=by
 unfold zc8 rn
 rw[at_t hl]
 have hlow:=(vx (p:=p) (leaf:=1) hl).len
 generalize atM l p 1=q at hlow
 simp only[zb]
 have:=ed (f:=wi q) (l:=q) (fun i o=>((i:Int),o,())) (fun x=>[x.2.1.2.2.1]) (fun o=>(.inl (o,()):(List Val×Unit)⊕List Val)) 1 (fun x _=>Nat.le_refl _) (fun i h o ho=>by
   unfold wi
   simp only[ae]
   rw[zp (by omega),aN h]
   simp only[zb]
   rw[wrap64 (by omega) (by omega),aU (by simp; omega)]; rfl) (fun o _=>by
   unfold wi
   simp only[ae]
   rw[zn (by omega)])
 rw[show ((0:Int),([]:List Val),())=(((0:Nat):Int),[],()) from rfl,this,ay]
 have e:(q.flatMap fun x=>[x.2.1.2.2.1])=q.map fun x=>x.2.1.2.2.1:=by
   clear this hlow
   induction q with
   | nil=>rfl
   | cons x q ih=>rw[List.flatMap_cons,List.map_cons,ih]; rfl
 obtain ⟨s,h1,h2⟩:=rC (l:=q.map fun x=>x.2.1.2.2.1) (by rw[List.length_map]; exact hlow)
 simp only[e]
 rw[h1]
 simp only[zb,h2]
structure LowP (l:List Txn1):Prop where
 low:Low l
 ops:∀ t∈l,∀ o∈t.2.2.2.2.1,(o.2.1.length<1000000∧∀ s∈o.2.1,s.length<1000000)∧o.2.2.1.2.2.1.length<1000000
theorem mD {p:Ref1→Bool}{t:Txn1}:∀ {l:List Op1}{k:Nat}{x:aX},x∈eE p t k l→∃ (j:Nat) (o:Op1),o∈l∧fh o.1=true∧p (t.1,(j:Int),())=false∧x=((t.1,(j:Int),()),o,t.2.2.1,())
 | [],_,x,h=>by cases h
 | o::l,k,x,h=>by
   unfold eE at h
   rcases List.mem_append.1 h with h | h
   · unfold kv at h
     split at h
     · rename_i hc
       rw[List.mem_singleton] at h
       exact ⟨k,o,List.mem_cons_self ..,hc.1,hc.2,h⟩
     · cases h
   · obtain ⟨j,o',h1,h2⟩:=mD h
     exact ⟨j,o',List.mem_cons_of_mem _ h1,h2⟩
theorem ago {l:List Txn1}{u:List Ref1}{x:aX} (h:x∈allM l u):∃ t∈l,∃ (j:Nat) (o:Op1),o∈t.2.2.2.2.1∧fh o.1=true∧fL u t.1=true∧covM l u (t.1,(j:Int),())=false∧x=((t.1,(j:Int),()),o,t.2.2.1,()):=by
 unfold allM at h
 obtain ⟨t,ht,hx⟩:=List.mem_flatMap.1 h
 split at hx
 · rename_i hs
   obtain ⟨j,o,h1,h2,h3,h4⟩:=mD hx
   exact ⟨t,ht,j,o,h1,h2,hs,h3,h4⟩
 · cases hx
theorem xy {A B:Type}{g:A→List B}{n:Nat}:∀ {l:List A},(∀ x∈l,(g x).length≤n)→(l.flatMap g).length≤l.length*n
 | [],_=>Nat.zero_le _
 | x::l,h=>by
   have:=xy (l:=l) fun y hy=>h y (List.mem_cons_of_mem _ hy)
   have:=h x (List.mem_cons_self ..)
   rw[List.flatMap_cons,List.length_append,zl,Nat.succ_mul]; omega
theorem kW {l:List Txn1}{n:Nat} (h:TxnsOk l n) (hn:n≤900):LowP l:=by
 refine ⟨⟨by have:=h.len; omega,fun t ht=>by have:=(h.all t ht).len; omega,fun t ht o ho => ?_⟩,fun t ht o ho => ?_⟩
 · have:=((h.all t ht).ops o ho).1.2.2.2; omega
 · have:=((h.all t ht).ops o ho).1
   exact ⟨⟨by have:=this.1; omega,fun s hs=>by have:=this.2.1 s hs; omega⟩,by have:=this.2.2.1; omega⟩
theorem zD {u:List Ref1} (h:CountsOk u):LowU u:=⟨by have:=h.len; omega,h.rise⟩
abbrev ch:=Path×Int×Unit
def nG (a b:ch):Int:=orI (cmpP a.1 b.1) (cmpI a.2.1 b.2.1)
theorem awm:Cmp cmpP:=Cmp.list ad1
theorem ik:Cmp nG:=by
 have:nG=fun a b=>cmpB cmpP cmpI ((fun x:ch=>(x.1,x.2.1)) a) ((fun x:ch=>(x.1,x.2.1)) b):=rfl
 rw[this]
 exact vF (awm.pair mT) _ fun a b h=>by
   obtain ⟨a1,a2,⟨⟩⟩:=a; obtain ⟨b1,b2,⟨⟩⟩:=b
   simp only[Prod.mk.injEq] at h
   rw[h.1,h.2]
theorem ab2 {a b:ch} (ha:a.1.length<1000000):zbv a b=some (nG a b):=by
 unfold zbv
 simp only[iY ha,jr,or_t,zb]
 rfl
theorem adc {a b:ch} (ha:a.1.length<1000000):zbm a b=some (decide (a=b)):=by
 unfold zbm
 rw[ab2 ha]
 simp only[zb]
 by_cases h:a=b
 · rw[zt h,zt ((ik.zero _ _).2 h)]
 · rw[zf h,zf (fun e=>h ((ik.zero _ _).1 e))]
structure MidS (l w:List (List UInt8)) (i0 k i:Nat):Prop where
 len:w.length=l.length
 head:w.take i=sqz (l.take (i0+k))
 rest:∀ j,i0+k-1≤j→w[j]? = l[j]?
 low:i≤i0+k-1
structure MidL (l w:List ch) (i0 k i:Nat):Prop where
 len:w.length=l.length
 head:w.take i=sqz (l.take (i0+k))
 rest:∀ j,i0+k-1≤j→w[j]? = l[j]?
 low:i≤i0+k-1
theorem nF {l:List ch}{i0:Nat} (hl:l.length<1000000) (hE:∀ a b,a∈l→zbm a b=some (decide (a=b))) (h0:0<i0) (hi0:i0<l.length):∀ (n k i:Nat) (w:List ch),l.length-i0-k≤n→1≤k→k≤l.length-i0→MidL l w i0 k i →
   ∃ w' i',MidL l w' i0 (l.length-i0) i'∧aI nQ ((i:Int),(i0,l.length-i0),(k:Int),w,())=some (.inl ((i':Int),w',())):=by
 intro n
 induction n with
 | zero =>
   intro k i w hn hk1 hk hm
   have e:k=l.length-i0:=by omega
   subst e
   refine ⟨w,i,hm,aD ?_⟩
   unfold nQ
   simp only[ae]
   rw[zn (by omega)]
 | succ n ih =>
   intro k i w hn hk1 hk hm
   by_cases hlt:k<l.length-i0
   · have hwl:=hm.len
     have hw:0<w.length:=by omega
     have hk0:i0+k<l.length:=by omega
     have ea:w[i0+k]? = some (l[i0+k]):=by rw[hm.rest _ (by omega),zg hk0]
     have eb:w[i0+(k-1)]? = some (l[i0+k-1]'(by omega)):=by rw[show i0+(k-1)=i0+k-1 by omega,hm.rest _ (by omega),zg (by omega)]
     have hlow:=hm.low
     have hiw:i<w.length:=by omega
     have turn:nQ ((i:Int),(i0,l.length-i0),(k:Int),w,())=if l[i0+k-1]'(by omega)=l[i0+k] then some (.inl ((i:Int),(i0,l.length-i0),((k+1:Nat):Int),w,())) else some (.inl (((i+1:Nat):Int),(i0,l.length-i0),((k+1:Nat):Int),w.set i l[i0+k],())):=by
       unfold nQ
       simp only[ae]
       rw[zp (by omega),dR hw]
       simp only[cond_false]
       rw[cg hlt,wrap64 (n:=(k:Int)-1) (by omega) (by omega),show (k:Int)-1=((k-1:Nat):Int) by omega,cg (show k-1<l.length-i0 by omega)]
       simp only[zb]
       rw[ea,eb]
       simp only[zb,hE,zm]
       rw[wrap64 (by omega) (by omega),wrap64 (by omega) (by omega)]
       by_cases hx:l[i0+k]=l[i0+k-1]'(by omega)
       · rw[zp hx.symm]
         first | (rw[zt hx]; rfl) | (rw[zp hx])
       · rw[zn (fun e=>hx e.symm),zf hx,cg hiw]
         simp only[Bool.not_false,cond_true,zb]
         rw[zg hiw]
         rfl
     have hsq:=iR (l:=l) (i:=i0+k) hk0 (by omega)
     by_cases hx:l[i0+k-1]'(by omega)=l[i0+k]
     · rw[zp hx] at turn hsq
       rw[aH turn]
       exact ih (k+1) i w (by omega) (by omega) (by omega) ⟨hwl,by rw[hm.head,show i0+(k+1)=i0+k+1 by omega,hsq],fun j hj=>hm.rest j (by omega),by omega⟩
     · rw[zn hx] at turn hsq
       rw[aH turn]
       refine ih (k+1) (i+1) _ (by omega) (by omega) (by omega) ⟨by rw[List.length_set]; exact hwl,?_,fun j hj => ?_,by omega⟩
       · rw[show i0+(k+1)=i0+k+1 by omega,hsq,← hm.head,List.take_add_one,List.take_set_of_le (by omega),List.getElem?_set_self hiw]; rfl
       · rw[List.getElem?_set_ne (by omega)]
         exact hm.rest j (by omega)
   · have e:k=l.length-i0:=by omega
     subst e
     refine ⟨w,i,hm,aD ?_⟩
     unfold nQ
     simp only[ae]
     rw[zn (by omega)]
theorem nE {l:List ch} (hl:l.length<1000000) (hE:∀ a b,a∈l→zbm a b=some (decide (a=b))):∀ (n i:Nat),l.length-i≤n→1≤i→i≤l.length→sqz (l.take i)=l.take i →
   aI lr ((i:Int),l,())=some (sqz l):=by
 intro n
 induction n with
 | zero =>
   intro i hn h1 hi hs
   have e:i=l.length:=by omega
   subst e
   rw[List.take_of_length_le (Nat.le_refl _)] at hs
   refine aD ?_
   unfold lr
   simp only[ae]
   rw[zn (by omega),hs]
 | succ n ih =>
   intro i hn h1 hi hs
   by_cases hlt:i<l.length
   · have hsq:=iR (l:=l) (i:=i) hlt (by omega)
     have he:l.isEmpty=false:=dR (by omega)
     by_cases hx:l[i-1]'(by omega)=l[i]
     · refine aD ?_
       unfold lr
       simp only[ae]
       rw[zp (by omega),cg hlt,wrap64 (by omega) (by omega),show (i:Int)-1=((i-1:Nat):Int) by omega,cg (show i-1<l.length by omega)]
       simp only[zb,zg hlt,zg (show i-1<l.length by omega),hE,zm]
       first | rw[zt hx.symm,cond_true] | rw[zp hx.symm]
       rw[he,cond_false,fp (by omega) (Nat.le_refl _)]
       simp only[zb]
       rw[zp hx] at hsq
       obtain ⟨w',i',hm,hrun⟩:=nF hl hE (by omega) hlt (l.length-i) 1 i l (by omega) (Nat.le_refl _) (by omega) ⟨rfl,by rw[hsq,hs],fun j _=>rfl,by omega⟩
       rw[show ((1:Int))=((1:Nat):Int) from rfl,hrun,ay]
       have hwl:=hm.len
       have hlow:=hm.low
       have hle:i'≤w'.length:=by omega
       have hw:0<w'.length:=by omega
       have e2:i+(l.length-i)=l.length:=by omega
       have hhead:w'.take i'=sqz l:=by rw[hm.head,e2,List.take_of_length_le (Nat.le_refl _)]
       simp only
       rw[dR hw,cond_false,fp hle (Nat.le_refl _)]
       simp only[zb,cond_false]
       rw[zp (by omega)]
       simp only[zb]
       have hlen2:(List.take i' w'++List.replicate (w'.length-i') (([],0,()):ch)++List.drop (i'+(w'.length-i')) w').length=w'.length:=by
         rw[List.length_append,List.length_append,List.length_take,List.length_replicate,List.length_drop]; omega
       rw[dR (by rw[hlen2]; exact hw),cond_false,hlen2,show ((0:Int))=((0:Nat):Int) from rfl,fp (Nat.zero_le _) hle]
       simp only[zb,cond_false]
       rw[zp (by omega)]
       simp only[Option.map_some,List.drop_zero,Nat.sub_zero]
       rw[List.append_assoc,List.take_append_of_le_length (by rw[List.length_take]; omega),List.take_take,Nat.min_self,hhead]
     · have turn : lr ((i : Int), l, ()) = some (.inl (((i + 1 : Nat) : Int), l, ())) := by
         unfold lr
         simp only[ae]
         rw[zp (by omega),cg hlt,wrap64 (by omega) (by omega),show (i:Int)-1=((i-1:Nat):Int) by omega,cg (show i-1<l.length by omega)]
         simp only[zb,zg hlt,zg (show i-1<l.length by omega),hE,zm]
         first | rw[zf (fun e=>hx e.symm),cond_false] | rw[zn (fun e=>hx e.symm)]
         rw[wrap64 (by omega) (by omega)]; rfl
       rw[aH turn]
       rw[zn hx,hs] at hsq
       refine ih (i+1) (by omega) (by omega) (by omega) ?_
       rw[hsq,List.take_add_one,zg hlt]; rfl
   · have e:i=l.length:=by omega
     subst e
     rw[List.take_of_length_le (Nat.le_refl _)] at hs
     refine aD ?_
     unfold lr
     simp only[ae]
     rw[zn (by omega),hs]
theorem zF {l:List ch} (hl:l.length<1000000) (hE:∀ a b,a∈l→zbm a b=some (decide (a=b))):zah l=some (sqz l,()):=by
 unfold zah alW
 simp only[ae]
 match l,hl,hE with
 | [],_,_=>rfl
 | [x],_,_=>rfl
 | x::y::l,hl,hE =>
   rw[zn (by simp only[zl]; omega)]
   have:=nE hl hE (x::y::l).length 1 (by omega) (Nat.le_refl _) (by simp) rfl
   rw[show ((1:Int))=((1:Nat):Int) from rfl,this]
   rfl
def iO (q p:Path):Bool:=decide (q.take p.length=p)
theorem rq {q p:Path} (h:iO q p=true):p.length≤q.length:=by
 unfold iO at h
 rw[decide_eq_true_eq] at h
 have:=congrArg List.length h
 rw[List.length_take] at this; omega
def eD (x:aX):ch:=(x.2.1.2.1,nw x.2.1.1,())
def b8 (l:List aX):List ch:=uniq nG (l.map eD)
theorem p8 {l:List aX} (hl:LowI l):zb7 l=some (b8 l):=by
 have hlen:=hl.len
 have:=ed (f:=wy l) (l:=l) (fun i o=>((i:Int),o,())) (fun x=>[eD x]) (fun o=>(.inl (o,()):(List ch×Unit)⊕List ch)) 1 (fun x _=>Nat.le_refl _) (fun i h o ho=>by
   have hp:=(hl.path _ (zm h)).1
   unfold wy
   simp only[ae]
   rw[zp (by omega),aN h]
   have hc:za0 l[i].2.1.2.1=some l[i].2.1.2.1:=by
     unfold za0 fE
     rw[zp (by simp only[most]; omega)]
   simp only[zb,hc,w7]
   rw[wrap64 (by omega) (by omega),aU (by simp; omega)]; rfl) (fun o _=>by
   unfold wy
   simp only[ae]
   rw[zn (by omega)])
 unfold zb7
 rw[show ((0:Int),([]:List ch),())=(((0:Nat):Int),[],()) from rfl,this,ay]
 have e:(l.flatMap fun x=>[eD x])=l.map eD:=by
   clear this hlen hl
   induction l with
   | nil=>rfl
   | cons x l ih=>rw[List.flatMap_cons,List.map_cons,ih]; rfl
 have hp:∀ x∈l.map eD,x.1.length<1000000:=fun x hx=>by
   obtain ⟨y,hy,rfl⟩:=List.mem_map.1 hx
   exact (hl.path y hy).1
 obtain ⟨s,h1,h2,h3⟩:=rD (c:=nG) (key:=fun v:ch=>v) (cmp:=fun x y=>zbv x y) (xs:=l.map eD) ik (fun x hx y _=>ab2 (hp x hx)) (by rw[List.length_map]; omega)
 have hs:zal (l.map eD)=some ((),s,()):=by unfold zal; rw[h1]; rfl
 simp only[e]
 rw[hs]
 simp only[zb]
 rw[zF (by rw[h2.length_eq,List.length_map]; omega) (fun a b ha=>adc (hp a (h2.mem_iff.1 ha)))]
 simp only[zb]
 congr 1
 unfold b8
 refine dP ik (key:=fun v:ch=>v) (rB ik (fun a b=>(ik.zero a b).1) _ s rfl h3) (gJ ik _) fun x => ?_
 rw[pE _ s rfl,kV ik]
 exact h2.mem_iff
def av8 (y:ch):Prop:=y.1.length<1000000∧(∀ s∈y.1,s.length<1000000)∧0≤y.2.1∧y.2.1≤3
theorem afO (k:Int):0≤nw k∧nw k≤3:=by unfold nw; split<;>(try split)<;>(try split)<;>omega
theorem ze {l:List aX} (hl:LowI l) {x:aX} (hx:x∈l):av8 (eD x):=⟨(hl.path x hx).1,(hl.path x hx).2,afO _⟩
theorem my {l:List aX} (hl:LowI l):(b8 l).length<1000000:=by
 have h1:=wI (c:=nG) (l.map eD)
 rw[List.length_map] at h1
 have:=hl.len
 unfold b8; omega
theorem dD {l:List aX}{y:ch}:y∈b8 l↔∃ x∈l,eD x=y:=by
 unfold b8
 rw[kV ik,List.mem_map]
structure OpOk (o:Op1):Prop where
 kind:1≤o.1∧o.1≤5
 path:fF o.2.1=0
 val:o.1≠3→o.1≠5→cZ o.2.2.1=true
 noval:o.1=3∨o.1=5→o.2.2.1=zeroV
 num:o.1=3→o.2.2.2.1≠0∧o.2.2.2.1≤2147483647 ∧ -2147483647≤o.2.2.2.1
 nonum:o.1≠3→o.2.2.2.1=0
 noseen:o.1=2∨o.1=3→o.2.2.2.2.1=[]
 seen:o.2.2.2.2.1.length≤256∧kN o.2.2.2.2.1=true
theorem av0 {o:Op1} (h:opM o=0):OpOk o:=by
 unfold opM at h
 by_cases a1:o.1<1∨5<o.1
 · rw[zp a1] at h; omega
 rw[zn a1] at h
 by_cases a2:fF o.2.1≠0
 · rw[zp a2] at h; exact absurd h a2
 rw[zn a2] at h
 by_cases a3:(o.1=3∨o.1=5)∧o.2.2.1≠zeroV
 · rw[zp a3] at h; omega
 rw[zn a3] at h
 by_cases a4:¬ (o.1=3∨o.1=5)∧cZ o.2.2.1=false
 · rw[zp a4] at h; omega
 rw[zn a4] at h
 by_cases a5:o.1≠3∧o.2.2.2.1≠0
 · rw[zp a5] at h; omega
 rw[zn a5] at h
 by_cases a6:o.1=3∧(o.2.2.2.1=0∨o.2.2.2.1>2147483647∨o.2.2.2.1 < -2147483647)
 · rw[zp a6] at h; omega
 rw[zn a6] at h
 by_cases a7:(o.1=2∨o.1=3)∧0<o.2.2.2.2.1.length
 · rw[zp a7] at h; omega
 rw[zn a7] at h
 by_cases a8:256<o.2.2.2.2.1.length
 · rw[zp a8] at h; omega
 rw[zn a8] at h
 by_cases a9:kN o.2.2.2.2.1=true
 · refine ⟨by omega,Classical.not_not.1 a2,fun h1 h2 => ?_,fun h1 => ?_,fun h1 => ?_,fun h1 => ?_,fun h1 => ?_,by omega,a9⟩
   · cases hr:cZ o.2.2.1 with
     | true=>rfl
     | false=>exact absurd ⟨by omega,hr⟩ a4
   · exact Classical.not_not.1 fun h2=>a3 ⟨h1,h2⟩
   · exact ⟨fun h2=>a6 ⟨h1,.inl h2⟩,Int.not_lt.1 fun h2=>a6 ⟨h1,.inr (.inl h2)⟩,Int.not_lt.1 fun h2=>a6 ⟨h1,.inr (.inr h2)⟩⟩
   · exact Classical.not_not.1 fun h2=>a5 ⟨h1,h2⟩
   · exact List.length_eq_zero_iff.1 (by omega)
 · rw[zn a9] at h; omega
structure ItemsOk (l:List aX):Prop where
 len:l.length≤320
 op:∀ x∈l,OpOk x.2.1∧rF x.2.1∧fh x.2.1.1=true
theorem fR {l:List Txn1}{u:List Ref1} (h:TxnsOk l 20):ItemsOk (allM l u):=by
 constructor
 · have : (allM l u).length ≤ l.length * 16 := by
     unfold allM
     refine xy fun t ht => ?_
     split
     · exact Nat.le_trans mE (h.all t ht).len
     · simp
   have:=h.len; omega
 · intro x hx
   obtain ⟨t,ht,j,o,ho,hk,_,_,rfl⟩:=ago hx
   obtain ⟨h1,h2⟩:=(h.all t ht).ops o ho
   refine ⟨?_,h1,hk⟩
   rcases h2 with h2 | ⟨_,h2⟩
   · exact av0 h2
   · unfold j8 at h2
     unfold fh at hk
     simp only[decide_eq_true_eq] at h2 hk
     omega
theorem cW {l:List aX} (h:ItemsOk l):LowI l:=⟨by have:=h.len; omega,fun x hx=>by
 have:=(h.op x hx).2.1
 exact ⟨by have:=this.1; omega,fun s hs=>by have:=this.2.1 s hs; omega⟩⟩
theorem atOk {l:List aX}{p:Path}{k:Int} (h:ItemsOk l):ItemsOk (atM l p k):=⟨Nat.le_trans (List.length_filter_le ..) h.len,fun x hx=>h.op x (List.mem_filter.1 hx).1⟩
theorem ada {k:Int} (h:fh k=true):nw k=k:=by
 unfold fh at h
 simp only[decide_eq_true_eq] at h
 unfold nw
 split
 · omega
 · split
   · omega
   · split<;>omega
theorem aea {l:List aX}{p:Path}{k:Int} (h:ItemsOk l):∀ x∈atM l p k,x.2.1.1=k∧x.2.1.2.1=p:=fun x hx=>by
 obtain ⟨h1,h2⟩:=List.mem_filter.1 hx
 unfold isAt at h2
 simp only[Bool.and_eq_true,decide_eq_true_eq] at h2
 exact ⟨by rw[← ada (h.op x h1).2.2]; exact h2.1,h2.2⟩
theorem anc {A:Type}{p q:List A}{y:A} (h:(p++q).length<1000000):insT (p++q) (p.length:Int) [y]=some (p++y::q):=by
 simp only[List.length_append] at h
 unfold insT
 rw[zp ⟨by omega,by simp only[List.length_append]; omega,by simp,by simp only[List.length_append,zl,List.length_nil]; unfold most; omega⟩]
 simp
theorem ym (l:List Val):jJ l=uniq cmpV l:=by
 refine dP fD (key:=fun v:Val=>v) (lI l) (gJ fD l) fun x => ?_
 rw[lJ,kV fD]
theorem qX {u:List Val}{d:Val} (hl:u.length<1000000) (hr:ff cmpV u):∀ (k i j:Nat),j-i≤k→i≤(loA cmpV d u).length→(loA cmpV d u).length≤j→j≤u.length →
   aI (nS u d) ((i:Int),(j:Int),())=some (.inl (((loA cmpV d u).length:Int),())):=by
 intro k
 induction k with
 | zero =>
   intro i j hk h1 h2 h3
   refine aD ?_
   unfold nS
   simp only[ae]
   rw[zn (by omega),show (loA cmpV d u).length=i by omega]
 | succ k ih =>
   intro i j hk h1 h2 h3
   by_cases hij:i<j
   · have hh:(i+j)/2<u.length:=by omega
     have turn:nS u d ((i:Int),(j:Int),())=if cmpV u[(i+j)/2] d<0 then some (.inl ((((i+j)/2+1:Nat):Int),(j:Int),())) else some (.inl ((i:Int),(((i+j)/2:Nat):Int),())):=by
       unfold nS
       simp only[ae]
       rw[zp (by omega),show (i:Int)+(j:Int)=((i+j:Nat):Int) by omega,sB (by omega)]
       simp only[zb]
       rw[wrap64 (n:=(((i+j)/2:Nat):Int)) (by omega) (by omega),aN hh]
       simp only[zb,fc]
       rw[wrap64 (by omega) (by omega)]; rfl
     by_cases hn:(i+j)/2<(loA cmpV d u).length
     · rw[zp (anI (c:=cmpV) (key:=fun v:Val=>v) hh hn)] at turn
       rw[aH turn]
       exact ih _ _ (by omega) (by omega) h2 h3
     · have:=anJ fD (key:=fun v:Val=>v) hr hh (k:=d) (Nat.le_of_not_lt hn)
       rw[zn (by omega)] at turn
       rw[aH turn]
       exact ih _ _ (by omega) h1 (by omega) (by omega)
   · refine aD ?_
     unfold nS
     simp only[ae]
     rw[zn (by omega),show (loA cmpV d u).length=i by omega]
def anf (q:List Val) (d:Val):Bool:=match q with
 | []=>false
 | x::_=>decide (cmpV x d=0)
theorem abW {u:List Val}{d:Val} (hl:u.length<1000000) (hr:ff cmpV u) :
   zab u d ()=some (((loA cmpV d u).length:Int),anf (hiA cmpV d u) d,()):=by
 have e2:loA cmpV d u++hiA cmpV d u=u:=ac5
 have hlen:(loA cmpV d u).length+(hiA cmpV d u).length=u.length:=by rw[← List.length_append,e2]
 unfold zab
 have:=qX (d:=d) hl hr u.length 0 u.length (by omega) (by omega) (by omega) (by omega)
 rw[show ((0:Int),(u.length:Int),())=(((0:Nat):Int),(u.length:Int),()) from rfl,this,ay]
 simp only[ae]
 cases hq:hiA cmpV d u with
 | nil =>
   rw[hq] at hlen
   simp only[List.length_nil] at hlen
   rw[zn (by omega)]; rfl
 | cons x q =>
   rw[hq] at hlen e2
   simp only[zl] at hlen
   rw[zp (by omega),iG]
   have e3:u[(loA cmpV d u).length]? = some x:=by
     have:(loA cmpV d u++x::q)[(loA cmpV d u).length]? = some x:=by simp
     rw[e2] at this
     exact this
   rw[e3]
   simp only[zb,fc]
   rfl
def ad7 (l:List aX) (p:Path):List Val:=(atM l p 2).map fun x=>x.2.1.2.2.1
theorem vu {l:List aX}{p:Path} (hl:LowI l):zcw l p=some (jJ (ad7 l p)):=by
 unfold zcw ad7
 rw[at_t hl]
 have hlow:=(vx (p:=p) (leaf:=2) hl).len
 generalize atM l p 2=q at hlow
 simp only[zb]
 have loop:=bE (S:=List Val) (f:=vU q) (l:=q) (fun i o=>((i:Int),o,())) (fun _ x o=>.inl (putU cmpV o x.2.1.2.2.1)) (fun o=>o) (fun i o=>ff cmpV o∧o.length≤i) (fun i h o ho=>by
   refine .inl ⟨_,rfl,?_,ou fD ho.1,by have:=afz (c:=cmpV) (o:=o) (v:=q[i].2.1.2.2.1); have:=ho.2; omega⟩
   have ho2:=ho.2
   unfold vU
   simp only[ae]
   rw[zp (by omega),aN h]
   simp only[zb,abW (show o.length<1000000 by omega) ho.1]
   rw[wrap64 (by omega) (by omega)]
   generalize q[i].2.1.2.2.1=v
   have e:loA cmpV v o++hiA cmpV v o=o:=ac5
   have ins:insT o ((loA cmpV v o).length:Int) [v]=some (loA cmpV v o++v::hiA cmpV v o):=by
     have:=anc (p:=loA cmpV v o) (q:=hiA cmpV v o) (y:=v) (by rw[e]; omega)
     rwa [e] at this
   unfold zao putU
   cases hq:hiA cmpV v o with
   | nil =>
     rw[hq] at ins
     simp only[anf,Bool.not_false,cond_true,ins,Option.map_some,zb]; rfl
   | cons y r =>
     rw[hq] at ins
     simp only[anf]
     by_cases h0:cmpV y v=0
     · rw[zt h0,Bool.not_true,cond_false,zp h0]; rfl
     · rw[zf h0,Bool.not_false,cond_true,zn h0,ins]; rfl) (fun o _=>by
   unfold vU
   simp only[ae]
   rw[zn (by omega)]) [] ⟨List.Pairwise.nil,by simp⟩
 rw[show ((0:Int),([]:List Val),())=(((0:Nat):Int),[],()) from rfl,loop,cm,ym,← afu fD,List.foldl_map]
def sumI (q:List aX):Int:=q.foldl (fun n x=>n+x.2.1.2.2.2.1) 0
def acb (q:List aX):Prop:=∀ x∈q,-2147483647≤x.2.1.2.2.2.1∧x.2.1.2.2.2.1≤2147483647
theorem ayA {l:List aX}{p:Path} (hl:LowI l) (hn:acb (atM l p 3)):zdr l p=some (sumI (atM l p 3)):=by
 unfold zdr
 rw[at_t hl]
 have hlow:=(vx (p:=p) (leaf:=3) hl).len
 generalize atM l p 3=q at hlow hn
 simp only[zb]
 have loop:=bE (S:=Int) (f:=vK q) (l:=q) (fun i n=>(n,(i:Int),())) (fun _ x n=>.inl (n+x.2.1.2.2.2.1)) (fun n=>n) (fun i n => -2147483648*(i:Int)≤n∧n≤2147483648*(i:Int)) (fun i h n hb=>by
   have hx:=hn _ (zm h)
   refine .inl ⟨_,rfl,?_,by constructor<;>omega⟩
   unfold vK
   simp only[ae]
   rw[zp (by omega),aN h]
   simp only[zb]
   rw[wrap64 (n:=(i:Int)+1) (by omega) (by omega),wrap64 (by omega) (by omega)]; rfl) (fun n _=>by
   unfold vK
   simp only[ae]
   rw[zn (by omega)]) 0 (by omega)
 rw[cm] at loop
 exact loop
def entM (l:List aX) (p:Path) (k:Int):Ent:=(p,k,if k=1 then jJ (rn l p) else if k=2 then jJ (ad7 l p) else [],if k=3 then sumI (atM l p 3) else 0,())
theorem acU {l:List aX}{p:Path} (h:ItemsOk l):acb (atM l p 3):=fun x hx=>by
 have h1:=(aea h x hx).1
 have h2:=((atOk h).op x hx).1.num h1
 omega
theorem anA {p:Path} (hp:p.length<1000000):za0 p=some p:=by
 unfold za0 fE
 rw[zp (by simp only[most]; omega)]
theorem afa {l:List aX}{p:Path}{k:Int} (h:ItemsOk l) (hp:p.length<1000000):zd3 l p k=some (entM l p k):=by
 have hl:=cW h
 unfold zd3 entM
 rw[anA hp]
 simp only[zb,ae,ut hl,vu hl,ayA hl (acU h)]
 by_cases h1:k=1
 · rw[zp h1,zp h1,zn (by omega)]
 · rw[zn h1,zn h1]
   by_cases h2:k=2
   · rw[zp h2,zp h2,zn (by omega)]
   · rw[zn h2,zn h2]
     by_cases h3:k=3
     · rw[zp h3,zp h3]
     · rw[zn h3,zn h3]
def hP (l:List aX):List Ent:=(b8 l).map fun y=>entM l y.1 y.2.1
theorem dh {A B:Type}{g:A→B}:∀ {l:List A},(l.flatMap fun x=>[g x])=l.map g
 | []=>rfl
 | x::l=>by rw[List.flatMap_cons,List.map_cons,dh]; rfl
theorem oF {l:List aX} (h:ItemsOk l) {y:ch} (hy:y∈b8 l):y.1.length≤12∧∀ s∈y.1,s.length≤120:=by
 obtain ⟨x,hx,rfl⟩:=dD.1 hy
 have:=(h.op x hx).2.1
 exact ⟨this.1,this.2.1⟩
theorem oE {l:List aX} (h:ItemsOk l):(b8 l).length≤320:=by
 have h1:=wI (c:=nG) (l.map eD)
 rw[List.length_map] at h1
 have:=h.len
 unfold b8; omega
theorem nV {l:List aX}{p:Path}{k:Int} (h:ItemsOk l) (hk:k=1∨k=2):∀ v∈(atM l p k).map (fun x=>x.2.1.2.2.1),cZ v=true:=fun v hv=>by
 obtain ⟨x,hx,rfl⟩:=List.mem_map.1 hv
 have h1:=(aea h x hx).1
 exact ((atOk h).op x hx).1.val (by omega) (by omega)
theorem lH {q:List Val} (hq:q.length≤320) (hr:∀ v∈q,cZ v=true):(jJ q).length≤400∧∀ v∈jJ q,cZ v=true:=by
 constructor
 · have:=rg q []
   simp only[List.length_nil,Nat.zero_add] at this
   unfold jJ; omega
 · intro v hv
   exact hr v ((lJ q v).1 hv)
theorem agO:∀ (q:List aX) (n:Int) (k:Nat),acb q→(-2147483647*(k:Int)≤n∧n≤2147483647*(k:Int)) → -2147483647*((k+q.length:Nat):Int)≤q.foldl (fun n x=>n+x.2.1.2.2.2.1) n∧q.foldl (fun n x=>n+x.2.1.2.2.2.1) n≤2147483647*((k+q.length:Nat):Int)
 | [],n,k,_,h=>h
 | x::q,n,k,hn,h=>by
   have hx:=hn x (List.mem_cons_self ..)
   rw[List.foldl_cons,zl,show k+(q.length+1)=(k+1)+q.length by omega]
   exact agO q _ (k+1) (fun y hy=>hn y (List.mem_cons_of_mem _ hy)) (by omega)
theorem adJ {l:List aX}{p:Path}{k:Int} (h:ItemsOk l) (hp:p.length≤12) (hs:∀ s∈p,s.length≤120):oe (entM l p k)∧inR (entM l p k).2.2.2.1:=by
 have hat:∀ k,(atM l p k).length≤320:=fun k=>(atOk h).len
 refine ⟨⟨hp,hs,?_⟩,?_⟩
 · unfold entM
   simp only
   by_cases h1:k=1
   · rw[zp h1]
     exact lH (by simp only[rn,List.length_map]; exact hat 1) (nV h (.inl rfl))
   · rw[zn h1]
     by_cases h2:k=2
     · rw[zp h2]
       exact lH (by simp only[ad7,List.length_map]; exact hat 2) (nV h (.inr rfl))
     · rw[zn h2]
       exact ⟨by simp,fun v hv=>by cases hv⟩
 · unfold entM inR
   simp only
   have h1:=agO (atM l p 3) 0 0 (acU h) (by simp)
   have:=hat 3
   unfold sumI
   split<;>omega
theorem ann {l:List aX}{p:Path}{k:Int} (h:ItemsOk l) (hp:p.length≤12) (hs:∀ s∈p,s.length≤120):lowE (entM l p k):=by
 have:=(adJ (k:=k) h hp hs).1
 exact ⟨by have:=this.1; omega,by have:=this.2.2.1; omega⟩
theorem iN {l:List aX}{e:Ent} (h:e∈hP l):∃ y∈b8 l,e=entM l y.1 y.2.1:=by
 obtain ⟨y,hy,rfl⟩:=List.mem_map.1 h
 exact ⟨y,hy,rfl⟩
theorem ae9 {l:List aX} (h:ItemsOk l):(hP l).length≤320:=by unfold hP; rw[List.length_map]; exact oE h
def NS (G:Prop) {A:Type} (o:Option A) (b:A):Prop:=o=some b∨¬ G∧o=none
theorem NS.bind {G:Prop}{A B:Type}{o:Option A}{a:A}{f:A→Option B}{b:B} (h:NS G o a) (hf:NS G (f a) b):NS G (o.bind f) b:=by
 rcases h with h | ⟨h1,h2⟩
 · rw[h,zb]; exact hf
 · exact .inr ⟨h1,by rw[h2]; rfl⟩
abbrev afp:List Ent→Prop:=iJ cmpK keyE
def seen (q:List Ent) (k:Path×Int):Bool:=match q with
 | x::_=>decide (cmpK (keyE x) k=0)
 | []=>false
structure VOk (v:List Ent):Prop where
 len:v.length≤320
 easy:∀ e∈v,ayH e
 rise:afp v
theorem VOk.low {v:List Ent} (h:VOk v):∀ e∈v,lowE e:=fun e he=>(h.easy e he).1
abbrev W1:=Path×List Ent×Int×Unit
theorem anr {a b:List Ent} (ha:VOk a) (hb:VOk b):zb1 a b=some (dM a b):=awh (by have:=ha.len; have:=hb.len; omega) ha.low hb.low
theorem awl {a b:List Ent} (ha:VOk a) (hb:VOk b):(dM a b).length≤640:=by
 have:=awk _ a b (Nat.le_refl _)
 have:=ha.len
 have:=hb.len
 omega
theorem acu:kN []=true:=by
 unfold kN
 rw[zp (by intro i h; simp at h)]
theorem avV {a:UInt8} (h:a.toNat<128):cw [a]=some [(a.toNat:Int)]:=by
 have hc:aK [a]=((a.toNat:Int),1):=by simp only[aK]; rw[zp h]
 rw[fM (by simp) (by rw[hc]; simp),hc]
 show (cw []).map _=_
 rw[gM]; rfl
theorem ayG {a:UInt8} (h:a.toNat<128) (hm:mayM (a.toNat:Int)=true):uL [a]=true:=by
 unfold uL
 rw[avV h]
 simp[hm]
theorem adY:fF [[97]]=0:=by
 unfold fF
 simp[ayG (a:=97) (by decide) (by decide)]
theorem avY {p:Path} (h:fF p=0):opM (1,p,(1,1,[],()),0,[],())=0:=by
 unfold opM
 simp[h,cZ,acu]
theorem oJ {p q:Ref1→Bool}{c:Ref1→Bool} (h:∀ x,q x=(p x||c x)) {t:Txn1}:∀ (l:List Op1) (k:Nat),eE q t k l=(eE p t k l).filter fun y => !c y.1
 | [],k=>rfl
 | o::l,k=>by
   unfold eE
   rw[List.filter_append,← oJ h l (k+1)]
   congr 1
   unfold kv
   rw[h]
   by_cases h1:fh o.1=true∧p (t.1,(k:Int),())=false
   · rw[zp h1]
     cases hc:c (t.1,(k:Int),()) with
     | true=>rw[zn (by simp),List.filter_cons_of_neg (by simp[hc])]; rfl
     | false=>rw[zp ⟨h1.1,by rw[h1.2]; rfl⟩,List.filter_cons_of_pos (by simp[hc])]; rfl
   · rw[zn h1,zn (fun e=>h1 ⟨e.1,by have:=e.2; rw[Bool.or_eq_false_iff] at this; exact this.1⟩)]; rfl
theorem ku {l:List aX} (hl:LowI l):∀ y∈b8 l,av8 y:=fun y hy=>by
 obtain ⟨x,hx,e⟩:=dD.1 hy
 rw[← e]; exact ze hl hx
theorem wG {l:List aX} (h:ItemsOk l):zd2 l=some (hP l):=by
 have hlen:=oE h
 unfold zd2
 rw[p8 (cW h)]
 simp only[zb]
 have this:=ed (f:=vQ l (b8 l)) (l:=b8 l) (fun i o=>((i:Int),o,())) (fun y=>[entM l y.1 y.2.1]) (fun o=>o) 1 (fun x _=>Nat.le_refl _) (fun i hi o ho=>by
   have hs:=oF h (zm hi)
   unfold vQ
   simp only[ae]
   rw[zp (by omega),aN hi]
   simp only[zb,afa h (show (b8 l)[i].1.length<1000000 by omega)]
   rw[wrap64 (by omega) (by omega),aU (by simp; omega)]; rfl) (fun o _=>by
   unfold vQ
   simp only[ae]
   rw[zn (by omega)])
 rw[show ((0:Int),([]:List Ent),())=(((0:Nat):Int),[],()) from rfl,this,dh]
 rfl
theorem uA {q p:Path} (hq:q.length<1000000):jS q p=some (iO q p):=by
 unfold jS
 simp only[ae]
 by_cases h:p.length≤q.length
 · rw[zp (by omega),show (0:Int)=((0:Nat):Int) from rfl,wM (Nat.zero_le _) h,List.drop_zero]
   simp only[zb]
   rw[wN (by rw[List.length_take]; omega)]
   rfl
 · rw[zn (by omega)]
   cases hu:iO q p with
   | false=>rfl
   | true=>exact absurd (rq hu) h
theorem yH {q p:Path} (hq:q.length<1000000):ix q p=some (iO q p):=by
 unfold ix
 simp only[ae]
 by_cases h:p.length≤q.length
 · rw[zn (by omega)]
   have hl:(q.take p.length).length=p.length:=by rw[List.length_take]; omega
   have:=gv (f:=dL q p) (l:=q.take p.length) (m:=p) (fun i=>((i:Int),())) (fun x y=>decide (x=y)) true false hl (fun i h1 h2=>by
     unfold dL
     simp only[ae,bh]
     rw[zp (by omega),aN (show i<q.length by omega),aN h2]
     simp only[zb]
     rw[List.getElem_take,wrap64 (by omega) (by omega)]
     by_cases e:q[i]=p[i]
     · rw[zp e,zp (by rw[e]; simp)]; rfl
     · rw[zn e,zn (by simpa using e)]) (by
     unfold dL
     simp only[ae]
     rw[zn (by omega)])
   rw[gY,ans] at this
   exact this
 · rw[zp (by omega)]
   cases hu:iO q p with
   | false=>rfl
   | true=>exact absurd (rq hu) h
abbrev nI:=List Int×List Dot1×Unit
abbrev St1:=List Txn1×List Ref1×nI×nI×List (List Dot1)×Unit
theorem bZ {A R S:Type}{f:A→Option (A⊕R)} (n:Nat) (enc:Nat→S→A) (inv:Nat→S→Prop) (Q:R→Prop)
   (hturn:∀ i s,i<n→inv i s→(∃ s',f (enc i s)=some (.inl (enc (i+1) s'))∧inv (i+1) s')∨(∃ r,f (enc i s)=some (.inr r)∧Q r))
   (hend:∀ s,inv n s→∃ r,f (enc n s)=some (.inr r)∧Q r):∀ s,inv 0 s→∃ r,aI f (enc 0 s)=some r∧Q r:=by
 have key:∀ (k i:Nat) (s:S),n-i≤k→i≤n→inv i s→∃ r,aI f (enc i s)=some r∧Q r:=by
   intro k
   induction k with
   | zero =>
     intro i s hk hi hv
     have:i=n:=by omega
     subst this
     obtain ⟨r,h1,h2⟩:=hend s hv
     exact ⟨r,aD h1,h2⟩
   | succ k ih =>
     intro i s hk hi hv
     by_cases hlt:i<n
     · rcases hturn i s hlt hv with ⟨s',h1,h2⟩ | ⟨r,h1,h2⟩
       · obtain ⟨r,h3,h4⟩:=ih (i+1) s' (by omega) (by omega) h2
         exact ⟨r,(aH h1).trans h3,h4⟩
       · exact ⟨r,aD h1,h2⟩
     · have:i=n:=by omega
       subst this
       obtain ⟨r,h1,h2⟩:=hend s hv
       exact ⟨r,aD h1,h2⟩
 exact fun s hv=>key n 0 s (by omega) (by omega) hv
theorem anC {R:Type}{f:Int×Int×Unit→Option ((Int×Int×Unit)⊕((Int×Unit)⊕R))} (c:Nat→Bool) (n:Nat)
   (hturn:∀ i j:Nat,i<j→j≤n→f ((i:Int),(j:Int),())=some (.inl (if c ((i+j)/2)=true then ((((i+j)/2+1:Nat):Int),(j:Int),()) else ((i:Int),(((i+j)/2:Nat):Int),()))))
   (hend:∀ i:Nat,f ((i:Int),(i:Int),())=some (.inr (.inl ((i:Int),())))) :
   ∃ k:Nat,k≤n∧aI f ((0:Int),(n:Int),())=some (.inl ((k:Int),())):=by
 have key:∀ (q i j:Nat),j-i≤q→i≤j→j≤n→∃ k:Nat,k≤n∧aI f ((i:Int),(j:Int),())=some (.inl ((k:Int),())):=by
   intro q
   induction q with
   | zero =>
     intro i j h1 h2 h3
     have:i=j:=by omega
     subst this
     exact ⟨i,h3,aD (hend i)⟩
   | succ q ih =>
     intro i j h1 h2 h3
     by_cases hij:i<j
     · have ht:=hturn i j hij h3
       by_cases hc:c ((i+j)/2)=true
       · rw[zp hc] at ht
         obtain ⟨k,k1,k2⟩:=ih ((i+j)/2+1) j (by omega) (by omega) h3
         exact ⟨k,k1,(aH ht).trans k2⟩
       · rw[zn hc] at ht
         obtain ⟨k,k1,k2⟩:=ih i ((i+j)/2) (by omega) (by omega) (by omega)
         exact ⟨k,k1,(aH ht).trans k2⟩
     · have:i=j:=by omega
       subst this
       exact ⟨i,h3,aD (hend i)⟩
 exact key n 0 n (by omega) (by omega) (Nat.le_refl _)
theorem gU (d:Dot1):zdg d=some (be d):=by
 unfold zdg be
 simp only[ae]
 by_cases h1:d.1≥0<;>by_cases h2:d.1<16<;>by_cases h3:d.2.1≥1<;>by_cases h4:d.2.1≤1048576<;>simp[h1,h2,h3,h4]<;>omega
theorem gP {d:Dot1} (h:be d=true):∃ k:Nat,k<16∧d.1=(k:Int)∧inI 16 d.1=some k:=by
 unfold be at h
 simp only[decide_eq_true_eq] at h
 refine ⟨d.1.toNat,by omega,by omega,?_⟩
 unfold inI
 rw[zp (by omega)]
theorem afb {v:List Int}{d:Dot1} (hv:v.length=16):∃ b,zd0 v d=some b:=by
 unfold zd0
 rw[gU]
 simp only[zb]
 cases h:be d with
 | false=>exact ⟨_,rfl⟩
 | true =>
   obtain ⟨k,h1,h2,h3⟩:=gP h
   rw[cond_true,h3]
   simp only[zb]
   rw[zg (by omega)]
   exact ⟨_,rfl⟩
theorem mL {l:List Dot1}{d:Dot1} (hl:l.length<1000000) :
   ∃ k:Nat,k≤l.length∧∃ b,zad l d ()=some ((k:Int),b,())∧(b=true→∃ x∈l,x=d):=by
 obtain ⟨k,h1,h2⟩:=anC (f:=wE l d) (fun m=>match l[m]? with | some x=>decide (cmpD x d<0) | none=>false) l.length (fun i j hij hj=>by
   have hh:(i+j)/2<l.length:=by omega
   unfold wE
   simp only[ae]
   rw[zp (by omega),show (i:Int)+(j:Int)=((i+j:Nat):Int) by omega,sB (by omega)]
   simp only[zb]
   rw[wrap64 (n:=(((i+j)/2:Nat):Int)) (by omega) (by omega),aN hh]
   simp only[zb,mM,zg hh,decide_eq_true_eq]
   rw[wrap64 (by omega) (by omega)]
   by_cases hc:cmpD l[(i+j)/2] d<0
   · rw[zp hc,zp hc]; rfl
   · rw[zn hc,zn hc]) (fun i=>by
   unfold wE
   simp only[ae]
   rw[zn (by omega)])
 refine ⟨k,h1,?_⟩
 unfold zad
 rw[h2,ay]
 simp only[ae]
 by_cases hk:k<l.length
 · rw[zp (by omega),aN hk]
   simp only[zb,mM]
   exact ⟨_,rfl,fun h=>⟨_,zm hk,(dV.zero _ _).1 (of_decide_eq_true h)⟩⟩
 · rw[zn (by omega)]
   exact ⟨_,rfl,fun h=>by cases h⟩
theorem sP {s:nI}{d:Dot1} (hv:s.1.length=16) (hm:s.2.1.length<1000000):∃ b,zdt s d=some b:=by
 obtain ⟨b,hb⟩:=afb (d:=d) hv
 obtain ⟨k,_,c,hc,_⟩:=mL (d:=d) hm
 unfold zdt
 rw[hb,hc]
 simp only[zb]
 cases b<;>exact ⟨_,rfl⟩
structure DOk (s:nI) (n:Nat):Prop where
 vec:s.1.length=16
 len:s.2.1.length≤n
 right:∀ d∈s.2.1,be d=true
theorem av7 {v:List Int}{l:List Dot1} (hv:v.length=16) (hl:l.length<1000000) (hr:∀ d∈l,be d=true):∃ s,zds v l=some s∧DOk s l.length:=by
 unfold zds
 refine bZ (S:=List Int×List Dot1) (f:=vJ l) l.length (fun i s=>((i:Int),([0,0,0,0,0,0,0,0,0,0,0,0,0,0,0,0],(),()),(s.1,(),()),s.2,())) (fun i s=>s.1.length=16∧s.2.length≤i∧∀ d∈s.2,be d=true) (fun s=>DOk s l.length) (fun i s hi hs => ?_) (fun s hs => ?_) (v,[]) ⟨hv,by simp,fun d hd=>by cases hd⟩
 · obtain ⟨w,m⟩:=s
   obtain ⟨s1,s2,s3⟩:=hs
   have hx:=hr _ (zm hi)
   obtain ⟨k,k1,k2,k3⟩:=gP hx
   have k4:k<w.length:=by simp only at s1; omega
   have push:(∀ d∈m++[l[i]],be d=true):=fun d hd=>by
     rcases List.mem_append.1 hd with h | h
     · exact s3 d h
     · rw[List.mem_singleton.1 h]; exact hx
   simp only at s1 s2 s3
   have room:bP (m.length+[l[i]].length)=some ():=aU (by simp; omega)
   refine .inl ?_
   unfold vJ
   simp only[ae]
   rw[zp (by omega),aN hi]
   simp only[zb,k3]
   rw[zg k4]
   simp only[zb]
   rw[wrap64 (n:=(i:Int)+1) (by omega) (by omega)]
   by_cases c1:l[i].2.1≤w[k]
   · rw[zp c1]; exact ⟨(w,m),rfl,s1,by simp only; omega,s3⟩
   rw[zn c1]
   by_cases c2:l[i].2.1=IntKind.wrap .i64 (w[k]+1)
   · rw[zp c2]; exact ⟨(w.set k l[i].2.1,m),rfl,by simp only[List.length_set]; exact s1,by simp only; omega,s3⟩
   rw[zn c2]
   by_cases c3:(m.length:Int)=0
   · rw[zp c3,room]; exact ⟨(w,m++[l[i]]),rfl,s1,by simp; omega,push⟩
   rw[zn c3,wrap64 (by omega) (by omega),show (m.length:Int)-1=((m.length-1:Nat):Int) by omega,cg (by omega)]
   simp only[zb]
   rw[zg (by omega)]
   simp only[zb,kc,bh]
   by_cases c4:m[m.length-1]'(by omega)=l[i]
   · rw[zp c4]; exact ⟨(w,m),rfl,s1,by simp only; omega,s3⟩
   · rw[zn c4,room]; exact ⟨(w,m++[l[i]]),rfl,s1,by simp; omega,push⟩
 · unfold vJ
   simp only[ae]
   rw[zn (by omega)]
   exact ⟨_,rfl,hs.1,hs.2.1,hs.2.2⟩
theorem adM {s:nI}{d:Dot1}{n:Nat} (hs:DOk s n) (hn:n<100000):∃ t,zdv s d=some t∧DOk t (n+1):=by
 unfold zdv
 rw[gU]
 simp only[zb]
 have up:DOk s (n+1):=⟨hs.vec,Nat.le_trans hs.len (by omega),hs.right⟩
 cases h:be d with
 | false=>exact ⟨s,rfl,up⟩
 | true =>
   have hl:=hs.len
   obtain ⟨b,hb⟩:=sP (d:=d) hs.vec (by omega)
   rw[Bool.not_true,cond_false,hb]
   simp only[zb]
   cases b with
   | true=>exact ⟨s,rfl,up⟩
   | false =>
     obtain ⟨k,k1,c,hc,_⟩:=mL (l:=s.2.1) (d:=d) (by omega)
     rw[cond_false,hc]
     simp only[zb]
     have e1:zay s.2.1=some s.2.1:=by
       unfold zay fE
       rw[zp (by simp only[most]; omega)]
     have e2:zaq (k:Int) [d] s.2.1=some (s.2.1.take k++[d]++s.2.1.drop k,()):=by
       unfold zaq zav insT
       rw[zp ⟨by omega,by omega,by simp,by simp only[most,List.length_singleton]; omega⟩]
       simp
     rw[e1]
     simp only[zb]
     rw[e2]
     simp only[zb]
     have hlen:(s.2.1.take k++[d]++s.2.1.drop k).length=s.2.1.length+1:=by simp; omega
     obtain ⟨t,t1,t2⟩:=av7 (v:=s.1) (l:=s.2.1.take k++[d]++s.2.1.drop k) hs.vec (by omega) (fun x hx=>by
       rcases List.mem_append.1 hx with hx | hx
       · rcases List.mem_append.1 hx with hx | hx
         · exact hs.right x (List.mem_of_mem_take hx)
         · rw[List.mem_singleton.1 hx]; exact h
       · exact hs.right x (List.mem_of_mem_drop hx))
     rw[t1]
     exact ⟨t,rfl,t2.vec,by have:=t2.len; omega,t2.right⟩
theorem xA {s:nI}{n:Nat} (hs:DOk s n) (hn:n<100000):∃ t,zbs s=some t∧DOk t n:=by
 have hl:=hs.len
 unfold zbs
 refine bZ (S:=List Int×List Dot1) (f:=wm s) s.2.1.length (fun i t=>((i:Int),([0,0,0,0,0,0,0,0,0,0,0,0,0,0,0,0],(),()),(t.1,(),()),t.2,())) (fun i t=>t.1.length=16∧t.2.length≤i∧∀ d∈t.2,be d=true) (fun t=>DOk t n) (fun i t hi ht => ?_) (fun t ht => ?_) (s.1,[]) ⟨hs.vec,by simp,fun d hd=>by cases hd⟩
 · obtain ⟨w,m⟩:=t
   obtain ⟨s1,s2,s3⟩:=ht
   have hx:=hs.right _ (zm hi)
   obtain ⟨k,k1,k2,k3⟩:=gP hx
   have k4:k<w.length:=by simp only at s1; omega
   have push:(∀ d∈m++[s.2.1[i]],be d=true):=fun d hd=>by
     rcases List.mem_append.1 hd with h | h
     · exact s3 d h
     · rw[List.mem_singleton.1 h]; exact hx
   simp only at s1 s2 s3
   have room:bP (m.length+[s.2.1[i]].length)=some ():=aU (by simp; omega)
   refine .inl ?_
   unfold wm
   simp only[ae]
   rw[zp (by omega),aN hi]
   simp only[zb,k3]
   rw[zg k4]
   simp only[zb]
   rw[wrap64 (n:=(i:Int)+1) (by omega) (by omega)]
   by_cases c2:s.2.1[i].2.1=IntKind.wrap .i64 (w[k]+1)
   · rw[zp c2]; exact ⟨(w.set k s.2.1[i].2.1,m),rfl,by simp only[List.length_set]; exact s1,by simp only; omega,s3⟩
   rw[zn c2]
   by_cases c3:s.2.1[i].2.1>w[k]
   · rw[zp c3,room]; exact ⟨(w,m++[s.2.1[i]]),rfl,s1,by simp; omega,push⟩
   · rw[zn c3]; exact ⟨(w,m),rfl,s1,by simp only; omega,s3⟩
 · unfold wm
   simp only[ae]
   rw[zn (by omega)]
   exact ⟨_,rfl,ht.1,by have:=ht.2.1; simp only; omega,ht.2.2⟩
theorem ani {v:List Int}{d:Dot1} (hv:v.length=16):∃ b,zdd v d=some b:=by
 unfold zdd
 rw[dB]
 simp only[zb]
 cases h:be d with
 | false=>exact ⟨_,rfl⟩
 | true =>
   obtain ⟨k,h1,h2,h3⟩:=gP h
   rw[cond_true,h3]
   simp only[zb]
   rw[zg (by omega)]
   exact ⟨_,rfl⟩
theorem anh {s:nI}{d:Dot1} (hv:s.1.length=16) (hm:s.2.1.length<1000000):∃ b,zdn s d=some b:=by
 obtain ⟨b,hb⟩:=ani (d:=d) hv
 unfold zdn
 rw[hb]
 simp only[zb]
 cases b with
 | true=>exact ⟨_,rfl⟩
 | false =>
   obtain ⟨r,hr,_⟩:=bZ (S:=Unit) (f:=vL s d) s.2.1.length (fun i _=>((i:Int),())) (fun _ _=>True) (fun _=>True) (fun i _ hi _=>by
     unfold vL
     simp only[ae,kc]
     rw[zp (by omega),aN hi]
     simp only[zb]
     rw[wrap64 (by omega) (by omega)]
     by_cases c:s.2.1[i]=d
     · rw[zp c]; exact .inr ⟨_,rfl,trivial⟩
     · rw[zn c]; exact .inl ⟨(),rfl,trivial⟩) (fun _ _=>by
     unfold vL
     simp only[ae]
     rw[zn (by omega)]
     exact ⟨_,rfl,trivial⟩) () trivial
   exact ⟨r,hr⟩
theorem amP {s:nI}{d:Dot1}{n:Nat} (hs:DOk s n) (hn:n<10000):∃ t,zdm s d=some t∧DOk t (n+1):=by
 have hl:=hs.len
 have up:DOk s (n+1):=⟨hs.vec,by omega,hs.right⟩
 unfold zdm
 rw[dB]
 simp only[zb]
 cases h:be d with
 | false=>exact ⟨s,rfl,up⟩
 | true =>
   obtain ⟨b,hb⟩:=anh (d:=d) hs.vec (show s.2.1.length<1000000 by omega)
   rw[Bool.not_true,cond_false,hb]
   simp only[zb]
   cases b with
   | true=>exact ⟨s,rfl,up⟩
   | false =>
     rw[cond_false]
     obtain ⟨r,h1,laid,l,rfl,h2,h3⟩:=bZ (S:=Bool×List Dot1) (f:=vM s d) s.2.1.length (fun i t=>(t.1,(i:Int),([0,0,0,0,0,0,0,0,0,0,0,0,0,0,0,0],(),()),t.2,())) (fun i t=>(t.2.length=i+(if t.1=true then 1 else 0))∧∀ x∈t.2,be x=true) (fun r=>∃ laid l,r = .inl (laid,([0,0,0,0,0,0,0,0,0,0,0,0,0,0,0,0],(),()),l,())∧(l.length=s.2.1.length+(if laid=true then 1 else 0))∧∀ x∈l,be x=true) (fun i t hi ht=>by
       obtain ⟨laid,l⟩:=t
       obtain ⟨t1,t2⟩:=ht
       have hx:=hs.right _ (zm hi)
       simp only at t1 t2
       have bl:l.length≤i+1:=by cases laid<;>simp at t1<;>omega
       have room:∀ (m:List Dot1) (x:Dot1),m.length≤i+5→bP (m.length+[x].length)=some ():=fun m x hm=>aU (by simp; omega)
       refine .inl ?_
       unfold vM
       simp only[ae]
       rw[zp (by omega),aN hi,wrap64 (n:=(i:Int)+1) (by omega) (by omega)]
       simp only[zb,iU]
       cases laid with
       | true =>
         rw[Bool.not_true,cond_false,ay]
         simp only
         rw[room l _ (by omega)]
         refine ⟨(true,l++[s.2.1[i]]),rfl,by simp at t1 ⊢; omega,fun x hx2 => ?_⟩
         rcases List.mem_append.1 hx2 with q | q
         · exact t2 x q
         · rw[List.mem_singleton.1 q]; exact hx
       | false =>
         rw[Bool.not_false,cond_true]
         by_cases c:cmpD d s.2.1[i]<0
         · rw[zp c,room l _ (by omega)]
           simp only[zb]
           rw[mB]
           simp only
           rw[room (l++[d]) _ (by simp; omega)]
           refine ⟨(true,l++[d]++[s.2.1[i]]),rfl,by simp at t1 ⊢; omega,fun x hx2 => ?_⟩
           rcases List.mem_append.1 hx2 with q | q
           · rcases List.mem_append.1 q with q | q
             · exact t2 x q
             · rw[List.mem_singleton.1 q]; exact h
           · rw[List.mem_singleton.1 q]; exact hx
         · rw[zn c,ay]
           simp only
           rw[room l _ (by omega)]
           refine ⟨(false,l++[s.2.1[i]]),rfl,by simp at t1 ⊢; omega,fun x hx2 => ?_⟩
           rcases List.mem_append.1 hx2 with q | q
           · exact t2 x q
           · rw[List.mem_singleton.1 q]; exact hx) (fun t ht=>by
       unfold vM
       simp only[ae]
       rw[zn (by omega)]
       exact ⟨_,rfl,_,_,rfl,ht.1,ht.2⟩) (false,[]) ⟨rfl,fun x hx=>by cases hx⟩
     rw[show ((false,(0:Int),(([0,0,0,0,0,0,0,0,0,0,0,0,0,0,0,0]:List Int),(),()),([]:List Dot1),()):Bool×Int×(List Int×Unit×Unit)×List Dot1×Unit)=(false,((0:Nat):Int),([0,0,0,0,0,0,0,0,0,0,0,0,0,0,0,0],(),()),[],()) from rfl,h1,ay]
     cases laid with
     | true =>
       simp only[Bool.not_true,cond_false]
       rw[ay]
       simp at h2
       obtain ⟨t,t1,t2⟩:=xA (s:=(s.1,l,())) (n:=n+1) ⟨hs.vec,by simp only; omega,h3⟩ (by omega)
       simp only
       rw[t1]; exact ⟨t,rfl,t2⟩
     | false =>
       simp only[Bool.not_false,cond_true]
       simp at h2
       rw[aU (by simp; omega)]
       simp only[zb]
       rw[mB]
       obtain ⟨t,t1,t2⟩:=xA (s:=(s.1,l++[d],())) (n:=n+1) ⟨hs.vec,by simp; omega,fun x hx=>by
         rcases List.mem_append.1 hx with q | q
         · exact h3 x q
         · rw[List.mem_singleton.1 q]; exact h⟩ (by omega)
       simp only
       rw[t1]; exact ⟨t,rfl,t2⟩
structure Wide (s:St1):Prop where
 known:s.2.2.1.1.length=16
 fast:s.2.2.2.1.1.length=16
 redo:s.2.2.2.2.1.length=8
structure ShortS (s:St1):Prop where
 txns:s.1.length≤20
 undos:s.2.1.length≤100
 known:s.2.2.1.2.1.length≤100
 fast:s.2.2.2.1.2.1.length≤100
 all:∀ t∈s.1,hX t=true
 redo:∀ l∈s.2.2.2.2.1,l.length≤40
theorem fx {A R X:Type}{f:A→Option (A⊕R)}{l:List X} (enc:Nat→A) (P:X→Prop) (yes no:R)
   (hturn:∀ (i:Nat) (h:i<l.length),(f (enc i)=some (.inl (enc (i+1)))∧P l[i])∨f (enc i)=some (.inr no)) (hend:f (enc l.length)=some (.inr yes)) :
   (aI f (enc 0)=some yes∧∀ x∈l,P x)∨aI f (enc 0)=some no:=by
 obtain ⟨r,h1,h2⟩:=bZ (S:=Unit) (f:=f) l.length (fun i _=>enc i) (fun i _=>∀ k (h:k<l.length),k<i→P l[k]) (fun r=>(r=yes∧∀ x∈l,P x)∨r=no) (fun i _ hi hv=>by
   rcases hturn i hi with ⟨h1,h2⟩ | h1
   · exact .inl ⟨(), h1, fun k hk hki => by
       by_cases e:k=i
       · subst e; exact h2
       · exact hv k hk (by omega)⟩
   · exact .inr ⟨no,h1,.inr rfl⟩) (fun _ hv=>⟨yes,hend,.inl ⟨rfl,fun x hx=>by
   obtain ⟨k,hk,rfl⟩:=List.mem_iff_getElem.1 hx
   exact hv k hk hk⟩⟩) () (fun k hk hki=>by omega)
 rcases h2 with ⟨rfl,h2⟩ | rfl
 · exact .inl ⟨h1,h2⟩
 · exact .inr h1
theorem aci {s:St1} (hw:Wide s):∃ b,zcf s=some b∧(b=true→ShortS s):=by
 have l1:s.1.length≤20→((aI (nN) (((0:Nat):Int),s,())=some (.inl (s,()))∧∀ t∈s.1,hX t=true)∨aI (nN) (((0:Nat):Int),s,())=some (.inr false)):=fun hl=>by
   refine fx (f:=nN) (l:=s.1) (fun i=>((i:Int),s,())) (fun t=>hX t=true) (.inl (s,())) (.inr false) (fun i h => ?_) ?_
   · unfold nN
     simp only[ae]
     rw[zp (by omega),aN h]
     simp only[zb,yu]
     cases hs:hX s.1[i] with
     | false=>exact .inr rfl
     | true =>
       refine .inl ⟨?_,by trivial⟩
       rw[Bool.not_true,cond_false,wrap64 (by omega) (by omega)]; rfl
   · unfold nN
     simp only[ae]
     rw[zn (by omega)]
 have l2:(aI (nM) (((0:Nat):Int),s,())=some true∧∀ l∈s.2.2.2.2.1,l.length≤40)∨aI (nM) (((0:Nat):Int),s,())=some false:=by
   have hr:=hw.redo
   refine fx (f:=nM) (l:=s.2.2.2.2.1) (fun i=>((i:Int),s,())) (fun l=>l.length≤40) true false (fun i h => ?_) ?_
   · unfold nM
     simp only[ae]
     rw[zp (by omega),cg (by omega)]
     simp only[zb]
     rw[zg h]
     simp only[zb]
     by_cases c:((s.2.2.2.2.1[i].length:Int)>40)
     · rw[zp c]; exact .inr rfl
     · rw[zn c,wrap64 (by omega) (by omega)]; exact .inl ⟨rfl,by omega⟩
   · unfold nM
     simp only[ae]
     rw[zn (by omega)]
 unfold zcf
 simp only[ae]
 by_cases c1:(s.1.length:Int)>20
 · rw[zp c1]; exact ⟨false,rfl,fun h=>by cases h⟩
 rw[zn c1]
 simp only[zb,ae]
 by_cases c2:(s.2.1.length:Int)>100
 · rw[zp c2]; exact ⟨false,rfl,fun h=>by cases h⟩
 rw[zn c2]
 by_cases c3:(s.2.2.1.2.1.length:Int)>100
 · rw[zp c3]; exact ⟨false,rfl,fun h=>by cases h⟩
 rw[zn c3]
 by_cases c4:(s.2.2.2.1.2.1.length:Int)>100
 · rw[zp c4]; exact ⟨false,rfl,fun h=>by cases h⟩
 rw[zn c4]
 rcases l1 (by omega) with ⟨h1,h2⟩ | h1
 · rw[show ((0:Int),s,())=(((0:Nat):Int),s,()) from rfl,h1,ay]
   simp only
   rcases l2 with ⟨h3,h4⟩ | h3
   · rw[show ((0:Int),s,())=(((0:Nat):Int),s,()) from rfl,h3]
     exact ⟨true,rfl,fun _=>⟨by omega,by omega,by omega,by omega,h2,h4⟩⟩
   · rw[show ((0:Int),s,())=(((0:Nat):Int),s,()) from rfl,h3]
     exact ⟨false,rfl,fun h=>by cases h⟩
 · rw[show ((0:Int),s,())=(((0:Nat):Int),s,()) from rfl,h1]
   exact ⟨false,rfl,fun h=>by cases h⟩
theorem act {v:List Int} (hv:v.length=16):∃ b,zci v=some b:=by
 unfold zci
 obtain ⟨r,h,_⟩:=bZ (S:=Unit) (f:=wb) 16 (fun i _=>((i:Int),v,())) (fun _ _=>True) (fun _=>True) (fun i _ hi _=>by
   unfold wb
   simp only[ae]
   rw[zp (by omega),cg (by omega)]
   simp only[zb]
   rw[zg (by omega),wrap64 (by omega) (by omega)]
   simp only[zb]
   by_cases c1:v[i]<0
   · rw[zp c1]; exact .inr ⟨_,rfl,trivial⟩
   rw[zn c1]
   by_cases c2:v[i]>1048576
   · rw[zp c2]; exact .inr ⟨_,rfl,trivial⟩
   · rw[zn c2]; exact .inl ⟨(),rfl,trivial⟩) (fun _ _=>by
   unfold wb
   simp only[ae]
   rw[zn (by omega)]
   exact ⟨_,rfl,trivial⟩) () trivial
 exact ⟨r,h⟩
theorem rN {s:nI} (hv:s.1.length=16) (hm:s.2.1.length≤100):∃ b,zcj s=some b∧(b=true→DOk s 100):=by
 obtain ⟨b,hb⟩:=act hv
 unfold zcj
 rw[hb]
 simp only[zb]
 cases b with
 | false=>exact ⟨false,rfl,fun h=>by cases h⟩
 | true =>
   simp only[Bool.not_true,cond_false,ae]
   rw[zn (by omega)]
   have:=fx (f:=wa) (l:=s.2.1) (fun i=>((i:Int),s,())) (fun d=>be d=true) true false (fun i h=>by
     unfold wa
     simp only[ae]
     rw[zp (by omega),aN h]
     simp only[zb,dB]
     cases hs:be s.2.1[i] with
     | false=>exact .inr rfl
     | true =>
       obtain ⟨k,k1,k2,k3⟩:=gP hs
       simp only[Bool.not_true,cond_false]
       rw[k3]
       simp only[zb]
       rw[zg (by omega),wrap64 (n:=(i:Int)+1) (by omega) (by omega)]
       simp only[zb]
       by_cases c1:IntKind.wrap .i64 (s.2.1[i].2.1-1)≤s.1[k]'(by omega)
       · rw[zp c1]; exact .inr rfl
       rw[zn c1]
       by_cases c2:(i:Int)>0
       · rw[zp c2,wrap64 (by omega) (by omega),show (i:Int)-1=((i-1:Nat):Int) by omega,aN (by omega)]
         simp only[zb,iU,bh]
         by_cases c3:cmpD (s.2.1[i-1]'(by omega)) s.2.1[i] = -1
         · rw[zp c3]; exact .inl ⟨rfl,by trivial⟩
         · rw[zn c3]; exact .inr rfl
       · rw[zn c2]; exact .inl ⟨rfl,by trivial⟩) (by
     unfold wa
     simp only[ae]
     rw[zn (by omega)])
   rcases this with ⟨h1,h2⟩ | h1
   · exact ⟨true,h1,fun _=>⟨hv,hm,h2⟩⟩
   · exact ⟨false,h1,fun h=>by cases h⟩
theorem am4 {l:List Txn1} (hl:l.length≤1000):∃ s,zcg l=some s:=by
 unfold zcg
 obtain ⟨r,h,_⟩:=bZ (S:=nI) (f:=we l) l.length (fun i s=>((i:Int),([0,0,0,0,0,0,0,0,0,0,0,0,0,0,0,0],(),()),s,())) (fun i s=>DOk s i) (fun _=>True) (fun i s hi hs=>by
   obtain ⟨t,t1,t2⟩:=amP (d:=l[i].1) hs (by omega)
   unfold we
   simp only[ae]
   rw[zp (by omega),aN hi]
   simp only[zb]
   rw[t1,wrap64 (by omega) (by omega)]
   exact .inl ⟨t,rfl,t2⟩) (fun s _=>by
   unfold we
   simp only[ae]
   rw[zn (by omega)]
   exact ⟨_,rfl,trivial⟩) ([0,0,0,0,0,0,0,0,0,0,0,0,0,0,0,0],[],()) ⟨rfl,by simp,fun d hd=>by cases hd⟩
 exact ⟨r,h⟩
theorem afk {a b:List Dot1} (ha:a.length<1000000):∃ c,zcx a b=some c:=by
 unfold zcx
 simp only[bh]
 by_cases h:(a.length:Int)=b.length
 · rw[zp h]
   obtain ⟨r,h,_⟩:=bZ (S:=Unit) (f:=vT a b) a.length (fun i _=>((i:Int),())) (fun _ _=>True) (fun _=>True) (fun i _ hi _=>by
     unfold vT
     simp only[ae]
     rw[zp (by omega),aN hi,aN (by omega),wrap64 (by omega) (by omega)]
     simp only[zb,kc,bh]
     by_cases c:a[i]=b[i]'(by omega)
     · rw[zp c]; exact .inl ⟨(),rfl,trivial⟩
     · rw[zn c]; exact .inr ⟨_,rfl,trivial⟩) (fun _ _=>by
     unfold vT
     simp only[ae]
     rw[zn (by omega)]
     exact ⟨_,rfl,trivial⟩) () trivial
   exact ⟨r,h⟩
 · rw[zn h]; exact ⟨_,rfl⟩
structure GoodS (s:St1):Prop where
 txns:TxnsOk s.1 20
 undos:CountsOk s.2.1
 known:DOk s.2.2.1 100
 fast:DOk s.2.2.2.1 100
 rlen:s.2.2.2.2.1.length=8
 redo:∀ l∈s.2.2.2.2.1,l.length≤40
theorem acs {s:St1} (hw:Wide s) (hs:ShortS s):∃ b,zch s=some b∧(b=true→GoodS s):=by
 have n1:=hs.txns; have n2:=hs.undos; have n3:=hs.known; have n4:=hs.fast; have hr:=hw.redo
 have no:∀ {Q:Prop},∃ b,some false=some b∧(b=true→Q):=fun {Q}=>⟨false,rfl,fun h=>by cases h⟩
 unfold zch
 simp only[ae]
 rw[zn (by omega),acq (by omega)]
 simp only[zb]
 by_cases r1:∀ i,i<s.1.length-1→oq (·.1) s.1 i=true
 rotate_left
 · rw[zn r1]; exact no
 rw[zp r1,Bool.not_true,cond_false,afq (by omega)]
 simp only[zb]
 by_cases r2:∀ i,i<s.2.1.length→iF s.2.1 i=true
 rotate_left
 · rw[zn r2]; exact no
 rw[zp r2,Bool.not_true,cond_false]
 obtain ⟨b3,r3,k3⟩:=rN hw.fast n4
 rw[r3]
 simp only[zb]
 cases b3 with
 | false=>exact no
 | true =>
 rw[Bool.not_true,cond_false]
 have l1:=fx (f:=wd) (l:=s.1) (fun i=>((i:Int),s,())) (fun t=>txnM t=0) (.inl (s,())) (.inr false) (fun i h=>by
   unfold wd
   simp only[ae]
   rw[zp (by omega),aN h]
   simp only[zb]
   rw[yq (hs.all _ (zm h)),wrap64 (by omega) (by omega)]
   simp only[zb,bh]
   by_cases c:txnM s.1[i]=0
   · rw[zp c]; exact .inl ⟨rfl,c⟩
   · rw[zn c]; exact .inr rfl) (by
   unfold wd
   simp only[ae]
   rw[zn (by omega)])
 rcases l1 with ⟨h1,h2⟩ | h1
 rotate_left
 · rw[show ((0:Int),s,())=(((0:Nat):Int),s,()) from rfl,h1]; exact no
 rw[show ((0:Int),s,())=(((0:Nat):Int),s,()) from rfl,h1,ay]
 simp only
 have l2:(aI nL (((0:Nat):Int),s,())=some (.inl (s,()))∧∀ l∈s.2.2.2.2.1,True)∨aI nL (((0:Nat):Int),s,())=some (.inr false):=by
   refine fx (f:=nL) (l:=s.2.2.2.2.1) (fun i=>((i:Int),s,())) (fun _=>True) (.inl (s,())) (.inr false) (fun i h => ?_) ?_
   · have hl:=hs.redo _ (zm h)
     have inner:=fx (f:=pj ((i:Int),s,())) (l:=s.2.2.2.2.1[i]) (fun k=>((k:Int),s,())) (fun _=>True) (.inl ((((i+1:Nat):Int),s,()))) (.inr (.inr false)) (fun k hk=>by
       unfold pj
       simp only
       rw[cg (show i<8 by omega)]
       simp only[zb]
       rw[zg h]
       simp only[zb,ae]
       rw[zp (by omega),aN hk,wrap64 (n:=(k:Int)+1) (by omega) (by omega)]
       simp only[zb,dB]
       cases be s.2.2.2.2.1[i][k] with
       | false=>exact .inr rfl
       | true=>exact .inl ⟨rfl,trivial⟩) (by
       unfold pj
       simp only
       rw[cg (show i<8 by omega)]
       simp only[zb]
       rw[zg h]
       simp only[zb,ae]
       rw[zn (by omega),wrap64 (n:=(i:Int)+1) (by omega) (by omega)]; rfl)
     unfold nL
     simp only[ae]
     rw[zp (by omega),cg (by omega)]
     simp only[zb]
     rw[zg h]
     simp only[zb]
     rw[zn (by omega)]
     rcases inner with ⟨q,_⟩ | q
     · exact .inl ⟨q,trivial⟩
     · exact .inr q
   · unfold nL
     simp only[ae]
     rw[zn (by omega)]
 rcases l2 with ⟨h3,_⟩ | h3
 rotate_left
 · rw[show ((0:Int),s,())=(((0:Nat):Int),s,()) from rfl,h3]; exact no
 rw[show ((0:Int),s,())=(((0:Nat):Int),s,()) from rfl,h3,ay]
 simp only
 obtain ⟨b5,r5,k5⟩:=rN hw.known n3
 rw[r5]
 simp only[zb]
 cases b5 with
 | false=>exact no
 | true =>
 rw[cond_true]
 obtain ⟨kn,hk⟩:=am4 (l:=s.1) (by omega)
 rw[hk]
 simp only[zb]
 have fin:GoodS s:=⟨⟨n1,yF r1,fun t ht=>avS (hs.all t ht) (h2 t ht)⟩,counts_of n2 r2,k5 rfl,k3 rfl,hr,hs.redo⟩
 unfold zc7
 cases eqV (.arr 16 (.int .i64)) s.2.2.1.1 kn.1 with
 | false=>exact ⟨false,rfl,fun _=>fin⟩
 | true =>
   obtain ⟨c,hc⟩:=afk (a:=s.2.2.1.2.1) (b:=kn.2.1) (by omega)
   rw[cond_true,hc]
   exact ⟨c,rfl,fun _=>fin⟩
theorem xq {s:St1} (hw:Wide s):∃ b,zc2 s=some b∧(b=true→GoodS s):=by
 obtain ⟨b,h1,h2⟩:=aci hw
 unfold zc2
 rw[h1]
 simp only[zb]
 cases b with
 | false=>exact ⟨false,rfl,fun h=>by cases h⟩
 | true =>
   obtain ⟨c,h3,h4⟩:=acs hw (h2 rfl)
   rw[cond_true,h3]
   exact ⟨c,rfl,h4⟩
def iD:List Ref1→Ref1→List Ref1
 | [],x=>[x]
 | y::l,x=>if cmpD y.1 x.1<0 then y::iD l x else if 0<cmpD y.1 x.1 then x::y::l else (y.1,max y.2.1 x.2.1,())::l
theorem sr {x:Ref1}:∀ (l:List Ref1),(iD l x).length≤l.length+1
 | []=>by simp[iD]
 | y::l=>by
   have:=sr (x:=x) l
   unfold iD
   split
   · simp; omega
   · split<;>simp
theorem sq {x z:Ref1}:∀ {l:List Ref1},z∈iD l x→z.1=x.1∨∃ y∈l,z.1=y.1
 | [],h=>by
   rw[List.mem_singleton.1 h]; exact .inl rfl
 | y::l,h=>by
   unfold iD at h
   split at h
   · rcases List.mem_cons.1 h with e | h
     · exact .inr ⟨y,List.mem_cons_self ..,by rw[e]⟩
     · rcases sq h with e | ⟨w,w1,w2⟩
       · exact .inl e
       · exact .inr ⟨w,List.mem_cons_of_mem _ w1,w2⟩
   · split at h
     · rcases List.mem_cons.1 h with e | h
       · exact .inl (by rw[e])
       · exact .inr ⟨z,h,rfl⟩
     · rcases List.mem_cons.1 h with e | h
       · exact .inr ⟨y,List.mem_cons_self ..,by rw[e]⟩
       · exact .inr ⟨z,List.mem_cons_of_mem _ h,rfl⟩
theorem so {x:Ref1} (hx:oneM x=true):∀ {l:List Ref1},(∀ y∈l,oneM y=true)→∀ z∈iD l x,oneM z=true
 | [],_,z,h=>by rw[List.mem_singleton.1 h]; exact hx
 | y::l,hl,z,h=>by
   unfold iD at h
   split at h
   · rcases List.mem_cons.1 h with e | h
     · rw[e]; exact hl y (List.mem_cons_self ..)
     · exact so hx (fun w hw=>hl w (List.mem_cons_of_mem _ hw)) z h
   · split at h
     · rcases List.mem_cons.1 h with e | h
       · rw[e]; exact hx
       · exact hl z h
     · rcases List.mem_cons.1 h with e | h
       · have hy:=hl y (List.mem_cons_self ..)
         rw[e]
         unfold oneM at hx hy ⊢
         simp only[Bool.and_eq_true,decide_eq_true_eq] at hx hy ⊢
         exact ⟨hy.1,by omega,by omega⟩
       · exact hl z (List.mem_cons_of_mem _ h)
theorem oG {x:Ref1}:∀ {l:List Ref1},pO l→pO (iD l x)
 | [],_=>List.pairwise_singleton ..
 | y::l,h=>by
   have h1:=List.pairwise_cons.1 h
   unfold iD
   split
   · rename_i c
     refine List.pairwise_cons.2 ⟨fun z hz => ?_,oG h1.2⟩
     show cmpD y.1 z.1<0
     rcases sq hz with e | ⟨w,w1,w2⟩
     · rw[e]; exact c
     · rw[w2]; exact h1.1 w w1
   · rename_i c
     split
     · rename_i d
       have d':cmpD x.1 y.1<0:=by have:=dV.neg x.1 y.1; omega
       refine List.pairwise_cons.2 ⟨fun z hz => ?_,h⟩
       rcases List.mem_cons.1 hz with e | hz
       · rw[e]; exact d'
       · exact dV.trans _ _ _ d' (h1.1 z hz)
     · exact List.pairwise_cons.2 ⟨h1.1,h1.2⟩
theorem mC:∀ (a out:List Ref1),a.length+out.length<1000000→aI f9 (a,[],out,())=some (out++a)
 | [],out,_=>by
   refine (aD ?_).trans (by rw[List.append_nil])
   unfold f9
   simp
 | y::a,out,h=>by
   have turn:f9 (y::a,[],out,())=some (.inl (a,[],out++[y],())):=by
     unfold f9
     simp only[ae,zl,List.length_nil]
     rw[zp (by omega),ay,zn (by omega),zn (by omega),ay]
     simp only
     rw[zp (by omega),show atI (y::a) 0=some y from rfl]
     simp only[zb]
     rw[aU (by simp at h ⊢; omega)]
     simp only[zb]
     rw[show ((a.length+1:Nat):Int)=((y::a).length:Int) from rfl,show (1:Int)=((1:Nat):Int) from rfl,ep (by simp)]
     rfl
   rw[aH turn,mC a (out++[y]) (by simp at h ⊢; omega),List.append_assoc]; rfl
theorem oH:∀ (a out:List Ref1),a.length+out.length<1000000→aI f9 ([],a,out,())=some (out++a)
 | [],out,_=>by
   refine (aD ?_).trans (by rw[List.append_nil])
   unfold f9
   simp
 | y::a,out,h=>by
   have turn:f9 ([],y::a,out,())=some (.inl ([],a,out++[y],())):=by
     unfold f9
     simp only[ae,zl,List.length_nil]
     rw[zn (by omega),zp (by omega),ay,zp (by omega),ay]
     simp only
     rw[zn (by omega),zp (by omega),show atI (y::a) 0=some y from rfl]
     simp only[zb]
     rw[aU (by simp at h ⊢; omega)]
     simp only[zb]
     rw[show ((a.length+1:Nat):Int)=((y::a).length:Int) from rfl,show (1:Int)=((1:Nat):Int) from rfl,ep (by simp)]
     rfl
   rw[aH turn,oH a (out++[y]) (by simp at h ⊢; omega),List.append_assoc]; rfl
theorem sm {x:Ref1}:∀ (a out:List Ref1),a.length+out.length<900000→aI f9 (a,[x],out,())=some (out++iD a x)
 | [],out,h=>by rw[oH [x] out (by simp at h ⊢; omega)]; rfl
 | y::a,out,h=>by
   simp only[zl] at h
   have head:f9 (y::a,[x],out,())=if cmpD y.1 x.1<0 then some (.inl (a,[x],out++[y],())) else if 0<cmpD y.1 x.1 then some (.inl (y::a,[],out++[x],())) else some (.inl (a,[],out++[(y.1,max y.2.1 x.2.1,())],())):=by
     unfold f9
     simp only[ae,zl,List.length_nil]
     rw[zp (by omega),ay,zn (by omega),zp (by omega),show atI (y::a) 0=some y from rfl,show atI [x] 0=some x from rfl]
     simp only[zb,pC]
     rw[mB]
     simp only
     rw[aU (show out.length+1<4294967296 by omega),show ((a.length+1:Nat):Int)=((y::a).length:Int) from rfl,show ((0+1:Nat):Int)=(([x]:List Ref1).length:Int) from rfl,show (1:Int)=((1:Nat):Int) from rfl,ep (l:=y::a) (i:=1) (by simp),ep (l:=[x]) (i:=1) (by simp)]
     rfl
   unfold iD
   by_cases c:cmpD y.1 x.1<0
   · rw[zp c] at head ⊢
     rw[aH head,sm a (out++[y]) (by simp; omega),List.append_assoc]; rfl
   · rw[zn c] at head ⊢
     by_cases c2:0<cmpD y.1 x.1
     · rw[zp c2] at head ⊢
       rw[aH head,mC (y::a) (out++[x]) (by simp; omega),List.append_assoc]; rfl
     · rw[zn c2] at head ⊢
       rw[aH head,mC a (out++[(y.1,max y.2.1 x.2.1,())]) (by simp; omega),List.append_assoc]; rfl
theorem am6 {a:List Ref1}{x:Ref1} (h:a.length<800000):zcu a [x]=some (iD a x):=by
 unfold zcu
 rw[sm a [] (by simp; omega)]; rfl
structure UOk (u:List Ref1) (n:Nat):Prop where
 len:u.length≤n
 rise:pO u
 one:∀ x∈u,oneM x=true
theorem UOk.low {u:List Ref1}{n:Nat} (h:UOk u n) (hn:n<100000):LowU u:=⟨by have:=h.len; omega,h.rise⟩
theorem UOk.join {u:List Ref1}{n:Nat}{x:Ref1} (h:UOk u n) (hx:oneM x=true):UOk (iD u x) (n+1):=⟨by have:=sr (x:=x) u; have:=h.len; omega,oG h.rise,so hx h.one⟩
theorem adw {d:Dot1}:∀ {u:List Ref1},(∀ x∈u,oneM x=true)→0≤getM u d∧getM u d≤64
 | [],_=>by unfold getM; omega
 | x::u,h=>by
   unfold getM
   by_cases e:x.1=d
   · rw[zp e]
     have:=h x (List.mem_cons_self ..)
     unfold oneM at this
     simp only[Bool.and_eq_true,decide_eq_true_eq] at this
     omega
   · rw[zn e]; exact adw fun y hy=>h y (List.mem_cons_of_mem _ hy)
theorem oc {u:List Ref1}{d:Dot1}{n:Nat} (h:UOk u n) (hn:n<100000) :
   zb3 u d=some (if be d=false then (((0,0,()),0,()),2,()) else if getM u d≥64 then (((0,0,()),0,()),14,()) else ((d,getM u d+1,()),0,())):=by
 have hg:=adw (d:=d) h.one
 unfold zb3
 rw[nX (h.low hn).len h.rise,gU]
 simp only[zb,ae]
 rw[wrap64 (by omega) (by omega)]
 cases be d with
 | false=>rfl
 | true =>
   by_cases c:getM u d≥64<;>simp[c]
structure StOk (s:St1) (n:Nat):Prop where
 txns:s.1.length≤1000
 undos:UOk s.2.1 n
 vec:s.2.2.2.1.1.length=16
 more:s.2.2.2.1.2.1.length≤100000
 rlen:s.2.2.2.2.1.length=8
theorem GoodS.st {s:St1} (h:GoodS s):StOk s 100:=⟨by have:=h.txns.len; omega,⟨h.undos.len,h.undos.rise,h.undos.one⟩,h.fast.vec,by have:=h.fast.len; omega,h.rlen⟩
theorem aff {s:St1}{n:Nat}{d:Dot1} (h:StOk s n) (hn:n<100000):∃ b,zdt s.2.2.2.1 d=some b∧zdc s d=some (if b=true then 13 else if be d=false then 2 else if getM s.2.1 d≥64 then 14 else 0):=by
 obtain ⟨b,hb⟩:=sP (d:=d) h.vec (by have:=h.more; omega)
 refine ⟨b,hb,?_⟩
 unfold zdc
 rw[hb,oc h.undos hn]
 simp only[zb]
 cases b with
 | true=>rfl
 | false =>
   by_cases c1:be d=false<;>by_cases c2:getM s.2.1 d≥64<;>simp[c1,c2]
def keyT (t:Txn1):Int×Dot1:=(t.2.2.1,t.1)
def ayI:Int×Dot1→Int×Dot1→Int:=cmpB cmpI cmpD
def cmpT (a b:Txn1):Int:=ayI (keyT a) (keyT b)
def Cand (s:St1) (user:Int) (t:Txn1):Prop:=t∈s.1∧t.2.1=user∧fL s.2.1 t.1=true
structure Best (s:St1) (user:Int) (t:Txn1):Prop where
 cand:Cand s user t
 top:∀ x,Cand s user x→cmpT x t≤0
theorem afo {l:List Txn1} (h:nl l) {a b:Txn1} (ha:a∈l) (hb:b∈l) (e:a.1=b.1):a=b:=by
 induction l with
 | nil=>cases ha
 | cons x l ih =>
   have h1:=List.pairwise_cons.1 h
   rcases List.mem_cons.1 ha with ea | ha<;>rcases List.mem_cons.1 hb with eb | hb
   · rw[ea,eb]
   · have q:cmpD x.1 b.1<0:=h1.1 b hb
     rw[← ea,e,(dV.zero _ _).2 rfl] at q; omega
   · have q:cmpD x.1 a.1<0:=h1.1 a ha
     rw[← eb,e,(dV.zero _ _).2 rfl] at q; omega
   · exact ih h1.2 ha hb
structure Undone (s u:St1) (t:Txn1) (k:Nat) (l:List Dot1):Prop where
 txns:u.1=s.1
 get:∀ d,getM u.2.1 d=if d=t.1 then getM s.2.1 t.1+1 else getM s.2.1 d
 st:StOk u 101
 fast:u.2.2.2.1=s.2.2.2.1
 redo:u.2.2.2.2.1[k]? = some (l++[t.1])
theorem anP {k:Nat} (h:k<16):([0,0,0,0,0,0,0,0,0,0,0,0,0,0,0,0]:List Int)[k]? = some 0:=by
 revert h; revert k; decide
theorem ug {d:Dot1} (h:be d=true):zdt ([0,0,0,0,0,0,0,0,0,0,0,0,0,0,0,0],[],()) d=some false:=by
 obtain ⟨k,k1,k2,k3⟩:=gP h
 have hr:=h
 unfold be at hr
 simp only[decide_eq_true_eq] at hr
 obtain ⟨m,_,b,hb,hb2⟩:=mL (l:=[]) (d:=d) (by simp)
 have:b=false:=by
   cases b with
   | false=>rfl
   | true=>obtain ⟨x,h1,_⟩:=hb2 rfl; cases h1
 subst this
 unfold zdt zd0
 rw[gU,h]
 simp only[zb,cond_true]
 rw[k3]
 simp only[zb]
 rw[anP k1]
 simp only[zb,ae]
 rw[zn (by omega),hb]
 rfl
theorem abV {s:St1} (h:okV (.agg (.cons (.sl (.agg (.cons (.agg (.cons (.int .i64) (.cons (.int .i64) .unit))) (.cons (.int .i64) (.cons (.int .i64) (.cons .bool (.cons (.sl (.agg (.cons (.int .i64) (.cons (.sl .str) (.cons (.agg (.cons (.int .i64) (.cons (.int .i64) (.cons .str .unit)))) (.cons (.int .i64) (.cons (.sl (.agg (.cons (.agg (.cons (.int .i64) (.cons (.int .i64) .unit))) (.cons (.int .i64) .unit)))) .unit))))))) .unit))))))) (.cons (.sl (.agg (.cons (.agg (.cons (.int .i64) (.cons (.int .i64) .unit))) (.cons (.int .i64) .unit)))) (.cons (.agg (.cons (.arr 16 (.int .i64)) (.cons (.sl (.agg (.cons (.int .i64) (.cons (.int .i64) .unit)))) .unit))) (.cons (.agg (.cons (.arr 16 (.int .i64)) (.cons (.sl (.agg (.cons (.int .i64) (.cons (.int .i64) .unit)))) .unit))) (.cons (.arr 8 (.sl (.agg (.cons (.int .i64) (.cons (.int .i64) .unit))))) .unit)))))) s):Wide s:=by
 obtain ⟨_,_,h3,h4,h5,_⟩:=h
 exact ⟨h3.1.1,h4.1.1,h5.1⟩
end Go.Proofs.YtnbgkhdcidbkaaaGreatDoor.Q
