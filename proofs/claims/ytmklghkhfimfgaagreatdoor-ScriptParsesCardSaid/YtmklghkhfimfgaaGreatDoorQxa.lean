import Derived.Test.YtmklghkhfimfgaaGreatDoorW
import Derived.Test.YtmklghkhfimfgaaGreatDoorT14
import Derived.Test.YtmklghkhfimfgaaGreatDoorT32
import Derived.Lib.AtoiAllCases
set_option linter.unusedVariables false
set_option linter.unusedSimpArgs false
set_option maxRecDepth 100000
namespace Go.Proofs.YtmklghkhfimfgaaGreatDoor.Q
open Go.EM Go.TY Go.Proofs Go.Proofs.YtmklghkhfimfgaaGreatDoor.Y
def aG:List UInt8→Int×Nat
 | []=>(0,0)
 | a::t =>
   if a.toNat<128 then (a.toNat,1)
   else if 194≤a.toNat∧a.toNat<224 then (match t with
     | b::_=>if 128≤b.toNat∧b.toNat≤191 then (64*((a.toNat:Int)-192)+b.toNat-128,2) else (0,0)
     | _=>(0,0))
   else if 224≤a.toNat∧a.toNat<240 then (match t with
     | b :: c :: _ => if (128 ≤ b.toNat ∧ b.toNat ≤ 191) ∧ (128 ≤ c.toNat ∧ c.toNat ≤ 191) then
         let r:Int:=64*(64*((a.toNat:Int)-224)+b.toNat-128)+c.toNat-128
         if r<2048∨(55296≤r∧r≤57343) then (0,0) else (r,3)
       else (0,0)
     | _=>(0,0))
   else if 240≤a.toNat∧a.toNat<245 then (match t with
     | b :: c :: d :: _ => if (128 ≤ b.toNat ∧ b.toNat ≤ 191) ∧ (128 ≤ c.toNat ∧ c.toNat ≤ 191) ∧ (128 ≤ d.toNat ∧ d.toNat ≤ 191) then
         let r:Int:=64*(64*(64*((a.toNat:Int)-240)+b.toNat-128)+c.toNat-128)+d.toNat-128
         if r<65536∨1114111<r then (0,0) else (r,4)
       else (0,0)
     | _=>(0,0))
   else (0,0)
theorem mU {s:List UInt8}{q:Int×Int×Int×Unit}{x:Int}{i:Nat}{b:UInt8} (hi:(i:Int)<q.2.1) (hi4:i≤4) (h:s[i]? = some b) (hx:0≤x) (hx2:x≤100000000) :
   fR s q (x,(i:Int),())=if 128≤b.toNat∧b.toNat≤191 then some (.inl (64*x+b.toNat-128,((i+1:Nat):Int),())) else some (.inr (.inr (0,0,()))):=by
 have hb:b.toNat<256:=b.toNat_lt
 simp only[fR,cj,h,zb,ac,zp hi]
 rw[wrap64 (n:=64*x) (by omega) (by omega),wrap64 (n:=(b.toNat:Int)) (by omega) (by omega),wrap64 (n:=64*x+b.toNat) (by omega) (by omega),wrap64 (n:=64*x+b.toNat-128) (by omega) (by omega),wrap64 (n:=(i:Int)+1) (by omega) (by omega)]
 by_cases h1:b.toNat<128
 · rw[zp (by omega),zn (by omega)]
 · rw[zn (by omega)]
   by_cases h2:b.toNat>191
   · rw[zp (by omega),zn (by omega)]
   · rw[zn (by omega),zp (by omega)]; rfl
theorem zm {s:List UInt8}{q:Int×Int×Int×Unit}{x:Int}{i:Nat} (hi:¬ (i:Int)<q.2.1):fR s q (x,(i:Int),())=some (.inr (.inl (x,()))):=by
 simp only[fR,ac,zn hi]
theorem acz {a b:UInt8}{t:List UInt8}{l:Int}{c x:Int} (hx:0≤x) (hx2:x≤1000) :
   aJ (fR (a::b::t) (c,2,l,())) (x,1,())=if 128≤b.toNat∧b.toNat≤191 then some (.inl (64*x+b.toNat-128,())) else some (.inr (0,0,())):=by
 have h:=mU (s:=a::b::t) (q:=(c,2,l,())) (i:=1) (b:=b) (x:=x) (by simp) (by omega) rfl hx (by omega)
 by_cases hb:128≤b.toNat∧b.toNat≤191
 · rw[zp hb] at h ⊢
   exact (ay h).trans (aq (zm (by simp)))
 · rw[zn hb] at h ⊢
   exact aq h
theorem acy {a b d:UInt8}{t:List UInt8}{l:Int}{c x:Int} (hx:0≤x) (hx2:x≤1000) :
   aJ (fR (a::b::d::t) (c,3,l,())) (x,1,())=if (128≤b.toNat∧b.toNat≤191)∧(128≤d.toNat∧d.toNat≤191) then some (.inl (64*(64*x+b.toNat-128)+d.toNat-128,())) else some (.inr (0,0,())):=by
 have hb':=b.toNat_lt
 have h:=mU (s:=a::b::d::t) (q:=(c,3,l,())) (i:=1) (b:=b) (x:=x) (by simp) (by omega) rfl hx (by omega)
 by_cases hb:128≤b.toNat∧b.toNat≤191
 · rw[zp hb] at h
   have h2:=mU (s:=a::b::d::t) (q:=(c,3,l,())) (i:=2) (b:=d) (x:=64*x+b.toNat-128) (by simp) (by omega) rfl (by omega) (by omega)
   by_cases hd:128≤d.toNat∧d.toNat≤191
   · rw[zp hd] at h2
     rw[zp ⟨hb,hd⟩]
     exact ((ay h).trans (ay h2)).trans (aq (zm (by simp)))
   · rw[zn hd] at h2
     rw[zn (fun e=>hd e.2)]
     exact (ay h).trans (aq h2)
 · rw[zn hb] at h
   rw[zn (fun e=>hb e.1)]
   exact aq h
theorem acx {a b d e:UInt8}{t:List UInt8}{l:Int}{c x:Int} (hx:0≤x) (hx2:x≤1000) :
   aJ (fR (a::b::d::e::t) (c,4,l,())) (x,1,())=if (128≤b.toNat∧b.toNat≤191)∧(128≤d.toNat∧d.toNat≤191)∧(128≤e.toNat∧e.toNat≤191) then some (.inl (64*(64*(64*x+b.toNat-128)+d.toNat-128)+e.toNat-128,())) else some (.inr (0,0,())):=by
 have hb':=b.toNat_lt
 have hd':=d.toNat_lt
 have h:=mU (s:=a::b::d::e::t) (q:=(c,4,l,())) (i:=1) (b:=b) (x:=x) (by simp) (by omega) rfl hx (by omega)
 by_cases hb:128≤b.toNat∧b.toNat≤191
 · rw[zp hb] at h
   have h2:=mU (s:=a::b::d::e::t) (q:=(c,4,l,())) (i:=2) (b:=d) (x:=64*x+b.toNat-128) (by simp) (by omega) rfl (by omega) (by omega)
   by_cases hd:128≤d.toNat∧d.toNat≤191
   · rw[zp hd] at h2
     have h3:=mU (s:=a::b::d::e::t) (q:=(c,4,l,())) (i:=3) (b:=e) (x:=64*(64*x+b.toNat-128)+d.toNat-128) (by simp) (by omega) rfl (by omega) (by omega)
     by_cases he:128≤e.toNat∧e.toNat≤191
     · rw[zp he] at h3
       rw[zp ⟨hb,hd,he⟩]
       exact (((ay h).trans (ay h2)).trans (ay h3)).trans (aq (zm (by simp)))
     · rw[zn he] at h3
       rw[zn (fun q=>he q.2.2)]
       exact ((ay h).trans (ay h2)).trans (aq h3)
   · rw[zn hd] at h2
     rw[zn (fun q=>hd q.2.1)]
     exact (ay h).trans (aq h2)
 · rw[zn hb] at h
   rw[zn (fun q=>hb q.1)]
   exact aq h
theorem adK (s:List UInt8):zcs s=some ((aG s).1,((aG s).2:Int),()):=by
 cases s with
 | nil=>simp[zcs,aG]
 | cons a t =>
   have ha:a.toNat<256:=a.toNat_lt
   have h0:¬ (((a::t).length:Int)=0):=by simp only[zl]; omega
   have hi:atI (a::t) 0=some a:=by simp[atI]
   unfold zcs
   simp only[ac,zn h0,hi,zb,ac5,acL,aik]
   rw[wrap64 (n:=(a.toNat:Int)) (by omega) (by omega)]
   by_cases c1:a.toNat<128
   · rw[zp (by omega)]
     simp only[bp,aG,zp c1]; rfl
   rw[zn (by omega)]
   by_cases c2:194≤a.toNat∧a.toNat<224
   · rw[zp (by omega),wrap64 (by omega) (by omega)]
     simp only[aH]
     match t with
     | []=>simp[aG,c1,c2]
     | b::t =>
       rw[zn (by simp only[zl]; omega),acz (by omega) (by omega)]
       by_cases hb:128≤b.toNat∧b.toNat≤191
       · rw[zp hb]
         simp only[aH]
         rw[jF,zn (by omega)]
         simp only[aG,c1,c2,hb,if_true,if_false,and_self]; rfl
       · rw[zn hb]
         simp only[bp]
         simp[aG,c1,c2,hb]
   rw[zn (by omega)]
   by_cases c3:224≤a.toNat∧a.toNat<240
   · rw[zp (by omega),wrap64 (by omega) (by omega)]
     simp only[aH]
     match t with
     | []=>simp[aG,c1,c2,c3]
     | [b]=>simp[aG,c1,c2,c3]
     | b::c::t =>
       have hb:=b.toNat_lt
       have hc:=c.toNat_lt
       rw[zn (by simp only[zl]; omega),acy (by omega) (by omega)]
       by_cases hb':(128≤b.toNat∧b.toNat≤191)∧(128≤c.toNat∧c.toNat≤191)
       · rw[zp hb']
         simp only[aH]
         rw[jF]
         simp only[aG,c1,c2,c3,hb',if_true,if_false,and_self]
         by_cases hr:64*(64*((a.toNat:Int)-224)+b.toNat-128)+c.toNat-128<2048∨(55296≤64*(64*((a.toNat:Int)-224)+b.toNat-128)+c.toNat-128∧64*(64*((a.toNat:Int)-224)+b.toNat-128)+c.toNat-128≤57343)
         · rw[zp (by omega),zp hr]; rfl
         · rw[zn (by omega),zn hr]; rfl
       · rw[zn hb']
         simp only[bp]
         simp[aG,c1,c2,c3,hb']
   rw[zn (by omega)]
   by_cases c4:240≤a.toNat∧a.toNat<245
   · rw[zp (by omega),wrap64 (by omega) (by omega)]
     simp only[aH]
     match t with
     | []=>simp[aG,c1,c2,c3,c4]
     | [b]=>simp[aG,c1,c2,c3,c4]
     | [b,c]=>simp[aG,c1,c2,c3,c4]
     | b::c::d::t =>
       have hb:=b.toNat_lt
       have hc:=c.toNat_lt
       have hd:=d.toNat_lt
       rw[zn (by simp only[zl]; omega),acx (by omega) (by omega)]
       by_cases hb':(128≤b.toNat∧b.toNat≤191)∧(128≤c.toNat∧c.toNat≤191)∧(128≤d.toNat∧d.toNat≤191)
       · rw[zp hb']
         simp only[aH]
         rw[jF]
         simp only[aG,c1,c2,c3,c4,hb',if_true,if_false,and_self]
         by_cases hr:64*(64*(64*((a.toNat:Int)-240)+b.toNat-128)+c.toNat-128)+d.toNat-128<65536∨1114111<64*(64*(64*((a.toNat:Int)-240)+b.toNat-128)+c.toNat-128)+d.toNat-128
         · rw[zp (by omega),zp hr]; rfl
         · rw[zn (by omega),zn hr]; rfl
       · rw[zn hb']
         simp only[bp]
         simp[aG,c1,c2,c3,c4,hb']
   rw[zn (by omega)]
   simp only[bp]
   simp[aG,c1,c2,c3,c4]
theorem pj (s:List UInt8):(aG s).2≤s.length:=by
 unfold aG
 repeat' split
 all_goals (try simp only[])
 all_goals (try split)
 all_goals (try simp only[zl])
 all_goals omega
theorem gj (s:List UInt8):0≤(aG s).1∧(aG s).1≤1114111:=by
 unfold aG
 repeat' split
 all_goals (try simp only[])
 all_goals (try split)
 all_goals (try simp only[])
 all_goals omega
def bR (s:List UInt8):Option (List Int) :=
 if h:s=[] then some []
 else if h0:(aG s).2=0 then none
 else (bR (s.drop (aG s).2)).map fun l=>(aG s).1::l
termination_by s.length
decreasing_by
 have:s.length≠0:=fun e=>h (List.eq_nil_of_length_eq_zero e)
 simp only[List.length_drop]; omega
theorem dv:bR []=some []:=by rw[bR,dif_pos rfl]
theorem d7 {s:List UInt8} (h:s≠[]) (h0:(aG s).2=0):bR s=none:=by rw[bR,dif_neg h,dif_pos h0]
theorem dt {s:List UInt8} (h:s≠[]) (h0:(aG s).2≠0):bR s=(bR (s.drop (aG s).2)).map fun l=>(aG s).1::l:=by rw[bR,dif_neg h,dif_neg h0]
def cB (s:List UInt8) (out:List Int):List Int×Bool×Unit :=
 match bR s with
 | some m=>(out++m,true,())
 | none=>([],false,())
theorem vD {s:List UInt8} (hs:s.length<4294967296):∀ (k i:Nat) (l:List Int),s.length-i≤k→i≤s.length→l.length≤i→aJ (mP s) ((i:Int),l,())=some (cB (s.drop i) l):=by
 intro k
 have fin:∀ (i:Nat) (l:List Int),¬ i<s.length→aJ (mP s) ((i:Int),l,())=some (cB (s.drop i) l):=by
   intro i l hi
   rw[List.drop_eq_nil_of_le (by omega),aq (x:=(l,true,())) (by simp only[mP,ac]; rw[zn (by omega)])]
   simp[cB,dv]
 induction k with
 | zero=>intro i l hk hi hl; exact fin i l (by omega)
 | succ k ih =>
   intro i l hk hi hl
   by_cases hlt:i<s.length
   · have hne:s.drop i≠[]:=fun e=>by have:=congrArg List.length e; simp at this; omega
     have hle:=pj (s.drop i)
     simp only[List.length_drop] at hle
     by_cases h0:(aG (s.drop i)).2=0
     · rw[aq (x:=([],false,()))]
       · simp only[cB,d7 hne h0]
       · simp only[mP,ac]
         rw[zp (by omega),dJ (by omega)]
         simp only[zb,adK]
         rw[zp (by omega)]
     · rw[ay (b:=(((i+(aG (s.drop i)).2:Nat):Int),l++[(aG (s.drop i)).1],()))]
       · rw[ih _ _ (by omega) (by omega) (by simp; omega)]
         simp only[cB,dt hne h0,List.drop_drop]
         cases bR (s.drop (i+(aG (s.drop i)).2))<;>simp
       · simp only[mP,ac]
         rw[zp (by omega),dJ (by omega)]
         simp only[zb,adK]
         rw[zn (by omega),cW (by simp; omega)]
         simp only[zb]
         rw[wrap64 (by omega) (by omega)]
         simp
   · exact fin i l hlt
theorem zB {s:List UInt8} (hs:s.length<4294967296):zbp s=some (cB s []):=by
 have:=vD hs s.length 0 [] (by omega) (by omega) (by simp)
 simpa [zbp] using this
def decN (l:List UInt8):Nat×Nat:=if (aG l).2=0 then (65533,1) else ((aG l).1.toNat,(aG l).2)
theorem get_at {s:List UInt8}{i:Nat}{b:UInt8} (h:s[i]? = some b):(⟨s.toArray⟩:ByteArray).get! i=b:=by
 have:(⟨s.toArray⟩:ByteArray).get! i=s.toArray[i]! := rfl
 rw[this]
 simp[h]
theorem aiy {s:List UInt8}{i:Nat} (h:s.length≤i):decide (i<(⟨s.toArray⟩:ByteArray).size)=false:=by
 have:(⟨s.toArray⟩:ByteArray).size=s.length:=by simp[ByteArray.size]
 rw[this]; simp; omega
theorem acZ {s:List UInt8}{i:Nat} (h:i<s.length):decide (i<(⟨s.toArray⟩:ByteArray).size)=true:=by
 have:(⟨s.toArray⟩:ByteArray).size=s.length:=by simp[ByteArray.size]
 rw[this]; simp; omega
theorem drop_at {s t:List UInt8}{i k:Nat}{b:UInt8} (h:s.drop i=t) (hb:t[k]? = some b):s[i+k]? = some b:=by
 rw[← h,List.getElem?_drop] at hb; exact hb
theorem acU {s t:List UInt8}{i:Nat} (h:s.drop i=t) (hi:i≤s.length):s.length=i+t.length:=by
 rw[← h,List.length_drop]; omega
def decV (b0:Nat) (b1 b2 b3:Option Nat):Nat×Nat :=
 let cont (b:Option Nat):Bool:=match b with
   | some b=>b/64==2
   | none=>false
 if b0<0x80 then (b0,1)
 else if b0/32==6&&cont b1 then
   let c:=(b0%32)*64+b1.getD 0%64
   if c≥0x80 then (c,2) else (65533,1)
 else if b0/16==14&&cont b1&&cont b2 then
   let c:=(b0%16)*4096+(b1.getD 0%64)*64+b2.getD 0%64
   if c≥0x800&&Utf8.valid c then (c,3) else (65533,1)
 else if b0/8==30&&cont b1&&cont b2&&cont b3 then
   let c:=(b0%8)*262144+(b1.getD 0%64)*4096+(b2.getD 0%64)*64+b3.getD 0%64
   if c≥0x10000&&Utf8.valid c then (c,4) else (65533,1)
 else (65533,1)
theorem acV {s t:List UInt8}{i:Nat}{a:UInt8} (h:s.drop i=a::t) (hi:i≤s.length):Utf8.decode ⟨s.toArray⟩ i=decV a.toNat (t[0]?.map (·.toNat)) (t[1]?.map (·.toNat)) (t[2]?.map (·.toNat)):=by
 have hlen:=acU h hi
 have g0:(⟨s.toArray⟩:ByteArray).get! (i+0)=a:=get_at (drop_at h rfl)
 have gk:∀ k b,t[k]? = some b→(⟨s.toArray⟩:ByteArray).get! (i+(k+1))=b:=fun k b hb=>get_at (drop_at h (by simpa using hb))
 have cy:∀ k b,t[k]? = some b→decide (i+(k+1)<(⟨s.toArray⟩:ByteArray).size)=true:=fun k b hb=>acZ (by
   rcases Nat.lt_or_ge k t.length with h' | h'
   · simp only[zl] at hlen; omega
   · rw[List.getElem?_eq_none h'] at hb; cases hb)
 have cn:∀ k,t[k]? = none→decide (i+(k+1)<(⟨s.toArray⟩:ByteArray).size)=false:=fun k hb=>aiy (by
   rw[List.getElem?_eq_none_iff] at hb
   simp only[zl] at hlen; omega)
 unfold Utf8.decode decV
 simp only[g0]
 have e:Utf8.runeError=65533:=rfl
 cases h1:t[0]? with
 | none =>
   have c1:=cn 0 h1
   have h2:t[1]? = none:=by rw[List.getElem?_eq_none_iff] at h1 ⊢; omega
   have h3:t[2]? = none:=by rw[List.getElem?_eq_none_iff] at h1 ⊢; omega
   simp only[Nat.zero_add] at c1
   simp[c1,h2,h3,e]
 | some b =>
   have c1:=cy 0 b h1
   have d1:=gk 0 b h1
   simp only[Nat.zero_add] at c1 d1
   cases h2:t[1]? with
   | none =>
     have c2:=cn 1 h2
     have h3:t[2]? = none:=by rw[List.getElem?_eq_none_iff] at h2 ⊢; omega
     simp only[Nat.reduceAdd] at c2
     simp[c1,c2,d1,h3,e]
   | some c =>
     have c2:=cy 1 c h2
     have d2:=gk 1 c h2
     simp only[Nat.reduceAdd] at c2 d2
     cases h3:t[2]? with
     | none =>
       have c3:=cn 2 h3
       simp only[Nat.reduceAdd] at c3
       simp[c1,c2,c3,d1,d2,e]
     | some d =>
       have c3:=cy 2 d h3
       have d3:=gk 2 d h3
       simp only[Nat.reduceAdd] at c3 d3
       simp[c1,c2,c3,d1,d2,d3,e]
theorem aiu {b:Nat}:(b/64==2)=decide (128≤b∧b≤191):=by
 rw[Bool.eq_iff_iff]; simp; omega
theorem apr (a:UInt8) (t:List UInt8):decV a.toNat (t[0]?.map (·.toNat)) (t[1]?.map (·.toNat)) (t[2]?.map (·.toNat))=decN (a::t):=by
 have ha:=a.toNat_lt
 unfold decV decN
 by_cases c1:a.toNat<128
 · simp[aG,c1]
 have c1':¬ a.toNat<0x80:=c1
 simp only[zn c1']
 by_cases c2:a.toNat/32=6
 · have e2:(a.toNat/32==6)=true:=by simp[c2]
   match t with
   | [] =>
     have e3:¬ a.toNat/16=14:=by omega
     have e4:¬ a.toNat/8=30:=by omega
     have d3:¬ (224≤a.toNat∧a.toNat<240):=by omega
     have d4:¬ (240≤a.toNat∧a.toNat<245):=by omega
     simp[aG,c1,e3,e4,d3,d4]
   | b::t =>
     have hb:=b.toNat_lt
     have e3:¬ a.toNat/16=14:=by omega
     have e4:¬ a.toNat/8=30:=by omega
     have d3:¬ (224≤a.toNat∧a.toNat<240):=by omega
     have d4:¬ (240≤a.toNat∧a.toNat<245):=by omega
     simp only[List.getElem?_cons_zero,Option.map_some,e2,aiu,Bool.true_and,Option.getD_some]
     by_cases hb':128≤b.toNat∧b.toNat≤191
     · rw[zp (by simpa using hb')]
       by_cases c3:194≤a.toNat
       · rw[zp (by omega)]
         have q:194≤a.toNat∧a.toNat<224:=by omega
         simp only[aG,zn c1,zp q,zp hb']
         rw[zn (by omega)]
         congr 1
         omega
       · rw[zn (by omega)]
         have q:¬ (194≤a.toNat∧a.toNat<224):=by omega
         simp[aG,c1,q,d3,d4]
     · rw[zn (by simpa using hb')]
       have x3:(a.toNat/16==14)=false:=by simp[e3]
       have x4:(a.toNat/8==30)=false:=by simp[e4]
       simp only[x3,x4,Bool.false_and,Bool.false_eq_true,if_false]
       by_cases c3:194≤a.toNat∧a.toNat<224
       · simp[aG,c1,c3,hb']
       · simp[aG,c1,c3,d3,d4]
 have e2:(a.toNat/32==6)=false:=by simp[c2]
 simp only[e2,Bool.false_and,Bool.false_eq_true,if_false]
 have d2:¬ (194≤a.toNat∧a.toNat<224):=by omega
 by_cases c3:a.toNat/16=14
 · have e3:(a.toNat/16==14)=true:=by simp[c3]
   have d3:(224≤a.toNat∧a.toNat<240):=by omega
   have x4:(a.toNat/8==30)=false:=by simp; omega
   simp only[e3,x4,Bool.true_and,Bool.false_and,Bool.false_eq_true,if_false]
   match t with
   | []=>simp[aG,c1,d2,d3]
   | [b]=>simp[aG,c1,d2,d3]
   | b::c::t =>
     have hb:=b.toNat_lt
     have hc:=c.toNat_lt
     simp only[List.getElem?_cons_zero,List.getElem?_cons_succ,Option.map_some,aiu,Option.getD_some]
     by_cases hb':(128≤b.toNat∧b.toNat≤191)∧(128≤c.toNat∧c.toNat≤191)
     · rw[zp (by simp only[Bool.and_eq_true,decide_eq_true_eq]; exact hb')]
       simp only[aG,zn c1,zn d2,zp d3,zp hb']
       by_cases hr:64*(64*((a.toNat:Int)-224)+b.toNat-128)+c.toNat-128<2048∨(55296≤64*(64*((a.toNat:Int)-224)+b.toNat-128)+c.toNat-128∧64*(64*((a.toNat:Int)-224)+b.toNat-128)+c.toNat-128≤57343)
       · rw [zp hr, zn (by
           simp only[Utf8.valid,Bool.and_eq_true,Bool.or_eq_true,decide_eq_true_eq]; omega)]
         rfl
       · rw [zn hr, zp (by
           simp only[Utf8.valid,Bool.and_eq_true,Bool.or_eq_true,decide_eq_true_eq]; omega),zn (by simp)]
         congr 1
         omega
     · rw[zn (by simp only[Bool.and_eq_true,decide_eq_true_eq]; exact hb')]
       simp only[aG,zn c1,zn d2,zp d3,zn hb']
       rfl
 have e3:(a.toNat/16==14)=false:=by simp[c3]
 have d3:¬ (224≤a.toNat∧a.toNat<240):=by omega
 simp only[e3,Bool.false_and,Bool.false_eq_true,if_false]
 by_cases c4:a.toNat/8=30
 · have e4:(a.toNat/8==30)=true:=by simp[c4]
   simp only[e4,Bool.true_and]
   match t with
   | []=>simp[aG,c1,d2,d3]
   | [b]=>simp[aG,c1,d2,d3]
   | [b,c]=>simp[aG,c1,d2,d3]
   | b::c::d::t =>
     have hb:=b.toNat_lt
     have hc:=c.toNat_lt
     have hd:=d.toNat_lt
     simp only[List.getElem?_cons_zero,List.getElem?_cons_succ,Option.map_some,aiu,Option.getD_some]
     by_cases hb':(128≤b.toNat∧b.toNat≤191)∧(128≤c.toNat∧c.toNat≤191)∧(128≤d.toNat∧d.toNat≤191)
     · rw[zp (by simp only[Bool.and_eq_true,decide_eq_true_eq]; exact ⟨⟨hb'.1,hb'.2.1⟩,hb'.2.2⟩)]
       by_cases d4:(240≤a.toNat∧a.toNat<245)
       · simp only[aG,zn c1,zn d2,zn d3,zp d4,zp hb']
         by_cases hr:64*(64*(64*((a.toNat:Int)-240)+b.toNat-128)+c.toNat-128)+d.toNat-128<65536∨1114111<64*(64*(64*((a.toNat:Int)-240)+b.toNat-128)+c.toNat-128)+d.toNat-128
         · rw [zp hr, zn (by
             simp only[Utf8.valid,Bool.and_eq_true,Bool.or_eq_true,decide_eq_true_eq]; omega)]
           rfl
         · rw [zn hr, zp (by
             simp only[Utf8.valid,Bool.and_eq_true,Bool.or_eq_true,decide_eq_true_eq]; omega),zn (by simp)]
           congr 1
           omega
       · rw [zn (by
           simp only[Utf8.valid,Bool.and_eq_true,Bool.or_eq_true,decide_eq_true_eq]; omega)]
         simp only[aG,zn c1,zn d2,zn d3,zn d4]
         rfl
     · rw[zn (by simp only[Bool.and_eq_true,decide_eq_true_eq]; exact fun e=>hb' ⟨e.1.1,e.1.2,e.2⟩)]
       by_cases d4:(240≤a.toNat∧a.toNat<245)
       · simp only[aG,zn c1,zn d2,zn d3,zp d4,zn hb']
         rfl
       · simp only[aG,zn c1,zn d2,zn d3,zn d4]
         rfl
 · have e4:(a.toNat/8==30)=false:=by simp[c4]
   have d4:¬ (240≤a.toNat∧a.toNat<245):=by omega
   simp[e4,aG,c1,d2,d3,d4]
theorem decode_N {s:List UInt8}{i:Nat} (hi:i<s.length):Utf8.decode ⟨s.toArray⟩ i=decN (s.drop i):=by
 cases h:s.drop i with
 | nil=>have:=congrArg List.length h; simp at this; omega
 | cons a t=>rw[acV h (by omega),apr]
def cmpI (a b:Int):Int:=if a<b then -1 else if a>b then 1 else 0
theorem qW (a b:Int):za1 a b=some (cmpI a b):=by
 unfold za1 za6 cmpI
 simp only[zb,decide_true,Bool.not_true,cond_false,ac]
 by_cases h1:a<b
 · simp[h1]
 · by_cases h2:a>b<;>simp[h1,h2]
def orI (a b:Int):Int:=if a=0 then b else a
theorem or_t (a b:Int):zch [a,b]=some (orI a b):=by
 unfold zch orI
 by_cases h1:a=0
 · rw[zp h1]
   have t0:jN [a,b] (0,())=some (.inl (1,())):=by
     unfold jN
     simp only[ac,zl,List.length_nil]
     rw[zp (by decide)]
     simp[atI,h1,wrap64]
   rw[ay t0]
   by_cases h2:b=0
   · have t1 : jN [a, b] (1, ()) = some (.inl (2, ())) := by
       unfold jN
       simp only[ac,zl,List.length_nil]
       rw[zp (by decide)]
       simp[atI,h2,wrap64]
     rw[ay t1,h2]
     refine aq ?_
     unfold jN
     simp only[ac,zl,List.length_nil]
     rw[zn (by decide)]
   · refine aq ?_
     unfold jN
     simp only[ac,zl,List.length_nil]
     rw[zp (by decide)]
     simp[atI,h2]
 · rw[zn h1]
   refine aq ?_
   unfold jN
   simp only[ac,zl,List.length_nil]
   rw[zp (by decide)]
   simp[atI,h1]
def cmpD (a b:Int×Int×Unit):Int:=orI (cmpI a.1 b.1) (cmpI a.2.1 b.2.1)
def bI (s:List UInt8):List Int:=s.map fun b=>(b.toNat:Int)
theorem ja {s t:List UInt8}:bI (s++t)=bI s++bI t:=by simp[bI]
theorem j6 {s:List UInt8}:(bI s).length=s.length:=by simp[bI]
theorem aiE {s:List UInt8}:((bI s).map fun n=>UInt8.ofNat n.toNat)=s:=by
 unfold bI
 rw[List.map_map]
 conv=>rhs; rw[← List.map_id s]
 congr 1
 funext b
 simp
theorem adw {n:Int}:IntKind.wrap .u8 n=n%256:=by
 simp[IntKind.wrap,IntKind.signed,IntKind.bits]
theorem cI {c:Int}{v:Bool×Unit×Unit}{w:List Int} (hw:w.length<4294967000):zaf c v w=some (false,(true,(),()),w++[c],()):=by
 unfold zaf
 have h:zae v w=some ((),(true,(),()),w,()):=by
   obtain ⟨b,_,_⟩:=v
   unfold zae
   cases b<;>rfl
 rw[h]
 simp only[zb]
 rw[cW (by simp; omega)]
 rfl
theorem ox {v:Bool×Unit×Unit}{s:List UInt8} (hs:s.length<4294967296):zaj v (bI s)=some (s,v,()):=by
 unfold zaj
 cases s with
 | nil=>rfl
 | cons b s =>
   have:(bI (b::s)).isEmpty=false:=rfl
   rw[this,cond_false,aiE]
   have:pK 0 (bI (b::s)).length ((bI (b::s)).length:Int)=some ():=by
     unfold pK
     rw[j6,zp ⟨rfl,rfl,by simp only[zl]; omega,by omega⟩]
   rw[this]; rfl
theorem sC {n k b:Nat} (hb:0<b) (h:n<b ^ (k+1)):n/b<b ^ k:=by
 rw[Nat.div_lt_iff_lt_mul hb]
 rw[Nat.pow_succ] at h; exact h
theorem aru {a b:Nat} (hb:b≠0) (ha:a<9223372036854775808):quoT .i64 (a:Int) (b:Int)=some ((a/b:Nat):Int):=by
 unfold quoT
 rw[zn (by omega)]
 have:((a:Int).tdiv (b:Int))=((a/b:Nat):Int):=by rw[Int.tdiv_eq_ediv_of_nonneg (by omega)]; norm_cast
 rw[this]
 have hle:a/b≤a:=Nat.div_le_self a b
 generalize a/b=q at hle
 rw[wrap64 (by omega) (by omega)]
theorem art {a b:Nat} (hb:b≠0):remT (a:Int) (b:Int)=some ((a%b:Nat):Int):=by
 unfold remT
 rw[zn (by omega)]
 have:((a:Int).tmod (b:Int))=((a%b:Nat):Int):=by rw[Int.tmod_eq_emod_of_nonneg (by omega)]; norm_cast
 rw[this]
theorem dc {u:Nat} (h:u<10):Lib.decDigits u=[UInt8.ofNat (48+u)]:=by rw[Lib.decDigits,dif_pos h]
theorem io {u:Nat} (h:¬ u<10):Lib.decDigits u=Lib.decDigits (u/10)++[UInt8.ofNat (48+u%10)]:=by rw[Lib.decDigits,dif_neg h]
theorem il:∀ (k u:Nat),u<10 ^ k→(Lib.decDigits u).length≤k+1
 | 0,u,h=>by rw[dc (by simp at h; omega)]; simp
 | k+1,u,h=>by
   by_cases hu:u<10
   · rw[dc hu]; simp
   · rw[io hu,List.length_append]
     have:=il k (u/10) (sC (by omega) h)
     simp only[zl,List.length_nil]; omega
theorem iN {n:Int} (h : -9223372036854775808≤n) (h2:n≤9223372036854775807):(Lib.itoa n).length≤21:=by
 unfold Lib.itoa
 split
 · have:=il 19 n.natAbs (by simp only[Nat.reducePow]; omega)
   rw[zl]; omega
 · have:=il 19 n.toNat (by simp only[Nat.reducePow]; omega)
   omega
theorem aa5:∀ x:Fin 10,(([48,49,50,51,52,53,54,55,56,57]:List UInt8).take (x.val+1)).drop x.val=[UInt8.ofNat (48+x.val)]:=by decide
theorem aa4 {n:Nat} (h:n<10):subI ([48,49,50,51,52,53,54,55,56,57]:List UInt8) (n:Int) (IntKind.wrap .i64 ((n:Int)+1))=some [UInt8.ofNat (48+n)]:=by
 rw[wrap64 (by omega) (by omega),show (n:Int)+1=((n+1:Nat):Int) by omega,bV (by omega) (by simp; omega),aa5 ⟨n,h⟩]
theorem ao4 {a:Int} (h : -9223372036854775808≤a) (h2:a<0):quoT .i64 a 10=some (-((a.natAbs/10:Nat):Int)):=by
 unfold quoT
 rw[zn (by omega)]
 have:a.tdiv 10 = -((a.natAbs/10:Nat):Int):=by
   obtain ⟨n,rfl⟩:∃ n:Nat,a = -(n:Int):=⟨a.natAbs,by omega⟩
   rw[Int.neg_tdiv,Int.natAbs_neg,Int.natAbs_natCast,Int.tdiv_eq_ediv_of_nonneg (by omega)]
   norm_cast
 rw[this,wrap64 (by omega) (by omega)]
theorem ao0 {a:Int} (h2:a<0):remT a 10=some (-((a.natAbs%10:Nat):Int)):=by
 unfold remT
 rw[zn (by omega)]
 have:a.tmod 10 = -((a.natAbs%10:Nat):Int):=by
   obtain ⟨n,rfl⟩:∃ n:Nat,a = -(n:Int):=⟨a.natAbs,by omega⟩
   rw[Int.neg_tmod,Int.natAbs_neg,Int.natAbs_natCast,Int.tmod_eq_emod_of_nonneg (by omega)]
   norm_cast
 rw[this]
theorem itoa_neg {a:Int} (h:a<0):Lib.itoa a=45::Lib.decDigits a.natAbs:=by unfold Lib.itoa; rw[zp h]
theorem cX {n:Nat}:Lib.itoa (n:Int)=Lib.decDigits n:=by unfold Lib.itoa; rw[zn (by omega),Int.toNat_natCast]
def inR (n:Int):Prop := -9223372036854775808≤n∧n≤9223372036854775807
theorem fU {n:Int} (h:inR n):zbh n=some (Lib.itoa n):=zp h
def eM (d:Int×Int×Unit):List UInt8:=Lib.itoa d.1++[46]++Lib.itoa d.2.1
theorem tA {a b:Int} (ha:inR a) (hb:inR b):((catT (Lib.itoa a) [46]).bind fun s=>catT s (Lib.itoa b))=some (Lib.itoa a++[46]++Lib.itoa b):=by
 have l1:=iN ha.1 ha.2
 have l2:=iN hb.1 hb.2
 rw[aD (by simp only[zl,List.length_nil]; omega),zb,aD (by rw[List.length_append]; simp only[zl,List.length_nil]; omega)]
def bD (d:Int×Int×Unit):Bool:=decide (0≤d.1∧d.1≤15∧1≤d.2.1∧d.2.1≤1048576)
def digB (b:UInt8):Prop:=48≤b.toNat∧b.toNat≤57
theorem uz {x:Nat} (h:x<10):digB (UInt8.ofNat (48+x))∧(UInt8.ofNat (48+x)).toNat=48+x:=by
 have:(UInt8.ofNat (48+x)).toNat=48+x:=UInt8.toNat_ofNat_of_lt' (by show _<256; omega)
 exact ⟨⟨by omega,by omega⟩,this⟩
theorem dC:∀ (u:Nat),∀ b∈Lib.decDigits u,digB b:=by
 intro u
 induction u using Nat.strongRecOn with
 | _ u ih =>
   intro b hb
   by_cases h:u<10
   · rw[dc h] at hb
     simp only[List.mem_cons,List.mem_nil_iff,or_false] at hb
     subst hb; exact (uz h).1
   · rw[io h] at hb
     rcases List.mem_append.1 hb with hb | hb
     · exact ih (u/10) (by omega) b hb
     · simp only[List.mem_cons,List.mem_nil_iff,or_false] at hb
       subst hb; exact (uz (by omega)).1
theorem gd (u:Nat):1≤(Lib.decDigits u).length:=by
 by_cases h:u<10
 · rw[dc h]; simp
 · rw[io h,List.length_append]; simp
theorem eK:∀ (k u:Nat),u<10 ^ (k+1)→(Lib.decDigits u).length≤k+1
 | 0,u,h=>by rw[dc (by simpa using h)]; simp
 | k+1,u,h=>by
   by_cases hu:u<10
   · rw[dc hu]; simp
   · rw[io hu,List.length_append]
     have:=eK k (u/10) (sC (by omega) h)
     simp only[zl,List.length_nil]; omega
def valM (acc:Nat):List UInt8→Option Nat
 | []=>some acc
 | c::r=>if 48≤c.toNat∧c.toNat≤57 then valM (acc*10+(c.toNat-48)) r else none
theorem yY:∀ (l r:List UInt8) (acc:Nat),valM acc (l++r)=(valM acc l).bind fun m=>valM m r
 | [],r,acc=>rfl
 | c::l,r,acc=>by
   simp only[List.cons_append,valM]
   split
   · exact yY l r _
   · rfl
theorem fc:∀ (u:Nat),valM 0 (Lib.decDigits u)=some u:=by
 intro u
 induction u using Nat.strongRecOn with
 | _ u ih =>
   by_cases h:u<10
   · rw[dc h]
     have:=uz h
     simp only[valM,this.2]
     rw[zp (by omega)]
     simp
   · rw[io h,yY,ih (u/10) (by omega),zb]
     have:=uz (x:=u%10) (by omega)
     simp only[valM,this.2]
     rw[zp (by omega)]
     congr 1; omega
theorem iR {c:UInt8}:∀ (l t:List UInt8) (i:Nat),(∀ b∈l,b≠c)→bd c (l++c::t) i=((i+l.length:Nat):Int)
 | [],t,i,h=>by
   simp only[List.nil_append,bd,List.length_nil,Nat.add_zero]
   have:Nat.beq c.toNat c.toNat=true:=by rw[Nat.beq_eq]
   rw[this]; rfl
 | b::l,t,i,h=>by
   simp only[List.cons_append,bd]
   have hb:=h b (List.mem_cons_self ..)
   have:Nat.beq b.toNat c.toNat=false:=by
     cases e:Nat.beq b.toNat c.toNat with
     | false=>rfl
     | true=>rw[Nat.beq_eq] at e; exact absurd (UInt8.toNat_inj.1 e) hb
   rw[this,cond_false,iR l t (i+1) (fun b hb=>h b (List.mem_cons_of_mem _ hb)),zl]
   omega
theorem uo {c:UInt8}:∀ (l:List UInt8) (i:Nat),bd c l i = -1∨∃ k:Nat,bd c l i=(k:Int)∧i≤k∧k<i+l.length
 | [],i=>.inl rfl
 | b::l,i=>by
   simp only[bd]
   cases Nat.beq b.toNat c.toNat with
   | true=>exact .inr ⟨i,rfl,Nat.le_refl _,by rw[zl]; omega⟩
   | false =>
     rcases uo (c:=c) l (i+1) with h | ⟨k,h1,h2,h3⟩
     · exact .inl h
     · exact .inr ⟨k,h1,by omega,by rw[zl]; omega⟩
theorem eH {d:Int×Int×Unit} (h:bD d=true):(0≤d.1∧d.1≤15)∧(1≤d.2.1∧d.2.1≤1048576):=by
 have:=of_decide_eq_true h
 omega
theorem nk {d:Int×Int×Unit} (h:bD d=true):∃ r n:Nat,d=((r:Int),(n:Int),())∧r≤15∧1≤n∧n≤1048576∧eM d=Lib.decDigits r++46::Lib.decDigits n:=by
 have hi:=eH h
 obtain ⟨a,b,u⟩:=d
 simp only at hi
 refine ⟨a.toNat,b.toNat,?_,by omega,by omega,by omega,?_⟩
 · congr 1
   · omega
   · congr 1; omega
 · unfold eM
   simp only
   have i1:Lib.itoa a=Lib.decDigits a.toNat:=by unfold Lib.itoa; rw[zn (by omega)]
   have i2:Lib.itoa b=Lib.decDigits b.toNat:=by unfold Lib.itoa; rw[zn (by omega)]
   rw[i1,i2]
   simp
theorem aa6 {u:Nat}:∀ b∈Lib.decDigits u,b≠46:=fun b hb e=>by
 have:=(dC u b hb).1
 subst e
 exact absurd this (by decide)
def cY (r:Nat):List UInt8:=Lib.decDigits r++[46]
theorem ui {r r':Nat}{t t':List UInt8} (h:Lib.decDigits r++46::t=Lib.decDigits r'++46::t'):r=r'∧t=t':=by
 have h1:=iR (c:=46) (Lib.decDigits r) t 0 aa6
 have h2:=iR (c:=46) (Lib.decDigits r') t' 0 aa6
 rw[h,h2] at h1
 have hl:(Lib.decDigits r).length=(Lib.decDigits r').length:=by omega
 obtain ⟨e1,e2⟩:=List.append_inj h hl
 have v1:=fc r
 rw[e1,fc r'] at v1
 exact ⟨(Option.some.inj v1).symm,(List.cons.inj e2).2⟩
theorem mz {n:Nat}{x:UInt8} (h:n=x.toNat):UInt8.ofNat n=x:=by subst h; exact UInt8.ofNat_toNat
def encN (c:Nat):List UInt8 :=
 if c<128 then [UInt8.ofNat c]
 else if c<2048 then [UInt8.ofNat (192+c/64),UInt8.ofNat (128+c%64)]
 else if c<65536 then [UInt8.ofNat (224+c/4096),UInt8.ofNat (128+c/64%64),UInt8.ofNat (128+c%64)]
 else [UInt8.ofNat (240+c/262144),UInt8.ofNat (128+c/4096%64),UInt8.ofNat (128+c/64%64),UInt8.ofNat (128+c%64)]
theorem aaY {r:Int} (h:Utf8.valid r=true):(Utf8.encode r).data.toList=encN r.toNat:=by
 unfold Utf8.encode encN
 simp only[h,if_true]
 split
 · rfl
 · split
   · rfl
   · split<;>rfl
theorem kh {r:Int} (h0:0≤r) (h1:r≤1114111) (h2:¬ (55296≤r∧r≤57343)):Utf8.valid r=true:=by
 simp[Utf8.valid]; omega
theorem acR {s:List UInt8} (h:(aG s).2≠0):(Utf8.encode (aG s).1).data.toList=s.take (aG s).2:=by
 match s with
 | []=>exact absurd rfl h
 | a::t =>
   have ha:=a.toNat_lt
   by_cases c1:a.toNat<128
   · have e:aG (a::t)=((a.toNat:Int),1):=by simp only[aG,zp c1]
     rw[e,aaY (kh (by omega) (by omega) (by omega))]
     simp only[Int.toNat_natCast,encN,zp c1]
     rw[mz rfl]; rfl
   by_cases c2:194≤a.toNat∧a.toNat<224
   · match t with
     | []=>simp only[aG,zn c1,zp c2,ne_eq,not_true_eq_false] at h
     | b::t =>
       by_cases hb:128≤b.toNat∧b.toNat≤191
       · have e:aG (a::b::t)=(64*((a.toNat:Int)-192)+b.toNat-128,2):=by simp only[aG,zn c1,zp c2,zp hb]
         rw[e,aaY (kh (by simp only[]; omega) (by simp only[]; omega) (by simp only[]; omega))]
         simp only[]
         have:(64*((a.toNat:Int)-192)+b.toNat-128).toNat=64*(a.toNat-192)+(b.toNat-128):=by omega
         rw[this]
         unfold encN
         rw[zn (by omega),zp (by omega),mz (x:=a) (by omega),mz (x:=b) (by omega)]; rfl
       · simp only[aG,zn c1,zp c2,zn hb,ne_eq,not_true_eq_false] at h
   by_cases c3:224≤a.toNat∧a.toNat<240
   · match t with
     | []=>simp only[aG,zn c1,zn c2,zp c3,ne_eq,not_true_eq_false] at h
     | [b]=>simp only[aG,zn c1,zn c2,zp c3,ne_eq,not_true_eq_false] at h
     | b::c::t =>
       by_cases hb:(128≤b.toNat∧b.toNat≤191)∧(128≤c.toNat∧c.toNat≤191)
       · by_cases hr:64*(64*((a.toNat:Int)-224)+b.toNat-128)+c.toNat-128<2048∨(55296≤64*(64*((a.toNat:Int)-224)+b.toNat-128)+c.toNat-128∧64*(64*((a.toNat:Int)-224)+b.toNat-128)+c.toNat-128≤57343)
         · simp only[aG,zn c1,zn c2,zp c3,zp hb,zp hr,ne_eq,not_true_eq_false] at h
         · have e:aG (a::b::c::t)=(64*(64*((a.toNat:Int)-224)+b.toNat-128)+c.toNat-128,3):=by simp only[aG,zn c1,zn c2,zp c3,zp hb,zn hr]
           rw[e,aaY (kh (by simp only[]; omega) (by simp only[]; omega) (by simp only[]; omega))]
           simp only[]
           have:(64*(64*((a.toNat:Int)-224)+b.toNat-128)+c.toNat-128).toNat=4096*(a.toNat-224)+64*(b.toNat-128)+(c.toNat-128):=by omega
           rw[this]
           unfold encN
           rw[zn (by omega),zn (by omega),zp (by omega),mz (x:=a) (by omega),mz (x:=b) (by omega),mz (x:=c) (by omega)]; rfl
       · simp only[aG,zn c1,zn c2,zp c3,zn hb,ne_eq,not_true_eq_false] at h
   by_cases c4:240≤a.toNat∧a.toNat<245
   · match t with
     | []=>simp only[aG,zn c1,zn c2,zn c3,zp c4,ne_eq,not_true_eq_false] at h
     | [b]=>simp only[aG,zn c1,zn c2,zn c3,zp c4,ne_eq,not_true_eq_false] at h
     | [b,c]=>simp only[aG,zn c1,zn c2,zn c3,zp c4,ne_eq,not_true_eq_false] at h
     | b::c::d::t =>
       by_cases hb:(128≤b.toNat∧b.toNat≤191)∧(128≤c.toNat∧c.toNat≤191)∧(128≤d.toNat∧d.toNat≤191)
       · by_cases hr:64*(64*(64*((a.toNat:Int)-240)+b.toNat-128)+c.toNat-128)+d.toNat-128<65536∨1114111<64*(64*(64*((a.toNat:Int)-240)+b.toNat-128)+c.toNat-128)+d.toNat-128
         · simp only[aG,zn c1,zn c2,zn c3,zp c4,zp hb,zp hr,ne_eq,not_true_eq_false] at h
         · have e:aG (a::b::c::d::t)=(64*(64*(64*((a.toNat:Int)-240)+b.toNat-128)+c.toNat-128)+d.toNat-128,4):=by simp only[aG,zn c1,zn c2,zn c3,zp c4,zp hb,zn hr]
           rw[e,aaY (kh (by simp only[]; omega) (by simp only[]; omega) (by simp only[]; omega))]
           simp only[]
           have:(64*(64*(64*((a.toNat:Int)-240)+b.toNat-128)+c.toNat-128)+d.toNat-128).toNat=262144*(a.toNat-240)+4096*(b.toNat-128)+64*(c.toNat-128)+(d.toNat-128):=by omega
           rw[this]
           unfold encN
           rw[zn (by omega),zn (by omega),zn (by omega),mz (x:=a) (by omega),mz (x:=b) (by omega),mz (x:=c) (by omega),mz (x:=d) (by omega)]; rfl
       · simp only[aG,zn c1,zn c2,zn c3,zp c4,zn hb,ne_eq,not_true_eq_false] at h
   · simp only[aG,zn c1,zn c2,zn c3,zn c4,ne_eq,not_true_eq_false] at h
theorem acQ {n:Nat} (h:128≤n) (h2:n≤1114111):∀ b∈encN n,128≤b.toNat:=by
 have e:∀ n:Nat,128≤n→n<256→128≤(UInt8.ofNat n).toNat:=by
   intro n h1 h2
   rw[UInt8.toNat_ofNat_of_lt' (by simpa using h2)]; exact h1
 intro b hb
 unfold encN at hb
 rw[zn (by omega)] at hb
 split at hb
 · simp only[List.mem_cons,List.mem_nil_iff,or_false] at hb
   rcases hb with rfl | rfl<;>exact e _ (by omega) (by omega)
 · split at hb
   · simp only[List.mem_cons,List.mem_nil_iff,or_false] at hb
     rcases hb with rfl | rfl | rfl<;>exact e _ (by omega) (by omega)
   · simp only[List.mem_cons,List.mem_nil_iff,or_false] at hb
     rcases hb with rfl | rfl | rfl | rfl<;>exact e _ (by omega) (by omega)
theorem sL {s:List UInt8} (h0:(aG s).2≠0):s.take (aG s).2=encN (aG s).1.toNat:=by
 have hi:=gj s
 have he:=acR h0
 by_cases hv:Utf8.valid (aG s).1=true
 · rw[← he,aaY hv]
 · exfalso
   have hs:55296≤(aG s).1∧(aG s).1≤57343:=by
     simp[Utf8.valid] at hv; omega
   have h3:(aG s).2=3∨(aG s).2≠3:=by omega
   revert hs h0
   unfold aG
   repeat' split
   all_goals (try simp only[])
   all_goals (try split)
   all_goals (try simp only[])
   all_goals omega
theorem yU {n:Int} (h:0≤n) (h2:n<4294967296):IntKind.wrap .u32 n=n:=by
 simp[IntKind.wrap,IntKind.signed,IntKind.bits]; omega
theorem aib:∀ x:Fin 256,(IntKind.wrap .u8 ((BitVec.ofInt (IntKind.bits .u8) 128 ||| BitVec.ofInt (IntKind.bits .u8) (IntKind.wrap .u8 ((BitVec.ofInt (IntKind.bits .u8) ((x.val:Nat):Int) &&& BitVec.ofInt (IntKind.bits .u8) 63).toNat:Nat))).toNat:Nat))=((128+x.val%64:Nat):Int):=by decide +kernel
theorem wj {c:Int}:(IntKind.wrap .u8 ((BitVec.ofInt (IntKind.bits .u8) 128 ||| BitVec.ofInt (IntKind.bits .u8) (IntKind.wrap .u8 ((BitVec.ofInt (IntKind.bits .u8) (IntKind.wrap .u8 c) &&& BitVec.ofInt (IntKind.bits .u8) 63).toNat:Nat))).toNat:Nat))=128+c%64:=by
 have h0:0≤c%256:=by omega
 have h1:c%256<256:=by omega
 have:=aib ⟨(c%256).toNat,by omega⟩
 simp only at this
 rw[show (((c%256).toNat:Nat):Int)=c%256 by omega] at this
 rw[adw (n:=c),this]
 omega
theorem rR:(∀ x:Fin 32,(IntKind.wrap .u8 ((BitVec.ofInt (IntKind.bits .u8) 192 ||| BitVec.ofInt (IntKind.bits .u8) (IntKind.wrap .u8 ((x.val:Nat):Int))).toNat:Nat))=((192+x.val:Nat):Int))∧(∀ x:Fin 16,(IntKind.wrap .u8 ((BitVec.ofInt (IntKind.bits .u8) 224 ||| BitVec.ofInt (IntKind.bits .u8) (IntKind.wrap .u8 ((x.val:Nat):Int))).toNat:Nat))=((224+x.val:Nat):Int))∧(∀ x:Fin 8,(IntKind.wrap .u8 ((BitVec.ofInt (IntKind.bits .u8) 240 ||| BitVec.ofInt (IntKind.bits .u8) (IntKind.wrap .u8 ((x.val:Nat):Int))).toNat:Nat))=((240+x.val:Nat):Int)):=by decide +kernel
theorem top2 {x:Int} (h:0≤x) (h2:x<32):(IntKind.wrap .u8 ((BitVec.ofInt (IntKind.bits .u8) 192 ||| BitVec.ofInt (IntKind.bits .u8) (IntKind.wrap .u8 x)).toNat:Nat))=192+x:=by
 have:=rR.1 ⟨x.toNat,by omega⟩
 simp only at this
 rw[show ((x.toNat:Nat):Int)=x by omega] at this
 rw[this]; omega
theorem top3 {x:Int} (h:0≤x) (h2:x<16):(IntKind.wrap .u8 ((BitVec.ofInt (IntKind.bits .u8) 224 ||| BitVec.ofInt (IntKind.bits .u8) (IntKind.wrap .u8 x)).toNat:Nat))=224+x:=by
 have:=rR.2.1 ⟨x.toNat,by omega⟩
 simp only at this
 rw[show ((x.toNat:Nat):Int)=x by omega] at this
 rw[this]; omega
theorem top4 {x:Int} (h:0≤x) (h2:x<8):(IntKind.wrap .u8 ((BitVec.ofInt (IntKind.bits .u8) 240 ||| BitVec.ofInt (IntKind.bits .u8) (IntKind.wrap .u8 x)).toNat:Nat))=240+x:=by
 have:=rR.2.2 ⟨x.toNat,by omega⟩
 simp only at this
 rw[show ((x.toNat:Nat):Int)=x by omega] at this
 rw[this]; omega
theorem ahN {c:Int}{n:Int}{k:Nat} (hn:n=(k:Int)) (hk:k≤32):shrT .i32 c n=some (c/(2 ^ k:Nat)):=by
 subst hn
 unfold shrT
 rw[zn (by omega)]
 congr 1
 rw[Int.toNat_natCast,Int.fdiv_eq_ediv_of_nonneg _ (by exact_mod_cast Nat.zero_le _)]
 have:min k (IntKind.bits .i32)=k:=by show min k 32=k; omega
 rw[this]
 norm_cast
def aiN (c:Int):Prop:=0≤c∧c≤1114111∧¬ (55296≤c∧c≤57343)
theorem ac3 {l:List Nat} (h:∀ n∈l,n<256):bI (l.map UInt8.ofNat)=l.map fun (n:Nat)=>(n:Int):=by
 unfold bI
 rw[List.map_map]
 refine List.map_congr_left fun n hn => ?_
 simp only[Function.comp]
 rw[UInt8.toNat_ofNat_of_lt' (by simpa using h n hn)]
theorem ac4 {c:Int}{w:List Int} (hc:aiN c) (hw:w.length<4294967000):za0 c w=some ((),w++bI (encN c.toNat),()):=by
 obtain ⟨h0,h1,h2⟩:=hc
 obtain ⟨n,rfl⟩:∃ n:Nat,c=(n:Int):=⟨c.toNat,by omega⟩
 unfold za0
 rw[Int.toNat_natCast]
 simp only[ac,yU (n:=(n:Int)) (by omega) (by omega)]
 by_cases c1:n<128
 · rw[zp (by omega),cW (by simp; omega),zb]
   unfold encN
   rw[zp c1,adw]
   have e:[UInt8.ofNat n]=[n].map UInt8.ofNat:=rfl
   rw[e,ac3 (by intro m hm; simp at hm; omega)]
   simp only[List.map_cons,List.map_nil]
   rw[show (n:Int)%256=n by omega]
 rw[zn (by omega)]
 have room:∀ l:List Int,l.length≤4→eT (w.length+l.length)=some ():=fun l hl=>cW (by omega)
 have key:zag (n:Int) w=some ((),w++bI (encN n),()):=by
   unfold zag encN
   rw[zn c1]
   simp only[ac,yU (n:=(n:Int)) (by omega) (by omega),ahN (n:=6) (k:=6) rfl (by omega),ahN (n:=12) (k:=12) rfl (by omega),ahN (n:=18) (k:=18) rfl (by omega),zb]
   by_cases c2:n<2048
   · rw[zp (by omega),zp c2,room _ (by simp),zb,wj,top2 (by omega) (by omega)]
     have e:[UInt8.ofNat (192+n/64),UInt8.ofNat (128+n%64)]=[192+n/64,128+n%64].map UInt8.ofNat:=rfl
     rw[e,ac3 (by intro m hm; simp at hm; omega)]
     simp only[List.map_cons,List.map_nil,show ((2 ^ 6:Nat):Int)=64 from rfl,show ((2 ^ 12:Nat):Int)=4096 from rfl,show ((2 ^ 18:Nat):Int)=262144 from rfl,Int.natCast_add,Int.natCast_ediv,Int.natCast_emod,Int.cast_ofNat_Int]
   rw[zn (by omega),zn c2]
   by_cases c3:n<65536
   · have hA : ((if (n : Int) < 55296 then some (Sum.inl (decide ((n : Int) < 55296), w, ())) else
         (if 57343<(n:Int) then some (decide ((n:Int)≤65535),w,()) else some (false,w,())).bind fun v3=>some (Sum.inl (v3.1,v3.2.1,()))):Option ((Bool×List Int×Unit)⊕(Unit×List Int×Unit)))=some (.inl (true,w,())):=by
       by_cases g:(n:Int)<55296
       · rw[zp g]; simp[g]
       · rw[zn g,zp (by omega)]; simp; omega
     rw[hA,aH,zp c3]
     simp only[cond_true]
     rw[room _ (by simp),zb,wj,wj,top3 (by omega) (by omega)]
     have e:[UInt8.ofNat (224+n/4096),UInt8.ofNat (128+n/64%64),UInt8.ofNat (128+n%64)]=[224+n/4096,128+n/64%64,128+n%64].map UInt8.ofNat:=rfl
     rw[e,ac3 (by intro m hm; simp at hm; omega)]
     simp only[List.map_cons,List.map_nil,show ((2 ^ 6:Nat):Int)=64 from rfl,show ((2 ^ 12:Nat):Int)=4096 from rfl,show ((2 ^ 18:Nat):Int)=262144 from rfl,Int.natCast_add,Int.natCast_ediv,Int.natCast_emod,Int.cast_ofNat_Int]
   · have hA : ((if (n : Int) < 55296 then some (Sum.inl (decide ((n : Int) < 55296), w, ())) else
         (if 57343<(n:Int) then some (decide ((n:Int)≤65535),w,()) else some (false,w,())).bind fun v3=>some (Sum.inl (v3.1,v3.2.1,()))):Option ((Bool×List Int×Unit)⊕(Unit×List Int×Unit)))=some (.inl (false,w,())):=by
       rw[zn (by omega),zp (by omega)]; simp; omega
     rw[hA,aH,zn c3]
     simp only[cond_false]
     rw[zp (by omega),zp (by omega),room _ (by simp),zb,wj,wj,wj,top4 (by omega) (by omega)]
     have e:[UInt8.ofNat (240+n/262144),UInt8.ofNat (128+n/4096%64),UInt8.ofNat (128+n/64%64),UInt8.ofNat (128+n%64)]=[240+n/262144,128+n/4096%64,128+n/64%64,128+n%64].map UInt8.ofNat:=rfl
     rw[e,ac3 (by intro m hm; simp at hm; omega)]
     simp only[List.map_cons,List.map_nil,show ((2 ^ 6:Nat):Int)=64 from rfl,show ((2 ^ 12:Nat):Int)=4096 from rfl,show ((2 ^ 18:Nat):Int)=262144 from rfl,Int.natCast_add,Int.natCast_ediv,Int.natCast_emod,Int.cast_ofNat_Int]
 rw[key]; rfl
theorem sM {s:List UInt8} (h0:(aG s).2≠0):aiN (aG s).1:=by
 have hi:=gj s
 refine ⟨hi.1,hi.2,?_⟩
 intro hs
 revert hs h0
 unfold aG
 repeat' split
 all_goals (try simp only[])
 all_goals (try split)
 all_goals (try simp only[])
 all_goals omega
theorem acS {n:Nat}:1≤(encN n).length∧(encN n).length≤4:=by
 unfold encN
 repeat' split
 all_goals simp
abbrev Val:=Int×Int×List UInt8×Unit
theorem aaU (a b:Val):eqV (.agg (.cons (.int .i64) (.cons (.int .i64) (.cons .str .unit)))) a b=decide (a=b):=by
 obtain ⟨k,n,s,⟨⟩⟩:=a
 obtain ⟨k',n',s',⟨⟩⟩:=b
 simp only[eqV,Bool.and_true]
 rw[Bool.eq_iff_iff]
 simp
theorem abd {s:List UInt8} (h:(aG s).2=1):(aG s).1<128:=by
 revert h
 unfold aG
 repeat' split
 all_goals (try simp only[])
 all_goals (try split)
 all_goals (try simp only[])
 all_goals omega
theorem pY {s:List UInt8}:(cB s []).2.1=(bR s).isSome:=by
 unfold cB; cases bR s<;>rfl
def bc (v:Val):Bool:=decide ((v.1=1∧v.2.2.1=[] ∧ -2147483647≤v.2.1∧v.2.1≤2147483647)∨(v.1=2∧v.2.1=0∧(bR v.2.2.1).isSome=true∧v.2.2.1.length≤64)∨(v.1=3∧v.2.2.1=[]∧0≤v.2.1∧v.2.1≤1))
theorem ib {v:Val} (hv:v.2.2.1.length<4294967296):zb2 v=some (bc v):=by
 unfold zb2 bc
 simp only[zB (s:=v.2.2.1) (by omega),zb,pY,ac]
 by_cases h1:v.1=1
 · rw[zp h1]
   by_cases h2:v.2.2.1=[]
   · by_cases h3:v.2.1 ≥ -2147483647
     · simp only[h1,h2,h3]; simp<;>omega
     · simp only[h1,h2]; simp[h3]<;>omega
   · simp[h1,h2]
 rw[zn h1]
 by_cases h2:v.1=2
 · rw[zp h2]
   cases hr:(bR v.2.2.1).isSome with
   | true =>
     by_cases h3:v.2.1=0
     · simp only[h2,h3]; simp<;>omega
     · simp[h2,h3]
   | false=>by_cases h3:v.2.1=0<;>simp[h2,h3]
 rw[zn h2]
 by_cases h3:v.1=3
 · rw[zp h3]
   by_cases h4:v.2.2.1=[]
   · by_cases h5:v.2.1≥0
     · simp only[h3,h4]; simp[h5]<;>omega
     · simp only[h3,h4]; simp[h5]<;>omega
   · simp[h3,h4]
 rw[zn h3]
 simp[h1,h2,h3]
def dS (b:UInt8):Bool:=decide (b.toNat=34)||decide (b.toNat=92)
def spec (c:Int):Bool:=decide (c=34)||decide (c=92)
def aL (s:List UInt8):List UInt8:=s.flatMap fun b=>if dS b then [92,b] else [b]
theorem bU {b:UInt8}{s:List UInt8}:aL (b::s)=(if dS b then [92,b] else [b])++aL s:=by unfold aL; rw[List.flatMap_cons]
theorem zQ {s t:List UInt8}:aL (s++t)=aL s++aL t:=by unfold aL; rw[List.flatMap_append]
theorem qe:∀ (s:List UInt8),(aL s).length≤2*s.length
 | []=>by simp[aL]
 | b::s=>by
   have:=qe s
   rw[bU,List.length_append,zl]
   split<;>simp<;>omega
theorem nn:∀ (s:List UInt8),(∀ b∈s,128≤b.toNat)→aL s=s
 | [],_=>rfl
 | b::s,h=>by
   have h1:=h b (List.mem_cons_self ..)
   have:dS b=false:=by
     simp only[dS,Bool.or_eq_false_iff,decide_eq_false_iff_not]; omega
   rw[bU,this,nn s (fun x hx=>h x (List.mem_cons_of_mem _ hx))]; rfl
theorem zr {a:UInt8}:spec (a.toNat:Int)=dS a:=by
 unfold spec dS
 have h1:decide ((a.toNat:Int)=34)=decide (a.toNat=34):=by rw[decide_eq_decide]; omega
 have h3:decide ((a.toNat:Int)=92)=decide (a.toNat=92):=by rw[decide_eq_decide]; omega
 rw[h1,h3]
theorem vS {s:List UInt8} (h0:(aG s).2≠0):aL s=(if spec (aG s).1 then [92] else [])++encN (aG s).1.toNat++aL (s.drop (aG s).2):=by
 have hi:=gj s
 have hv:=sL h0
 have hq:aL s=aL (s.take (aG s).2)++aL (s.drop (aG s).2):=by rw[← zQ,List.take_append_drop]
 rw[hq]
 congr 1
 by_cases hc:(aG s).1.toNat<128
 · have hb:encN (aG s).1.toNat=[UInt8.ofNat (aG s).1.toNat]:=by unfold encN; rw[zp hc]
   have ht:(UInt8.ofNat (aG s).1.toNat).toNat=(aG s).1.toNat:=UInt8.toNat_ofNat_of_lt' (by show _<256; omega)
   rw[hv,hb]
   generalize hbb:UInt8.ofNat (aG s).1.toNat=b at ht ⊢
   have hcb:(aG s).1=(b.toNat:Int):=by omega
   rw[hcb,zr,bU]
   have hnil:aL []=[]:=rfl
   rw[hnil,List.append_nil]
   cases dS b<;>rfl
 · have hsp : spec (aG s).1 = false := by
     simp only[spec,Bool.or_eq_false_iff,decide_eq_false_iff_not]; omega
   rw[nn _ (by rw[hv]; exact acQ (by omega) (by omega)),hsp,hv]; rfl
theorem kD {c:Int}{v:Bool×Unit×Unit}{w:List Int} (hc:aiN c) (hw:w.length<4294967000):∃ n,zad c v w=some ((n,false,()),(true,(),()),w++bI (encN c.toNat),()):=by
 unfold zad
 have h:zae v w=some ((),(true,(),()),w,()):=by
   obtain ⟨b,_,_⟩:=v
   unfold zae
   cases b<;>rfl
 rw[h]
 simp only[zb,ac4 hc hw]
 exact ⟨_,rfl⟩
theorem apv:bI [92]=[92]:=rfl
theorem apw:bI [34]=[34]:=rfl
theorem vT {s:List UInt8} (hs:s.length<1000000):∀ (k i:Nat) (out:List UInt8) (b:Bool) (l:List Int),s.length-i≤k→i≤s.length→out.length≤5*i+1→bR (s.drop i)=some l →
   aJ (mN s) (bI out,(b,(),()),i,())=some (out++aL (s.drop i)++[34]):=by
 intro k
 have fin:∀ (i:Nat) (out:List UInt8) (b:Bool),¬ i<s.length→out.length≤5*s.length+1→aJ (mN s) (bI out,(b,(),()),i,())=some (out++aL (s.drop i)++[34]):=by
   intro i out b hi ho
   refine aq ?_
   unfold mN
   rw[ac,zn (by simp only[]; exact hi),cI (by rw[j6]; omega)]
   simp only[zb]
   rw[← apw,← ja,ox (by rw[List.length_append]; simp only[zl,List.length_nil]; omega),List.drop_eq_nil_of_le (by omega)]
   simp[aL]
 induction k with
 | zero=>intro i out b l hk hi ho hl; exact fin i out b (by omega) (by omega)
 | succ k ih =>
   intro i out b l hk hi ho hl
   by_cases hlt:i<s.length
   · have hne:s.drop i≠[]:=fun e=>by have:=congrArg List.length e; simp at this; omega
     have hle:=pj (s.drop i)
     simp only[List.length_drop] at hle
     by_cases h0:(aG (s.drop i)).2=0
     · rw[d7 hne h0] at hl; cases hl
     · rw[dt hne h0,List.drop_drop,Option.map_eq_some_iff] at hl
       obtain ⟨l',hl',rfl⟩:=hl
       have hc:=sM h0
       have hstep:=vS h0
       rw[List.drop_drop] at hstep
       have hen:=acS (n:=(aG (s.drop i)).1.toNat)
       have turn:mN s (bI out,(b,(),()),i,())=some (.inl (bI (out++((if spec (aG (s.drop i)).1 then [92] else [])++encN (aG (s.drop i)).1.toNat)),(true,(),()),i+(aG (s.drop i)).2,())):=by
         unfold mN
         rw[ac,zp (by simp only[]; exact hlt)]
         have hnat:(((aG (s.drop i)).1.toNat:Nat):Int)=(aG (s.drop i)).1:=by have:=gj (s.drop i); omega
         simp only[decode_N hlt,decN,zn h0,hnat,zb]
         obtain ⟨n2,e2⟩:=kD (v:=(true,(),())) (w:=bI out++[92]) hc (by rw[List.length_append,j6]; simp only[zl,List.length_nil]; omega)
         obtain ⟨n1,e1⟩:=kD (v:=(b,(),())) (w:=bI out) hc (by rw[j6]; omega)
         have es:spec (aG (s.drop i)).1=(decide ((aG (s.drop i)).1=34)||decide ((aG (s.drop i)).1=92)):=rfl
         rw[es]
         cases h34:decide ((aG (s.drop i)).1=34) with
         | true =>
           simp only[cond_true,Bool.true_or,if_true]
           rw[cI (by rw[j6]; omega)]
           simp only[zb]
           rw[e2]
           simp only[zb]
           rw[← apv,← ja,← ja,List.append_assoc]
         | false =>
           simp only[cond_false,Bool.false_or]
           cases h92:decide ((aG (s.drop i)).1=92) with
           | true =>
             simp only[cond_true,if_true]
             rw[cI (by rw[j6]; omega)]
             simp only[zb]
             rw[e2]
             simp only[zb]
             rw[← apv,← ja,← ja,List.append_assoc]
           | false =>
             simp only[cond_false,Bool.false_eq_true,if_false,List.nil_append]
             rw[e1]
             simp only[zb]
             rw[← ja]
       rw[ay turn,ih _ _ _ l' (by omega) (by omega) ?_ hl',hstep]
       · simp only[List.append_assoc]
       · have h1:(if spec (aG (s.drop i)).1 then ([92]:List UInt8) else []).length≤1:=by split<;>simp
         have h5:((if spec (aG (s.drop i)).1 then ([92]:List UInt8) else [])++encN (aG (s.drop i)).1.toNat).length≤5*(aG (s.drop i)).2:=by
           rw[List.length_append]; omega
         rw[List.length_append]
         omega
   · exact fin i out b (by omega) (by omega)
theorem ahZ {s:List UInt8}{l:List Int} (hs:s.length<1000000) (hl:bR s=some l):zbu s=some ([34]++aL s++[34]):=by
 have:=vT hs s.length 0 [34] true l (by omega) (by omega) (by simp) (by simpa using hl)
 unfold zbu
 rw[cI (by simp)]
 simp only[zb,List.nil_append]
 simpa [apw] using this
theorem cS {s:List UInt8}{i:Nat} (h:i<s.length):s.drop i=s[i]::s.drop (i+1):=List.drop_eq_getElem_cons h
def b9 (v:Val):List UInt8:=if v.1=1 then Lib.itoa v.2.1 else if v.1=3 then (if v.2.1=1 then [116,114,117,101] else [102,97,108,115,101]) else [34]++aL v.2.2.1++[34]
theorem bW {v:Val} (h:bc v=true):(∃ n:Int,v=(1,n,[],()) ∧ -2147483647≤n∧n≤2147483647)∨(∃ s l,v=(2,0,s,())∧bR s=some l∧s.length≤64)∨v=(3,0,[],())∨v=(3,1,[],()):=by
 obtain ⟨k,n,s,⟨⟩⟩:=v
 unfold bc at h
 simp only[decide_eq_true_eq] at h
 rcases h with ⟨rfl,rfl,h1,h2⟩ | ⟨rfl,rfl,h1,h2⟩ | ⟨rfl,rfl,h1,h2⟩
 · exact .inl ⟨n,rfl,h1,h2⟩
 · cases hr:bR s with
   | none=>rw[hr] at h1; cases h1
   | some l=>exact .inr (.inl ⟨s,l,rfl,hr,h2⟩)
 · have:n=0∨n=1:=by omega
   rcases this with rfl | rfl
   · exact .inr (.inr (.inl rfl))
   · exact .inr (.inr (.inr rfl))
theorem kJ {v:Val} (h:bc v=true):zcr v=some (b9 v):=by
 rcases bW h with ⟨n,rfl,h1,h2⟩ | ⟨s,l,rfl,h1,h2⟩ | rfl | rfl
 · unfold zcr b9
   simp only[fU (show inR n from ⟨by omega,by omega⟩)]
   rfl
 · unfold zcr b9
   simp only[ahZ (by omega) h1]
   rfl
 · rfl
 · rfl
theorem nQ {v:Val} (h:bc v=true) : -2147483648≤v.2.1∧v.2.1≤2147483647∧1≤v.1∧v.1≤3∧v.2.2.1.length≤64:=by
 rcases bW h with ⟨n,rfl,h1,h2⟩ | ⟨s,l,rfl,h1,h2⟩ | rfl | rfl
 · simp; omega
 · simp; omega
 · simp
 · simp
abbrev Path:=List (List UInt8)
abbrev Ent:=Path×Int×List Val×Int×Unit
abbrev Chg:=Int×Ent×Ent×Unit
theorem abc:Cmp cmpI where
 one a b:=by
   unfold cmpI
   split
   · omega
   · split<;>omega
 neg a b:=by
   unfold cmpI
   by_cases h1:a<b
   · rw[zn (by omega),zp (by omega),zp h1]; rfl
   · by_cases h2:a>b
     · rw[zp (by omega),zn h1,zp h2]
     · rw[zn (by omega),zn (by omega),zn h1,zn h2]; rfl
 zero a b:=by
   unfold cmpI
   by_cases h1:a<b
   · rw[zp h1]; constructor<;>intro h<;>omega
   · by_cases h2:a>b
     · rw[zn h1,zp h2]; constructor<;>intro h<;>omega
     · rw[zn h1,zn h2]; constructor<;>intro h<;>omega
 trans a b d h1 h2:=by
   unfold cmpI at h1 h2 ⊢
   have e1:a<b:=by
     by_cases h:a<b
     · exact h
     · rw[zn h] at h1; split at h1<;>omega
   have e2:b<d:=by
     by_cases h:b<d
     · exact h
     · rw[zn h] at h2; split at h2<;>omega
   rw[zp (by omega)]; omega
def cmpP:Path→Path→Int:=cmpL Lib.compareBytes
def keyE (e:Ent):Path×Int:=(e.1,e.2.1)
def cmpK:Path×Int→Path×Int→Int:=cmpB cmpP cmpI
def mayM (c:Int):Bool:=decide (32≤c∧(c<127∨159<c)∧c≠65533)
theorem ace (c:Int):zcx c=some (mayM c):=by
 unfold zcx mayM
 simp only[ac]
 by_cases h1:c≥32
 · rw[zp h1]
   by_cases h2:c<127
   · rw[zp h2,zf (by omega:¬ c=65533),zt (by omega)]; rfl
   · rw[zn h2]
     by_cases h3:c>159
     · rw[zp h3]
       by_cases h4:c=65533
       · rw[zt h4,zf (by omega)]; rfl
       · rw[zf h4,zt (by omega)]; rfl
     · rw[zn h3,zf (by omega)]
 · rw[zn h1,zf (by omega)]
theorem zC:∀ {s:List UInt8}{l:List Int},bR s=some l→l.length≤s.length:=by
 have key:∀ (n:Nat) (s:List UInt8) (l:List Int),s.length≤n→bR s=some l→l.length≤s.length:=by
   intro n
   induction n with
   | zero =>
     intro s l hn h
     have:s=[]:=List.eq_nil_of_length_eq_zero (by omega)
     subst this
     rw[dv] at h; cases h; simp
   | succ n ih =>
     intro s l hn h
     by_cases hs:s=[]
     · subst hs
       rw[dv] at h; cases h; simp
     · have hl:s.length≠0:=fun e=>hs (List.eq_nil_of_length_eq_zero e)
       by_cases h0:(aG s).2=0
       · rw[d7 hs h0] at h; cases h
       · rw[dt hs h0,Option.map_eq_some_iff] at h
         obtain ⟨l',hl',rfl⟩:=h
         have:=ih _ l' (by rw[List.length_drop]; omega) hl'
         rw[List.length_drop] at this
         simp only[zl]; omega
 intro s l h
 exact key s.length s l (Nat.le_refl _) h
def eQ (s:List UInt8):Bool:=match bR s with
 | some l=>decide (1≤l.length∧l.length≤24)&&l.all mayM
 | none=>false
theorem mB {s:List UInt8} (hs:s.length<1000000):zbv s=some (eQ s):=by
 unfold zbv eQ
 rw[zB (by omega)]
 simp only[zb]
 have gen:∀ (l:List Int) (ok:Bool),l.length<1000000→aJ (pB (l,ok,())) ((0:Int),())=some (if l.all mayM=true then .inl () else .inr false):=by
   intro l ok hl
   have:=iM (f:=pB (l,ok,())) (l:=l) (fun i=>((i:Int),())) mayM (.inl ()) (.inr false) (fun i h=>by
     unfold pB
     simp only[ac]
     rw[zp (by omega),aR h]
     simp only[zb,ace]
     cases mayM l[i] with
     | true=>simp only[Bool.not_true,cond_false,if_true]; rw[wrap64 (by omega) (by omega)]; rfl
     | false=>rfl) (by
     unfold pB
     simp only[ac]
     rw[zn (by omega)])
   exact this
 cases hr:bR s with
 | none =>
   have e:cB s []=([],false,()):=by unfold cB; rw[hr]
   rw[e,gen [] false (by simp)]
   rfl
 | some l =>
   have e:cB s []=(l,true,()):=by unfold cB; rw[hr]; rfl
   have hl:l.length≤s.length:=zC hr
   rw[e,gen l true (by omega)]
   cases hm:l.all mayM with
   | false =>
     simp only[Bool.false_eq_true,if_false,bp,hm,Bool.and_false]
   | true =>
     simp only[if_true,aH,cond_true,hm,Bool.and_true,ac]
     by_cases h1:(l.length:Int)≥1
     · rw[zp h1]
       congr 1
       rw[decide_eq_decide]; omega
     · rw[zn h1,zf (by omega)]
def bS (p:Path):Int:=if p.length=0 then 8 else if p.length>8 then 9 else if p.all eQ=true then 0 else 8
theorem jr {p:Path} (hs:∀ x∈p,x.length<1000000):zb4 p=some (bS p):=by
 unfold zb4 bS
 simp only[ac]
 by_cases h1:(p.length:Int)=0
 · rw[zp h1,zp (show p.length=0 by omega)]
 rw[zn h1,zn (show ¬ p.length=0 by omega)]
 by_cases h2:(p.length:Int)>8
 · rw[zp h2,zp (show p.length>8 by omega)]
 rw[zn h2,zn (show ¬ p.length>8 by omega)]
 have:=iM (f:=to p) (l:=p) (fun i=>((i:Int),())) eQ (0:Int) 8 (fun i h=>by
   unfold to
   simp only[ac]
   rw[zp (by omega),aR h]
   simp only[zb,mB (hs _ (List.getElem_mem h))]
   cases eQ p[i] with
   | true=>simp only[Bool.not_true,cond_false,if_true]; rw[wrap64 (by omega) (by omega)]; rfl
   | false=>rfl) (by
   unfold to
   simp only[ac]
   rw[zn (by omega)])
 exact this
instance decE1:DecidableEq (List Val×Int×Unit):=fun a b => @instDecidableEqProd (List Val) (Int×Unit) inferInstance inferInstance a b
instance decE2:DecidableEq (Int×List Val×Int×Unit):=fun a b => @instDecidableEqProd Int (List Val×Int×Unit) inferInstance decE1 a b
instance decE:DecidableEq Ent:=fun a b => @instDecidableEqProd Path (Int×List Val×Int×Unit) inferInstance decE2 a b
instance decC1:DecidableEq (Ent×Unit):=fun a b => @instDecidableEqProd Ent Unit decE inferInstance a b
instance decC2:DecidableEq (Ent×Ent×Unit):=fun a b => @instDecidableEqProd Ent (Ent×Unit) decE decC1 a b
instance decC:DecidableEq Chg:=fun a b => @instDecidableEqProd Int (Ent×Ent×Unit) inferInstance decC2 a b
theorem ite_bool {b:Bool}:(if b=true then true else false)=b:=by cases b<;>rfl
theorem sa {a b:Path} (ha:a.length<1000000):zcm a b=some (decide (a=b)):=by
 unfold zcm
 by_cases hl:a.length=b.length
 · rw[zt (by omega)]
   simp only[Bool.not_true,cond_false]
   have:=aap (f:=td a b) (l:=a) (m:=b) (fun i=>((i:Int),())) (fun x y=>decide (x=y)) true false hl (fun i h h'=>by
     unfold td
     simp only[ac]
     rw[zp (by omega),aR h,aR h']
     simp only[zb]
     cases decide (a[i]=b[i]) with
     | true=>simp only[Bool.not_true,cond_false,if_true]; rw[wrap64 (by omega) (by omega)]; rfl
     | false=>rfl) (by
     unfold td
     simp only[ac]
     rw[zn (by omega)])
   rw[uP,ite_bool] at this
   exact this
 · rw[zf (by omega)]
   have:a≠b:=fun e=>hl (by rw[e])
   rw[zf this]; rfl
def lowE (e:Ent):Prop:=e.1.length<1000000∧e.2.2.1.length<1000000
theorem at0 {A:Type}{x:A}{l:List A}:atI (x::l) 0=some x:=by
 have:=cj (l:=x::l) (i:=0)
 simpa using this
def arz (e:Ent):Prop:=lowE e∧∀ x∈e.1,x.length<1000000
theorem qI {R X S:Type}{g:S→X→S}{fin:S→R}:∀ (l:List X) (i:Nat) (s:S),fQ (fun _ x s=>.inl (g s x)) fin i l s=fin (l.foldl g s)
 | [],_,s=>rfl
 | x::l,i,s=>by simp only[fQ,List.foldl_cons]; exact qI l (i+1) (g s x)
theorem nK {R X S:Type}{g:Nat→S→X→S}{fin:S→R}:∀ (l:List X) (i:Nat) (s:S),fQ (fun i x s=>.inl (g i s x)) fin i l s=fin ((l.zipIdx i).foldl (fun s p=>g p.2 s p.1) s)
 | [],_,s=>rfl
 | x::l,i,s=>by simp only[fQ,List.zipIdx_cons,List.foldl_cons]; exact nK l (i+1) (g i s x)
theorem qt {X:Type}{sep:List UInt8}{g:X→List UInt8}:∀ (l:List X) (i:Nat) (o:List UInt8),0<i→(l.zipIdx i).foldl (fun s p=>(if p.2>0 then s++sep else s)++g p.1) o=o++Lib.joinTail sep (l.map g)
 | [],_,o,_=>by simp[Lib.joinTail]
 | x::l,i,o,h=>by
   simp only[List.zipIdx_cons,List.foldl_cons]
   rw[zp h,qt l (i+1) _ (by omega)]
   simp[Lib.joinTail]
theorem wu {X:Type}{sep:List UInt8}{g:X→List UInt8} (l:List X):(l.zipIdx 0).foldl (fun s p=>(if p.2>0 then s++sep else s)++g p.1) []=Lib.join (l.map g) sep:=by
 cases l with
 | nil=>rfl
 | cons x l =>
   simp only[List.zipIdx_cons,List.foldl_cons]
   rw[zn (by omega),qt l (0+1) _ (by omega),List.map_cons,Lib.join_cons]
   simp
theorem tC {sep:List UInt8}{m:Nat}:∀ {l:List (List UInt8)},(∀ x∈l,x.length≤m)→(Lib.joinTail sep l).length≤l.length*(sep.length+m)
 | [],_=>by simp[Lib.joinTail]
 | x::l,h=>by
   have h1:=h x (List.mem_cons_self ..)
   have h2:=tC (sep:=sep) (l:=l) (fun y hy=>h y (List.mem_cons_of_mem _ hy))
   have e:Lib.joinTail sep (x::l)=sep++x++Lib.joinTail sep l:=by simp[Lib.joinTail]
   rw[e]
   simp only[List.length_append,zl,Nat.succ_mul]
   omega
theorem t7 {sep:List UInt8}{m:Nat}{l:List (List UInt8)} (h:∀ x∈l,x.length≤m):(Lib.join l sep).length≤l.length*(sep.length+m):=by
 cases l with
 | nil=>simp[Lib.join_nil]
 | cons x l =>
   have h1:=h x (List.mem_cons_self ..)
   have h2:=tC (sep:=sep) (l:=l) (fun y hy=>h y (List.mem_cons_of_mem _ hy))
   rw[Lib.join_cons]
   simp only[List.length_append,zl,Nat.succ_mul]
   omega
def aZ (s:List UInt8):List UInt8:=s.flatMap fun b=>if b.toNat=47∨b.toNat=92 then [92,b] else [b]
theorem kQ {s:List UInt8}:(aZ s).length≤2*s.length:=by
 induction s with
 | nil=>simp[aZ]
 | cons b s ih =>
   unfold aZ at ih ⊢
   rw[List.flatMap_cons,List.length_append,zl]
   have:(if b.toNat=47∨b.toNat=92 then [92,b] else [b]).length≤2:=by split<;>simp
   omega
theorem so {s:List UInt8} (hs:s.length<1000000):zck s=some (aZ s):=by
 have key:∀ (k i:Nat) (b:Bool) (o:List UInt8),s.length-i≤k→i≤s.length→o.length≤2*i→aJ (mM s) ((i:Int),bI o,(b,(),()),())=some (o++aZ (s.drop i)):=by
   intro k
   have fin:∀ (i:Nat) (b:Bool) (o:List UInt8),i=s.length→o.length≤2*i→aJ (mM s) ((i:Int),bI o,(b,(),()),())=some (o++aZ (s.drop i)):=by
     intro i b o hi ho
     refine aq ?_
     unfold mM
     simp only[ac]
     rw[zn (by omega),ox (by omega),List.drop_eq_nil_of_le (by omega)]
     simp[aZ]
   induction k with
   | zero=>intro i b o hk hi ho; exact fin i b o (by omega) ho
   | succ k ih =>
     intro i b o hk hi ho
     by_cases hlt:i<s.length
     · have hl:∀ o:List UInt8,(bI o).length=o.length:=fun o=>j6
       have tail:∀ (b:Bool) (o:List UInt8),o.length≤2*i+1→((zaf ((s[i].toNat:Nat):Int) (b,(),()) (bI o)).bind fun q7=>(some (.inl ((IntKind.wrap .i64 ((i:Int)+1)),q7.2.2.1,q7.2.1,())):Option ((Int×List Int×(Bool×Unit×Unit)×Unit)⊕List UInt8)))=some (.inl (((i+1:Nat):Int),bI (o++[s[i]]),(true,(),()),())):=by
         intro b o ho
         rw[cI (by rw[hl]; omega),wrap64 (by omega) (by omega)]
         simp only[zb,ja]
         rfl
       have w92:∀ (b:Bool),zaf 92 (b,(),()) (bI o)=some (false,(true,(),()),bI (o++[92]),()):=by
         intro b
         rw[cI (by rw[hl]; omega),ja]
         rfl
       have hd:aZ (s.drop i)=(if s[i].toNat=47∨s[i].toNat=92 then [92,s[i]] else [s[i]])++aZ (s.drop (i+1)):=by
         rw[List.drop_eq_getElem_cons hlt]
         unfold aZ
         rw[List.flatMap_cons]
       have turn:mM s ((i:Int),bI o,(b,(),()),())=some (.inl (((i+1:Nat):Int),bI (o++(if s[i].toNat=47∨s[i].toNat=92 then [92,s[i]] else [s[i]])),(true,(),()),())):=by
         unfold mM
         simp only[ac]
         rw[zp (by omega),aR hlt]
         simp only[zb]
         by_cases h1:s[i].toNat=47
         · rw[zp (by omega),w92]
           simp only[zb,au]
           rw[tail _ _ (by simp<;>omega),zp (.inl h1),List.append_assoc]
           rfl
         · rw[zn (by omega)]
           by_cases h2:s[i].toNat=92
           · rw[zp (by omega),w92]
             simp only[zb,au]
             rw[tail _ _ (by simp<;>omega),zp (.inr h2),List.append_assoc]
             rfl
           · rw[zn (by omega)]
             simp only[zb,au]
             rw[tail _ _ (by omega),zn (by omega)]
       rw[ay turn,ih (i+1) true _ (by omega) (by omega) (by
         rw[List.length_append]
         have:(if s[i].toNat=47∨s[i].toNat=92 then [92,s[i]] else [s[i]]).length≤2:=by split<;>simp
         omega),hd,List.append_assoc]
     · exact fin i b o (by omega) ho
 have:=key s.length 0 false [] (by omega) (by omega) (by simp)
 simpa [zck,bI] using this
def cT (p:Path):List UInt8:=Lib.join (p.map aZ) [47]
theorem ape {l:List (List UInt8)}{sep:List UInt8}{m:Nat} (hl:l.length≤1000) (hs:sep.length≤1000) (hm:m≤1000000) (h:∀ x∈l,x.length≤m):za8 l sep=some (Lib.join l sep):=by
 unfold za8 acJ
 have:=t7 (sep:=sep) h
 have h2:l.length*(sep.length+m)≤1000*1001000:=Nat.mul_le_mul hl (by omega)
 rw[zp ⟨by omega,by omega⟩]
theorem jS {p:Path} (h:∀ x∈p,x.length≤120):∀ x∈p.map aZ,x.length≤240:=by
 intro x hx
 rw[List.mem_map] at hx
 obtain ⟨y,hy,rfl⟩:=hx
 have:=h y hy
 have:=kQ (s:=y)
 omega
theorem eV {p:Path} (h1:p.length≤12) (h:∀ x∈p,x.length≤120):(cT p).length≤3000:=by
 have:=t7 (sep:=[47]) (jS h)
 rw[List.length_map] at this
 have h2:p.length*(([47]:List UInt8).length+240)≤12*241:=Nat.mul_le_mul h1 (by simp)
 unfold cT
 omega
theorem wa {p:Path} (h1:p.length≤12) (h:∀ x∈p,x.length≤120):zcw p=some (cT p):=by
 have:=gb (f:=tb p) (l:=p) (S:=List (List UInt8)) (fun i o=>((i:Int),o,())) (fun i x o=>.inl (o++[aZ x])) (fun _=>cT p) (fun i o=>o=(p.take i).map aZ) (fun i hi o ho=>.inl ⟨_,rfl,by
   unfold tb
   simp only[ac]
   have hq:=h _ (List.getElem_mem hi)
   rw[zp (by omega),aR hi]
   simp only[zb,so (show p[i].length<1000000 by omega)]
   rw[cW (by rw[ho]; simp; omega),wrap64 (by omega) (by omega)]
   rfl,by
   rw[ho,List.take_add_one,List.map_append,zg hi]
   rfl⟩) (fun o ho=>by
   unfold tb
   simp only[ac]
   rw[List.take_length] at ho
   subst ho
   rw[zn (by omega),ape (m:=240) (by simp; omega) (by simp) (by omega) (jS h)]
   rfl) [] (by simp)
 rw[qI] at this
 exact this
theorem fT {v:Val} (h:bc v=true):(b9 v).length≤1000:=by
 rcases bW h with ⟨n,rfl,g1,g2⟩ | ⟨s,l,rfl,g1,g2⟩ | rfl | rfl
 · have:=iN (n:=n) (by omega) (by omega)
   show (Lib.itoa n).length≤1000
   omega
 · have:=qe s
   show ([34]++aL s++[34]).length≤1000
   simp only[List.length_append,zl,List.length_nil]; omega
 · decide
 · decide
theorem cC {n:Int} (h:inR n):(Lib.itoa n).length≤21:=iN h.1 h.2
theorem tE {s:List UInt8} (n:Nat) {i:Int} (hi:i=(n:Int)) (h:n≤s.length):subI s i (s.length:Int)=some (s.drop n):=by subst hi; exact dJ h
def one (c:Int) (a:List Int):Prop:=c = -2∨∃ x,a=[x]∧(c = -1∨c=x)
def Mt:List Int→List Int→Prop
 | [],t=>t=[]
 | c::o,t=>∃ a b,t=a++b∧one c a∧Mt o b
structure Inv (o t:List Int) (k:Nat) (star:Int) (mark i:Nat):Prop where
 k_le:k≤o.length
 i_le:i≤t.length
 no:star<0→(Mt o t↔Mt (o.drop k) (t.drop i))
 is:∀ st:Nat,star=(st:Int)→st<k∧mark≤i∧(Mt o t↔Mt (-2::o.drop (st+1)) (t.drop mark))∧(Mt (o.drop k) (t.drop i)→Mt (o.drop (st+1)) (t.drop mark))∧(∀ u,Mt (o.drop (st+1)) u→Mt (o.drop k) (u.drop (i-mark)))
 le : -1≤star
abbrev Dot1:=Int×Int×Unit
abbrev Ref1:=Dot1×Int×Unit
abbrev Op1:=Int×Path×Val×Int×List Ref1×Unit
abbrev Txn1:=Dot1×Int×Int×Bool×List Op1×Unit
abbrev apD:=Ref1×Op1×Int×Unit
abbrev aoT:Ty:=.agg (.cons (.agg (.cons (.int .i64) (.cons (.int .i64) .unit))) (.cons (.int .i64) .unit))
theorem aiM {K L:Type}{c:K→K→Int} (h:Cmp c) (f:L→K) (hf:∀ a b,f a=f b→a=b):Cmp fun a b=>c (f a) (f b) where
 one a b:=h.one _ _
 neg a b:=h.neg _ _
 zero a b:=⟨fun e=>hf _ _ ((h.zero _ _).1 e),fun e=>(h.zero _ _).2 (by rw[e])⟩
 trans a b d:=h.trans _ _ _
theorem adL:Cmp cmpD:=by
 have:cmpD=fun a b=>cmpB cmpI cmpI ((fun x:Dot1=>(x.1,x.2.1)) a) ((fun x:Dot1=>(x.1,x.2.1)) b):=rfl
 rw[this]
 exact aiM (abc.pair abc) _ fun a b h=>by
   obtain ⟨a1,a2,⟨⟩⟩:=a; obtain ⟨b1,b2,⟨⟩⟩:=b
   simp only[Prod.mk.injEq] at h
   rw[h.1,h.2]
def cmpR (a b:Ref1):Int:=orI (cmpD a.1 b.1) (cmpI a.2.1 b.2.1)
theorem aaC (a b:Int):zct a b=some (cmpI a b):=by
 unfold zct cmpI
 simp only[ac]
 by_cases h1:a<b
 · rw[zp h1,zp h1]
 · by_cases h2:a>b
   · rw[zn h1,zp h2,zn h1,zp h2]
   · rw[zn h1,zn h2,zn h1,zn h2]
theorem qZ (a b:Int):cmpI a b=0↔a=b:=abc.zero a b
theorem acf (a b:Dot1):za2 a b=some (cmpD a b):=by
 unfold za2 cmpD orI
 simp only[aaC,zb,aE]
 by_cases h:a.1=b.1
 · rw[zp h,zp ((qZ _ _).2 h)]
 · rw[zn h,zn (fun e=>h ((qZ _ _).1 e))]
theorem acb (a b:Ref1):zci a b=some (cmpR a b):=by
 unfold zci cmpR orI
 simp only[acf,aaC,zb,aE]
 by_cases h:cmpD a.1 b.1=0
 · rw[zp h,zp h]
 · rw[zn h,zn h]
theorem apq (a b:Dot1):zbo a b=some (cmpD a b):=by
 unfold zbo
 simp only[qW,or_t,zb]
 rfl
theorem jq (d:Dot1):zb3 d=some (bD d):=by
 unfold zb3 bD
 simp only[ac]
 by_cases h1:d.1≥0<;>by_cases h2:d.1≤15<;>by_cases h3:d.2.1≥1<;>by_cases h4:d.2.1≤1048576<;>simp[h1,h2,h3,h4]<;>omega
theorem ary (a b:Ref1):eqV aoT a b=decide (a=b):=by
 obtain ⟨⟨a1,a2,⟨⟩⟩,a3,⟨⟩⟩:=a
 obtain ⟨⟨b1,b2,⟨⟩⟩,b3,⟨⟩⟩:=b
 simp only[eqV,Prod.mk.injEq,and_true]
 by_cases h1:a1=b1<;>by_cases h2:a2=b2<;>by_cases h3:a3=b3<;>simp[h1,h2,h3]
theorem ait (a b:Dot1):eqV (.agg (.cons (.int .i64) (.cons (.int .i64) .unit))) a b=decide (a=b):=by
 obtain ⟨a1,a2,⟨⟩⟩:=a
 obtain ⟨b1,b2,⟨⟩⟩:=b
 simp only[eqV,Prod.mk.injEq,and_true]
 by_cases h1:a1=b1<;>by_cases h2:a2=b2<;>simp[h1,h2]
def ao2 (x:Ref1):Bool:=bD x.1&&decide (0≤x.2.1∧x.2.1≤15)
def zJ (l:List Ref1) (i:Nat):Bool :=
 match l[i]? with
 | some x=>ao2 x&&(decide (i=0)||match l[i-1]? with
   | some y=>decide (cmpR y x = -1)
   | none=>false)
 | none=>false
open Classical in
noncomputable def oF (l:List Ref1):Bool:=if (∀ i,i<l.length→zJ l i=true) then true else false
theorem zK {l:List Ref1} (hl:l.length<1000000):zce l=some (oF l):=by
 have:=aao (f:=tg l) l.length (fun i=>((i:Int),())) (zJ l) true false (fun i h=>by
   unfold tg zJ ao2
   rw[zg h]
   simp only[ac]
   rw[zp (by omega),aR h]
   simp only[zb,jq]
   by_cases h0:bD l[i].1=true
   · simp only[h0,Bool.not_true,cond_false,Bool.true_and]
     by_cases h1:l[i].2.1<0
     · rw[zp h1,zf (by omega)]; rfl
     rw[zn h1]
     by_cases h2:l[i].2.1>15
     · rw[zp h2,zf (by omega)]; rfl
     rw[zn h2,zt (by omega),Bool.true_and]
     by_cases h3:i=0
     · subst h3
       rw[zn (by omega),wrap64 (by omega) (by omega)]; rfl
     · rw[zp (by omega),wrap64 (by omega) (by omega),show (i:Int)-1=((i-1:Nat):Int) by omega,aR (by omega),zg (show i-1<l.length by omega)]
       simp only[zb,acb,aE]
       by_cases h4:cmpR l[i-1] l[i] = -1
       · rw[zp h4,wrap64 (by omega) (by omega)]; simp[h3,h4]
       · rw[zn h4]; simp[h3,h4]
   · have h0:bD l[i].1=false:=by simpa using h0
     simp only[h0,Bool.not_false,cond_true,Bool.false_and]; rfl) (by
   unfold tg
   simp only[ac]
   rw[zn (by omega)])
 unfold zce oF
 rw[show ((0:Int),())=(((0:Nat):Int),()) from rfl,this]
def zeroV:Val:=(0,0,[],())
noncomputable def opM (o:Op1):Int :=
 if o.1<1∨5<o.1 then 18 else if bS o.2.1≠0 then bS o.2.1
 else if (o.1=3∨o.1=5)∧o.2.2.1≠zeroV then 2
 else if ¬ (o.1=3∨o.1=5)∧bc o.2.2.1=false then 2
 else if o.1≠3∧o.2.2.2.1≠0 then 2
 else if o.1=3∧(o.2.2.2.1=0∨o.2.2.2.1>2147483647∨o.2.2.2.1 < -2147483647) then 2
 else if (o.1=2∨o.1=3)∧0<o.2.2.2.2.1.length then 2
 else if 256<o.2.2.2.2.1.length then 7
 else if oF o.2.2.2.2.1=true then 0 else 2
def bm (o:Op1):Prop:=o.2.1.length≤12∧(∀ x∈o.2.1,x.length≤120)∧o.2.2.1.2.2.1.length≤200∧o.2.2.2.2.1.length≤300
theorem ahX {o:Op1} (h:bm o):zbl o=some (opM o):=by
 obtain ⟨s1,s2,s3,s4⟩:=h
 obtain ⟨k,p,v,n,sn,⟨⟩⟩:=o
 simp only at s1 s2 s3 s4
 unfold zbl opM
 simp only[ac,aE,aaU,jr (p:=p) (fun x hx=>by have:=s2 x hx; omega),ib (v:=v) (by omega),zK (l:=sn) (by omega),zb]
 have ez:((0,0,[],()):Val)=zeroV:=rfl
 simp only[ez]
 by_cases a1:k<1
 · rw[zp a1,zp (.inl a1)]
 rw[zn a1]
 by_cases a2:k>5
 · rw[zp a2,zp (.inr a2)]
 rw[zn a2]
 rw[zn (show ¬ (k<1∨5<k) by omega)]
 by_cases a3:¬ bS p=0
 · rw[zn a3,zp (show bS p≠0 from a3)]
 have a3:bS p=0:=Classical.not_not.1 a3
 rw[zp a3,zn (show ¬ bS p≠0 from fun e=>e a3)]
 have hlen:((sn.length:Int)>0)↔0<sn.length:=by omega
 have hlen2:((sn.length:Int)>256)↔256<sn.length:=by omega
 simp only[hlen,hlen2]
 have last:(cond (!oF sn) (some (2:Int)) (some 0))=some (if oF sn=true then 0 else 2):=by cases oF sn<;>rfl
 by_cases k3:k=3
 · subst k3
   by_cases hz:v=zeroV
   · by_cases n0:n=0
     · simp[hz,n0]
     · by_cases n1:n>2147483647
       · simp[hz,n0,n1]
       · by_cases n2:n < -2147483647
         · simp[hz,n0,n1,n2]
         · by_cases l0:0<sn.length
           · simp[hz,n0,n1,n2,l0]
           · by_cases l2:256<sn.length
             · omega
             · simp[hz,n0,n1,n2,l0,l2,last]
   · simp[hz]
 · by_cases k5:k=5
   · subst k5
     by_cases hz:v=zeroV
     · by_cases n0:n=0
       · by_cases l2:256<sn.length
         · simp[hz,n0,l2]
         · simp[hz,n0,l2,last]
       · simp[hz,n0]
     · simp[hz]
   · cases hr:bc v with
     | false=>simp[k3,k5,hr]
     | true =>
       by_cases n0:n=0
       · by_cases k2:k=2
         · subst k2
           by_cases l0:0<sn.length
           · simp[n0,l0]
           · by_cases l2:256<sn.length
             · omega
             · simp[n0,l0,l2,last]
         · by_cases l2:256<sn.length
           · simp[k2,k3,k5,n0,l2]
           · simp[k2,k3,k5,n0,l2,last]
       · simp[k3,k5,n0]
def ka (o:Op1):Bool:=decide (o.1=0∧o.2.1=[]∧o.2.2.1=zeroV∧o.2.2.2.1=0∧o.2.2.2.2.1=[])
theorem apk (o:Op1):zcf o=some (ka o):=by
 obtain ⟨k,p,v,n,sn,⟨⟩⟩:=o
 unfold zcf ka
 simp only[ac,aaU]
 have ez:((0,0,[],()):Val)=zeroV:=rfl
 simp only[ez]
 have e1:((p.length:Int)=0)↔p=[]:=by rw[show ((p.length:Int)=0)↔p.length=0 by omega,List.length_eq_zero_iff]
 have e2:((sn.length:Int)=0)↔sn=[]:=by rw[show ((sn.length:Int)=0)↔sn.length=0 by omega,List.length_eq_zero_iff]
 simp only[e1,e2]
 by_cases h1:k=0<;>by_cases h2:p=[]<;>by_cases h3:v=zeroV<;>by_cases h4:n=0<;>by_cases h5:sn=[]<;>simp[h1,h2,h3,h4,h5]
def aoX (o:Op1):Bool:=decide (o.2.1.length≤12)&&(o.2.1.all fun x=>decide (x.length≤120))&&decide (o.2.2.1.2.2.1.length≤200)&&decide (o.2.2.2.2.1.length≤300)
noncomputable def aoW (t:Txn1):Bool:=decide (t.2.2.2.2.1.length≤20)&&t.2.2.2.2.1.all aoX
open Classical in
def oneM (x:Ref1):Bool:=bD x.1&&decide (1≤x.2.1∧x.2.1≤64)
open Classical in
abbrev zI (u:List Ref1):Prop:=aiJ cmpD (·.1) u
structure CountsOk (u:List Ref1):Prop where
 len:u.length≤100
 rise:zI u
 one:∀ x∈u,oneM x=true
structure TxnOk (t:Txn1):Prop where
 len:t.2.2.2.2.1.length≤16
 pos:0<t.2.2.2.2.1.length
 ops:∀ o∈t.2.2.2.2.1,bm o∧(opM o=0∨t.2.2.2.1=true∧ka o=true)
 dot:bD t.1=true
 user:0≤t.2.1∧t.2.1≤7
 time:1≤t.2.2.1∧t.2.2.1≤1099511627776
abbrev arq (l:List Txn1):Prop:=aiJ cmpD (·.1) l
structure TxnsOk (l:List Txn1) (n:Nat):Prop where
 len:l.length≤n
 rise:arq l
 all:∀ t∈l,TxnOk t
open Classical in
def getM (u:List Ref1) (d:Dot1):Int:=match u with
 | []=>0
 | x::u=>if x.1=d then x.2.1 else getM u d
def arp (u:List Ref1) (d:Dot1):Bool:=match remT (getM u d) 2 with
 | some x=>decide (x=0)
 | none=>false
structure Low (l:List Txn1):Prop where
 len:l.length≤1000
 ops:∀ t∈l,t.2.2.2.2.1.length≤1000
 seen:∀ t∈l,∀ o∈t.2.2.2.2.1,o.2.2.2.2.1.length<1000000
structure LowU (u:List Ref1):Prop where
 len:u.length<1000000
 rise:zI u
def ah1 (k:Int):Bool:=decide (1≤k∧k≤3)
structure LowI (l:List apD):Prop where
 len:l.length<1000000
 path:∀ x∈l,x.2.1.2.1.length<1000000∧∀ s∈x.2.1.2.1,s.length<1000000
structure Mid (l w:List Val) (i0 k i:Nat):Prop where
 len:w.length=l.length
 head:w.take i=sqz (l.take (i0+k))
 rest:∀ j,i0+k-1≤j→w[j]? = l[j]?
 low:i≤i0+k-1
structure LowP (l:List Txn1):Prop where
 low:Low l
 ops:∀ t∈l,∀ o∈t.2.2.2.2.1,(o.2.1.length<1000000∧∀ s∈o.2.1,s.length<1000000)∧o.2.2.1.2.2.1.length<1000000
abbrev arC:=Path×Int×Unit
structure MidS (l w:List (List UInt8)) (i0 k i:Nat):Prop where
 len:w.length=l.length
 head:w.take i=sqz (l.take (i0+k))
 rest:∀ j,i0+k-1≤j→w[j]? = l[j]?
 low:i≤i0+k-1
structure MidL (l w:List arC) (i0 k i:Nat):Prop where
 len:w.length=l.length
 head:w.take i=sqz (l.take (i0+k))
 rest:∀ j,i0+k-1≤j→w[j]? = l[j]?
 low:i≤i0+k-1
structure OpOk (o:Op1):Prop where
 kind:1≤o.1∧o.1≤5
 path:bS o.2.1=0
 val:o.1≠3→o.1≠5→bc o.2.2.1=true
 noval:o.1=3∨o.1=5→o.2.2.1=zeroV
 num:o.1=3→o.2.2.2.1≠0∧o.2.2.2.1≤2147483647 ∧ -2147483647≤o.2.2.2.1
 nonum:o.1≠3→o.2.2.2.1=0
 noseen:o.1=2∨o.1=3→o.2.2.2.2.1=[]
 seen:o.2.2.2.2.1.length≤256∧oF o.2.2.2.2.1=true
structure ItemsOk (l:List apD):Prop where
 len:l.length≤320
 op:∀ x∈l,OpOk x.2.1∧bm x.2.1∧ah1 x.2.1.1=true
theorem kn {A B:Type}{g:A→B}:∀ {l:List A},(l.flatMap fun x=>[g x])=l.map g
 | []=>rfl
 | x::l=>by rw[List.flatMap_cons,List.map_cons,kn]; rfl
def NS (G:Prop) {A:Type} (o:Option A) (b:A):Prop:=o=some b∨¬ G∧o=none
theorem NS.bind {G:Prop}{A B:Type}{o:Option A}{a:A}{f:A→Option B}{b:B} (h:NS G o a) (hf:NS G (f a) b):NS G (o.bind f) b:=by
 rcases h with h | ⟨h1,h2⟩
 · rw[h,zb]; exact hf
 · exact .inr ⟨h1,by rw[h2]; rfl⟩
abbrev ars:List Ent→Prop:=aiJ cmpK keyE
def seen (q:List Ent) (k:Path×Int):Bool:=match q with
 | x::_=>decide (cmpK (keyE x) k=0)
 | []=>false
structure VOk (v:List Ent):Prop where
 len:v.length≤320
 easy:∀ e∈v,arz e
 rise:ars v
theorem VOk.low {v:List Ent} (h:VOk v):∀ e∈v,lowE e:=fun e he=>(h.easy e he).1
theorem qb:oF []=true:=by
 unfold oF
 rw[zp (by intro i h; simp at h)]
theorem aoY {a:UInt8} (h:a.toNat<128):bR [a]=some [(a.toNat:Int)]:=by
 have hc:aG [a]=((a.toNat:Int),1):=by simp only[aG]; rw[zp h]
 rw[dt (by simp) (by rw[hc]; simp),hc]
 show (bR []).map _=_
 rw[dv]; rfl
theorem ao8 {a:UInt8} (h:a.toNat<128) (hm:mayM (a.toNat:Int)=true):eQ [a]=true:=by
 unfold eQ
 rw[aoY h]
 simp[hm]
theorem ac0:bS [[97],[107]]=0:=by
 unfold bS
 simp[ao8 (a:=97) (by decide) (by decide),ao8 (a:=107) (by decide) (by decide)]
abbrev aiL:=List Int×List Dot1×Unit
abbrev St1:=List Txn1×List Ref1×aiL×aiL×List (List Dot1)×Unit
theorem gI (d:Dot1):zcy d=some (bD d):=by
 unfold zcy bD
 simp only[ac]
 by_cases h1:d.1≥0<;>by_cases h2:d.1<16<;>by_cases h3:d.2.1≥1<;>by_cases h4:d.2.1≤1048576<;>simp[h1,h2,h3,h4]<;>omega
structure DOk (s:aiL) (n:Nat):Prop where
 vec:s.1.length=16
 len:s.2.1.length≤n
 right:∀ d∈s.2.1,bD d=true
structure Wide (s:St1):Prop where
 known:s.2.2.1.1.length=16
 fast:s.2.2.2.1.1.length=16
 redo:s.2.2.2.2.1.length=8
structure ShortS (s:St1):Prop where
 txns:s.1.length≤20
 undos:s.2.1.length≤100
 known:s.2.2.1.2.1.length≤100
 fast:s.2.2.2.1.2.1.length≤100
 all:∀ t∈s.1,aoW t=true
 redo:∀ l∈s.2.2.2.2.1,l.length≤40
structure GoodS (s:St1):Prop where
 txns:TxnsOk s.1 20
 undos:CountsOk s.2.1
 known:DOk s.2.2.1 100
 fast:DOk s.2.2.2.1 100
 rlen:s.2.2.2.2.1.length=8
 redo:∀ l∈s.2.2.2.2.1,l.length≤40
def lG:List Ref1→Ref1→List Ref1
 | [],x=>[x]
 | y::l,x=>if cmpD y.1 x.1<0 then y::lG l x else if 0<cmpD y.1 x.1 then x::y::l else (y.1,max y.2.1 x.2.1,())::l
theorem qx {x:Ref1}:∀ (l:List Ref1),(lG l x).length≤l.length+1
 | []=>by simp[lG]
 | y::l=>by
   have:=qx (x:=x) l
   unfold lG
   split
   · simp; omega
   · split<;>simp
theorem qw {x z:Ref1}:∀ {l:List Ref1},z∈lG l x→z.1=x.1∨∃ y∈l,z.1=y.1
 | [],h=>by
   rw[List.mem_singleton.1 h]; exact .inl rfl
 | y::l,h=>by
   unfold lG at h
   split at h
   · rcases List.mem_cons.1 h with e | h
     · exact .inr ⟨y,List.mem_cons_self ..,by rw[e]⟩
     · rcases qw h with e | ⟨w,w1,w2⟩
       · exact .inl e
       · exact .inr ⟨w,List.mem_cons_of_mem _ w1,w2⟩
   · split at h
     · rcases List.mem_cons.1 h with e | h
       · exact .inl (by rw[e])
       · exact .inr ⟨z,h,rfl⟩
     · rcases List.mem_cons.1 h with e | h
       · exact .inr ⟨y,List.mem_cons_self ..,by rw[e]⟩
       · exact .inr ⟨z,List.mem_cons_of_mem _ h,rfl⟩
theorem qv {x:Ref1} (hx:oneM x=true):∀ {l:List Ref1},(∀ y∈l,oneM y=true)→∀ z∈lG l x,oneM z=true
 | [],_,z,h=>by rw[List.mem_singleton.1 h]; exact hx
 | y::l,hl,z,h=>by
   unfold lG at h
   split at h
   · rcases List.mem_cons.1 h with e | h
     · rw[e]; exact hl y (List.mem_cons_self ..)
     · exact qv hx (fun w hw=>hl w (List.mem_cons_of_mem _ hw)) z h
   · split at h
     · rcases List.mem_cons.1 h with e | h
       · rw[e]; exact hx
       · exact hl z h
     · rcases List.mem_cons.1 h with e | h
       · have hy:=hl y (List.mem_cons_self ..)
         rw[e]
         unfold oneM at hx hy ⊢
         simp only[Bool.and_eq_true,decide_eq_true_eq] at hx hy ⊢
         exact ⟨hy.1,by omega,by omega⟩
       · exact hl z (List.mem_cons_of_mem _ h)
theorem nA {x:Ref1}:∀ {l:List Ref1},zI l→zI (lG l x)
 | [],_=>List.pairwise_singleton ..
 | y::l,h=>by
   have h1:=List.pairwise_cons.1 h
   unfold lG
   split
   · rename_i c
     refine List.pairwise_cons.2 ⟨fun z hz => ?_,nA h1.2⟩
     show cmpD y.1 z.1<0
     rcases qw hz with e | ⟨w,w1,w2⟩
     · rw[e]; exact c
     · rw[w2]; exact h1.1 w w1
   · rename_i c
     split
     · rename_i d
       have d':cmpD x.1 y.1<0:=by have:=adL.neg x.1 y.1; omega
       refine List.pairwise_cons.2 ⟨fun z hz => ?_,h⟩
       rcases List.mem_cons.1 hz with e | hz
       · rw[e]; exact d'
       · exact adL.trans _ _ _ d' (h1.1 z hz)
     · exact List.pairwise_cons.2 ⟨h1.1,h1.2⟩
structure UOk (u:List Ref1) (n:Nat):Prop where
 len:u.length≤n
 rise:zI u
 one:∀ x∈u,oneM x=true
theorem UOk.low {u:List Ref1}{n:Nat} (h:UOk u n) (hn:n<100000):LowU u:=⟨by have:=h.len; omega,h.rise⟩
theorem UOk.join {u:List Ref1}{n:Nat}{x:Ref1} (h:UOk u n) (hx:oneM x=true):UOk (lG u x) (n+1):=⟨by have:=qx (x:=x) u; have:=h.len; omega,nA h.rise,qv hx h.one⟩
structure StOk (s:St1) (n:Nat):Prop where
 txns:s.1.length≤1000
 undos:UOk s.2.1 n
 vec:s.2.2.2.1.1.length=16
 more:s.2.2.2.1.2.1.length≤100000
 rlen:s.2.2.2.2.1.length=8
theorem GoodS.st {s:St1} (h:GoodS s):StOk s 100:=⟨by have:=h.txns.len; omega,⟨h.undos.len,h.undos.rise,h.undos.one⟩,h.fast.vec,by have:=h.fast.len; omega,h.rlen⟩
def keyT (t:Txn1):Int×Dot1:=(t.2.2.1,t.1)
def arA:Int×Dot1→Int×Dot1→Int:=cmpB cmpI cmpD
def cmpT (a b:Txn1):Int:=arA (keyT a) (keyT b)
def Cand (s:St1) (user:Int) (t:Txn1):Prop:=t∈s.1∧t.2.1=user∧arp s.2.1 t.1=true
structure Best (s:St1) (user:Int) (t:Txn1):Prop where
 cand:Cand s user t
 top:∀ x,Cand s user x→cmpT x t≤0
structure Undone (s u:St1) (t:Txn1) (k:Nat) (l:List Dot1):Prop where
 txns:u.1=s.1
 get:∀ d,getM u.2.1 d=if d=t.1 then getM s.2.1 t.1+1 else getM s.2.1 d
 st:StOk u 101
 fast:u.2.2.2.1=s.2.2.2.1
 redo:u.2.2.2.2.1[k]? = some (l++[t.1])
theorem lO (rec:(Int×Unit)→Option (List UInt8)) {a:Int} (h : -9223372036854775808≤a) (h2:a≤9223372036854775807):eF rec a =
   if a<0 then (if a > -10 then (rec (((a.natAbs:Nat):Int),())).bind fun r=>catT [45] r
     else (rec (((a.natAbs/10:Nat):Int),())).bind fun r=>(catT [45] r).bind fun s=>(rec (((a.natAbs%10:Nat):Int),())).bind fun t=>catT s t)
   else if a<10 then some [UInt8.ofNat (48+a.toNat)] else (rec (((a.toNat/10:Nat):Int),())).bind fun r=>catT r [UInt8.ofNat (48+a.toNat%10)]:=by
 unfold eF
 by_cases h0:a<0
 · rw[ac,zp h0,zp h0]
   by_cases h1:a > -10
   · rw[ac,zp h1,zp h1,wrap64 (by omega) (by omega),show (0-a)=((a.natAbs:Nat):Int) by omega]
     cases rec (((a.natAbs:Nat):Int),()) with
     | none=>rfl
     | some r=>simp only[zb]; cases catT [45] r<;>rfl
   · rw[ac,zn h1,zn h1,ao4 h h0,ao0 h0]
     simp only[zb]
     rw[wrap64 (n:=0 - -((a.natAbs/10:Nat):Int)) (by omega) (by omega),wrap64 (n:=0 - -((a.natAbs%10:Nat):Int)) (by omega) (by omega),show (0 - -((a.natAbs/10:Nat):Int))=((a.natAbs/10:Nat):Int) by omega,show (0 - -((a.natAbs%10:Nat):Int))=((a.natAbs%10:Nat):Int) by omega]
     cases rec (((a.natAbs/10:Nat):Int),()) with
     | none=>rfl
     | some r =>
       simp only[zb]
       cases catT [45] r with
       | none=>rfl
       | some s =>
         simp only[zb]
         cases rec (((a.natAbs%10:Nat):Int),()) with
         | none=>rfl
         | some t=>simp only[zb]; cases catT s t<;>rfl
 · rw[ac,zn h0,zn h0]
   obtain ⟨n,rfl⟩:∃ n:Nat,a=(n:Int):=⟨a.toNat,by omega⟩
   rw[Int.toNat_natCast]
   by_cases h1:(n:Int)<10
   · rw[ac,zp h1,zp h1,aa4 (by omega)]; rfl
   · rw[ac,zn h1,zn h1,show (10:Int)=((10:Nat):Int) from rfl,aru (by omega) (by omega),art (by omega)]
     simp only[zb]
     cases rec (((n/10:Nat):Int),()) with
     | none=>rfl
     | some r =>
       simp only[zb]
       rw[aa4 (by omega)]
       simp only[zb]
       cases catT r [UInt8.ofNat (48+n%10)]<;>rfl
noncomputable abbrev digS:((Int×Unit)→Option (List UInt8))→(Int×Unit)→Option (List UInt8):=fun rec v=>eF rec v.1
theorem dY:∀ (m n:Nat),n<9223372036854775809→n≤9223372036854775807 →
   (itT digS m ((n:Int),())=none∨itT digS m ((n:Int),())=some (Lib.decDigits n))∧∀ k,m=k+1→n<10 ^ (k+1)→itT digS m ((n:Int),())=some (Lib.decDigits n)
 | 0,n,_,h=>⟨.inl rfl,fun k e=>by omega⟩
 | m+1,n,hn,h=>by
   have e0:itT digS (m+1) ((n:Int),())=eF (itT digS m) (n:Int):=rfl
   rw[e0,lO (itT digS m) (by omega) (by omega),zn (by omega),Int.toNat_natCast]
   by_cases ha:n<10
   · rw[zp (by omega),dc ha]
     exact ⟨.inr rfl,fun _ _ _=>rfl⟩
   · rw[zn (by omega)]
     obtain ⟨ih1,ih2⟩:=dY m (n/10) (by omega) (by omega)
     have fin:(some (Lib.decDigits (n/10))).bind (fun r=>catT r [UInt8.ofNat (48+n%10)])=some (Lib.decDigits n):=by
       rw[zb,io (u:=n) ha]
       have:=il 19 (n/10) (by simp only[Nat.reducePow]; omega)
       rw[aD (by simp only[zl,List.length_nil]; omega)]
     constructor
     · rcases ih1 with e | e
       · left; rw[e]; rfl
       · right; rw[e]; exact fin
     · intro k hk hlt
       have hk':k=m:=by omega
       subst hk'
       cases k with
       | zero=>simp at hlt; omega
       | succ k =>
         rw[ih2 k rfl (sC (by omega) hlt)]; exact fin
theorem nP (m:Nat) {a:Int} (h : -9223372036854775808≤a) (h0:a<0) :
   (itT digS (m+1) (a,())=none∨itT digS (m+1) (a,())=some (Lib.itoa a))∧∀ k,m=k+1→a.natAbs<10 ^ (k+1)→itT digS (m+1) (a,())=some (Lib.itoa a):=by
 have e0:itT digS (m+1) (a,())=eF (itT digS m) a:=rfl
 rw[e0,lO (itT digS m) h (by omega),zp h0,itoa_neg h0]
 by_cases h1:a > -10
 · rw[zp h1]
   obtain ⟨ih1,ih2⟩:=dY m a.natAbs (by omega) (by omega)
   have fin:(some (Lib.decDigits a.natAbs)).bind (fun r=>catT [45] r)=some (45::Lib.decDigits a.natAbs):=by
     have:=il 19 a.natAbs (by simp only[Nat.reducePow]; omega)
     rw[zb,aD (by simp only[zl,List.length_nil]; omega)]; rfl
   constructor
   · rcases ih1 with e | e
     · left; rw[e]; rfl
     · right; rw[e]; exact fin
   · intro k hk hlt
     rw[ih2 k hk hlt]; exact fin
 · rw[zn h1]
   obtain ⟨ih1,ih2⟩:=dY m (a.natAbs/10) (by omega) (by omega)
   obtain ⟨jh1,jh2⟩:=dY m (a.natAbs%10) (by omega) (by omega)
   have fin:(some (Lib.decDigits (a.natAbs/10))).bind (fun r=>(catT [45] r).bind fun s=>(some (Lib.decDigits (a.natAbs%10))).bind fun t=>catT s t)=some (45::Lib.decDigits a.natAbs):=by
     have l1:=il 19 (a.natAbs/10) (by simp only[Nat.reducePow]; omega)
     have l2:=il 19 (a.natAbs%10) (by simp only[Nat.reducePow]; omega)
     simp only[zb]
     rw[aD (by simp only[zl,List.length_nil]; omega)]
     simp only[zb]
     rw[aD (by rw[List.length_append]; simp only[zl,List.length_nil]; omega),io (u:=a.natAbs) (by omega),dc (u:=a.natAbs%10) (by omega)]
     simp
   constructor
   · rcases ih1 with e | e
     · left; rw[e]; rfl
     · rcases jh1 with f | f
       · left; rw[e,f]
         simp only[zb,Option.bind_none]
         cases catT [45] (Lib.decDigits (a.natAbs/10))<;>rfl
       · right; rw[e,f]; exact fin
   · intro k hk hlt
     rw[ih2 k hk (by omega),jh2 k hk (by have:10 ^ 1≤10 ^ (k+1):=Nat.pow_le_pow_right (by omega) (by omega); omega)]
     exact fin
theorem dG {n:Int} (h : -9223372036854775808≤n) (h2:n≤9223372036854775807):zbe n=some (Lib.itoa n):=by
 unfold zbe fI
 by_cases h0:n<0
 · refine adI (fun m => ?_) ⟨20,(nP 19 h h0).2 18 rfl ?_⟩
   · cases m with
     | zero=>exact .inl rfl
     | succ m=>exact (nP m h h0).1
   · simp only[Nat.reducePow,Nat.reduceAdd]; omega
 · obtain ⟨m,rfl⟩:∃ m:Nat,n=(m:Int):=⟨n.toNat,by omega⟩
   rw[cX]
   refine adI (fun k=>(dY k m (by omega) (by omega)).1) ⟨19,(dY 19 m (by omega) (by omega)).2 18 rfl ?_⟩
   simp only[Nat.reducePow,Nat.reduceAdd]; omega
theorem iJ:∀ (l:List UInt8) (acc v:Nat),valM acc l=some v→v<1000000000000000000→Lib.parseUint10 acc l = .ok v∧acc≤v
 | [],acc,v,h,hv=>by simp only[valM] at h; cases h; exact ⟨rfl,Nat.le_refl _⟩
 | c::r,acc,v,h,hv=>by
   simp only[valM] at h
   split at h
   · rename_i hc
     obtain ⟨h1,h2⟩:=iJ r _ v h hv
     refine ⟨?_,by omega⟩
     simp only[Lib.parseUint10]
     rw[zp hc,zn (by omega),zn (by omega)]
     exact h1
   · cases h
theorem uJ {u:Nat} (hu:u<1000000000000000000):Lib.atoiAll (Lib.decDigits u) = .ok (u:Int):=by
 have hp:=gd u
 have hd:=dC u
 have hv:=fc u
 obtain ⟨h1,_⟩:=iJ _ 0 u hv hu
 cases hl:Lib.decDigits u with
 | nil=>rw[hl] at hp; simp at hp
 | cons c r =>
   rw[hl] at hd h1
   have hc:=hd c (List.mem_cons_self ..)
   rw[Lib.atoiAll_plain c r (by have:=hc.1; omega) (by have:=hc.1; omega)]
   unfold Lib.parseMag
   rw[zn (by simp),h1]
   show (if 9223372036854775808≤u then Lib.NumEnd.range else Lib.NumEnd.ok (u:Int))=_
   rw[zn (by omega)]
theorem jb (s:List UInt8) (h:s.length≤281474976710656):∃ v e,zbi s=some (v,e,()):=by
 unfold zbi atoi
 rw[zp h]
 exact ⟨_,_,rfl⟩
theorem uI {u:Nat} (h:u<1000000000000000000):zbi (Lib.decDigits u)=some ((u:Int),false,()):=by
 have:=eK 17 u (by simpa using h)
 unfold zbi atoi
 rw[zp (by omega),uJ h]
theorem aps {s:List UInt8} (h:s≠[]):zah s=some (((decN s).1:Int),((decN s).2:Int),()):=by
 have hl:0<s.length:=by cases s with | nil=>exact absurd rfl h | cons _ _=>simp
 have hz:¬ (⟨s.toArray⟩:ByteArray).size=0:=by show ¬ s.toArray.size=0; simp; exact h
 unfold zah sD Lib.decodeGo
 rw[zn hz,decode_N hl,List.drop_zero]
theorem si {s:List UInt8} (hs:s.length<1000000):∀ (k i:Nat) (l:List Int),s.length-i≤k→i≤s.length→l.length≤i→aJ (mL s) (i,l,())=some (cB (s.drop i) l):=by
 intro k
 have fin:∀ (i:Nat) (l:List Int),¬ i<s.length→aJ (mL s) (i,l,())=some (cB (s.drop i) l):=by
   intro i l hi
   rw[List.drop_eq_nil_of_le (by omega),aq (x:=(l,true,())) (by simp only[mL,ac]; rw[zn (by omega)])]
   simp[cB,dv]
 induction k with
 | zero=>intro i l hk hi hl; exact fin i l (by omega)
 | succ k ih =>
   intro i l hk hi hl
   by_cases hlt:i<s.length
   · have hne:s.drop i≠[]:=fun e=>by have:=congrArg List.length e; simp at this; omega
     have hle:=pj (s.drop i)
     simp only[List.length_drop] at hle
     have hci:=gj (s.drop i)
     by_cases h0:(aG (s.drop i)).2=0
     · rw[aq (x:=([],false,()))]
       · simp only[cB,d7 hne h0]
       · unfold mL
         rw[ac,zp (by simp only[]; exact hlt)]
         simp only[decode_N hlt,decN,zp h0]
         rw[zt (by omega)]
         simp only[cond_true]
         rw[dJ (by omega)]
         simp only[zb,aps hne,decN,zp h0,ac]
         rw[zp (by omega)]
         rfl
     · rw[ay (b:=(i+(aG (s.drop i)).2,l++[(aG (s.drop i)).1],()))]
       · rw[ih _ _ (by omega) (by omega) (by simp; omega)]
         simp only[cB,dt hne h0,List.drop_drop]
         cases bR (s.drop (i+(aG (s.drop i)).2))<;>simp
       · unfold mL
         rw[ac,zp (by simp only[]; exact hlt)]
         simp only[decode_N hlt,decN,zn h0]
         have hnat:(((aG (s.drop i)).1.toNat:Nat):Int)=(aG (s.drop i)).1:=by omega
         simp only[hnat]
         have h1:=abd (s:=s.drop i)
         by_cases hc:(aG (s.drop i)).1=65533
         · rw[zt hc]
           simp only[cond_true]
           rw[dJ (by omega)]
           simp only[zb,aps hne,decN,zn h0,ac]
           rw[zn (by omega),aH]
           simp only[]
           rw[cW (by simp; omega)]
           rfl
         · rw[zf hc]
           simp only[cond_false]
           rw[aH]
           simp only[]
           rw[cW (by simp; omega)]
           rfl
   · exact fin i l hlt
theorem tS {s:List UInt8} (hs:s.length<1000000):zcp s=some (cB s []):=by
 have:=si hs s.length 0 [] (by omega) (by omega) (by simp)
 simpa [zcp] using this
theorem jQ {v:Val} (hv:v.2.2.1.length<1000000):zbw v=some (bc v):=by
 unfold zbw bc
 simp only[tS hv,zb,pY,ac]
 by_cases h1:v.1=1
 · rw[zp h1]
   by_cases h2:v.2.2.1=[]
   · by_cases h3:v.2.1 ≥ -2147483647
     · simp only[h1,h2,h3]; simp<;>omega
     · simp only[h1,h2]; simp[h3]<;>omega
   · simp[h1,h2]
 rw[zn h1]
 by_cases h2:v.1=2
 · rw[zp h2]
   cases hr:(bR v.2.2.1).isSome with
   | true =>
     by_cases h3:v.2.1=0
     · simp only[h2,h3]; simp<;>omega
     · simp[h2,h3]
   | false=>simp[h2]
 rw[zn h2]
 by_cases h3:v.1=3
 · rw[zp h3]
   by_cases h4:v.2.2.1=[]
   · by_cases h5:v.2.1=0
     · simp[h3,h4,h5]
     · simp only[h3,h4,zn h5,if_true,Option.some.injEq,decide_eq_decide,true_and,false_and,and_true,false_or,or_false,decide_true,cond_true]
       omega
   · simp[h3,h4]
 rw[zn h3]
 simp[h1,h2,h3]
theorem oG {v:Val} (hs:v.2.2.1.length<1000000):∀ (k i:Nat) (out:List UInt8),v.2.2.1.length-i≤k→i≤v.2.2.1.length→out.length≤2*i+1→aJ (pA v) (out,(i:Int),())=some (out++aL (v.2.2.1.drop i)++[34]):=by
 obtain ⟨vk,vn,s,⟨⟩⟩:=v
 simp only at hs ⊢
 intro k
 have fin:∀ (i:Nat) (out:List UInt8),¬ i<s.length→out.length≤3000000→aJ (pA (vk,vn,s,())) (out,(i:Int),())=some (out++aL (s.drop i)++[34]):=by
   intro i out hi ho
   rw[List.drop_eq_nil_of_le (by omega)]
   refine aq ?_
   unfold pA
   rw[ac,zn (by simp only[]; omega),aD (by simp; omega)]
   simp[aL]
 induction k with
 | zero=>intro i out hk hi ho; exact fin i out (by omega) (by omega)
 | succ k ih =>
   intro i out hk hi ho
   by_cases hlt:i<s.length
   · have hd:s.drop i=s[i]::s.drop (i+1):=cS hlt
     have w1:IntKind.wrap .i64 ((i:Int)+1)=((i+1:Nat):Int):=by rw[wrap64 (by omega) (by omega)]; rfl
     have hsub:subI s (i:Int) ((i+1:Nat):Int)=some [s[i]]:=by
       rw[bV (by omega) (by omega),List.drop_take,hd]
       have e:i+1-i=1:=by omega
       rw[e]; rfl
     have hbl:(if dS s[i] then ([92,s[i]]:List UInt8) else [s[i]]).length≤2:=by split<;>simp
     rw[ay (b:=(out++(if dS s[i] then [92,s[i]] else [s[i]]),((i+1:Nat):Int),())),ih _ _ (by omega) (by omega) (by rw[List.length_append]; omega),hd,bU]
     · simp only[List.append_assoc]
     unfold pA
     have hc1:catT out [92]=some (out++[92]):=aD (by simp; omega)
     have hc2:∀ (o:List UInt8),o.length≤2*i+2→catT o [s[i]]=some (o++[s[i]]):=fun o h=>aD (by simp; omega)
     simp only[ac,zp (show (i:Int)<(s.length:Int) by omega),cj,zg hlt,zb,w1,hsub,hc1]
     have e1:((s[i].toNat:Int)=34)↔s[i].toNat=34:=by omega
     have e3:((s[i].toNat:Int)=92)↔s[i].toNat=92:=by omega
     simp only[e1,e3,dS]
     have hl1:(out++[92]:List UInt8).length≤2*i+2:=by simp; omega
     by_cases h1:s[i].toNat=34
     · simp[h1,hc2 _ hl1]
     · by_cases h3:s[i].toNat=92
       · simp[h1,h3,hc2 _ hl1]
       · simp[h1,h3,hc2 out (by omega)]
   · exact fin i out hlt (by omega)
theorem vR {v:Val} (h:bc v=true):zco v=some (b9 v):=by
 rcases bW h with ⟨n,rfl,h1,h2⟩ | ⟨s,l,rfl,h1,h2⟩ | rfl | rfl
 · unfold zco b9
   simp only[dG (show (-9223372036854775808:Int)≤n by omega) (by omega)]
   rfl
 · unfold zco b9
   have:=oG (v:=(2,0,s,())) (by simp only[]; omega) s.length 0 [34] (by simp) (by omega) (by simp)
   simp only[List.drop_zero] at this
   simpa using this
 · rfl
 · rfl
theorem abl {n:Int} (h : -1000000000000<n) (h2:n<1000000000000):Lib.atoiAll (Lib.itoa n) = .ok n:=by
 by_cases h0:n<0
 · rw[itoa_neg h0,Lib.atoiAll_minus]
   have hp:=gd n.natAbs
   obtain ⟨h1,_⟩:=iJ _ 0 n.natAbs (fc n.natAbs) (by omega)
   unfold Lib.parseMag
   rw[zn (by intro e; simp[e] at hp),h1]
   show (if 9223372036854775808<n.natAbs then Lib.NumEnd.range else Lib.NumEnd.ok (-(n.natAbs:Int)))=_
   rw[zn (by omega)]
   congr 1; omega
 · obtain ⟨m,rfl⟩:=Int.eq_ofNat_of_zero_le (show 0≤n by omega)
   rw[cX]
   exact uJ (by omega)
theorem kO {n:Int} (h : -1000000000000<n) (h2:n<1000000000000):zbi (Lib.itoa n)=some (n,false,()):=by
 have:=iN (n:=n) (by omega) (by omega)
 unfold zbi atoi
 rw[zp (by omega),abl h h2]
theorem e7 {n:Int}:∃ c r,Lib.itoa n=c::r∧(c.toNat=45∨digB c):=by
 by_cases h0:n<0
 · exact ⟨45,_,itoa_neg h0,.inl rfl⟩
 · obtain ⟨m,rfl⟩:=Int.eq_ofNat_of_zero_le (show 0≤n by omega)
   rw[cX]
   have hp:=gd m
   have hd:=dC m
   cases hl:Lib.decDigits m with
   | nil=>rw[hl] at hp; simp at hp
   | cons c r=>exact ⟨c,r,rfl,.inr (hd c (by rw[hl]; exact List.mem_cons_self ..))⟩
def unqM:Bool→List UInt8→List UInt8×Bool
 | e,[]=>([],e)
 | e,b::r=>if e=false∧b.toNat=92 then unqM true r else (b::(unqM false r).1,(unqM false r).2)
theorem ou:∀ (e:Bool) (l:List UInt8),(unqM e l).1.length≤l.length
 | e,[]=>by simp[unqM]
 | e,b::r=>by
   have h1:=ou true r
   have h2:=ou false r
   simp only[unqM]
   split<;>simp<;>omega
theorem pS:∀ t:List UInt8,unqM false (aL t)=(t,false)
 | []=>rfl
 | b::t=>by
   have ih:=pS t
   rw[bU]
   cases hb:dS b with
   | true =>
     simp only[if_true,List.cons_append,List.nil_append]
     simp[unqM,ih]
   | false =>
     have h2:¬ b.toNat=92:=by
       simp only[dS,Bool.or_eq_false_iff,decide_eq_false_iff_not] at hb; exact hb.2
     simp only[Bool.false_eq_true,if_false,List.cons_append,List.nil_append]
     simp[unqM,ih,h2]
theorem aiD (b:UInt8):bI [b]=[(b.toNat:Int)]:=rfl
theorem ab0 {s:List UInt8} (hs:s.length<1000000):∀ (k i:Nat) (out:List UInt8) (e b:Bool),s.length-1-i≤k→1≤i→i≤s.length-1→out.length≤i →
   ∃ b',aJ (jP s) (e,(i:Int),bI out,(b,(),()),())=some (.inl ((unqM e ((s.take (s.length-1)).drop i)).2,bI (out++(unqM e ((s.take (s.length-1)).drop i)).1),(b',(),()),())):=by
 intro k
 have fin:∀ (i:Nat) (out:List UInt8) (e b:Bool),1≤s.length→¬ i<s.length-1→∃ b',aJ (jP s) (e,(i:Int),bI out,(b,(),()),())=some (.inl ((unqM e ((s.take (s.length-1)).drop i)).2,bI (out++(unqM e ((s.take (s.length-1)).drop i)).1),(b',(),()),())):=by
   intro i out e b h1 hi
   refine ⟨b,aq ?_⟩
   have:(s.take (s.length-1)).drop i=[]:=List.drop_eq_nil_of_le (by rw[List.length_take]; omega)
   rw[this]
   unfold jP
   rw[ac,wrap64 (by omega) (by omega),zn (by simp only[]; omega)]
   simp[unqM]
 induction k with
 | zero=>intro i out e b hk h1 hi ho; exact fin i out e b (by omega) (by omega)
 | succ k ih =>
   intro i out e b hk h1 hi ho
   by_cases hlt:i<s.length-1
   · have hls:i<s.length:=by omega
     have hd:(s.take (s.length-1)).drop i=s[i]::(s.take (s.length-1)).drop (i+1):=by
       rw[List.drop_eq_getElem_cons (by rw[List.length_take]; omega)]
       congr 1
       simp
     rw[hd]
     simp only[unqM]
     have w1:IntKind.wrap .i64 ((i:Int)+1)=((i+1:Nat):Int):=by rw[wrap64 (by omega) (by omega)]; rfl
     have hw:IntKind.wrap .i64 ((s.length:Int)-1)=(s.length:Int)-1:=wrap64 (by omega) (by omega)
     by_cases hc:e=false∧s[i].toNat=92
     · rw[zp hc]
       obtain ⟨rfl,h92⟩:=hc
       rw[ay (b:=(true,((i+1:Nat):Int),bI out,(b,(),()),()))]
       · exact ih (i+1) out true b (by omega) (by omega) (by omega) (by omega)
       · unfold jP
         rw[ac,hw,zp (by simp only[]; omega)]
         simp only[cj,zg hls,zb,ac,Bool.not_false,cond_true]
         rw[zp (by omega),bp,w1]
     · rw[zn hc]
       have turn:jP s (e,(i:Int),bI out,(b,(),()),())=some (.inl (false,((i+1:Nat):Int),bI (out++[s[i]]),(true,(),()),())):=by
         unfold jP
         rw[ac,hw,zp (by simp only[]; omega)]
         simp only[cj,zg hls,zb,ac]
         have e1:(if (s[i].toNat:Int)=92 then (some (.inr (.inl (true,IntKind.wrap .i64 ((i:Int)+1),bI out,(b,(),()),()))):Option ((List Int×(Bool×Unit×Unit)×Unit)⊕((Bool×Int×List Int×(Bool×Unit×Unit)×Unit)⊕((Bool×List Int×(Bool×Unit×Unit)×Unit)⊕(List UInt8×Bool×Unit))))) else some (.inl (bI out,(b,(),()),())))=if s[i].toNat=92 then some (.inr (.inl (true,IntKind.wrap .i64 ((i:Int)+1),bI out,(b,(),()),()))) else some (.inl (bI out,(b,(),()),())):=by
           by_cases h:s[i].toNat=92
           · rw[zp (by omega),zp h]
           · rw[zn (by omega),zn h]
         have e2:(cond (!e) (if (s[i].toNat:Int)=92 then (some (.inr (.inl (true,IntKind.wrap .i64 ((i:Int)+1),bI out,(b,(),()),()))):Option ((List Int×(Bool×Unit×Unit)×Unit)⊕((Bool×Int×List Int×(Bool×Unit×Unit)×Unit)⊕((Bool×List Int×(Bool×Unit×Unit)×Unit)⊕(List UInt8×Bool×Unit))))) else some (.inl (bI out,(b,(),()),()))) (some (.inl (bI out,(b,(),()),()))))=some (.inl (bI out,(b,(),()),())):=by
           cases e with
           | true=>rfl
           | false =>
             have h92:¬ s[i].toNat=92:=fun h=>hc ⟨rfl,h⟩
             simp only[Bool.not_false,cond_true]
             rw[zn (by omega)]
         rw[e2,aH]
         simp only[]
         rw[cI (by rw[j6]; omega)]
         simp only[zb]
         rw[← aiD,← ja,w1]
       obtain ⟨b',h'⟩:=ih (i+1) (out++[s[i]]) false true (by omega) (by omega) (by omega) (by rw[List.length_append]; simp; omega)
       refine ⟨b',?_⟩
       rw[ay turn,h']
       simp only[List.append_assoc,List.cons_append,List.nil_append]
   · exact fin i out e b (by omega) hlt
theorem rP {s:List UInt8} (hs:s.length<1000000):∃ t b,za5 s=some (t,b,())∧t.length≤s.length∧(∀ m,s=34::(aL m++[34])→t=m):=by
 by_cases h2:s.length<2
 · refine ⟨[],false,?_,by simp,?_⟩
   · unfold za5
     rw[ac,zp (by omega)]
   · intro m e
     exfalso
     rw[e] at h2; simp at h2; omega
 have h0:0<s.length:=by omega
 have hz:s.length-1<s.length:=by omega
 have w1:IntKind.wrap .i64 ((s.length:Int)-1)=((s.length-1:Nat):Int):=by rw[wrap64 (by omega) (by omega)]; omega
 have form : za5 s = cond (!decide (((s[0]).toNat : Int) = 34)) (some ([], false, ())) (cond (!decide (((s[s.length - 1]).toNat : Int) = 34)) (some ([], false, ())) ((aJ (jP s) (false, 1, [], (false, (), ()), ()) : Option ((Bool × List Int × (Bool × Unit × Unit) × Unit) ⊕ (List UInt8 × Bool × Unit))).bind (au fun v7 =>
     (zaj (v7.2.2.1.1,(),()) v7.2.1).bind fun q8=>some (q8.1,(!v7.1),())))):=by
   unfold za5
   rw[ac,zn (by omega),show (0:Int)=((0:Nat):Int) from rfl,aR h0,w1,aR hz]
   rfl
 by_cases ha:s[0].toNat=34
 · by_cases hb:s[s.length-1].toNat=34
   · obtain ⟨b',hl⟩:=ab0 hs (s.length-1-1) 1 [] false false (by omega) (by omega) (by omega) (by simp)
     refine ⟨(unqM false ((s.take (s.length-1)).drop 1)).1,!(unqM false ((s.take (s.length-1)).drop 1)).2,?_,?_,?_⟩
     · rw[form,zt (by omega),zt (by omega)]
       simp only[Bool.not_true,cond_false]
       rw[show ((1:Int))=((1:Nat):Int) from rfl,show ([]:List Int)=bI [] from rfl,hl,aH]
       simp only[List.nil_append]
       have:=ou false ((s.take (s.length-1)).drop 1)
       rw[List.length_drop,List.length_take] at this
       rw[ox (by omega)]
       rfl
     · have:=ou false ((s.take (s.length-1)).drop 1)
       rw[List.length_drop,List.length_take] at this
       omega
     · intro m e
       have:(s.take (s.length-1)).drop 1=aL m:=by
         rw[e]
         simp
       rw[this,pS]
   · refine ⟨[],false,?_,by simp,?_⟩
     · rw[form,zt (by omega),zf (by omega)]; rfl
     · intro m e
       exfalso
       apply hb
       subst e
       simp[List.getElem_append]
 · refine ⟨[],false,?_,by simp,?_⟩
   · rw[form,zf (by omega)]; rfl
   · intro m e
     exfalso
     apply ha
     subst e
     rfl
theorem acl {s:List UInt8} (hs:s.length<1000000):zas s [34]=some (decide (s.head? = some 34)):=by
 unfold zas zal
 cases s with
 | nil=>simp
 | cons c r =>
   rw[ac,zp (by simp; omega),show (0:Int)=((0:Nat):Int) from rfl,show (([34]:List UInt8).length:Int)=((1:Nat):Int) from rfl,bV (by omega) (by simp)]
   simp
theorem adM {s:List UInt8} (hs:s.length<1000000):∃ v:Val,v.2.2.1.length≤s.length∧(zb1 s=if bc v=true∧b9 v=s then some (v,0,()) else some ((0,0,[],()),19,()))∧∀ u,bc u=true→b9 u=s→v=u:=by
 have fin : ∀ v : Val, v.2.2.1.length ≤ s.length → ((zbw v).bind fun r5 =>
     cond (!r5) (some ((0,0,[],()),19,())) ((zcr v).bind fun r6 =>
     cond (!decide (r6=s)) (some ((0,0,[],()),19,())) (some (v,(0:Int),()))))=(if bc v=true∧b9 v=s then some (v,0,()) else some ((0,0,[],()),19,()):Option (Val×Int×Unit)):=by
   intro v hv
   rw[jQ (by omega)]
   simp only[zb]
   cases hr:bc v with
   | false=>simp
   | true =>
     simp only[Bool.not_true,cond_false]
     rw[kJ hr]
     simp only[zb]
     by_cases ht:b9 v=s
     · simp[ht]
     · simp[ht]
 have heads:∀ u:Val,bc u=true→b9 u=s→(∃ n,u=(1,n,[],()) ∧ -2147483647≤n∧n≤2147483647∧Lib.itoa n=s)∨(∃ m,u=(2,0,m,())∧s=34::(aL m++[34]))∨(u=(3,0,[],())∧s=[102,97,108,115,101])∨(u=(3,1,[],())∧s=[116,114,117,101]):=by
   intro u hu ht
   rcases bW hu with ⟨n,rfl,h1,h2⟩ | ⟨m,l,rfl,h1,h2⟩ | rfl | rfl
   · exact .inl ⟨n,rfl,h1,h2,ht⟩
   · refine .inr (.inl ⟨m,rfl,?_⟩)
     rw[← ht]; rfl
   · exact .inr (.inr (.inl ⟨rfl,ht.symm⟩))
   · exact .inr (.inr (.inr ⟨rfl,ht.symm⟩))
 unfold zb1
 rw[acl hs]
 simp only[zb]
 have hd:∀ {m:List UInt8},s=34::m→s.head? = some 34:=fun e=>by rw[e]; rfl
 by_cases hp:s.head? = some 34
 · obtain ⟨t,b,h1,h2,h3⟩:=rP hs
   rw[zt hp,h1]
   simp only[cond_true,zb,aH]
   refine ⟨(2,0,t,()),h2,fin (2,0,t,()) h2,?_⟩
   intro u hu ht
   have hr:s.head? = some 34:=hp
   rcases heads u hu ht with ⟨n,rfl,g1,g2,g3⟩ | ⟨m,rfl,g⟩ | ⟨rfl,g⟩ | ⟨rfl,g⟩
   · obtain ⟨c,r',e,hc⟩:=e7 (n:=n)
     rw[← g3,e] at hr
     cases hr
     rcases hc with hc | hc
     · cases hc
     · have:=hc.1; simp at this
   · rw[h3 m g]
   · rw[g] at hr; cases hr
   · rw[g] at hr; cases hr
 · rw[zf hp]
   simp only[cond_false,ac]
   by_cases ht:s=[116,114,117,101]
   · rw[zp ht,aH]
     refine ⟨(3,1,[],()),by simp,fin (3,1,[],()) (by simp),?_⟩
     intro u hu hut
     rcases heads u hu hut with ⟨n,rfl,g1,g2,g3⟩ | ⟨m,rfl,g⟩ | ⟨rfl,g⟩ | ⟨rfl,g⟩
     · obtain ⟨c,r',e,hc⟩:=e7 (n:=n)
       rw[ht,e] at g3
       cases g3
       rcases hc with hc | hc
       · cases hc
       · have:=hc.2; simp at this
     · exact absurd (hd g) hp
     · rw[ht] at g; cases g
     · rfl
   rw[zn ht]
   by_cases hf:s=[102,97,108,115,101]
   · rw[zp hf,aH]
     refine ⟨(3,0,[],()),by simp,fin (3,0,[],()) (by simp),?_⟩
     intro u hu hut
     rcases heads u hu hut with ⟨n,rfl,g1,g2,g3⟩ | ⟨m,rfl,g⟩ | ⟨rfl,g⟩ | ⟨rfl,g⟩
     · obtain ⟨c,r',e,hc⟩:=e7 (n:=n)
       rw[hf,e] at g3
       cases g3
       rcases hc with hc | hc
       · cases hc
       · have:=hc.2; simp at this
     · exact absurd (hd g) hp
     · rfl
     · rw[hf] at g; cases g
   rw[zn hf]
   obtain ⟨n,e,ha⟩:=jb s (by omega)
   rw[ha]
   simp only[zb,aH]
   refine ⟨(1,n,[],()),by simp,fin (1,n,[],()) (by simp),?_⟩
   intro u hu hut
   rcases heads u hu hut with ⟨m,rfl,g1,g2,g3⟩ | ⟨m,rfl,g⟩ | ⟨rfl,g⟩ | ⟨rfl,g⟩
   · have:=kO (n:=m) (by omega) (by omega)
     rw[g3,ha] at this
     cases this
     rfl
   · exact absurd (hd g) hp
   · exact absurd g hf
   · exact absurd g ht
theorem oJ {s:List UInt8} (hs:s.length<1000000) {v:Val} (h:bc v=true) (ht:b9 v=s):zb1 s=some (v,0,()):=by
 obtain ⟨u,h1,h2,h3⟩:=adM hs
 have:=h3 v h ht
 subst this
 rw[h2,zp ⟨h,ht⟩]
theorem tz {u v:Val} (hu:bc u=true) (hv:bc v=true) (h:b9 u=b9 v) (hl:(b9 u).length<1000000):u=v:=by
 have h1:=oJ hl hu rfl
 have h2:=oJ hl hv h.symm
 rw[h1] at h2
 cases h2
 rfl
theorem acs {s:List UInt8} (hs:s.length≤11):∀ (k i n:Nat),s.length-i≤k→i≤s.length→n<10 ^ i →
   aJ (mR s) ((n:Int),(i:Int),())=(match valM n (s.drop i) with
     | some v=>some (.inl ((v:Int),()))
     | none=>some (.inr (0,false,()))):=by
 intro k
 have fin : ∀ (i n : Nat), ¬ i < s.length → aJ (mR s) ((n : Int), (i : Int), ()) = (match valM n (s.drop i) with
     | some v=>some (.inl ((v:Int),()))
     | none=>some (.inr (0,false,()))):=by
   intro i n hi
   rw[List.drop_eq_nil_of_le (by omega)]
   simp only[valM]
   refine aq ?_
   unfold mR
   rw[ac,zn (by simp only[]; omega)]
 induction k with
 | zero=>intro i n hk hi hn; exact fin i n (by omega)
 | succ k ih =>
   intro i n hk hi hn
   by_cases hlt:i<s.length
   · have hb:=(s[i]).toNat_lt
     rw[List.drop_eq_getElem_cons hlt]
     simp only[valM]
     have hp:10 ^ i*10=10 ^ (i+1):=(Nat.pow_succ ..).symm
     have hp2:10 ^ (i+1)≤10 ^ 11:=Nat.pow_le_pow_right (by omega) (by omega)
     simp only[Nat.reducePow] at hp2
     by_cases hd:48≤s[i].toNat∧s[i].toNat≤57
     · rw[zp hd]
       rw[ay (b:=(((n*10+(s[i].toNat-48):Nat):Int),((i+1:Nat):Int),()))]
       · exact ih (i+1) _ (by omega) (by omega) (by omega)
       · unfold mR
         rw[ac,zp (by simp only[]; omega)]
         simp only[cj,zg hlt,zb,ac]
         rw[zn (by omega),zn (by omega),wrap64 (n:=10*(n:Int)) (by omega) (by omega),wrap64 (n:=(s[i].toNat:Int)) (by omega) (by omega),wrap64 (n:=10*(n:Int)+s[i].toNat) (by omega) (by omega),wrap64 (n:=10*(n:Int)+s[i].toNat-48) (by omega) (by omega),wrap64 (n:=(i:Int)+1) (by omega) (by omega)]
         congr 3
         omega
     · rw[zn hd]
       refine aq ?_
       unfold mR
       rw[ac,zp (by simp only[]; omega)]
       simp only[cj,zg hlt,zb,ac]
       by_cases h48:(s[i].toNat:Int)<48
       · rw[zp h48]
       · rw[zn h48,zp (by omega)]
   · exact fin i n hlt
theorem adz:∀ (l:List UInt8) (n m:Nat),valM n l=some m→m<(n+1)*10 ^ l.length
 | [],n,m,h=>by simp only[valM] at h; cases h; simp
 | c::r,n,m,h=>by
   simp only[valM] at h
   split at h
   · have:=adz r _ m h
     rw[zl,Nat.pow_succ]
     have h2:(n*10+(c.toNat-48)+1)*10 ^ r.length≤((n+1)*10)*10 ^ r.length:=Nat.mul_le_mul_right _ (by omega)
     calc m<(n*10+(c.toNat-48)+1)*10 ^ r.length:=this
       _≤((n+1)*10)*10 ^ r.length:=h2
       _=(n+1)*(10 ^ r.length*10):=by rw[Nat.mul_assoc,Nat.mul_comm 10]
   · cases h
theorem acr {s:List UInt8} (hs:s.length<1000000):∃ n b,zba s=some (n,b,())∧(b=true→inR n∧Lib.itoa n=s)∧∀ m:Int,-2147483647≤m→m≤2147483647→Lib.itoa m=s→n=m∧b=true:=by
 have neg:∃ g:Bool,(cond (decide ((s.length:Int)>0)) ((atI s 0).bind fun b1=>some ((decide ((b1.toNat:Int)=45)),())) (some (false,())):Option (Bool×Unit))=some (g,())∧(g=true→∃ r,s=45::r)∧(g=false→∀ r,s≠45::r):=by
   cases s with
   | nil=>exact ⟨false,rfl,(fun h=>by cases h),fun _ r h=>by cases h⟩
   | cons c r =>
     refine ⟨decide ((c.toNat:Int)=45),?_,fun h => ?_,fun h r' e => ?_⟩
     · rw[ac,zp (by rw[zl]; omega)]; rfl
     · have h:=of_decide_eq_true h
       have:c=45:=UInt8.toNat_inj.1 (by show c.toNat=45; omega)
       exact ⟨r,by rw[this]⟩
     · cases e
       have h:=of_decide_eq_false h
       exact h rfl
 obtain ⟨g,hg,hg1,hg2⟩:=neg
 have head:∀ m:Int,Lib.itoa m=s→(m<0↔g=true):=by
   intro m hm
   constructor
   · intro h0
     rw[itoa_neg h0] at hm
     cases hgv:g with
     | true=>rfl
     | false=>exact absurd hm.symm (hg2 hgv _)
   · intro hgv
     obtain ⟨r,hr⟩:=hg1 hgv
     rcases Int.lt_or_le m 0 with h0 | h0
     · exact h0
     · obtain ⟨k,rfl⟩:=Int.eq_ofNat_of_zero_le h0
       rw[cX,hr] at hm
       have:=dC k 45 (by rw[hm]; exact List.mem_cons_self ..)
       have:=this.1
       simp at this
 have lens:∀ m:Int,-2147483647≤m→m≤2147483647→Lib.itoa m=s→s.length≠(if g then 1 else 0)∧s.length≤(if g then 1 else 0)+10:=by
   intro m h1 h2 hm
   have hh:=head m hm
   cases hgv:g with
   | true =>
     have h0:=hh.2 hgv
     rw[itoa_neg h0] at hm
     have:=gd m.natAbs
     have:=eK 9 m.natAbs (by omega)
     rw[← hm]; simp only[zl,if_true]; omega
   | false =>
     have h0:¬ m<0:=fun h=>by have:=hh.1 h; rw[hgv] at this; cases this
     obtain ⟨k,rfl⟩:=Int.eq_ofNat_of_zero_le (show 0≤m by omega)
     rw[cX] at hm
     have:=gd k
     have:=eK 9 k (by omega)
     rw[← hm]; simp only[Bool.false_eq_true,if_false]; omega
 unfold zba
 rw[hg]
 simp only[zb]
 have e1:(cond g (some (.inl ((1:Int),()))) (some (.inl ((0:Int),()))):Option ((Int×Unit)⊕(Int×Bool×Unit)))=some (.inl (((if g then 1 else 0:Nat):Int),())):=by cases g<;>rfl
 rw[e1,aH]
 generalize hf:(if g then 1 else 0:Nat)=fr at lens ⊢
 have hfr:fr≤1:=by subst hf; split<;>omega
 simp only[ac]
 by_cases c1:(s.length:Int)=(fr:Int)
 · rw[zp c1]
   refine ⟨0,false,rfl,(fun h=>by cases h),fun m h1 h2 hm => ?_⟩
   have:=(lens m h1 h2 hm).1
   omega
 rw[zn c1,wrap64 (by omega) (by omega)]
 by_cases c2:(s.length:Int)>(fr:Int)+10
 · rw[zp c2]
   refine ⟨0,false,rfl,(fun h=>by cases h),fun m h1 h2 hm => ?_⟩
   have:=(lens m h1 h2 hm).2
   omega
 rw[zn c2]
 have hl:=acs (s:=s) (by omega) s.length fr 0 (by omega) (by
   subst hf
   cases hgv:g with
   | true=>obtain ⟨r,hr⟩:=hg1 hgv; rw[hr]; simp
   | false=>simp) (Nat.pos_of_ne_zero (by
     have:0<10 ^ fr:=Nat.pow_pos (by omega)
     omega))
 rw[show (((0:Nat):Int))=0 from rfl] at hl
 rw[hl]
 have vals:∀ m:Int,Lib.itoa m=s→valM 0 (s.drop fr)=some m.natAbs:=by
   intro m hm
   have hh:=head m hm
   cases hgv:g with
   | true =>
     have h0:=hh.2 hgv
     rw[itoa_neg h0] at hm
     rw[← hm,← hf,hgv]
     exact fc _
   | false =>
     have h0:¬ m<0:=fun h=>by have:=hh.1 h; rw[hgv] at this; cases this
     obtain ⟨k,rfl⟩:=Int.eq_ofNat_of_zero_le (show 0≤m by omega)
     rw[cX] at hm
     rw[← hm,← hf,hgv]
     exact fc _
 cases hv:valM 0 (s.drop fr) with
 | none =>
   simp only[bp]
   refine ⟨0,false,rfl,(fun h=>by cases h),fun m h1 h2 hm => ?_⟩
   rw[vals m hm] at hv; cases hv
 | some v =>
   simp only[aH]
   have hlt:=adz _ _ _ hv
   rw[List.length_drop] at hlt
   have hp:10 ^ (s.length-fr)≤10 ^ 10:=Nat.pow_le_pow_right (by omega) (by omega)
   simp only[Nat.reducePow,Nat.zero_add,Nat.one_mul] at hp hlt
   have e2:(cond g (some (.inl (IntKind.wrap .i64 (0-(v:Int)),()))) (some (.inl ((v:Int),()))):Option ((Int×Unit)⊕(Int×Bool×Unit)))=some (.inl ((if g then -(v:Int) else (v:Int)),())):=by
     cases g with
     | true =>
       simp only[cond_true,if_true]
       rw[wrap64 (by omega) (by omega)]
       congr 3; omega
     | false=>rfl
   rw[e2,aH]
   have hin:inR (if g then -(v:Int) else (v:Int)):=by
     unfold inR
     cases g with
     | true=>simp only[if_true]; omega
     | false=>simp only[Bool.false_eq_true,if_false]; omega
   simp only[]
   rw[dG hin.1 hin.2]
   simp only[zb]
   refine ⟨_,_,rfl,fun h=>⟨hin,of_decide_eq_true h⟩,fun m h1 h2 hm => ?_⟩
   have h3:=vals m hm
   rw[hv] at h3
   cases h3
   have hh:=head m hm
   have e:(if g then -(m.natAbs:Int) else (m.natAbs:Int))=m:=by
     cases hgv:g with
     | true =>
       have h0:=hh.2 hgv
       simp only[if_true]; omega
     | false =>
       have h0:¬ m<0:=fun h=>by have:=hh.1 h; rw[hgv] at this; cases this
       simp only[Bool.false_eq_true,if_false]; omega
   exact ⟨e,by rw[e]; exact zt hm⟩
def unqR:List UInt8→Option (List UInt8×List UInt8)
 | []=>some ([],[])
 | b :: r => if b.toNat = 34 then some ([], b :: r) else if b.toNat = 92 then (match r with
     | []=>none
     | c::r'=>if c.toNat=34∨c.toNat=92 then (unqR r').map fun p=>(c::p.1,p.2) else none) else (unqR r).map fun p=>(b::p.1,p.2)
theorem ix (b : UInt8) (r : List UInt8) : unqR (b :: r) = if b.toNat = 34 then some ([], b :: r) else if b.toNat = 92 then (match r with
     | []=>none
     | c::r'=>if c.toNat=34∨c.toNat=92 then (unqR r').map fun p=>(c::p.1,p.2) else none) else (unqR r).map fun p=>(b::p.1,p.2):=by rw[unqR.eq_def]
theorem aoS {b:UInt8} (h:b.toNat=34):b=34:=UInt8.toNat_inj.1 h
theorem arm {b:UInt8} (h:b.toNat=92):b=92:=UInt8.toNat_inj.1 h
theorem zd:∀ (k:Nat) (l:List UInt8),l.length≤k→∀ u r,unqR l=some (u,r)→l=aL u++r∧(r=[]∨∃ r',r=34::r')∧u.length+r.length≤l.length:=by
 intro k
 induction k with
 | zero =>
   intro l hl u r h
   have:l=[]:=List.eq_nil_of_length_eq_zero (by omega)
   subst this
   simp only[unqR] at h; cases h
   exact ⟨rfl,.inl rfl,by simp⟩
 | succ k ih =>
   intro l hl u r h
   match l,hl,h with
   | [],_,h =>
     simp only[unqR] at h; cases h
     exact ⟨rfl,.inl rfl,by simp⟩
   | b::t,hl,h =>
     simp only[zl] at hl
     rw[ix] at h
     by_cases h34:b.toNat=34
     · rw[zp h34] at h; cases h
       exact ⟨rfl,.inr ⟨t,by rw[aoS h34]⟩,by simp⟩
     rw[zn h34] at h
     by_cases h92:b.toNat=92
     · rw[zp h92] at h
       match t,hl,h with
       | [],_,h=>cases h
       | c::t',hl,h =>
         simp only[zl] at hl
         simp only at h
         by_cases hc:c.toNat=34∨c.toNat=92
         · rw[zp hc,Option.map_eq_some_iff] at h
           obtain ⟨p,hp,e⟩:=h
           cases e
           obtain ⟨h1,h2,h3⟩:=ih t' (by omega) p.1 p.2 hp
           have hsp:dS c=true:=by
             simp only[dS,Bool.or_eq_true,decide_eq_true_eq]; exact hc
           refine ⟨?_,h2,by simp only[zl]; omega⟩
           rw[bU,hsp,arm h92]
           simp only[if_true,List.cons_append,List.nil_append]
           rw[← h1]
         · rw[zn hc] at h; cases h
     · rw[zn h92,Option.map_eq_some_iff] at h
       obtain ⟨p,hp,e⟩:=h
       cases e
       obtain ⟨h1,h2,h3⟩:=ih t (by omega) p.1 p.2 hp
       have hsp:dS b=false:=by
         simp only[dS,Bool.or_eq_false_iff,decide_eq_false_iff_not]; exact ⟨h34,h92⟩
       refine ⟨?_,h2,by simp only[zl]; omega⟩
       rw[bU,hsp]
       simp only[Bool.false_eq_true,if_false,List.cons_append,List.nil_append]
       rw[← h1]
theorem gy:∀ t:List UInt8,unqR (aL t++[34])=some (t,[34])
 | []=>rfl
 | b::t=>by
   have ih:=gy t
   rw[bU]
   cases hb:dS b with
   | true =>
     have hc:b.toNat=34∨b.toNat=92:=by simpa [dS] using hb
     simp only[if_true,List.cons_append,List.nil_append]
     rw[ix]
     rw[zn (by decide),zp (by decide)]
     simp only[]
     rw[zp hc,ih]
     rfl
   | false =>
     simp only[dS,Bool.or_eq_false_iff,decide_eq_false_iff_not] at hb
     simp only[Bool.false_eq_true,if_false,List.cons_append,List.nil_append]
     rw[ix]
     rw[zn hb.1,zn hb.2,ih]
     rfl
theorem zc {s:List UInt8} (hs:s.length<1000000) (z:Val):∀ (k i:Nat) (t:List UInt8),s.length-i≤k→i≤s.length→t.length≤i →
   aJ (fa s) (t,(i:Int),z,())=(match unqR (s.drop i) with
     | some p=>some (.inl (t++p.1,((s.length-p.2.length:Nat):Int),z,()))
     | none=>some (.inr ((0,0,[],()),false,()))):=by
 intro k
 have fin : ∀ (i : Nat) (t : List UInt8), i = s.length → aJ (fa s) (t, (i : Int), z, ()) = (match unqR (s.drop i) with
     | some p=>some (.inl (t++p.1,((s.length-p.2.length:Nat):Int),z,()))
     | none=>some (.inr ((0,0,[],()),false,()))):=by
   intro i t hi
   rw[List.drop_eq_nil_of_le (by omega)]
   simp only[unqR]
   refine aq ?_
   unfold fa
   rw[ac,zn (by simp only[]; omega),hi]
   simp
 induction k using Nat.strongRecOn with
 | _ k ih =>
   intro i t hk hi ht
   by_cases hlt:i<s.length
   · have hd:=List.drop_eq_getElem_cons hlt
     have w1:IntKind.wrap .i64 ((i:Int)+1)=((i+1:Nat):Int):=by rw[wrap64 (by omega) (by omega)]; rfl
     have hone:∀ j:Nat,(hj:j<s.length)→subI s (j:Int) ((j+1:Nat):Int)=some [s[j]]:=by
       intro j hj
       rw[bV (by omega) (by omega),List.drop_take,List.drop_eq_getElem_cons hj]
       have e:j+1-j=1:=by omega
       rw[e]; rfl
     rw[hd,ix]
     by_cases h34:s[i].toNat=34
     · rw[zp h34]
       simp only[]
       refine aq ?_
       unfold fa
       rw[ac,zp (by simp only[]; omega)]
       simp only[cj,zg hlt,zb]
       rw[zt (by omega)]
       simp only[Bool.not_true,cond_false,zl,List.length_drop,List.append_nil]
       have:s.length-(s.length-(i+1)+1)=i:=by omega
       rw[this]
     · rw[zn h34]
       by_cases h92:s[i].toNat=92
       · rw[zp h92]
         by_cases hlt2:i+1<s.length
         · have hd2:=List.drop_eq_getElem_cons hlt2
           rw[hd2]
           simp only[]
           by_cases hc:s[i+1].toNat=34∨s[i+1].toNat=92
           · rw[zp hc]
             rw[ay (b:=(t++[s[i+1]],((i+1+1:Nat):Int),z,()))]
             · rw[ih (k-2) (by omega) (i+1+1) (t++[s[i+1]]) (by omega) (by omega) (by rw[List.length_append]; simp; omega)]
               cases unqR (s.drop (i+1+1)) with
               | none=>rfl
               | some p=>simp
             · unfold fa
               rw[ac,zp (by simp only[]; omega)]
               simp only[cj,zg hlt,zb,w1,zg hlt2]
               rw[zf (by omega)]
               simp only[Bool.not_false,cond_true,ac]
               rw[zp (by omega),zn (by omega)]
               have e:(cond (!decide ((s[i+1].toNat:Int)=34)) (cond (!decide ((s[i+1].toNat:Int)=92)) (some (.inr (.inr (.inr ((0,0,[],()),false,()))))) (some (.inl (((i+1:Nat):Int),z,())))) (some (.inl (((i+1:Nat):Int),z,()))):Option ((Int×(Int×Int×List UInt8×Unit)×Unit)⊕((List UInt8×Int×(Int×Int×List UInt8×Unit)×Unit)⊕((List UInt8×Int×(Int×Int×List UInt8×Unit)×Unit)⊕((Int×Int×List UInt8×Unit)×Bool×Unit)))))=some (.inl (((i+1:Nat):Int),z,())):=by
                 rcases hc with hc | hc
                 · rw[zt (by omega)]; rfl
                 · rw[zf (by omega),zt (by omega)]; rfl
               rw[e,aH]
               simp only[]
               rw[wrap64 (n:=((i+1:Nat):Int)+1) (by omega) (by omega),show (((i+1:Nat):Int)+1)=((i+1+1:Nat):Int) by omega,hone (i+1) hlt2]
               simp only[zb]
               rw[aD (by simp; omega)]
               rfl
           · rw[zn hc]
             simp only[]
             refine aq ?_
             unfold fa
             rw[ac,zp (by simp only[]; omega)]
             simp only[cj,zg hlt,zb,w1,zg hlt2]
             rw[zf (by omega)]
             simp only[Bool.not_false,cond_true,ac]
             rw[zp (by omega),zn (by omega),zf (by omega),zf (by omega)]
             rfl
         · have hnil:s.drop (i+1)=[]:=List.drop_eq_nil_of_le (by omega)
           rw[hnil]
           simp only[]
           refine aq ?_
           unfold fa
           rw[ac,zp (by simp only[]; omega)]
           simp only[cj,zg hlt,zb,w1]
           rw[zf (by omega)]
           simp only[Bool.not_false,cond_true,ac]
           rw[zp (by omega),zp (by omega)]
           rfl
       · rw[zn h92]
         rw[ay (b:=(t++[s[i]],((i+1:Nat):Int),z,()))]
         · rw[ih (k-1) (by omega) (i+1) (t++[s[i]]) (by omega) (by omega) (by rw[List.length_append]; simp; omega)]
           cases unqR (s.drop (i+1)) with
           | none=>rfl
           | some p=>simp
         · unfold fa
           rw[ac,zp (by simp only[]; omega)]
           simp only[cj,zg hlt,zb,w1]
           rw[zf (by omega)]
           simp only[Bool.not_false,cond_true,ac]
           rw[zn (by omega),aH]
           simp only[]
           rw[w1,hone i hlt]
           simp only[zb]
           rw[aD (by simp; omega)]
           rfl
   · exact fin i t (by omega)
theorem p9 {n:Int}:bc (1,n,[],())=decide (-2147483647≤n∧n≤2147483647):=by
 unfold bc; simp
theorem nl {s:List UInt8} (hs:s.length<1000000):∃ v ok,zbn s=some (v,ok,())∧(ok=true→bc v=true∧b9 v=s)∧(ok=false→v=(0,0,[],())∧∀ u,bc u=true→b9 u≠s):=by
 have no:∀ {u v:Val},bc u=true→bc v=true→b9 u=s→b9 v=s→u=v:=fun hu hv h1 h2=>tz hu hv (h1.trans h2.symm) (by rw[h1]; exact hs)
 unfold zbn
 simp only[ac]
 by_cases ht:s=[116,114,117,101]
 · rw[zp ht]
   exact ⟨_,_,rfl,fun _=>⟨rfl,ht.symm⟩,fun h=>by cases h⟩
 rw[zn ht]
 by_cases hf:s=[102,97,108,115,101]
 · rw[zp hf]
   exact ⟨_,_,rfl,fun _=>⟨rfl,hf.symm⟩,fun h=>by cases h⟩
 rw[zn hf]
 have hq:(if (s.length:Int)=0 then some (.inl (true,(0,0,[],()),())) else (atI s 0).bind fun b1=>some (.inl ((!decide ((b1.toNat:Int)=34)),(0,0,[],()),())):Option ((Bool×(Int×Int×List UInt8×Unit)×Unit)⊕((Int×Int×List UInt8×Unit)×Bool×Unit)))=some (.inl (!decide (s.head? = some 34),(0,0,[],()),())):=by
   cases s with
   | nil=>rfl
   | cons c r =>
     rw[zn (by simp; omega),show (0:Int)=((0:Nat):Int) from rfl,cj]
     simp only[List.getElem?_cons_zero,zb,List.head?_cons,Option.some.injEq]
     have:decide ((c.toNat:Int)=34)=decide (c=34):=by
       rw[decide_eq_decide]
       constructor
       · intro h; exact aoS (by omega)
       · intro h; rw[h]; rfl
     rw[this]
 rw[hq,aH]
 simp only[]
 by_cases hp:s.head? = some 34
 · rw[zt hp]
   simp only[Bool.not_true,cond_false]
   have h1:1≤s.length:=by cases s with | nil=>cases hp | cons _ _=>simp
   have hs1:s=34::s.drop 1:=by cases s with | nil=>cases hp | cons c r=>simp only[List.head?_cons,Option.some.injEq] at hp; rw[hp]; rfl
   have hl:=zc hs (0,0,[],()) s.length 1 [] (by omega) h1 (by simp)
   rw[show (((1:Nat):Int))=1 from rfl] at hl
   rw[hl]
   have htx:∀ u,bc u=true→b9 u=s→∃ m,u=(2,0,m,())∧s.drop 1=aL m++[34]:=by
     intro u hu hut
     rcases bW hu with ⟨n,rfl,g1,g2⟩ | ⟨m,l,rfl,g1,g2⟩ | rfl | rfl
     · obtain ⟨c,r',e,hc⟩:=e7 (n:=n)
       have:Lib.itoa n=s:=hut
       rw[← this,e] at hp
       simp only[List.head?_cons,Option.some.injEq] at hp
       rw[hp] at hc
       rcases hc with hc | hc
       · cases hc
       · have:=hc.1; simp at this
     · refine ⟨m,rfl,?_⟩
       rw[← hut]; rfl
     · exact absurd hut.symm hf
     · exact absurd hut.symm ht
   cases hu:unqR (s.drop 1) with
   | none =>
     simp only[bp]
     refine ⟨_,_,rfl,(fun h=>by cases h),fun _=>⟨rfl,fun u hu' hut => ?_⟩⟩
     obtain ⟨m,_,e⟩:=htx u hu' hut
     rw[e,gy] at hu; cases hu
   | some p =>
     obtain ⟨t,r⟩:=p
     simp only[aH,List.nil_append]
     obtain ⟨g1,g2,g3⟩:=zd _ _ (Nat.le_refl _) t r hu
     rw[List.length_drop] at g3
     rw[wrap64 (by omega) (by omega)]
     by_cases hr:((s.length-r.length:Nat):Int)=(s.length:Int)-1
     · rw[zt hr]
       simp only[Bool.not_true,cond_false]
       have hr34:r=[34]:=by
         rcases g2 with rfl | ⟨r',rfl⟩
         · simp only[List.length_nil] at hr; omega
         · simp only[zl] at hr g3
           have:r'.length=0:=by omega
           rw[List.eq_nil_of_length_eq_zero this]
       rw[ib (v:=(2,0,t,())) (by simp only[]; omega)]
       simp only[zb]
       have hts:b9 (2,0,t,())=s:=by
         rw[hs1,g1,hr34]; rfl
       cases hrt:bc (2,0,t,()) with
       | true =>
         simp only[Bool.not_true,cond_false]
         exact ⟨_,_,rfl,fun _=>⟨hrt,hts⟩,fun h=>by cases h⟩
       | false =>
         simp only[Bool.not_false,cond_true]
         refine ⟨_,_,rfl,(fun h=>by cases h),fun _=>⟨rfl,fun u hu' hut => ?_⟩⟩
         obtain ⟨m,hm,e⟩:=htx u hu' hut
         rw[e,gy] at hu
         cases hu
         rw[hm] at hu'
         rw[hu'] at hrt; cases hrt
     · rw[zf hr]
       simp only[Bool.not_false,cond_true]
       refine ⟨_,_,rfl,(fun h=>by cases h),fun _=>⟨rfl,fun u hu' hut => ?_⟩⟩
       obtain ⟨m,_,e⟩:=htx u hu' hut
       rw[e,gy] at hu
       cases hu
       apply hr
       simp only[zl,List.length_nil]; omega
 · rw[zf hp]
   simp only[Bool.not_false,cond_true]
   obtain ⟨n,b,g1,g2,g3⟩:=acr hs
   rw[g1]
   simp only[zb]
   have htx:∀ u,bc u=true→b9 u=s→∃ m,u=(1,m,[],()) ∧ -2147483647≤m∧m≤2147483647∧Lib.itoa m=s:=by
     intro u hu hut
     rcases bW hu with ⟨m,rfl,k1,k2⟩ | ⟨m,l,rfl,k1,k2⟩ | rfl | rfl
     · exact ⟨m,rfl,k1,k2,hut⟩
     · exact absurd (show s.head? = some 34 by rw[← hut]; rfl) hp
     · exact absurd hut.symm hf
     · exact absurd hut.symm ht
   cases b with
   | false =>
     simp only[Bool.not_false,cond_true]
     refine ⟨_,_,rfl,(fun h=>by cases h),fun _=>⟨rfl,fun u hu' hut => ?_⟩⟩
     obtain ⟨m,_,k1,k2,k3⟩:=htx u hu' hut
     have:=(g3 m k1 k2 k3).2
     cases this
   | true =>
     simp only[Bool.not_true,cond_false]
     rw[ib (v:=(1,n,[],())) (by simp)]
     simp only[zb,p9]
     by_cases hr : -2147483647≤n∧n≤2147483647
     · rw[zt hr]
       simp only[Bool.not_true,cond_false]
       exact ⟨_,_,rfl,fun _=>⟨by rw[p9]; exact zt hr,(g2 rfl).2⟩,fun h=>by cases h⟩
     · rw[zf hr]
       simp only[Bool.not_false,cond_true]
       refine ⟨_,_,rfl,(fun h=>by cases h),fun _=>⟨rfl,fun u hu' hut => ?_⟩⟩
       obtain ⟨m,_,k1,k2,k3⟩:=htx u hu' hut
       have:=(g3 m k1 k2 k3).1
       omega
theorem arx (c:Int):zc2 c=some (mayM c):=by
 unfold zc2 mayM
 simp only[ac]
 by_cases h1:c<32
 · rw[zp h1,zp h1,zf (by omega)]
 rw[zn h1]
 by_cases h2:c≥127
 · rw[zp h2]
   by_cases h3:c<160
   · rw[zp h3,zf (by omega)]
   · rw[zn h3]
     by_cases h4:c=65533
     · rw[zt h4,zf (by omega)]; rfl
     · rw[zf h4,zt (by omega)]; rfl
 · rw[zn h2]
   rw[zf (by omega:¬ c=65533),zt (by omega)]; rfl
theorem sm {s:List UInt8} (hs:s.length<1000000):zb8 s=some (eQ s):=by
 unfold zb8 eQ
 rw[tS hs]
 simp only[zb]
 cases hr:bR s with
 | none=>simp[cB,hr]
 | some l =>
   have e:cB s []=(l,true,()):=by unfold cB; rw[hr]; rfl
   rw[e]
   simp only[Bool.not_true,cond_false,ac]
   by_cases h0:(l.length:Int)=0
   · rw[zp h0,zf (by omega)]; rfl
   rw[zn h0]
   by_cases h1:(l.length:Int)>24
   · rw[zp h1,zf (by omega)]; rfl
   rw[zn h1,zt (by omega),Bool.true_and]
   have:=iM (f:=tl (l,true,())) (l:=l) (fun i=>((i:Int),())) mayM true false (fun i h=>by
     unfold tl
     simp only[ac]
     rw[zp (by omega),aR h]
     simp only[zb,arx]
     cases mayM l[i] with
     | true=>simp only[Bool.not_true,cond_false,if_true]; rw[wrap64 (by omega) (by omega)]; rfl
     | false=>rfl) (by
     unfold tl
     simp only[ac]
     rw[zn (by omega)])
   rw[show ((0:Int),())=(((0:Nat):Int),()) from rfl,this]
   cases l.all mayM<;>rfl
theorem pi {p:Path} (hs:∀ x∈p,x.length<1000000):zb7 p=some (bS p):=by
 unfold zb7 bS
 simp only[ac]
 by_cases h1:(p.length:Int)=0
 · rw[zp h1,zp (show p.length=0 by omega)]
 rw[zn h1,zn (show ¬ p.length=0 by omega)]
 by_cases h2:(p.length:Int)>8
 · rw[zp h2,zp (show p.length>8 by omega)]
 rw[zn h2,zn (show ¬ p.length>8 by omega)]
 unfold zaa zab
 have gen:=gb (f:=pF p) (l:=p) (S:=Unit) (fun i _=>((i:Int),())) (fun i x _=>if eQ x=true then .inl () else .inr (i:Int)) (fun _ => -1) (fun _ _=>True) (fun i h s _=>by
   have turn:pF p ((i:Int),())=if eQ p[i]=true then some (.inl (((i+1:Nat):Int),())) else some (.inr (i:Int)):=by
     unfold pF zbc
     simp only[ac]
     rw[zp (by omega),aR h]
     simp only[zb,sm (hs _ (List.getElem_mem h))]
     cases eQ p[i] with
     | true=>simp only[Bool.not_true,cond_false,if_true]; rw[wrap64 (by omega) (by omega)]; rfl
     | false=>rfl
   by_cases hn:eQ p[i]=true
   · rw[zp hn] at turn ⊢
     exact .inl ⟨(),rfl,turn,trivial⟩
   · rw[zn hn] at turn ⊢
     exact .inr ⟨_,rfl,turn⟩) (fun s _=>by
   unfold pF
   simp only[ac]
   rw[zn (by omega)]) () trivial
 have val:∀ (l:Path) (i:Nat),(fQ (S:=Unit) (fun i x _=>if eQ x=true then .inl () else .inr (i:Int)) (fun _=>(-1:Int)) i l ()≥0)↔¬ l.all eQ=true:=by
   intro l
   induction l with
   | nil=>intro i; simp[fQ]
   | cons x l ih =>
     intro i
     by_cases hn:eQ x=true
     · simp only[fQ,hn,if_true,List.all_cons,Bool.true_and]
       exact ih (i+1)
     · simp[fQ,hn]
 rw[show ((0:Int),())=(((0:Nat):Int),()) from rfl,gen]
 simp only[zb]
 by_cases ha:p.all eQ=true
 · rw[zf (fun h=>(val p 0).1 h ha),zp ha]; rfl
 · rw[zt ((val p 0).2 ha),zn ha]; rfl
theorem aa1 (a b:Ref1):zc1 a b=some (cmpR a b):=by
 unfold zc1
 simp only[apq,qW,or_t,zb]
 rfl
theorem tu {o:Op1} (hv:o.2.2.1.2.2.1.length<1000000):zcu o=some (if o.1=3∨o.1=5 then decide (o.2.2.1=zeroV) else bc o.2.2.1):=by
 unfold zcu
 simp only[ac,aaU,jQ hv,zb]
 have ez:((0,0,[],()):Val)=zeroV:=rfl
 simp only[ez]
 by_cases h3:o.1=3
 · rw[zp h3,zp (.inl h3)]
 · by_cases h5:o.1=5
   · rw[zn h3,zp h5,zp (.inr h5)]
   · rw[zn h3,zn h5,zn (by omega)]
theorem uN (o:Op1):zcv o=some (if o.1=3 then decide (o.2.2.2.1≠0 ∧ -2147483647≤o.2.2.2.1∧o.2.2.2.1≤2147483647) else decide (o.2.2.2.1=0)):=by
 unfold zcv
 simp only[ac,aE]
 by_cases h3:o.1=3
 · rw[zp h3,zp h3]
   by_cases h0:o.2.2.2.1=0
   · rw[zp h0,zf (by omega)]
   · rw[zn h0]
     by_cases h1:o.2.2.2.1 ≥ -2147483647
     · rw[zp h1]
       congr 1
       rw[decide_eq_decide]; omega
     · rw[zn h1,zf (by omega)]
 · rw[zn h3,zn h3]
theorem wd:zc5 []=some true:=by
 unfold zc5
 exact aq (by unfold jO; simp only[ac]; rw[zn (by simp)])
theorem aag {o:Op1} (h:bm o) (hs:o.2.2.2.2.1=[]):zc4 o=some (opM o):=by
 obtain ⟨s1,s2,s3,s4⟩:=h
 have hv:=tu (o:=o) (by omega)
 have ha:=uN o
 obtain ⟨k,p,v,n,sn,⟨⟩⟩:=o
 simp only at s1 s2 s3 s4 hs hv ha
 subst hs
 unfold zc4 opM
 simp only[ac,aE,pi (p:=p) (fun x hx=>by have:=s2 x hx; omega),hv,ha,wd,qb,zb]
 by_cases a1:k<1
 · rw[zp a1,zp (.inl a1)]
 rw[zn a1]
 by_cases a2:k>5
 · rw[zp a2,zp (.inr a2)]
 rw[zn a2]
 rw[zn (show ¬ (k<1∨5<k) by omega)]
 by_cases a3:¬ bS p=0
 · rw[zn a3,zp (show bS p≠0 from a3)]
 have a3:bS p=0:=Classical.not_not.1 a3
 rw[zp a3,zn (show ¬ bS p≠0 from fun e=>e a3)]
 have fl:∀ b:Bool,((cond (!b) (some (decide ((([]:List Ref1).length:Int)>0),())) (some (false,()))):Option (Bool×Unit))=some (false,()):=by intro b; cases b<;>rfl
 have ff:∀ f:Bool×Unit→Option Int,((if k=1 then some (true,()) else some (decide (k=4),()):Option (Bool×Unit)).bind fun v2=>(cond v2.1 (some (true,())) (some (decide (k=5),())):Option (Bool×Unit)).bind f)=f (decide (k=1)||decide (k=4)||decide (k=5),()):=by
   intro f
   by_cases h1:k=1
   · rw[zp h1,zt h1]; rfl
   · rw[zn h1,zf h1]
     cases h4:decide (k=4)<;>rfl
 rw[ff]
 simp only[fl,zb]
 by_cases k3:k=3
 · subst k3
   by_cases hz:v=zeroV
   · by_cases hn:n≠0 ∧ -2147483647≤n∧n≤2147483647
     · have h2:¬ (n=0∨n>2147483647∨n < -2147483647):=by omega
       simp[hz,hn,h2]
     · have h2:n=0∨n>2147483647∨n < -2147483647:=by omega
       simp[hz,hn,h2]
   · simp[hz]
 · by_cases k5:k=5
   · subst k5
     by_cases hz:v=zeroV
     · by_cases n0:n=0
       · simp[hz,n0]
       · simp[hz,n0]
     · simp[hz]
   · cases hr:bc v with
     | false=>simp[k3,k5,hr]
     | true =>
       by_cases n0:n=0
       · simp[k3,k5,hr,n0]
       · simp[k3,k5,hr,n0]
theorem sb {s:List UInt8} (hs:s.length<1000000):zb6 s=some (aZ s):=by
 have:=acw (f:=tm s) (l:=s) (fun i o=>(o,(i:Int),())) (fun b=>if b.toNat=47∨b.toNat=92 then [92,b] else [b]) (fun o=>o) 2 (fun b _=>by split<;>simp) (fun i h o ho=>by
   unfold tm
   simp only[ac]
   have w1:IntKind.wrap .i64 ((i:Int)+1)=((i+1:Nat):Int):=by rw[wrap64 (by omega) (by omega)]; rfl
   have hsub:subI s (i:Int) ((i+1:Nat):Int)=some [s[i]]:=by
     rw[bV (by omega) (by omega),List.take_add_one,List.drop_append_of_le_length (by simp; omega)]
     simp[h]
   rw[zp (by omega),aR h,w1]
   simp only[zb,hsub]
   by_cases h1:s[i].toNat=47
   · rw[zp (by omega),aD (by simp; omega)]
     simp only[zb,au]
     rw[aD (by simp; omega),zp (.inl h1),List.append_assoc]
     rfl
   · rw[zn (by omega)]
     by_cases h2:s[i].toNat=92
     · rw[zp (by omega),aD (by simp; omega)]
       simp only[zb,au]
       rw[aD (by simp; omega),zp (.inr h2),List.append_assoc]
       rfl
     · rw[zn (by omega)]
       simp only[zb,au]
       rw[aD (by simp; omega),zn (by omega)]
       rfl) (fun o ho=>by
   unfold tm
   simp only[ac]
   rw[zn (by omega)])
 exact this
theorem fh {p:Path} (h1:p.length≤12) (h:∀ x∈p,x.length≤120):zcd p=some (cT p):=by
 have:=gb (f:=th p) (l:=p) (S:=List UInt8) (fun i o=>(o,(i:Int),())) (fun i x o=>.inl ((if i>0 then o++[47] else o)++aZ x)) (fun o=>o) (fun i o=>o.length≤1000*i) (fun i hi o ho=>.inl ⟨_,rfl,by
   unfold th
   simp only[ac]
   have hq:=h _ (List.getElem_mem hi)
   have hsl:=kQ (s:=p[i])
   have w1:IntKind.wrap .i64 ((i:Int)+1)=((i+1:Nat):Int):=by rw[wrap64 (by omega) (by omega)]; rfl
   rw[zp (by omega),aR hi]
   simp only[zb,sb (show p[i].length<1000000 by omega),w1]
   by_cases h0:i>0
   · rw[zp (by omega),aD (by simp; omega),zp h0]
     simp only[zb,au]
     rw[aD (by simp; omega)]
     rfl
   · rw[zn (by omega),zn h0]
     simp only[zb,au]
     rw[aD (by omega)]
     rfl,by
   have hq:=h _ (List.getElem_mem hi)
   have hsl:=kQ (s:=p[i])
   rw[List.length_append]
   have:(if i>0 then o++[47] else o).length≤o.length+1:=by split<;>simp
   omega⟩) (fun o ho=>by
   unfold th
   simp only[ac]
   rw[zn (by omega)]) [] (by simp)
 rw[nK,wu] at this
 exact this
theorem zz {o:Op1} (hp:o.2.1.length<1000000) (hs:o.2.2.2.2.1.length<1000000):zcc o o=some true:=by
 have loop:=iM (f:=ti o o) (l:=o.2.2.2.2.1) (fun i=>((i:Int),())) (fun _=>true) true false (fun i h=>by
   unfold ti
   simp only[ac]
   rw[zp (by omega),aR h]
   simp only[zb]
   rw[show (eqV (.agg (.cons (.agg (.cons (.int .i64) (.cons (.int .i64) .unit))) (.cons (.int .i64) .unit))) o.2.2.2.2.1[i] o.2.2.2.2.1[i])=eqV aoT o.2.2.2.2.1[i] o.2.2.2.2.1[i] from rfl,ary,zt rfl]
   simp only[Bool.not_true,cond_false]
   rw[wrap64 (by omega) (by omega),zp trivial]; rfl) (by
   unfold ti
   simp only[ac]
   rw[zn (by omega)])
 rw[zp (by simp)] at loop
 unfold zcc
 simp only[decide_true,Bool.not_true,cond_false,aaU,zb]
 rw[sa hp]
 simp only[decide_true,Bool.not_true,cond_false,zb]
 exact loop
theorem lN {d:Int×Int×Unit} (h1:inR d.1) (h2:inR d.2.1):zc3 d=some (eM d):=by
 unfold zc3
 rw[fU h1,fU h2]
 have:=tA h1 h2
 simp only[zb]
 unfold eM
 rw[← this]
 cases catT (Lib.itoa d.1) [46] with
 | none=>rfl
 | some s=>simp only[zb]; cases catT s (Lib.itoa d.2.1)<;>rfl
theorem qc {d:Int×Int×Unit} (h1:inR d.1) (h2:inR d.2.1):zcj d=some (eM d):=by
 unfold zcj
 rw[dG h1.1 h1.2,dG h2.1 h2.2]
 have:=tA h1 h2
 simp only[zb]
 unfold eM
 rw[← this]
 cases catT (Lib.itoa d.1) [46] with
 | none=>rfl
 | some s=>simp only[zb]; cases catT s (Lib.itoa d.2.1)<;>rfl
theorem aaD (s:List UInt8) (h:s≠[46]):zat s [46]=some (bd 46 s 0):=by
 unfold zat zam indexByte
 simp only[ac,zl,List.length_nil]
 rw[zn (by decide),zn (fun e=>h e.symm),zp (by decide)]
 rfl
theorem index_one:zat [46] [46]=some 0:=by
 unfold zat
 simp only[ac,zl,List.length_nil]
 rw[zn (by decide)]; rfl
theorem aa7 {s:List UInt8}{k:Nat} (hi:zat s [46]=some (k:Int)) (hk:k<s.length) (hs:s.length<1000000):zb5 s [46]=some (s.take k,s.drop (k+1),true,()):=by
 unfold zb5 zay
 rw[hi]
 simp only[zb,ac]
 rw[zp (by omega),show (0:Int)=((0:Nat):Int) from rfl,bV (by omega) (by omega)]
 simp only[zb,zl,List.length_nil]
 rw[wrap64 (by omega) (by omega),show (k:Int)+(0+1:Nat)=((k+1:Nat):Int) by omega,dJ (by omega)]
 simp
theorem acW {s:List UInt8} (hi:zat s [46]=some (-1)):zb5 s [46]=some (s,[],false,()):=by
 unfold zb5 zay
 rw[hi]
 simp only[zb,ac]
 rw[zn (by omega)]; rfl
theorem aiv (s:List UInt8) (hs:s.length<1000000):∃ a b ok,zb5 s [46]=some (a,b,ok,())∧a.length≤s.length∧b.length≤s.length:=by
 by_cases h:s=[46]
 · subst h
   exact ⟨_,_,_,aa7 (k:=0) index_one (by simp) (by simp),by simp,by simp⟩
 · have hi:=aaD s h
   rcases uo (c:=46) s 0 with e | ⟨k,e,_,h3⟩
   · rw[e] at hi
     exact ⟨_,_,_,acW hi,Nat.le_refl _,by simp⟩
   · rw[e] at hi
     exact ⟨_,_,_,aa7 hi (by omega) hs,by rw[List.length_take]; omega,by rw[List.length_drop]; omega⟩
theorem z8 (s:List UInt8) (hs:s.length<1000000):zcz s=some ((0,0,()),19,())∨∃ d,bD d=true∧eM d=s∧zcz s=some (d,0,()):=by
 obtain ⟨a,b,ok,hc,ha,hb⟩:=aiv s hs
 obtain ⟨v,e,h1⟩:=jb a (by omega)
 obtain ⟨w,f,h2⟩:=jb b (by omega)
 have hp:zcz s=cond (cond (!ok) true e) (some ((0,0,()),19,())) (cond f (some ((0,0,()),19,())) ((zcy (v,w,())).bind fun r5=>cond (!r5) (some ((0,0,()),19,())) ((zc3 (v,w,())).bind fun r6=>cond (!decide (r6=s)) (some ((0,0,()),19,())) (some ((v,w,()),0,()))))):=by
   unfold zcz
   rw[hc]
   simp only[zb,h1,h2]
   cases ok<;>rfl
 rw[hp]
 cases hk:cond (!ok) true e with
 | true=>exact .inl rfl
 | false =>
   cases f with
   | true=>exact .inl rfl
   | false =>
     rw[gI]
     cases hr:bD (v,w,()) with
     | false=>exact .inl rfl
     | true =>
       have hin:=eH hr
       simp only at hin
       rw[lN ⟨by simp only[]; omega,by simp only[]; omega⟩ ⟨by simp only[]; omega,by simp only[]; omega⟩]
       simp only[zb,cond_false,Bool.not_true]
       by_cases ht:eM (v,w,())=s
       · right
         refine ⟨(v,w,()),hr,ht,?_⟩
         simp[ht]
       · left
         simp[ht]
theorem abZ {s:List UInt8} (hs:s.length<1000000) {d:Int×Int×Unit}:∀ (k i n:Nat),s.length-i≤k→i≤s.length→s.length-i≤7→n<10 ^ (7-(s.length-i)) →
   aJ (kA s) ((n:Int),(i:Int),d,())=(match valM n (s.drop i) with
     | some v=>some (.inl ((v:Int),d,()))
     | none=>some (.inr (.inr ((0,0,()),false,())))):=by
 intro k
 have fin : ∀ (i n : Nat), ¬ i < s.length → aJ (kA s) ((n : Int), (i : Int), d, ()) = (match valM n (s.drop i) with
     | some v=>some (.inl ((v:Int),d,()))
     | none=>some (.inr (.inr ((0,0,()),false,())))):=by
   intro i n hi
   rw[List.drop_eq_nil_of_le (by omega)]
   simp only[valM]
   refine aq ?_
   unfold kA
   rw[ac,zn (by simp only[]; omega)]
 induction k with
 | zero=>intro i n hk hi _ _; exact fin i n (by omega)
 | succ k ih =>
   intro i n hk hi h7 hn
   by_cases hlt:i<s.length
   · have hb:=(s[i]).toNat_lt
     rw[List.drop_eq_getElem_cons hlt]
     simp only[valM]
     have hp:10 ^ (7-(s.length-i))*10=10 ^ (7-(s.length-(i+1))):=by rw[← Nat.pow_succ]; congr 1; omega
     have hp2:10 ^ (7-(s.length-(i+1)))≤10 ^ 7:=Nat.pow_le_pow_right (by omega) (by omega)
     simp only[Nat.reducePow] at hp2
     by_cases hd:48≤s[i].toNat∧s[i].toNat≤57
     · rw[zp hd]
       rw[ay (b:=(((n*10+(s[i].toNat-48):Nat):Int),((i+1:Nat):Int),d,()))]
       · exact ih (i+1) _ (by omega) (by omega) (by omega) (by omega)
       · unfold kA
         rw[ac,zp (by simp only[]; omega)]
         simp only[cj,zg hlt,zb,ac]
         rw[zn (by omega),zn (by omega),wrap64 (n:=10*(n:Int)) (by omega) (by omega),wrap64 (n:=(s[i].toNat:Int)) (by omega) (by omega),wrap64 (n:=10*(n:Int)+s[i].toNat) (by omega) (by omega),wrap64 (n:=10*(n:Int)+s[i].toNat-48) (by omega) (by omega),wrap64 (n:=(i:Int)+1) (by omega) (by omega)]
         congr 3
         omega
     · rw[zn hd]
       refine aq ?_
       unfold kA
       rw[ac,zp (by simp only[]; omega)]
       simp only[cj,zg hlt,zb,ac]
       by_cases h48:(s[i].toNat:Int)<48
       · rw[zp h48]
       · rw[zn h48,zp (by omega)]
   · exact fin i n hlt
theorem zh {s:List UInt8} (hs:s.length<1000000) {r:Nat} (hr:r<16) :
   (¬ (∃ t,s=cY r++t∧1≤t.length∧t.length≤7)∧gP s ((r:Int),(0,0,()),())=some (.inl (((r+1:Nat):Int),(0,0,()),()))) ∨
   ∃ t,s=cY r++t∧1≤t.length∧t.length≤7∧gP s ((r:Int),(0,0,()),())=(match valM 0 t with
     | some v=>some (.inr (((r:Int),(v:Int),()),(bD ((r:Int),(v:Int),())&&decide (eM ((r:Int),(v:Int),())=s)),()))
     | none=>some (.inr ((0,0,()),false,()))):=by
 have l1:=eK 1 r (by simp only[Nat.reducePow,Nat.reduceAdd]; omega)
 have hl:(cY r).length=(Lib.decDigits r).length+1:=by unfold cY; rw[List.length_append]; rfl
 have hdig:zbe ((r:Nat):Int)=some (Lib.decDigits r):=by rw[dG (by omega) (by omega),cX]
 have hcat:catT (Lib.decDigits r) [46]=some (cY r):=aD (by simp only[zl,List.length_nil]; omega)
 have key : gP s ((r : Int), (0, 0, ()), ()) = if (s.length : Int) ≤ ((cY r).length : Int) then some (.inl (((r + 1 : Nat) : Int), (0, 0, ()), ())) else if (s.length : Int) > ((cY r).length : Int) + 7 then some (.inl (((r + 1 : Nat) : Int), (0, 0, ()), ()))
     else (if s.take (cY r).length=cY r then ((aJ (kA s) (0,((cY r).length:Int),(0,0,()),()):Option ((Int×(Int×Int×Unit)×Unit)⊕((Int×(Int×Int×Unit)×Unit)⊕((Int×Int×Unit)×Bool×Unit)))).bind (au fun v7 =>
       (zb3 ((r:Int),v7.1,())).bind fun r8=>cond r8 ((zcj ((r:Int),v7.1,())).bind fun r9=>some (.inr (((r:Int),v7.1,()),(decide (r9=s)),()))) (some (.inr (((r:Int),v7.1,()),false,()))))) else some (.inl (((r+1:Nat):Int),(0,0,()),()))):=by
   unfold gP
   rw[ac,zp (by simp only[]; omega)]
   simp only[hdig,hcat,zb,ac]
   rw[wrap64 (n:=(r:Int)+1) (by omega) (by omega),wrap64 (n:=((cY r).length:Int)+7) (by omega) (by omega),show (r:Int)+1=((r+1:Nat):Int) by omega]
   by_cases c1:(s.length:Int)≤((cY r).length:Int)
   · rw[zp c1,zp c1]
   · rw[zn c1,zn c1]
     by_cases c2:(s.length:Int)>((cY r).length:Int)+7
     · rw[zp c2,zp c2]
     · rw[zn c2,zn c2,show (0:Int)=((0:Nat):Int) from rfl,bV (by omega) (by omega)]
       simp only[zb,List.drop_zero]
       by_cases c3:s.take (cY r).length=cY r
       · rw[zp c3]
         simp only[c3,decide_true,Bool.not_true,cond_false]
       · rw[zn c3]
         simp only[c3,decide_false,Bool.not_false,cond_true]
 by_cases c1:(s.length:Int)≤((cY r).length:Int)
 · left
   refine ⟨?_,by rw[key,zp c1]⟩
   rintro ⟨t,e,h1,_⟩
   rw[e,List.length_append] at c1; omega
 by_cases c2:(s.length:Int)>((cY r).length:Int)+7
 · left
   refine ⟨?_,by rw[key,zn c1,zp c2]⟩
   rintro ⟨t,e,_,h1⟩
   rw[e,List.length_append] at c2; omega
 by_cases c3:s.take (cY r).length=cY r
 · right
   have e:s=cY r++s.drop (cY r).length:=by
     conv=>lhs; rw[← List.take_append_drop (cY r).length s]
     rw[c3]
   refine ⟨s.drop (cY r).length,e,by rw[List.length_drop]; omega,by rw[List.length_drop]; omega,?_⟩
   rw[key,zn c1,zn c2,zp c3]
   have hv:=abZ hs (d:=(0,0,())) (s.length-(cY r).length) (cY r).length 0 (Nat.le_refl _) (by omega) (by omega) (Nat.pow_pos (by omega))
   rw[show ((0:Nat):Int)=0 from rfl] at hv
   rw[hv]
   cases hval:valM 0 (s.drop (cY r).length) with
   | none=>rfl
   | some v =>
     simp only[]
     rw[aH,jq]
     simp only[zb]
     cases hrt:bD ((r:Int),(v:Int),()) with
     | false=>rfl
     | true =>
       have hin:=eH hrt
       simp only at hin
       rw[qc ⟨by simp only[]; omega,by simp only[]; omega⟩ ⟨by simp only[]; omega,by simp only[]; omega⟩]
       simp
 · left
   refine ⟨?_,by rw[key,zn c1,zn c2,zn c3]⟩
   rintro ⟨t,e,_,_⟩
   exact c3 (by rw[e,List.take_left']; rfl)
theorem ahV {s:List UInt8} (hs:s.length<1000000):∀ (k r:Nat),16-r≤k→r≤16→∃ x ok,aJ (gP s) ((r:Int),(0,0,()),())=some (x,ok,())∧(ok=true→bD x=true∧eM x=s):=by
 intro k
 have fin:∀ r:Nat,¬ r<16→∃ x ok,aJ (gP s) ((r:Int),(0,0,()),())=some (x,ok,())∧(ok=true→bD x=true∧eM x=s):=by
   intro r hr
   refine ⟨(0,0,()),false,aq ?_,fun h=>by cases h⟩
   unfold gP
   rw[ac,zn (by simp only[]; omega)]
 induction k with
 | zero=>intro r hk hr; exact fin r (by omega)
 | succ k ih =>
   intro r hk hr
   by_cases hlt:r<16
   · rcases zh hs hlt with ⟨_,h⟩ | ⟨t,_,_,_,h⟩
     · rw[ay h]
       exact ih (r+1) (by omega) (by omega)
     · cases hv:valM 0 t with
       | none =>
         rw[hv] at h
         exact ⟨_,_,aq h,fun h=>by cases h⟩
       | some v =>
         rw[hv] at h
         refine ⟨_,_,aq h,fun h => ?_⟩
         rw[Bool.and_eq_true] at h
         exact ⟨h.1,of_decide_eq_true h.2⟩
   · exact fin r hlt
theorem ao1 {s:List UInt8} (hs:s.length<1000000) {d:Int×Int×Unit} (hr:bD d=true) (ht:eM d=s):zb0 s=some (d,true,()):=by
 obtain ⟨r0,n0,e,h1,h2,h3,h4⟩:=nk hr
 have l2:=eK 6 n0 (by simp only[Nat.reducePow,Nat.reduceAdd]; omega)
 have p2:=gd n0
 have hst:=h4.symm.trans ht
 have main:∀ (k r:Nat),r0-r≤k→r≤r0→aJ (gP s) ((r:Int),(0,0,()),())=some (d,true,()):=by
   intro k
   have at0:aJ (gP s) ((r0:Int),(0,0,()),())=some (d,true,()):=by
     rcases zh hs (r:=r0) (by omega) with ⟨h,_⟩ | ⟨t,e1,_,_,h⟩
     · exact absurd ⟨Lib.decDigits n0,by rw[← hst]; unfold cY; simp,by omega,by omega⟩ h
     · have : t = Lib.decDigits n0 := by
         have e2:Lib.decDigits r0++46::t=Lib.decDigits r0++46::Lib.decDigits n0:=by rw[hst,e1]; unfold cY; simp
         exact (ui e2).2
       subst this
       rw[fc n0] at h
       simp only[] at h
       rw[← e,hr,ht] at h
       simp only[decide_true,Bool.and_self] at h
       exact aq h
   induction k with
   | zero =>
     intro r hk hle
     have:r=r0:=by omega
     subst this; exact at0
   | succ k ih =>
     intro r hk hle
     by_cases hrr:r=r0
     · subst hrr; exact at0
     · rcases zh hs (r:=r) (by omega) with ⟨_,h⟩ | ⟨t,e1,_,_,h⟩
       · rw[ay h]; exact ih (r+1) (by omega) (by omega)
       · exfalso
         have e2:Lib.decDigits r++46::t=Lib.decDigits r0++46::Lib.decDigits n0:=by rw[hst,e1]; unfold cY; simp
         exact hrr (ui e2).1
 exact main r0 0 (by omega) (by omega)
end Go.Proofs.YtmklghkhfimfgaaGreatDoor.Q
