import Derived.Test.YtmklghkhfimfgaaGreatDoorW
import Derived.Test.YtmklghkhfimfgaaGreatDoorT14
import Derived.Test.YtmklghkhfimfgaaGreatDoorT32
import Derived.Lib.AtoiAllCases
set_option linter.unusedVariables false
set_option linter.unusedSimpArgs false
set_option maxRecDepth 100000
namespace Go.Proofs.YtmklghkhfimfgaaGreatDoor.Q
open Go.EM Go.TY Go.Proofs Go.Proofs.YtmklghkhfimfgaaGreatDoor.Y
def aC:List UInt8→Int×Nat
 | []=>(0,0)
 | a::t =>
   if a.toNat<128 then (a.toNat,1)
   else if 194≤a.toNat∧a.toNat<224 then (match t with
     | b::_=>if 128≤b.toNat∧b.toNat≤191 then (64*((a.toNat:Int)-192)+b.toNat-128,2) else (0,0)
     | _=>(0,0))
   else if 224≤a.toNat∧a.toNat<240 then (match t with
     | b :: c :: _ => if (128 ≤ b.toNat ∧ b.toNat ≤ 191) ∧ (128 ≤ c.toNat ∧ c.toNat ≤ 191) then
         let r:Int:=64*(64*((a.toNat:Int)-224)+b.toNat-128)+c.toNat-128
         if r<2048∨(55296≤r∧r≤57343) then (0,0) else (r,3)
       else (0,0)
     | _=>(0,0))
   else if 240≤a.toNat∧a.toNat<245 then (match t with
     | b :: c :: d :: _ => if (128 ≤ b.toNat ∧ b.toNat ≤ 191) ∧ (128 ≤ c.toNat ∧ c.toNat ≤ 191) ∧ (128 ≤ d.toNat ∧ d.toNat ≤ 191) then
         let r:Int:=64*(64*(64*((a.toNat:Int)-240)+b.toNat-128)+c.toNat-128)+d.toNat-128
         if r<65536∨1114111<r then (0,0) else (r,4)
       else (0,0)
     | _=>(0,0))
   else (0,0)
theorem lG {s:List UInt8}{q:Int×Int×Int×Unit}{x:Int}{i:Nat}{b:UInt8} (hi:(i:Int)<q.2.1) (hi4:i≤4) (h:s[i]? = some b) (hx:0≤x) (hx2:x≤100000000) :
   fg s q (x,(i:Int),())=if 128≤b.toNat∧b.toNat≤191 then some (.inl (64*x+b.toNat-128,((i+1:Nat):Int),())) else some (.inr (.inr (0,0,()))):=by
 have hb:b.toNat<256:=b.toNat_lt
 simp only[fg,iR,h,zb,ah,zp hi]
 rw[wrap64 (n:=64*x) (by omega) (by omega),wrap64 (n:=(b.toNat:Int)) (by omega) (by omega),wrap64 (n:=64*x+b.toNat) (by omega) (by omega),wrap64 (n:=64*x+b.toNat-128) (by omega) (by omega),wrap64 (n:=(i:Int)+1) (by omega) (by omega)]
 by_cases h1:b.toNat<128
 · rw[zp (by omega),zn (by omega)]
 · rw[zn (by omega)]
   by_cases h2:b.toNat>191
   · rw[zp (by omega),zn (by omega)]
   · rw[zn (by omega),zp (by omega)]; rfl
theorem w9 {s:List UInt8}{q:Int×Int×Int×Unit}{x:Int}{i:Nat} (hi:¬ (i:Int)<q.2.1):fg s q (x,(i:Int),())=some (.inr (.inl (x,()))):=by
 simp only[fg,ah,zn hi]
theorem aaD {a b:UInt8}{t:List UInt8}{l:Int}{c x:Int} (hx:0≤x) (hx2:x≤1000) :
   aP (fg (a::b::t) (c,2,l,())) (x,1,())=if 128≤b.toNat∧b.toNat≤191 then some (.inl (64*x+b.toNat-128,())) else some (.inr (0,0,())):=by
 have h:=lG (s:=a::b::t) (q:=(c,2,l,())) (i:=1) (b:=b) (x:=x) (by simp) (by omega) rfl hx (by omega)
 by_cases hb:128≤b.toNat∧b.toNat≤191
 · rw[zp hb] at h ⊢
   exact (aF h).trans (aB (w9 (by simp)))
 · rw[zn hb] at h ⊢
   exact aB h
theorem aaC {a b d:UInt8}{t:List UInt8}{l:Int}{c x:Int} (hx:0≤x) (hx2:x≤1000) :
   aP (fg (a::b::d::t) (c,3,l,())) (x,1,())=if (128≤b.toNat∧b.toNat≤191)∧(128≤d.toNat∧d.toNat≤191) then some (.inl (64*(64*x+b.toNat-128)+d.toNat-128,())) else some (.inr (0,0,())):=by
 have hb':=b.toNat_lt
 have h:=lG (s:=a::b::d::t) (q:=(c,3,l,())) (i:=1) (b:=b) (x:=x) (by simp) (by omega) rfl hx (by omega)
 by_cases hb:128≤b.toNat∧b.toNat≤191
 · rw[zp hb] at h
   have h2:=lG (s:=a::b::d::t) (q:=(c,3,l,())) (i:=2) (b:=d) (x:=64*x+b.toNat-128) (by simp) (by omega) rfl (by omega) (by omega)
   by_cases hd:128≤d.toNat∧d.toNat≤191
   · rw[zp hd] at h2
     rw[zp ⟨hb,hd⟩]
     exact ((aF h).trans (aF h2)).trans (aB (w9 (by simp)))
   · rw[zn hd] at h2
     rw[zn (fun e=>hd e.2)]
     exact (aF h).trans (aB h2)
 · rw[zn hb] at h
   rw[zn (fun e=>hb e.1)]
   exact aB h
theorem aaB {a b d e:UInt8}{t:List UInt8}{l:Int}{c x:Int} (hx:0≤x) (hx2:x≤1000) :
   aP (fg (a::b::d::e::t) (c,4,l,())) (x,1,())=if (128≤b.toNat∧b.toNat≤191)∧(128≤d.toNat∧d.toNat≤191)∧(128≤e.toNat∧e.toNat≤191) then some (.inl (64*(64*(64*x+b.toNat-128)+d.toNat-128)+e.toNat-128,())) else some (.inr (0,0,())):=by
 have hb':=b.toNat_lt
 have hd':=d.toNat_lt
 have h:=lG (s:=a::b::d::e::t) (q:=(c,4,l,())) (i:=1) (b:=b) (x:=x) (by simp) (by omega) rfl hx (by omega)
 by_cases hb:128≤b.toNat∧b.toNat≤191
 · rw[zp hb] at h
   have h2:=lG (s:=a::b::d::e::t) (q:=(c,4,l,())) (i:=2) (b:=d) (x:=64*x+b.toNat-128) (by simp) (by omega) rfl (by omega) (by omega)
   by_cases hd:128≤d.toNat∧d.toNat≤191
   · rw[zp hd] at h2
     have h3:=lG (s:=a::b::d::e::t) (q:=(c,4,l,())) (i:=3) (b:=e) (x:=64*(64*x+b.toNat-128)+d.toNat-128) (by simp) (by omega) rfl (by omega) (by omega)
     by_cases he:128≤e.toNat∧e.toNat≤191
     · rw[zp he] at h3
       rw[zp ⟨hb,hd,he⟩]
       exact (((aF h).trans (aF h2)).trans (aF h3)).trans (aB (w9 (by simp)))
     · rw[zn he] at h3
       rw[zn (fun q=>he q.2.2)]
       exact ((aF h).trans (aF h2)).trans (aB h3)
   · rw[zn hd] at h2
     rw[zn (fun q=>hd q.2.1)]
     exact (aF h).trans (aB h2)
 · rw[zn hb] at h
   rw[zn (fun q=>hb q.1)]
   exact aB h
theorem abJ (s:List UInt8):zci s=some ((aC s).1,((aC s).2:Int),()):=by
 cases s with
 | nil=>simp[zci,aC]
 | cons a t =>
   have ha:a.toNat<256:=a.toNat_lt
   have h0:¬ (((a::t).length:Int)=0):=by simp only[zl]; omega
   have hi:atI (a::t) 0=some a:=by simp[atI]
   unfold zci
   simp only[ah,zn h0,hi,zb,aa8,aaO,af5]
   rw[wrap64 (n:=(a.toNat:Int)) (by omega) (by omega)]
   by_cases c1:a.toNat<128
   · rw[zp (by omega)]
     simp only[bT,aC,zp c1]; rfl
   rw[zn (by omega)]
   by_cases c2:194≤a.toNat∧a.toNat<224
   · rw[zp (by omega),wrap64 (by omega) (by omega)]
     simp only[aK]
     match t with
     | []=>simp[aC,c1,c2]
     | b::t =>
       rw[zn (by simp only[zl]; omega),aaD (by omega) (by omega)]
       by_cases hb:128≤b.toNat∧b.toNat≤191
       · rw[zp hb]
         simp only[aK]
         rw[iL,zn (by omega)]
         simp only[aC,c1,c2,hb,if_true,if_false,and_self]; rfl
       · rw[zn hb]
         simp only[bT]
         simp[aC,c1,c2,hb]
   rw[zn (by omega)]
   by_cases c3:224≤a.toNat∧a.toNat<240
   · rw[zp (by omega),wrap64 (by omega) (by omega)]
     simp only[aK]
     match t with
     | []=>simp[aC,c1,c2,c3]
     | [b]=>simp[aC,c1,c2,c3]
     | b::c::t =>
       have hb:=b.toNat_lt
       have hc:=c.toNat_lt
       rw[zn (by simp only[zl]; omega),aaC (by omega) (by omega)]
       by_cases hb':(128≤b.toNat∧b.toNat≤191)∧(128≤c.toNat∧c.toNat≤191)
       · rw[zp hb']
         simp only[aK]
         rw[iL]
         simp only[aC,c1,c2,c3,hb',if_true,if_false,and_self]
         by_cases hr:64*(64*((a.toNat:Int)-224)+b.toNat-128)+c.toNat-128<2048∨(55296≤64*(64*((a.toNat:Int)-224)+b.toNat-128)+c.toNat-128∧64*(64*((a.toNat:Int)-224)+b.toNat-128)+c.toNat-128≤57343)
         · rw[zp (by omega),zp hr]; rfl
         · rw[zn (by omega),zn hr]; rfl
       · rw[zn hb']
         simp only[bT]
         simp[aC,c1,c2,c3,hb']
   rw[zn (by omega)]
   by_cases c4:240≤a.toNat∧a.toNat<245
   · rw[zp (by omega),wrap64 (by omega) (by omega)]
     simp only[aK]
     match t with
     | []=>simp[aC,c1,c2,c3,c4]
     | [b]=>simp[aC,c1,c2,c3,c4]
     | [b,c]=>simp[aC,c1,c2,c3,c4]
     | b::c::d::t =>
       have hb:=b.toNat_lt
       have hc:=c.toNat_lt
       have hd:=d.toNat_lt
       rw[zn (by simp only[zl]; omega),aaB (by omega) (by omega)]
       by_cases hb':(128≤b.toNat∧b.toNat≤191)∧(128≤c.toNat∧c.toNat≤191)∧(128≤d.toNat∧d.toNat≤191)
       · rw[zp hb']
         simp only[aK]
         rw[iL]
         simp only[aC,c1,c2,c3,c4,hb',if_true,if_false,and_self]
         by_cases hr:64*(64*(64*((a.toNat:Int)-240)+b.toNat-128)+c.toNat-128)+d.toNat-128<65536∨1114111<64*(64*(64*((a.toNat:Int)-240)+b.toNat-128)+c.toNat-128)+d.toNat-128
         · rw[zp (by omega),zp hr]; rfl
         · rw[zn (by omega),zn hr]; rfl
       · rw[zn hb']
         simp only[bT]
         simp[aC,c1,c2,c3,c4,hb']
   rw[zn (by omega)]
   simp only[bT]
   simp[aC,c1,c2,c3,c4]
theorem nR (s:List UInt8):(aC s).2≤s.length:=by
 unfold aC
 repeat' split
 all_goals (try simp only[])
 all_goals (try split)
 all_goals (try simp only[zl])
 all_goals omega
theorem fB (s:List UInt8):0≤(aC s).1∧(aC s).1≤1114111:=by
 unfold aC
 repeat' split
 all_goals (try simp only[])
 all_goals (try split)
 all_goals (try simp only[])
 all_goals omega
def bN (s:List UInt8):Option (List Int) :=
 if h:s=[] then some []
 else if h0:(aC s).2=0 then none
 else (bN (s.drop (aC s).2)).map fun l=>(aC s).1::l
termination_by s.length
decreasing_by
 have:s.length≠0:=fun e=>h (List.eq_nil_of_length_eq_zero e)
 simp only[List.length_drop]; omega
theorem dz:bN []=some []:=by rw[bN,dif_pos rfl]
theorem eD {s:List UInt8} (h:s≠[]) (h0:(aC s).2=0):bN s=none:=by rw[bN,dif_neg h,dif_pos h0]
theorem dG {s:List UInt8} (h:s≠[]) (h0:(aC s).2≠0):bN s=(bN (s.drop (aC s).2)).map fun l=>(aC s).1::l:=by rw[bN,dif_neg h,dif_neg h0]
def cj (s:List UInt8) (out:List Int):List Int×Bool×Unit :=
 match bN s with
 | some m=>(out++m,true,())
 | none=>([],false,())
theorem tE {s:List UInt8} (hs:s.length<4294967296):∀ (k i:Nat) (l:List Int),s.length-i≤k→i≤s.length→l.length≤i→aP (lC s) ((i:Int),l,())=some (cj (s.drop i) l):=by
 intro k
 have fin:∀ (i:Nat) (l:List Int),¬ i<s.length→aP (lC s) ((i:Int),l,())=some (cj (s.drop i) l):=by
   intro i l hi
   rw[List.drop_eq_nil_of_le (by omega),aB (x:=(l,true,())) (by simp only[lC,ah]; rw[zn (by omega)])]
   simp[cj,dz]
 induction k with
 | zero=>intro i l hk hi hl; exact fin i l (by omega)
 | succ k ih =>
   intro i l hk hi hl
   by_cases hlt:i<s.length
   · have hne:s.drop i≠[]:=fun e=>by have:=congrArg List.length e; simp at this; omega
     have hle:=nR (s.drop i)
     simp only[List.length_drop] at hle
     by_cases h0:(aC (s.drop i)).2=0
     · rw[aB (x:=([],false,()))]
       · simp only[cj,eD hne h0]
       · simp only[lC,ah]
         rw[zp (by omega),eh (by omega)]
         simp only[zb,abJ]
         rw[zp (by omega)]
     · rw[aF (b:=(((i+(aC (s.drop i)).2:Nat):Int),l++[(aC (s.drop i)).1],()))]
       · rw[ih _ _ (by omega) (by omega) (by simp; omega)]
         simp only[cj,dG hne h0,List.drop_drop]
         cases bN (s.drop (i+(aC (s.drop i)).2))<;>simp
       · simp only[lC,ah]
         rw[zp (by omega),eh (by omega)]
         simp only[zb,abJ]
         rw[zn (by omega),d5 (by simp; omega)]
         simp only[zb]
         rw[wrap64 (by omega) (by omega)]
         simp
   · exact fin i l hlt
theorem xk {s:List UInt8} (hs:s.length<4294967296):zbl s=some (cj s []):=by
 have:=tE hs s.length 0 [] (by omega) (by omega) (by simp)
 simpa [zbl] using this
def decN (l:List UInt8):Nat×Nat:=if (aC l).2=0 then (65533,1) else ((aC l).1.toNat,(aC l).2)
theorem get_at {s:List UInt8}{i:Nat}{b:UInt8} (h:s[i]? = some b):(⟨s.toArray⟩:ByteArray).get! i=b:=by
 have:(⟨s.toArray⟩:ByteArray).get! i=s.toArray[i]! := rfl
 rw[this]
 simp[h]
theorem agk {s:List UInt8}{i:Nat} (h:s.length≤i):decide (i<(⟨s.toArray⟩:ByteArray).size)=false:=by
 have:(⟨s.toArray⟩:ByteArray).size=s.length:=by simp[ByteArray.size]
 rw[this]; simp; omega
theorem aa1 {s:List UInt8}{i:Nat} (h:i<s.length):decide (i<(⟨s.toArray⟩:ByteArray).size)=true:=by
 have:(⟨s.toArray⟩:ByteArray).size=s.length:=by simp[ByteArray.size]
 rw[this]; simp; omega
theorem drop_at {s t:List UInt8}{i k:Nat}{b:UInt8} (h:s.drop i=t) (hb:t[k]? = some b):s[i+k]? = some b:=by
 rw[← h,List.getElem?_drop] at hb; exact hb
theorem aaX {s t:List UInt8}{i:Nat} (h:s.drop i=t) (hi:i≤s.length):s.length=i+t.length:=by
 rw[← h,List.length_drop]; omega
def decV (b0:Nat) (b1 b2 b3:Option Nat):Nat×Nat :=
 let cont (b:Option Nat):Bool:=match b with
   | some b=>b/64==2
   | none=>false
 if b0<0x80 then (b0,1)
 else if b0/32==6&&cont b1 then
   let c:=(b0%32)*64+b1.getD 0%64
   if c≥0x80 then (c,2) else (65533,1)
 else if b0/16==14&&cont b1&&cont b2 then
   let c:=(b0%16)*4096+(b1.getD 0%64)*64+b2.getD 0%64
   if c≥0x800&&Utf8.valid c then (c,3) else (65533,1)
 else if b0/8==30&&cont b1&&cont b2&&cont b3 then
   let c:=(b0%8)*262144+(b1.getD 0%64)*4096+(b2.getD 0%64)*64+b3.getD 0%64
   if c≥0x10000&&Utf8.valid c then (c,4) else (65533,1)
 else (65533,1)
theorem aaY {s t:List UInt8}{i:Nat}{a:UInt8} (h:s.drop i=a::t) (hi:i≤s.length):Utf8.decode ⟨s.toArray⟩ i=decV a.toNat (t[0]?.map (·.toNat)) (t[1]?.map (·.toNat)) (t[2]?.map (·.toNat)):=by
 have hlen:=aaX h hi
 have g0:(⟨s.toArray⟩:ByteArray).get! (i+0)=a:=get_at (drop_at h rfl)
 have gk:∀ k b,t[k]? = some b→(⟨s.toArray⟩:ByteArray).get! (i+(k+1))=b:=fun k b hb=>get_at (drop_at h (by simpa using hb))
 have cy:∀ k b,t[k]? = some b→decide (i+(k+1)<(⟨s.toArray⟩:ByteArray).size)=true:=fun k b hb=>aa1 (by
   rcases Nat.lt_or_ge k t.length with h' | h'
   · simp only[zl] at hlen; omega
   · rw[List.getElem?_eq_none h'] at hb; cases hb)
 have cn:∀ k,t[k]? = none→decide (i+(k+1)<(⟨s.toArray⟩:ByteArray).size)=false:=fun k hb=>agk (by
   rw[List.getElem?_eq_none_iff] at hb
   simp only[zl] at hlen; omega)
 unfold Utf8.decode decV
 simp only[g0]
 have e:Utf8.runeError=65533:=rfl
 cases h1:t[0]? with
 | none =>
   have c1:=cn 0 h1
   have h2:t[1]? = none:=by rw[List.getElem?_eq_none_iff] at h1 ⊢; omega
   have h3:t[2]? = none:=by rw[List.getElem?_eq_none_iff] at h1 ⊢; omega
   simp only[Nat.zero_add] at c1
   simp[c1,h2,h3,e]
 | some b =>
   have c1:=cy 0 b h1
   have d1:=gk 0 b h1
   simp only[Nat.zero_add] at c1 d1
   cases h2:t[1]? with
   | none =>
     have c2:=cn 1 h2
     have h3:t[2]? = none:=by rw[List.getElem?_eq_none_iff] at h2 ⊢; omega
     simp only[Nat.reduceAdd] at c2
     simp[c1,c2,d1,h3,e]
   | some c =>
     have c2:=cy 1 c h2
     have d2:=gk 1 c h2
     simp only[Nat.reduceAdd] at c2 d2
     cases h3:t[2]? with
     | none =>
       have c3:=cn 2 h3
       simp only[Nat.reduceAdd] at c3
       simp[c1,c2,c3,d1,d2,e]
     | some d =>
       have c3:=cy 2 d h3
       have d3:=gk 2 d h3
       simp only[Nat.reduceAdd] at c3 d3
       simp[c1,c2,c3,d1,d2,d3,e]
theorem agh {b:Nat}:(b/64==2)=decide (128≤b∧b≤191):=by
 rw[Bool.eq_iff_iff]; simp; omega
theorem amD (a:UInt8) (t:List UInt8):decV a.toNat (t[0]?.map (·.toNat)) (t[1]?.map (·.toNat)) (t[2]?.map (·.toNat))=decN (a::t):=by
 have ha:=a.toNat_lt
 unfold decV decN
 by_cases c1:a.toNat<128
 · simp[aC,c1]
 have c1':¬ a.toNat<0x80:=c1
 simp only[zn c1']
 by_cases c2:a.toNat/32=6
 · have e2:(a.toNat/32==6)=true:=by simp[c2]
   match t with
   | [] =>
     have e3:¬ a.toNat/16=14:=by omega
     have e4:¬ a.toNat/8=30:=by omega
     have d3:¬ (224≤a.toNat∧a.toNat<240):=by omega
     have d4:¬ (240≤a.toNat∧a.toNat<245):=by omega
     simp[aC,c1,e3,e4,d3,d4]
   | b::t =>
     have hb:=b.toNat_lt
     have e3:¬ a.toNat/16=14:=by omega
     have e4:¬ a.toNat/8=30:=by omega
     have d3:¬ (224≤a.toNat∧a.toNat<240):=by omega
     have d4:¬ (240≤a.toNat∧a.toNat<245):=by omega
     simp only[List.getElem?_cons_zero,Option.map_some,e2,agh,Bool.true_and,Option.getD_some]
     by_cases hb':128≤b.toNat∧b.toNat≤191
     · rw[zp (by simpa using hb')]
       by_cases c3:194≤a.toNat
       · rw[zp (by omega)]
         have q:194≤a.toNat∧a.toNat<224:=by omega
         simp only[aC,zn c1,zp q,zp hb']
         rw[zn (by omega)]
         congr 1
         omega
       · rw[zn (by omega)]
         have q:¬ (194≤a.toNat∧a.toNat<224):=by omega
         simp[aC,c1,q,d3,d4]
     · rw[zn (by simpa using hb')]
       have x3:(a.toNat/16==14)=false:=by simp[e3]
       have x4:(a.toNat/8==30)=false:=by simp[e4]
       simp only[x3,x4,Bool.false_and,Bool.false_eq_true,if_false]
       by_cases c3:194≤a.toNat∧a.toNat<224
       · simp[aC,c1,c3,hb']
       · simp[aC,c1,c3,d3,d4]
 have e2:(a.toNat/32==6)=false:=by simp[c2]
 simp only[e2,Bool.false_and,Bool.false_eq_true,if_false]
 have d2:¬ (194≤a.toNat∧a.toNat<224):=by omega
 by_cases c3:a.toNat/16=14
 · have e3:(a.toNat/16==14)=true:=by simp[c3]
   have d3:(224≤a.toNat∧a.toNat<240):=by omega
   have x4:(a.toNat/8==30)=false:=by simp; omega
   simp only[e3,x4,Bool.true_and,Bool.false_and,Bool.false_eq_true,if_false]
   match t with
   | []=>simp[aC,c1,d2,d3]
   | [b]=>simp[aC,c1,d2,d3]
   | b::c::t =>
     have hb:=b.toNat_lt
     have hc:=c.toNat_lt
     simp only[List.getElem?_cons_zero,List.getElem?_cons_succ,Option.map_some,agh,Option.getD_some]
     by_cases hb':(128≤b.toNat∧b.toNat≤191)∧(128≤c.toNat∧c.toNat≤191)
     · rw[zp (by simp only[Bool.and_eq_true,decide_eq_true_eq]; exact hb')]
       simp only[aC,zn c1,zn d2,zp d3,zp hb']
       by_cases hr:64*(64*((a.toNat:Int)-224)+b.toNat-128)+c.toNat-128<2048∨(55296≤64*(64*((a.toNat:Int)-224)+b.toNat-128)+c.toNat-128∧64*(64*((a.toNat:Int)-224)+b.toNat-128)+c.toNat-128≤57343)
       · rw [zp hr, zn (by
           simp only[Utf8.valid,Bool.and_eq_true,Bool.or_eq_true,decide_eq_true_eq]; omega)]
         rfl
       · rw [zn hr, zp (by
           simp only[Utf8.valid,Bool.and_eq_true,Bool.or_eq_true,decide_eq_true_eq]; omega),zn (by simp)]
         congr 1
         omega
     · rw[zn (by simp only[Bool.and_eq_true,decide_eq_true_eq]; exact hb')]
       simp only[aC,zn c1,zn d2,zp d3,zn hb']
       rfl
 have e3:(a.toNat/16==14)=false:=by simp[c3]
 have d3:¬ (224≤a.toNat∧a.toNat<240):=by omega
 simp only[e3,Bool.false_and,Bool.false_eq_true,if_false]
 by_cases c4:a.toNat/8=30
 · have e4:(a.toNat/8==30)=true:=by simp[c4]
   simp only[e4,Bool.true_and]
   match t with
   | []=>simp[aC,c1,d2,d3]
   | [b]=>simp[aC,c1,d2,d3]
   | [b,c]=>simp[aC,c1,d2,d3]
   | b::c::d::t =>
     have hb:=b.toNat_lt
     have hc:=c.toNat_lt
     have hd:=d.toNat_lt
     simp only[List.getElem?_cons_zero,List.getElem?_cons_succ,Option.map_some,agh,Option.getD_some]
     by_cases hb':(128≤b.toNat∧b.toNat≤191)∧(128≤c.toNat∧c.toNat≤191)∧(128≤d.toNat∧d.toNat≤191)
     · rw[zp (by simp only[Bool.and_eq_true,decide_eq_true_eq]; exact ⟨⟨hb'.1,hb'.2.1⟩,hb'.2.2⟩)]
       by_cases d4:(240≤a.toNat∧a.toNat<245)
       · simp only[aC,zn c1,zn d2,zn d3,zp d4,zp hb']
         by_cases hr:64*(64*(64*((a.toNat:Int)-240)+b.toNat-128)+c.toNat-128)+d.toNat-128<65536∨1114111<64*(64*(64*((a.toNat:Int)-240)+b.toNat-128)+c.toNat-128)+d.toNat-128
         · rw [zp hr, zn (by
             simp only[Utf8.valid,Bool.and_eq_true,Bool.or_eq_true,decide_eq_true_eq]; omega)]
           rfl
         · rw [zn hr, zp (by
             simp only[Utf8.valid,Bool.and_eq_true,Bool.or_eq_true,decide_eq_true_eq]; omega),zn (by simp)]
           congr 1
           omega
       · rw [zn (by
           simp only[Utf8.valid,Bool.and_eq_true,Bool.or_eq_true,decide_eq_true_eq]; omega)]
         simp only[aC,zn c1,zn d2,zn d3,zn d4]
         rfl
     · rw[zn (by simp only[Bool.and_eq_true,decide_eq_true_eq]; exact fun e=>hb' ⟨e.1.1,e.1.2,e.2⟩)]
       by_cases d4:(240≤a.toNat∧a.toNat<245)
       · simp only[aC,zn c1,zn d2,zn d3,zp d4,zn hb']
         rfl
       · simp only[aC,zn c1,zn d2,zn d3,zn d4]
         rfl
 · have e4:(a.toNat/8==30)=false:=by simp[c4]
   have d4:¬ (240≤a.toNat∧a.toNat<245):=by omega
   simp[e4,aC,c1,d2,d3,d4]
theorem decode_N {s:List UInt8}{i:Nat} (hi:i<s.length):Utf8.decode ⟨s.toArray⟩ i=decN (s.drop i):=by
 cases h:s.drop i with
 | nil=>have:=congrArg List.length h; simp at this; omega
 | cons a t=>rw[aaY h (by omega),amD]
def cmpI (a b:Int):Int:=if a<b then -1 else if a>b then 1 else 0
theorem pH (a b:Int):zav a b=some (cmpI a b):=by
 unfold zav za0 cmpI
 simp only[zb,decide_true,Bool.not_true,cond_false,ah]
 by_cases h1:a<b
 · simp[h1]
 · by_cases h2:a>b<;>simp[h1,h2]
def orI (a b:Int):Int:=if a=0 then b else a
theorem or_t (a b:Int):zcl [a,b]=some (orI a b):=by
 unfold zcl orI
 by_cases h1:a=0
 · rw[zp h1]
   have t0:iV [a,b] (0,())=some (.inl (1,())):=by
     unfold iV
     simp only[ah,zl,List.length_nil]
     rw[zp (by decide)]
     simp[atI,h1,wrap64]
   rw[aF t0]
   by_cases h2:b=0
   · have t1 : iV [a, b] (1, ()) = some (.inl (2, ())) := by
       unfold iV
       simp only[ah,zl,List.length_nil]
       rw[zp (by decide)]
       simp[atI,h2,wrap64]
     rw[aF t1,h2]
     refine aB ?_
     unfold iV
     simp only[ah,zl,List.length_nil]
     rw[zn (by decide)]
   · refine aB ?_
     unfold iV
     simp only[ah,zl,List.length_nil]
     rw[zp (by decide)]
     simp[atI,h2]
 · rw[zn h1]
   refine aB ?_
   unfold iV
   simp only[ah,zl,List.length_nil]
   rw[zp (by decide)]
   simp[atI,h1]
def cmpD (a b:Int×Int×Unit):Int:=orI (cmpI a.1 b.1) (cmpI a.2.1 b.2.1)
def bI (s:List UInt8):List Int:=s.map fun b=>(b.toNat:Int)
theorem ib {s t:List UInt8}:bI (s++t)=bI s++bI t:=by simp[bI]
theorem ji {s:List UInt8}:(bI s).length=s.length:=by simp[bI]
theorem agr {s:List UInt8}:((bI s).map fun n=>UInt8.ofNat n.toNat)=s:=by
 unfold bI
 rw[List.map_map]
 conv=>rhs; rw[← List.map_id s]
 congr 1
 funext b
 simp
theorem abv {n:Int}:IntKind.wrap .u8 n=n%256:=by
 simp[IntKind.wrap,IntKind.signed,IntKind.bits]
theorem ct {c:Int}{v:Bool×Unit×Unit}{w:List Int} (hw:w.length<4294967000):zae c v w=some (false,(true,(),()),w++[c],()):=by
 unfold zae
 have h:zaf v w=some ((),(true,(),()),w,()):=by
   obtain ⟨b,_,_⟩:=v
   unfold zaf
   cases b<;>rfl
 rw[h]
 simp only[zb]
 rw[d5 (by simp; omega)]
 rfl
theorem mZ {v:Bool×Unit×Unit}{s:List UInt8} (hs:s.length<4294967296):zai v (bI s)=some (s,v,()):=by
 unfold zai
 cases s with
 | nil=>rfl
 | cons b s =>
   have:(bI (b::s)).isEmpty=false:=rfl
   rw[this,cond_false,agr]
   have:ol 0 (bI (b::s)).length ((bI (b::s)).length:Int)=some ():=by
     unfold ol
     rw[ji,zp ⟨rfl,rfl,by simp only[zl]; omega,by omega⟩]
   rw[this]; rfl
theorem qN {n k b:Nat} (hb:0<b) (h:n<b ^ (k+1)):n/b<b ^ k:=by
 rw[Nat.div_lt_iff_lt_mul hb]
 rw[Nat.pow_succ] at h; exact h
theorem aoz {a b:Nat} (hb:b≠0) (ha:a<9223372036854775808):quoT .i64 (a:Int) (b:Int)=some ((a/b:Nat):Int):=by
 unfold quoT
 rw[zn (by omega)]
 have:((a:Int).tdiv (b:Int))=((a/b:Nat):Int):=by rw[Int.tdiv_eq_ediv_of_nonneg (by omega)]; norm_cast
 rw[this]
 have hle:a/b≤a:=Nat.div_le_self a b
 generalize a/b=q at hle
 rw[wrap64 (by omega) (by omega)]
theorem aoy {a b:Nat} (hb:b≠0):remT (a:Int) (b:Int)=some ((a%b:Nat):Int):=by
 unfold remT
 rw[zn (by omega)]
 have:((a:Int).tmod (b:Int))=((a%b:Nat):Int):=by rw[Int.tmod_eq_emod_of_nonneg (by omega)]; norm_cast
 rw[this]
theorem cJ {u:Nat} (h:u<10):Lib.decDigits u=[UInt8.ofNat (48+u)]:=by rw[Lib.decDigits,dif_pos h]
theorem gB {u:Nat} (h:¬ u<10):Lib.decDigits u=Lib.decDigits (u/10)++[UInt8.ofNat (48+u%10)]:=by rw[Lib.decDigits,dif_neg h]
theorem gA:∀ (k u:Nat),u<10 ^ k→(Lib.decDigits u).length≤k+1
 | 0,u,h=>by rw[cJ (by simp at h; omega)]; simp
 | k+1,u,h=>by
   by_cases hu:u<10
   · rw[cJ hu]; simp
   · rw[gB hu,List.length_append]
     have:=gA k (u/10) (qN (by omega) h)
     simp only[zl,List.length_nil]; omega
theorem gT {n:Int} (h : -9223372036854775808≤n) (h2:n≤9223372036854775807):(Lib.itoa n).length≤21:=by
 unfold Lib.itoa
 split
 · have:=gA 19 n.natAbs (by simp only[Nat.reducePow]; omega)
   rw[zl]; omega
 · have:=gA 19 n.toNat (by simp only[Nat.reducePow]; omega)
   omega
theorem yW:∀ x:Fin 10,(([48,49,50,51,52,53,54,55,56,57]:List UInt8).take (x.val+1)).drop x.val=[UInt8.ofNat (48+x.val)]:=by decide
theorem yV {n:Nat} (h:n<10):subI ([48,49,50,51,52,53,54,55,56,57]:List UInt8) (n:Int) (IntKind.wrap .i64 ((n:Int)+1))=some [UInt8.ofNat (48+n)]:=by
 rw[wrap64 (by omega) (by omega),show (n:Int)+1=((n+1:Nat):Int) by omega,cZ (by omega) (by simp; omega),yW ⟨n,h⟩]
theorem amk {a:Int} (h : -9223372036854775808≤a) (h2:a<0):quoT .i64 a 10=some (-((a.natAbs/10:Nat):Int)):=by
 unfold quoT
 rw[zn (by omega)]
 have:a.tdiv 10 = -((a.natAbs/10:Nat):Int):=by
   obtain ⟨n,rfl⟩:∃ n:Nat,a = -(n:Int):=⟨a.natAbs,by omega⟩
   rw[Int.neg_tdiv,Int.natAbs_neg,Int.natAbs_natCast,Int.tdiv_eq_ediv_of_nonneg (by omega)]
   norm_cast
 rw[this,wrap64 (by omega) (by omega)]
theorem amh {a:Int} (h2:a<0):remT a 10=some (-((a.natAbs%10:Nat):Int)):=by
 unfold remT
 rw[zn (by omega)]
 have:a.tmod 10 = -((a.natAbs%10:Nat):Int):=by
   obtain ⟨n,rfl⟩:∃ n:Nat,a = -(n:Int):=⟨a.natAbs,by omega⟩
   rw[Int.neg_tmod,Int.natAbs_neg,Int.natAbs_natCast,Int.tmod_eq_emod_of_nonneg (by omega)]
   norm_cast
 rw[this]
theorem itoa_neg {a:Int} (h:a<0):Lib.itoa a=45::Lib.decDigits a.natAbs:=by unfold Lib.itoa; rw[zp h]
theorem fU {n:Nat}:Lib.itoa (n:Int)=Lib.decDigits n:=by unfold Lib.itoa; rw[zn (by omega),Int.toNat_natCast]
def inR (n:Int):Prop := -9223372036854775808≤n∧n≤9223372036854775807
theorem fh {n:Int} (h:inR n):zbe n=some (Lib.itoa n):=zp h
def jQ (d:Int×Int×Unit):List UInt8:=Lib.itoa d.1++[46]++Lib.itoa d.2.1
theorem rL {a b:Int} (ha:inR a) (hb:inR b):((catT (Lib.itoa a) [46]).bind fun s=>catT s (Lib.itoa b))=some (Lib.itoa a++[46]++Lib.itoa b):=by
 have l1:=gT ha.1 ha.2
 have l2:=gT hb.1 hb.2
 rw[az (by simp only[zl,List.length_nil]; omega),zb,az (by rw[List.length_append]; simp only[zl,List.length_nil]; omega)]
def bZ (d:Int×Int×Unit):Bool:=decide (0≤d.1∧d.1≤15∧1≤d.2.1∧d.2.1≤1048576)
def digB (b:UInt8):Prop:=48≤b.toNat∧b.toNat≤57
theorem sA {x:Nat} (h:x<10):digB (UInt8.ofNat (48+x))∧(UInt8.ofNat (48+x)).toNat=48+x:=by
 have:(UInt8.ofNat (48+x)).toNat=48+x:=UInt8.toNat_ofNat_of_lt' (by show _<256; omega)
 exact ⟨⟨by omega,by omega⟩,this⟩
theorem ew:∀ (u:Nat),∀ b∈Lib.decDigits u,digB b:=by
 intro u
 induction u using Nat.strongRecOn with
 | _ u ih =>
   intro b hb
   by_cases h:u<10
   · rw[cJ h] at hb
     simp only[List.mem_cons,List.mem_nil_iff,or_false] at hb
     subst hb; exact (sA h).1
   · rw[gB h] at hb
     rcases List.mem_append.1 hb with hb | hb
     · exact ih (u/10) (by omega) b hb
     · simp only[List.mem_cons,List.mem_nil_iff,or_false] at hb
       subst hb; exact (sA (by omega)).1
theorem kG (u:Nat):1≤(Lib.decDigits u).length:=by
 by_cases h:u<10
 · rw[cJ h]; simp
 · rw[gB h,List.length_append]; simp
theorem jz:∀ (k u:Nat),u<10 ^ (k+1)→(Lib.decDigits u).length≤k+1
 | 0,u,h=>by rw[cJ (by simpa using h)]; simp
 | k+1,u,h=>by
   by_cases hu:u<10
   · rw[cJ hu]; simp
   · rw[gB hu,List.length_append]
     have:=jz k (u/10) (qN (by omega) h)
     simp only[zl,List.length_nil]; omega
def valM (acc:Nat):List UInt8→Option Nat
 | []=>some acc
 | c::r=>if 48≤c.toNat∧c.toNat≤57 then valM (acc*10+(c.toNat-48)) r else none
theorem wZ:∀ (l r:List UInt8) (acc:Nat),valM acc (l++r)=(valM acc l).bind fun m=>valM m r
 | [],r,acc=>rfl
 | c::l,r,acc=>by
   simp only[List.cons_append,valM]
   split
   · exact wZ l r _
   · rfl
theorem wY:∀ (u:Nat),valM 0 (Lib.decDigits u)=some u:=by
 intro u
 induction u using Nat.strongRecOn with
 | _ u ih =>
   by_cases h:u<10
   · rw[cJ h]
     have:=sA h
     simp only[valM,this.2]
     rw[zp (by omega)]
     simp
   · rw[gB h,wZ,ih (u/10) (by omega),zb]
     have:=sA (x:=u%10) (by omega)
     simp only[valM,this.2]
     rw[zp (by omega)]
     congr 1; omega
theorem pp {c:UInt8}:∀ (l t:List UInt8) (i:Nat),(∀ b∈l,b≠c)→bc c (l++c::t) i=((i+l.length:Nat):Int)
 | [],t,i,h=>by
   simp only[List.nil_append,bc,List.length_nil,Nat.add_zero]
   have:Nat.beq c.toNat c.toNat=true:=by rw[Nat.beq_eq]
   rw[this]; rfl
 | b::l,t,i,h=>by
   simp only[List.cons_append,bc]
   have hb:=h b (List.mem_cons_self ..)
   have:Nat.beq b.toNat c.toNat=false:=by
     cases e:Nat.beq b.toNat c.toNat with
     | false=>rfl
     | true=>rw[Nat.beq_eq] at e; exact absurd (UInt8.toNat_inj.1 e) hb
   rw[this,cond_false,pp l t (i+1) (fun b hb=>h b (List.mem_cons_of_mem _ hb)),zl]
   omega
theorem fP {d:Int×Int×Unit} (h:bZ d=true):(0≤d.1∧d.1≤15)∧(1≤d.2.1∧d.2.1≤1048576):=by
 have:=of_decide_eq_true h
 omega
theorem tN {d:Int×Int×Unit} (h:bZ d=true):∃ r n:Nat,d=((r:Int),(n:Int),())∧r≤15∧1≤n∧n≤1048576∧jQ d=Lib.decDigits r++46::Lib.decDigits n:=by
 have hi:=fP h
 obtain ⟨a,b,u⟩:=d
 simp only at hi
 refine ⟨a.toNat,b.toNat,?_,by omega,by omega,by omega,?_⟩
 · congr 1
   · omega
   · congr 1; omega
 · unfold jQ
   simp only
   have i1:Lib.itoa a=Lib.decDigits a.toNat:=by unfold Lib.itoa; rw[zn (by omega)]
   have i2:Lib.itoa b=Lib.decDigits b.toNat:=by unfold Lib.itoa; rw[zn (by omega)]
   rw[i1,i2]
   simp
theorem amC {u:Nat}:∀ b∈Lib.decDigits u,b≠46:=fun b hb e=>by
 have:=(ew u b hb).1
 subst e
 exact absurd this (by decide)
theorem ld {n:Nat}{x:UInt8} (h:n=x.toNat):UInt8.ofNat n=x:=by subst h; exact UInt8.ofNat_toNat
def encN (c:Nat):List UInt8 :=
 if c<128 then [UInt8.ofNat c]
 else if c<2048 then [UInt8.ofNat (192+c/64),UInt8.ofNat (128+c%64)]
 else if c<65536 then [UInt8.ofNat (224+c/4096),UInt8.ofNat (128+c/64%64),UInt8.ofNat (128+c%64)]
 else [UInt8.ofNat (240+c/262144),UInt8.ofNat (128+c/4096%64),UInt8.ofNat (128+c/64%64),UInt8.ofNat (128+c%64)]
theorem yQ {r:Int} (h:Utf8.valid r=true):(Utf8.encode r).data.toList=encN r.toNat:=by
 unfold Utf8.encode encN
 simp only[h,if_true]
 split
 · rfl
 · split
   · rfl
   · split<;>rfl
theorem js {r:Int} (h0:0≤r) (h1:r≤1114111) (h2:¬ (55296≤r∧r≤57343)):Utf8.valid r=true:=by
 simp[Utf8.valid]; omega
theorem aaU {s:List UInt8} (h:(aC s).2≠0):(Utf8.encode (aC s).1).data.toList=s.take (aC s).2:=by
 match s with
 | []=>exact absurd rfl h
 | a::t =>
   have ha:=a.toNat_lt
   by_cases c1:a.toNat<128
   · have e:aC (a::t)=((a.toNat:Int),1):=by simp only[aC,zp c1]
     rw[e,yQ (js (by omega) (by omega) (by omega))]
     simp only[Int.toNat_natCast,encN,zp c1]
     rw[ld rfl]; rfl
   by_cases c2:194≤a.toNat∧a.toNat<224
   · match t with
     | []=>simp only[aC,zn c1,zp c2,ne_eq,not_true_eq_false] at h
     | b::t =>
       by_cases hb:128≤b.toNat∧b.toNat≤191
       · have e:aC (a::b::t)=(64*((a.toNat:Int)-192)+b.toNat-128,2):=by simp only[aC,zn c1,zp c2,zp hb]
         rw[e,yQ (js (by simp only[]; omega) (by simp only[]; omega) (by simp only[]; omega))]
         simp only[]
         have:(64*((a.toNat:Int)-192)+b.toNat-128).toNat=64*(a.toNat-192)+(b.toNat-128):=by omega
         rw[this]
         unfold encN
         rw[zn (by omega),zp (by omega),ld (x:=a) (by omega),ld (x:=b) (by omega)]; rfl
       · simp only[aC,zn c1,zp c2,zn hb,ne_eq,not_true_eq_false] at h
   by_cases c3:224≤a.toNat∧a.toNat<240
   · match t with
     | []=>simp only[aC,zn c1,zn c2,zp c3,ne_eq,not_true_eq_false] at h
     | [b]=>simp only[aC,zn c1,zn c2,zp c3,ne_eq,not_true_eq_false] at h
     | b::c::t =>
       by_cases hb:(128≤b.toNat∧b.toNat≤191)∧(128≤c.toNat∧c.toNat≤191)
       · by_cases hr:64*(64*((a.toNat:Int)-224)+b.toNat-128)+c.toNat-128<2048∨(55296≤64*(64*((a.toNat:Int)-224)+b.toNat-128)+c.toNat-128∧64*(64*((a.toNat:Int)-224)+b.toNat-128)+c.toNat-128≤57343)
         · simp only[aC,zn c1,zn c2,zp c3,zp hb,zp hr,ne_eq,not_true_eq_false] at h
         · have e:aC (a::b::c::t)=(64*(64*((a.toNat:Int)-224)+b.toNat-128)+c.toNat-128,3):=by simp only[aC,zn c1,zn c2,zp c3,zp hb,zn hr]
           rw[e,yQ (js (by simp only[]; omega) (by simp only[]; omega) (by simp only[]; omega))]
           simp only[]
           have:(64*(64*((a.toNat:Int)-224)+b.toNat-128)+c.toNat-128).toNat=4096*(a.toNat-224)+64*(b.toNat-128)+(c.toNat-128):=by omega
           rw[this]
           unfold encN
           rw[zn (by omega),zn (by omega),zp (by omega),ld (x:=a) (by omega),ld (x:=b) (by omega),ld (x:=c) (by omega)]; rfl
       · simp only[aC,zn c1,zn c2,zp c3,zn hb,ne_eq,not_true_eq_false] at h
   by_cases c4:240≤a.toNat∧a.toNat<245
   · match t with
     | []=>simp only[aC,zn c1,zn c2,zn c3,zp c4,ne_eq,not_true_eq_false] at h
     | [b]=>simp only[aC,zn c1,zn c2,zn c3,zp c4,ne_eq,not_true_eq_false] at h
     | [b,c]=>simp only[aC,zn c1,zn c2,zn c3,zp c4,ne_eq,not_true_eq_false] at h
     | b::c::d::t =>
       by_cases hb:(128≤b.toNat∧b.toNat≤191)∧(128≤c.toNat∧c.toNat≤191)∧(128≤d.toNat∧d.toNat≤191)
       · by_cases hr:64*(64*(64*((a.toNat:Int)-240)+b.toNat-128)+c.toNat-128)+d.toNat-128<65536∨1114111<64*(64*(64*((a.toNat:Int)-240)+b.toNat-128)+c.toNat-128)+d.toNat-128
         · simp only[aC,zn c1,zn c2,zn c3,zp c4,zp hb,zp hr,ne_eq,not_true_eq_false] at h
         · have e:aC (a::b::c::d::t)=(64*(64*(64*((a.toNat:Int)-240)+b.toNat-128)+c.toNat-128)+d.toNat-128,4):=by simp only[aC,zn c1,zn c2,zn c3,zp c4,zp hb,zn hr]
           rw[e,yQ (js (by simp only[]; omega) (by simp only[]; omega) (by simp only[]; omega))]
           simp only[]
           have:(64*(64*(64*((a.toNat:Int)-240)+b.toNat-128)+c.toNat-128)+d.toNat-128).toNat=262144*(a.toNat-240)+4096*(b.toNat-128)+64*(c.toNat-128)+(d.toNat-128):=by omega
           rw[this]
           unfold encN
           rw[zn (by omega),zn (by omega),zn (by omega),ld (x:=a) (by omega),ld (x:=b) (by omega),ld (x:=c) (by omega),ld (x:=d) (by omega)]; rfl
       · simp only[aC,zn c1,zn c2,zn c3,zp c4,zn hb,ne_eq,not_true_eq_false] at h
   · simp only[aC,zn c1,zn c2,zn c3,zn c4,ne_eq,not_true_eq_false] at h
theorem aaT {n:Nat} (h:128≤n) (h2:n≤1114111):∀ b∈encN n,128≤b.toNat:=by
 have e:∀ n:Nat,128≤n→n<256→128≤(UInt8.ofNat n).toNat:=by
   intro n h1 h2
   rw[UInt8.toNat_ofNat_of_lt' (by simpa using h2)]; exact h1
 intro b hb
 unfold encN at hb
 rw[zn (by omega)] at hb
 split at hb
 · simp only[List.mem_cons,List.mem_nil_iff,or_false] at hb
   rcases hb with rfl | rfl<;>exact e _ (by omega) (by omega)
 · split at hb
   · simp only[List.mem_cons,List.mem_nil_iff,or_false] at hb
     rcases hb with rfl | rfl | rfl<;>exact e _ (by omega) (by omega)
   · simp only[List.mem_cons,List.mem_nil_iff,or_false] at hb
     rcases hb with rfl | rfl | rfl | rfl<;>exact e _ (by omega) (by omega)
theorem qW {s:List UInt8} (h0:(aC s).2≠0):s.take (aC s).2=encN (aC s).1.toNat:=by
 have hi:=fB s
 have he:=aaU h0
 by_cases hv:Utf8.valid (aC s).1=true
 · rw[← he,yQ hv]
 · exfalso
   have hs:55296≤(aC s).1∧(aC s).1≤57343:=by
     simp[Utf8.valid] at hv; omega
   have h3:(aC s).2=3∨(aC s).2≠3:=by omega
   revert hs h0
   unfold aC
   repeat' split
   all_goals (try simp only[])
   all_goals (try split)
   all_goals (try simp only[])
   all_goals omega
theorem wV {n:Int} (h:0≤n) (h2:n<4294967296):IntKind.wrap .u32 n=n:=by
 simp[IntKind.wrap,IntKind.signed,IntKind.bits]; omega
theorem afW:∀ x:Fin 256,(IntKind.wrap .u8 ((BitVec.ofInt (IntKind.bits .u8) 128 ||| BitVec.ofInt (IntKind.bits .u8) (IntKind.wrap .u8 ((BitVec.ofInt (IntKind.bits .u8) ((x.val:Nat):Int) &&& BitVec.ofInt (IntKind.bits .u8) 63).toNat:Nat))).toNat:Nat))=((128+x.val%64:Nat):Int):=by decide +kernel
theorem ui {c:Int}:(IntKind.wrap .u8 ((BitVec.ofInt (IntKind.bits .u8) 128 ||| BitVec.ofInt (IntKind.bits .u8) (IntKind.wrap .u8 ((BitVec.ofInt (IntKind.bits .u8) (IntKind.wrap .u8 c) &&& BitVec.ofInt (IntKind.bits .u8) 63).toNat:Nat))).toNat:Nat))=128+c%64:=by
 have h0:0≤c%256:=by omega
 have h1:c%256<256:=by omega
 have:=afW ⟨(c%256).toNat,by omega⟩
 simp only at this
 rw[show (((c%256).toNat:Nat):Int)=c%256 by omega] at this
 rw[abv (n:=c),this]
 omega
theorem qf:(∀ x:Fin 32,(IntKind.wrap .u8 ((BitVec.ofInt (IntKind.bits .u8) 192 ||| BitVec.ofInt (IntKind.bits .u8) (IntKind.wrap .u8 ((x.val:Nat):Int))).toNat:Nat))=((192+x.val:Nat):Int))∧(∀ x:Fin 16,(IntKind.wrap .u8 ((BitVec.ofInt (IntKind.bits .u8) 224 ||| BitVec.ofInt (IntKind.bits .u8) (IntKind.wrap .u8 ((x.val:Nat):Int))).toNat:Nat))=((224+x.val:Nat):Int))∧(∀ x:Fin 8,(IntKind.wrap .u8 ((BitVec.ofInt (IntKind.bits .u8) 240 ||| BitVec.ofInt (IntKind.bits .u8) (IntKind.wrap .u8 ((x.val:Nat):Int))).toNat:Nat))=((240+x.val:Nat):Int)):=by decide +kernel
theorem top2 {x:Int} (h:0≤x) (h2:x<32):(IntKind.wrap .u8 ((BitVec.ofInt (IntKind.bits .u8) 192 ||| BitVec.ofInt (IntKind.bits .u8) (IntKind.wrap .u8 x)).toNat:Nat))=192+x:=by
 have:=qf.1 ⟨x.toNat,by omega⟩
 simp only at this
 rw[show ((x.toNat:Nat):Int)=x by omega] at this
 rw[this]; omega
theorem top3 {x:Int} (h:0≤x) (h2:x<16):(IntKind.wrap .u8 ((BitVec.ofInt (IntKind.bits .u8) 224 ||| BitVec.ofInt (IntKind.bits .u8) (IntKind.wrap .u8 x)).toNat:Nat))=224+x:=by
 have:=qf.2.1 ⟨x.toNat,by omega⟩
 simp only at this
 rw[show ((x.toNat:Nat):Int)=x by omega] at this
 rw[this]; omega
theorem top4 {x:Int} (h:0≤x) (h2:x<8):(IntKind.wrap .u8 ((BitVec.ofInt (IntKind.bits .u8) 240 ||| BitVec.ofInt (IntKind.bits .u8) (IntKind.wrap .u8 x)).toNat:Nat))=240+x:=by
 have:=qf.2.2 ⟨x.toNat,by omega⟩
 simp only at this
 rw[show ((x.toNat:Nat):Int)=x by omega] at this
 rw[this]; omega
theorem afC {c:Int}{n:Int}{k:Nat} (hn:n=(k:Int)) (hk:k≤32):shrT .i32 c n=some (c/(2 ^ k:Nat)):=by
 subst hn
 unfold shrT
 rw[zn (by omega)]
 congr 1
 rw[Int.toNat_natCast,Int.fdiv_eq_ediv_of_nonneg _ (by exact_mod_cast Nat.zero_le _)]
 have:min k (IntKind.bits .i32)=k:=by show min k 32=k; omega
 rw[this]
 norm_cast
def agA (c:Int):Prop:=0≤c∧c≤1114111∧¬ (55296≤c∧c≤57343)
theorem aa6 {l:List Nat} (h:∀ n∈l,n<256):bI (l.map UInt8.ofNat)=l.map fun (n:Nat)=>(n:Int):=by
 unfold bI
 rw[List.map_map]
 refine List.map_congr_left fun n hn => ?_
 simp only[Function.comp]
 rw[UInt8.toNat_ofNat_of_lt' (by simpa using h n hn)]
theorem aa7 {c:Int}{w:List Int} (hc:agA c) (hw:w.length<4294967000):zau c w=some ((),w++bI (encN c.toNat),()):=by
 obtain ⟨h0,h1,h2⟩:=hc
 obtain ⟨n,rfl⟩:∃ n:Nat,c=(n:Int):=⟨c.toNat,by omega⟩
 unfold zau
 rw[Int.toNat_natCast]
 simp only[ah,wV (n:=(n:Int)) (by omega) (by omega)]
 by_cases c1:n<128
 · rw[zp (by omega),d5 (by simp; omega),zb]
   unfold encN
   rw[zp c1,abv]
   have e:[UInt8.ofNat n]=[n].map UInt8.ofNat:=rfl
   rw[e,aa6 (by intro m hm; simp at hm; omega)]
   simp only[List.map_cons,List.map_nil]
   rw[show (n:Int)%256=n by omega]
 rw[zn (by omega)]
 have room:∀ l:List Int,l.length≤4→fa (w.length+l.length)=some ():=fun l hl=>d5 (by omega)
 have key:zah (n:Int) w=some ((),w++bI (encN n),()):=by
   unfold zah encN
   rw[zn c1]
   simp only[ah,wV (n:=(n:Int)) (by omega) (by omega),afC (n:=6) (k:=6) rfl (by omega),afC (n:=12) (k:=12) rfl (by omega),afC (n:=18) (k:=18) rfl (by omega),zb]
   by_cases c2:n<2048
   · rw[zp (by omega),zp c2,room _ (by simp),zb,ui,top2 (by omega) (by omega)]
     have e:[UInt8.ofNat (192+n/64),UInt8.ofNat (128+n%64)]=[192+n/64,128+n%64].map UInt8.ofNat:=rfl
     rw[e,aa6 (by intro m hm; simp at hm; omega)]
     simp only[List.map_cons,List.map_nil,show ((2 ^ 6:Nat):Int)=64 from rfl,show ((2 ^ 12:Nat):Int)=4096 from rfl,show ((2 ^ 18:Nat):Int)=262144 from rfl,Int.natCast_add,Int.natCast_ediv,Int.natCast_emod,Int.cast_ofNat_Int]
   rw[zn (by omega),zn c2]
   by_cases c3:n<65536
   · have hA : ((if (n : Int) < 55296 then some (Sum.inl (decide ((n : Int) < 55296), w, ())) else
         (if 57343<(n:Int) then some (decide ((n:Int)≤65535),w,()) else some (false,w,())).bind fun v3=>some (Sum.inl (v3.1,v3.2.1,()))):Option ((Bool×List Int×Unit)⊕(Unit×List Int×Unit)))=some (.inl (true,w,())):=by
       by_cases g:(n:Int)<55296
       · rw[zp g]; simp[g]
       · rw[zn g,zp (by omega)]; simp; omega
     rw[hA,aK,zp c3]
     simp only[cond_true]
     rw[room _ (by simp),zb,ui,ui,top3 (by omega) (by omega)]
     have e:[UInt8.ofNat (224+n/4096),UInt8.ofNat (128+n/64%64),UInt8.ofNat (128+n%64)]=[224+n/4096,128+n/64%64,128+n%64].map UInt8.ofNat:=rfl
     rw[e,aa6 (by intro m hm; simp at hm; omega)]
     simp only[List.map_cons,List.map_nil,show ((2 ^ 6:Nat):Int)=64 from rfl,show ((2 ^ 12:Nat):Int)=4096 from rfl,show ((2 ^ 18:Nat):Int)=262144 from rfl,Int.natCast_add,Int.natCast_ediv,Int.natCast_emod,Int.cast_ofNat_Int]
   · have hA : ((if (n : Int) < 55296 then some (Sum.inl (decide ((n : Int) < 55296), w, ())) else
         (if 57343<(n:Int) then some (decide ((n:Int)≤65535),w,()) else some (false,w,())).bind fun v3=>some (Sum.inl (v3.1,v3.2.1,()))):Option ((Bool×List Int×Unit)⊕(Unit×List Int×Unit)))=some (.inl (false,w,())):=by
       rw[zn (by omega),zp (by omega)]; simp; omega
     rw[hA,aK,zn c3]
     simp only[cond_false]
     rw[zp (by omega),zp (by omega),room _ (by simp),zb,ui,ui,ui,top4 (by omega) (by omega)]
     have e:[UInt8.ofNat (240+n/262144),UInt8.ofNat (128+n/4096%64),UInt8.ofNat (128+n/64%64),UInt8.ofNat (128+n%64)]=[240+n/262144,128+n/4096%64,128+n/64%64,128+n%64].map UInt8.ofNat:=rfl
     rw[e,aa6 (by intro m hm; simp at hm; omega)]
     simp only[List.map_cons,List.map_nil,show ((2 ^ 6:Nat):Int)=64 from rfl,show ((2 ^ 12:Nat):Int)=4096 from rfl,show ((2 ^ 18:Nat):Int)=262144 from rfl,Int.natCast_add,Int.natCast_ediv,Int.natCast_emod,Int.cast_ofNat_Int]
 rw[key]; rfl
theorem qX {s:List UInt8} (h0:(aC s).2≠0):agA (aC s).1:=by
 have hi:=fB s
 refine ⟨hi.1,hi.2,?_⟩
 intro hs
 revert hs h0
 unfold aC
 repeat' split
 all_goals (try simp only[])
 all_goals (try split)
 all_goals (try simp only[])
 all_goals omega
theorem aaV {n:Nat}:1≤(encN n).length∧(encN n).length≤4:=by
 unfold encN
 repeat' split
 all_goals simp
abbrev Val:=Int×Int×List UInt8×Unit
theorem yN (a b:Val):eqV (.agg (.cons (.int .i64) (.cons (.int .i64) (.cons .str .unit)))) a b=decide (a=b):=by
 obtain ⟨k,n,s,⟨⟩⟩:=a
 obtain ⟨k',n',s',⟨⟩⟩:=b
 simp only[eqV,Bool.and_true]
 rw[Bool.eq_iff_iff]
 simp
theorem zh {s:List UInt8} (h:(aC s).2=1):(aC s).1<128:=by
 revert h
 unfold aC
 repeat' split
 all_goals (try simp only[])
 all_goals (try split)
 all_goals (try simp only[])
 all_goals omega
theorem oE {s:List UInt8}:(cj s []).2.1=(bN s).isSome:=by
 unfold cj; cases bN s<;>rfl
def bP (v:Val):Bool:=decide ((v.1=1∧v.2.2.1=[] ∧ -2147483647≤v.2.1∧v.2.1≤2147483647)∨(v.1=2∧v.2.1=0∧(bN v.2.2.1).isSome=true∧v.2.2.1.length≤64)∨(v.1=3∧v.2.2.1=[]∧0≤v.2.1∧v.2.1≤1))
theorem qo {v:Val} (hv:v.2.2.1.length<4294967296):zbn v=some (bP v):=by
 unfold zbn bP
 simp only[xk (s:=v.2.2.1) (by omega),zb,oE,ah]
 by_cases h1:v.1=1
 · rw[zp h1]
   by_cases h2:v.2.2.1=[]
   · by_cases h3:v.2.1 ≥ -2147483647
     · simp only[h1,h2,h3]; simp<;>omega
     · simp only[h1,h2]; simp[h3]<;>omega
   · simp[h1,h2]
 rw[zn h1]
 by_cases h2:v.1=2
 · rw[zp h2]
   cases hr:(bN v.2.2.1).isSome with
   | true =>
     by_cases h3:v.2.1=0
     · simp only[h2,h3]; simp<;>omega
     · simp[h2,h3]
   | false=>by_cases h3:v.2.1=0<;>simp[h2,h3]
 rw[zn h2]
 by_cases h3:v.1=3
 · rw[zp h3]
   by_cases h4:v.2.2.1=[]
   · by_cases h5:v.2.1≥0
     · simp only[h3,h4]; simp[h5]<;>omega
     · simp only[h3,h4]; simp[h5]<;>omega
   · simp[h3,h4]
 rw[zn h3]
 simp[h1,h2,h3]
def gq (b:UInt8):Bool:=decide (b.toNat=34)||decide (b.toNat=92)
def spec (c:Int):Bool:=decide (c=34)||decide (c=92)
def aO (s:List UInt8):List UInt8:=s.flatMap fun b=>if gq b then [92,b] else [b]
theorem dA {b:UInt8}{s:List UInt8}:aO (b::s)=(if gq b then [92,b] else [b])++aO s:=by unfold aO; rw[List.flatMap_cons]
theorem xC {s t:List UInt8}:aO (s++t)=aO s++aO t:=by unfold aO; rw[List.flatMap_append]
theorem oM:∀ (s:List UInt8),(aO s).length≤2*s.length
 | []=>by simp[aO]
 | b::s=>by
   have:=oM s
   rw[dA,List.length_append,zl]
   split<;>simp<;>omega
theorem lU:∀ (s:List UInt8),(∀ b∈s,128≤b.toNat)→aO s=s
 | [],_=>rfl
 | b::s,h=>by
   have h1:=h b (List.mem_cons_self ..)
   have:gq b=false:=by
     simp only[gq,Bool.or_eq_false_iff,decide_eq_false_iff_not]; omega
   rw[dA,this,lU s (fun x hx=>h x (List.mem_cons_of_mem _ hx))]; rfl
theorem xc {a:UInt8}:spec (a.toNat:Int)=gq a:=by
 unfold spec gq
 have h1:decide ((a.toNat:Int)=34)=decide (a.toNat=34):=by rw[decide_eq_decide]; omega
 have h3:decide ((a.toNat:Int)=92)=decide (a.toNat=92):=by rw[decide_eq_decide]; omega
 rw[h1,h3]
theorem tR {s:List UInt8} (h0:(aC s).2≠0):aO s=(if spec (aC s).1 then [92] else [])++encN (aC s).1.toNat++aO (s.drop (aC s).2):=by
 have hi:=fB s
 have hv:=qW h0
 have hq:aO s=aO (s.take (aC s).2)++aO (s.drop (aC s).2):=by rw[← xC,List.take_append_drop]
 rw[hq]
 congr 1
 by_cases hc:(aC s).1.toNat<128
 · have hb:encN (aC s).1.toNat=[UInt8.ofNat (aC s).1.toNat]:=by unfold encN; rw[zp hc]
   have ht:(UInt8.ofNat (aC s).1.toNat).toNat=(aC s).1.toNat:=UInt8.toNat_ofNat_of_lt' (by show _<256; omega)
   rw[hv,hb]
   generalize hbb:UInt8.ofNat (aC s).1.toNat=b at ht ⊢
   have hcb:(aC s).1=(b.toNat:Int):=by omega
   rw[hcb,xc,dA]
   have hnil:aO []=[]:=rfl
   rw[hnil,List.append_nil]
   cases gq b<;>rfl
 · have hsp : spec (aC s).1 = false := by
     simp only[spec,Bool.or_eq_false_iff,decide_eq_false_iff_not]; omega
   rw[lU _ (by rw[hv]; exact aaT (by omega) (by omega)),hsp,hv]; rfl
theorem jG {c:Int}{v:Bool×Unit×Unit}{w:List Int} (hc:agA c) (hw:w.length<4294967000):∃ n,zad c v w=some ((n,false,()),(true,(),()),w++bI (encN c.toNat),()):=by
 unfold zad
 have h:zaf v w=some ((),(true,(),()),w,()):=by
   obtain ⟨b,_,_⟩:=v
   unfold zaf
   cases b<;>rfl
 rw[h]
 simp only[zb,aa7 hc hw]
 exact ⟨_,rfl⟩
theorem amJ:bI [92]=[92]:=rfl
theorem amK:bI [34]=[34]:=rfl
theorem tS {s:List UInt8} (hs:s.length<1000000):∀ (k i:Nat) (out:List UInt8) (b:Bool) (l:List Int),s.length-i≤k→i≤s.length→out.length≤5*i+1→bN (s.drop i)=some l →
   aP (lz s) (bI out,(b,(),()),i,())=some (out++aO (s.drop i)++[34]):=by
 intro k
 have fin:∀ (i:Nat) (out:List UInt8) (b:Bool),¬ i<s.length→out.length≤5*s.length+1→aP (lz s) (bI out,(b,(),()),i,())=some (out++aO (s.drop i)++[34]):=by
   intro i out b hi ho
   refine aB ?_
   unfold lz
   rw[ah,zn (by simp only[]; exact hi),ct (by rw[ji]; omega)]
   simp only[zb]
   rw[← amK,← ib,mZ (by rw[List.length_append]; simp only[zl,List.length_nil]; omega),List.drop_eq_nil_of_le (by omega)]
   simp[aO]
 induction k with
 | zero=>intro i out b l hk hi ho hl; exact fin i out b (by omega) (by omega)
 | succ k ih =>
   intro i out b l hk hi ho hl
   by_cases hlt:i<s.length
   · have hne:s.drop i≠[]:=fun e=>by have:=congrArg List.length e; simp at this; omega
     have hle:=nR (s.drop i)
     simp only[List.length_drop] at hle
     by_cases h0:(aC (s.drop i)).2=0
     · rw[eD hne h0] at hl; cases hl
     · rw[dG hne h0,List.drop_drop,Option.map_eq_some_iff] at hl
       obtain ⟨l',hl',rfl⟩:=hl
       have hc:=qX h0
       have hstep:=tR h0
       rw[List.drop_drop] at hstep
       have hen:=aaV (n:=(aC (s.drop i)).1.toNat)
       have turn:lz s (bI out,(b,(),()),i,())=some (.inl (bI (out++((if spec (aC (s.drop i)).1 then [92] else [])++encN (aC (s.drop i)).1.toNat)),(true,(),()),i+(aC (s.drop i)).2,())):=by
         unfold lz
         rw[ah,zp (by simp only[]; exact hlt)]
         have hnat:(((aC (s.drop i)).1.toNat:Nat):Int)=(aC (s.drop i)).1:=by have:=fB (s.drop i); omega
         simp only[decode_N hlt,decN,zn h0,hnat,zb]
         obtain ⟨n2,e2⟩:=jG (v:=(true,(),())) (w:=bI out++[92]) hc (by rw[List.length_append,ji]; simp only[zl,List.length_nil]; omega)
         obtain ⟨n1,e1⟩:=jG (v:=(b,(),())) (w:=bI out) hc (by rw[ji]; omega)
         have es:spec (aC (s.drop i)).1=(decide ((aC (s.drop i)).1=34)||decide ((aC (s.drop i)).1=92)):=rfl
         rw[es]
         cases h34:decide ((aC (s.drop i)).1=34) with
         | true =>
           simp only[cond_true,Bool.true_or,if_true]
           rw[ct (by rw[ji]; omega)]
           simp only[zb]
           rw[e2]
           simp only[zb]
           rw[← amJ,← ib,← ib,List.append_assoc]
         | false =>
           simp only[cond_false,Bool.false_or]
           cases h92:decide ((aC (s.drop i)).1=92) with
           | true =>
             simp only[cond_true,if_true]
             rw[ct (by rw[ji]; omega)]
             simp only[zb]
             rw[e2]
             simp only[zb]
             rw[← amJ,← ib,← ib,List.append_assoc]
           | false =>
             simp only[cond_false,Bool.false_eq_true,if_false,List.nil_append]
             rw[e1]
             simp only[zb]
             rw[← ib]
       rw[aF turn,ih _ _ _ l' (by omega) (by omega) ?_ hl',hstep]
       · simp only[List.append_assoc]
       · have h1:(if spec (aC (s.drop i)).1 then ([92]:List UInt8) else []).length≤1:=by split<;>simp
         have h5:((if spec (aC (s.drop i)).1 then ([92]:List UInt8) else [])++encN (aC (s.drop i)).1.toNat).length≤5*(aC (s.drop i)).2:=by
           rw[List.length_append]; omega
         rw[List.length_append]
         omega
   · exact fin i out b (by omega) (by omega)
theorem afL {s:List UInt8}{l:List Int} (hs:s.length<1000000) (hl:bN s=some l):zbs s=some ([34]++aO s++[34]):=by
 have:=tS hs s.length 0 [34] true l (by omega) (by omega) (by simp) (by simpa using hl)
 unfold zbs
 rw[ct (by simp)]
 simp only[zb,List.nil_append]
 simpa [amK] using this
theorem fW {s:List UInt8}{i:Nat} (h:i<s.length):s.drop i=s[i]::s.drop (i+1):=List.drop_eq_getElem_cons h
def dE (v:Val):List UInt8:=if v.1=1 then Lib.itoa v.2.1 else if v.1=3 then (if v.2.1=1 then [116,114,117,101] else [102,97,108,115,101]) else [34]++aO v.2.2.1++[34]
theorem dc {v:Val} (h:bP v=true):(∃ n:Int,v=(1,n,[],()) ∧ -2147483647≤n∧n≤2147483647)∨(∃ s l,v=(2,0,s,())∧bN s=some l∧s.length≤64)∨v=(3,0,[],())∨v=(3,1,[],()):=by
 obtain ⟨k,n,s,⟨⟩⟩:=v
 unfold bP at h
 simp only[decide_eq_true_eq] at h
 rcases h with ⟨rfl,rfl,h1,h2⟩ | ⟨rfl,rfl,h1,h2⟩ | ⟨rfl,rfl,h1,h2⟩
 · exact .inl ⟨n,rfl,h1,h2⟩
 · cases hr:bN s with
   | none=>rw[hr] at h1; cases h1
   | some l=>exact .inr (.inl ⟨s,l,rfl,hr,h2⟩)
 · have:n=0∨n=1:=by omega
   rcases this with rfl | rfl
   · exact .inr (.inr (.inl rfl))
   · exact .inr (.inr (.inr rfl))
theorem jN {v:Val} (h:bP v=true):zb7 v=some (dE v):=by
 rcases dc h with ⟨n,rfl,h1,h2⟩ | ⟨s,l,rfl,h1,h2⟩ | rfl | rfl
 · unfold zb7 dE
   simp only[fh (show inR n from ⟨by omega,by omega⟩)]
   rfl
 · unfold zb7 dE
   simp only[afL (by omega) h1]
   rfl
 · rfl
 · rfl
abbrev Path:=List (List UInt8)
abbrev Ent:=Path×Int×List Val×Int×Unit
abbrev Chg:=Int×Ent×Ent×Unit
theorem ze:Cmp cmpI where
 one a b:=by
   unfold cmpI
   split
   · omega
   · split<;>omega
 neg a b:=by
   unfold cmpI
   by_cases h1:a<b
   · rw[zn (by omega),zp (by omega),zp h1]; rfl
   · by_cases h2:a>b
     · rw[zp (by omega),zn h1,zp h2]
     · rw[zn (by omega),zn (by omega),zn h1,zn h2]; rfl
 zero a b:=by
   unfold cmpI
   by_cases h1:a<b
   · rw[zp h1]; constructor<;>intro h<;>omega
   · by_cases h2:a>b
     · rw[zn h1,zp h2]; constructor<;>intro h<;>omega
     · rw[zn h1,zn h2]; constructor<;>intro h<;>omega
 trans a b d h1 h2:=by
   unfold cmpI at h1 h2 ⊢
   have e1:a<b:=by
     by_cases h:a<b
     · exact h
     · rw[zn h] at h1; split at h1<;>omega
   have e2:b<d:=by
     by_cases h:b<d
     · exact h
     · rw[zn h] at h2; split at h2<;>omega
   rw[zp (by omega)]; omega
def cmpP:Path→Path→Int:=cmpL Lib.compareBytes
def keyE (e:Ent):Path×Int:=(e.1,e.2.1)
def cmpK:Path×Int→Path×Int→Int:=cmpB cmpP cmpI
def mayM (c:Int):Bool:=decide (32≤c∧(c<127∨159<c)∧c≠65533)
theorem aal (c:Int):zcm c=some (mayM c):=by
 unfold zcm mayM
 simp only[ah]
 by_cases h1:c≥32
 · rw[zp h1]
   by_cases h2:c<127
   · rw[zp h2,zf (by omega:¬ c=65533),zt (by omega)]; rfl
   · rw[zn h2]
     by_cases h3:c>159
     · rw[zp h3]
       by_cases h4:c=65533
       · rw[zt h4,zf (by omega)]; rfl
       · rw[zf h4,zt (by omega)]; rfl
     · rw[zn h3,zf (by omega)]
 · rw[zn h1,zf (by omega)]
theorem xl:∀ {s:List UInt8}{l:List Int},bN s=some l→l.length≤s.length:=by
 have key:∀ (n:Nat) (s:List UInt8) (l:List Int),s.length≤n→bN s=some l→l.length≤s.length:=by
   intro n
   induction n with
   | zero =>
     intro s l hn h
     have:s=[]:=List.eq_nil_of_length_eq_zero (by omega)
     subst this
     rw[dz] at h; cases h; simp
   | succ n ih =>
     intro s l hn h
     by_cases hs:s=[]
     · subst hs
       rw[dz] at h; cases h; simp
     · have hl:s.length≠0:=fun e=>hs (List.eq_nil_of_length_eq_zero e)
       by_cases h0:(aC s).2=0
       · rw[eD hs h0] at h; cases h
       · rw[dG hs h0,Option.map_eq_some_iff] at h
         obtain ⟨l',hl',rfl⟩:=h
         have:=ih _ l' (by rw[List.length_drop]; omega) hl'
         rw[List.length_drop] at this
         simp only[zl]; omega
 intro s l h
 exact key s.length s l (Nat.le_refl _) h
def fc (s:List UInt8):Bool:=match bN s with
 | some l=>decide (1≤l.length∧l.length≤24)&&l.all mayM
 | none=>false
theorem lf {s:List UInt8} (hs:s.length<1000000):zbv s=some (fc s):=by
 unfold zbv fc
 rw[xk (by omega)]
 simp only[zb]
 have gen:∀ (l:List Int) (ok:Bool),l.length<1000000→aP (od (l,ok,())) ((0:Int),())=some (if l.all mayM=true then .inl () else .inr false):=by
   intro l ok hl
   have:=fS (f:=od (l,ok,())) (l:=l) (fun i=>((i:Int),())) mayM (.inl ()) (.inr false) (fun i h=>by
     unfold od
     simp only[ah]
     rw[zp (by omega),bf h]
     simp only[zb,aal]
     cases mayM l[i] with
     | true=>simp only[Bool.not_true,cond_false,if_true]; rw[wrap64 (by omega) (by omega)]; rfl
     | false=>rfl) (by
     unfold od
     simp only[ah]
     rw[zn (by omega)])
   exact this
 cases hr:bN s with
 | none =>
   have e:cj s []=([],false,()):=by unfold cj; rw[hr]
   rw[e,gen [] false (by simp)]
   rfl
 | some l =>
   have e:cj s []=(l,true,()):=by unfold cj; rw[hr]; rfl
   have hl:l.length≤s.length:=xl hr
   rw[e,gen l true (by omega)]
   cases hm:l.all mayM with
   | false =>
     simp only[Bool.false_eq_true,if_false,bT,hm,Bool.and_false]
   | true =>
     simp only[if_true,aK,cond_true,hm,Bool.and_true,ah]
     by_cases h1:(l.length:Int)≥1
     · rw[zp h1]
       congr 1
       rw[decide_eq_decide]; omega
     · rw[zn h1,zf (by omega)]
def ci (p:Path):Int:=if p.length=0 then 8 else if p.length>8 then 9 else if p.all fc=true then 0 else 8
theorem tQ {p:Path} (hs:∀ x∈p,x.length<1000000):zbk p=some (ci p):=by
 unfold zbk ci
 simp only[ah]
 by_cases h1:(p.length:Int)=0
 · rw[zp h1,zp (show p.length=0 by omega)]
 rw[zn h1,zn (show ¬ p.length=0 by omega)]
 by_cases h2:(p.length:Int)>8
 · rw[zp h2,zp (show p.length>8 by omega)]
 rw[zn h2,zn (show ¬ p.length>8 by omega)]
 have:=fS (f:=rA p) (l:=p) (fun i=>((i:Int),())) fc (0:Int) 8 (fun i h=>by
   unfold rA
   simp only[ah]
   rw[zp (by omega),bf h]
   simp only[zb,lf (hs _ (List.getElem_mem h))]
   cases fc p[i] with
   | true=>simp only[Bool.not_true,cond_false,if_true]; rw[wrap64 (by omega) (by omega)]; rfl
   | false=>rfl) (by
   unfold rA
   simp only[ah]
   rw[zn (by omega)])
 exact this
instance decE1:DecidableEq (List Val×Int×Unit):=fun a b => @instDecidableEqProd (List Val) (Int×Unit) inferInstance inferInstance a b
instance decE2:DecidableEq (Int×List Val×Int×Unit):=fun a b => @instDecidableEqProd Int (List Val×Int×Unit) inferInstance decE1 a b
instance decE:DecidableEq Ent:=fun a b => @instDecidableEqProd Path (Int×List Val×Int×Unit) inferInstance decE2 a b
instance decC1:DecidableEq (Ent×Unit):=fun a b => @instDecidableEqProd Ent Unit decE inferInstance a b
instance decC2:DecidableEq (Ent×Ent×Unit):=fun a b => @instDecidableEqProd Ent (Ent×Unit) decE decC1 a b
instance decC:DecidableEq Chg:=fun a b => @instDecidableEqProd Int (Ent×Ent×Unit) inferInstance decC2 a b
theorem ite_bool {b:Bool}:(if b=true then true else false)=b:=by cases b<;>rfl
theorem qn {a b:Path} (ha:a.length<1000000):zb0 a b=some (decide (a=b)):=by
 unfold zb0
 by_cases hl:a.length=b.length
 · rw[zt (by omega)]
   simp only[Bool.not_true,cond_false]
   have:=ye (f:=rG a b) (l:=a) (m:=b) (fun i=>((i:Int),())) (fun x y=>decide (x=y)) true false hl (fun i h h'=>by
     unfold rG
     simp only[ah]
     rw[zp (by omega),bf h,bf h']
     simp only[zb]
     cases decide (a[i]=b[i]) with
     | true=>simp only[Bool.not_true,cond_false,if_true]; rw[wrap64 (by omega) (by omega)]; rfl
     | false=>rfl) (by
     unfold rG
     simp only[ah]
     rw[zn (by omega)])
   rw[sQ,ite_bool] at this
   exact this
 · rw[zf (by omega)]
   have:a≠b:=fun e=>hl (by rw[e])
   rw[zf this]; rfl
def lowE (e:Ent):Prop:=e.1.length<1000000∧e.2.2.1.length<1000000
theorem aaf {p:Path}:zbx p=some (decide (p.length≤12)&&p.all fun x=>decide (x.length≤120)):=by
 unfold zbx
 simp only[ah]
 by_cases h1:(p.length:Int)>12
 · rw[zp h1,zf (by omega)]; rfl
 rw[zn h1,zt (by omega),Bool.true_and]
 have:=fS (f:=rz p) (l:=p) (fun i=>((i:Int),())) (fun x=>decide (x.length≤120)) true false (fun i h=>by
   unfold rz
   simp only[ah]
   rw[zp (by omega),bf h]
   simp only[zb]
   by_cases h2:(p[i].length:Int)>120
   · rw[zp h2,zn (by simp; omega)]
   · rw[zn h2,zp (by simp; omega),wrap64 (by omega) (by omega)]; rfl) (by
   unfold rz
   simp only[ah]
   rw[zn (by omega)])
 rw[ite_bool] at this
 exact this
def aoD (e:Ent):Prop:=lowE e∧∀ x∈e.1,x.length<1000000
theorem pm {R X S:Type}{g:S→X→S}{fin:S→R}:∀ (l:List X) (i:Nat) (s:S),fe (fun _ x s=>.inl (g s x)) fin i l s=fin (l.foldl g s)
 | [],_,s=>rfl
 | x::l,i,s=>by simp only[fe,List.foldl_cons]; exact pm l (i+1) (g s x)
theorem mr {R X S:Type}{g:Nat→S→X→S}{fin:S→R}:∀ (l:List X) (i:Nat) (s:S),fe (fun i x s=>.inl (g i s x)) fin i l s=fin ((l.zipIdx i).foldl (fun s p=>g p.2 s p.1) s)
 | [],_,s=>rfl
 | x::l,i,s=>by simp only[fe,List.zipIdx_cons,List.foldl_cons]; exact mr l (i+1) (g i s x)
theorem o7 {X:Type}{sep:List UInt8}{g:X→List UInt8}:∀ (l:List X) (i:Nat) (o:List UInt8),0<i→(l.zipIdx i).foldl (fun s p=>(if p.2>0 then s++sep else s)++g p.1) o=o++Lib.joinTail sep (l.map g)
 | [],_,o,_=>by simp[Lib.joinTail]
 | x::l,i,o,h=>by
   simp only[List.zipIdx_cons,List.foldl_cons]
   rw[zp h,o7 l (i+1) _ (by omega)]
   simp[Lib.joinTail]
theorem uu {X:Type}{sep:List UInt8}{g:X→List UInt8} (l:List X):(l.zipIdx 0).foldl (fun s p=>(if p.2>0 then s++sep else s)++g p.1) []=Lib.join (l.map g) sep:=by
 cases l with
 | nil=>rfl
 | cons x l =>
   simp only[List.zipIdx_cons,List.foldl_cons]
   rw[zn (by omega),o7 l (0+1) _ (by omega),List.map_cons,Lib.join_cons]
   simp
theorem rM {sep:List UInt8}{m:Nat}:∀ {l:List (List UInt8)},(∀ x∈l,x.length≤m)→(Lib.joinTail sep l).length≤l.length*(sep.length+m)
 | [],_=>by simp[Lib.joinTail]
 | x::l,h=>by
   have h1:=h x (List.mem_cons_self ..)
   have h2:=rM (sep:=sep) (l:=l) (fun y hy=>h y (List.mem_cons_of_mem _ hy))
   have e:Lib.joinTail sep (x::l)=sep++x++Lib.joinTail sep l:=by simp[Lib.joinTail]
   rw[e]
   simp only[List.length_append,zl,Nat.succ_mul]
   omega
theorem sj {sep:List UInt8}{m:Nat}{l:List (List UInt8)} (h:∀ x∈l,x.length≤m):(Lib.join l sep).length≤l.length*(sep.length+m):=by
 cases l with
 | nil=>simp[Lib.join_nil]
 | cons x l =>
   have h1:=h x (List.mem_cons_self ..)
   have h2:=rM (sep:=sep) (l:=l) (fun y hy=>h y (List.mem_cons_of_mem _ hy))
   rw[Lib.join_cons]
   simp only[List.length_append,zl,Nat.succ_mul]
   omega
def bj (s:List UInt8):List UInt8:=s.flatMap fun b=>if b.toNat=47∨b.toNat=92 then [92,b] else [b]
theorem jT {s:List UInt8}:(bj s).length≤2*s.length:=by
 induction s with
 | nil=>simp[bj]
 | cons b s ih =>
   unfold bj at ih ⊢
   rw[List.flatMap_cons,List.length_append,zl]
   have:(if b.toNat=47∨b.toNat=92 then [92,b] else [b]).length≤2:=by split<;>simp
   omega
theorem qB {s:List UInt8} (hs:s.length<1000000):zca s=some (bj s):=by
 have key:∀ (k i:Nat) (b:Bool) (o:List UInt8),s.length-i≤k→i≤s.length→o.length≤2*i→aP (lw s) ((i:Int),bI o,(b,(),()),())=some (o++bj (s.drop i)):=by
   intro k
   have fin:∀ (i:Nat) (b:Bool) (o:List UInt8),i=s.length→o.length≤2*i→aP (lw s) ((i:Int),bI o,(b,(),()),())=some (o++bj (s.drop i)):=by
     intro i b o hi ho
     refine aB ?_
     unfold lw
     simp only[ah]
     rw[zn (by omega),mZ (by omega),List.drop_eq_nil_of_le (by omega)]
     simp[bj]
   induction k with
   | zero=>intro i b o hk hi ho; exact fin i b o (by omega) ho
   | succ k ih =>
     intro i b o hk hi ho
     by_cases hlt:i<s.length
     · have hl:∀ o:List UInt8,(bI o).length=o.length:=fun o=>ji
       have tail:∀ (b:Bool) (o:List UInt8),o.length≤2*i+1→((zae ((s[i].toNat:Nat):Int) (b,(),()) (bI o)).bind fun q7=>(some (.inl ((IntKind.wrap .i64 ((i:Int)+1)),q7.2.2.1,q7.2.1,())):Option ((Int×List Int×(Bool×Unit×Unit)×Unit)⊕List UInt8)))=some (.inl (((i+1:Nat):Int),bI (o++[s[i]]),(true,(),()),())):=by
         intro b o ho
         rw[ct (by rw[hl]; omega),wrap64 (by omega) (by omega)]
         simp only[zb,ib]
         rfl
       have w92:∀ (b:Bool),zae 92 (b,(),()) (bI o)=some (false,(true,(),()),bI (o++[92]),()):=by
         intro b
         rw[ct (by rw[hl]; omega),ib]
         rfl
       have hd:bj (s.drop i)=(if s[i].toNat=47∨s[i].toNat=92 then [92,s[i]] else [s[i]])++bj (s.drop (i+1)):=by
         rw[List.drop_eq_getElem_cons hlt]
         unfold bj
         rw[List.flatMap_cons]
       have turn:lw s ((i:Int),bI o,(b,(),()),())=some (.inl (((i+1:Nat):Int),bI (o++(if s[i].toNat=47∨s[i].toNat=92 then [92,s[i]] else [s[i]])),(true,(),()),())):=by
         unfold lw
         simp only[ah]
         rw[zp (by omega),bf hlt]
         simp only[zb]
         by_cases h1:s[i].toNat=47
         · rw[zp (by omega),w92]
           simp only[zb,aE]
           rw[tail _ _ (by simp<;>omega),zp (.inl h1),List.append_assoc]
           rfl
         · rw[zn (by omega)]
           by_cases h2:s[i].toNat=92
           · rw[zp (by omega),w92]
             simp only[zb,aE]
             rw[tail _ _ (by simp<;>omega),zp (.inr h2),List.append_assoc]
             rfl
           · rw[zn (by omega)]
             simp only[zb,aE]
             rw[tail _ _ (by omega),zn (by omega)]
       rw[aF turn,ih (i+1) true _ (by omega) (by omega) (by
         rw[List.length_append]
         have:(if s[i].toNat=47∨s[i].toNat=92 then [92,s[i]] else [s[i]]).length≤2:=by split<;>simp
         omega),hd,List.append_assoc]
     · exact fin i b o (by omega) ho
 have:=key s.length 0 false [] (by omega) (by omega) (by simp)
 simpa [zca,bI] using this
def eb (p:Path):List UInt8:=Lib.join (p.map bj) [47]
theorem amr {l:List (List UInt8)}{sep:List UInt8}{m:Nat} (hl:l.length≤1000) (hs:sep.length≤1000) (hm:m≤1000000) (h:∀ x∈l,x.length≤m):zbc l sep=some (Lib.join l sep):=by
 unfold zbc aaM
 have:=sj (sep:=sep) h
 have h2:l.length*(sep.length+m)≤1000*1001000:=Nat.mul_le_mul hl (by omega)
 rw[zp ⟨by omega,by omega⟩]
theorem iZ {p:Path} (h:∀ x∈p,x.length≤120):∀ x∈p.map bj,x.length≤240:=by
 intro x hx
 rw[List.mem_map] at hx
 obtain ⟨y,hy,rfl⟩:=hx
 have:=h y hy
 have:=jT (s:=y)
 omega
theorem fm {p:Path} (h1:p.length≤12) (h:∀ x∈p,x.length≤120):(eb p).length≤3000:=by
 have:=sj (sep:=[47]) (iZ h)
 rw[List.length_map] at this
 have h2:p.length*(([47]:List UInt8).length+240)≤12*241:=Nat.mul_le_mul h1 (by simp)
 unfold eb
 omega
theorem tY {p:Path} (h1:p.length≤12) (h:∀ x∈p,x.length≤120):zcn p=some (eb p):=by
 have:=fu (f:=rv p) (l:=p) (S:=List (List UInt8)) (fun i o=>((i:Int),o,())) (fun i x o=>.inl (o++[bj x])) (fun _=>eb p) (fun i o=>o=(p.take i).map bj) (fun i hi o ho=>.inl ⟨_,rfl,by
   unfold rv
   simp only[ah]
   have hq:=h _ (List.getElem_mem hi)
   rw[zp (by omega),bf hi]
   simp only[zb,qB (show p[i].length<1000000 by omega)]
   rw[d5 (by rw[ho]; simp; omega),wrap64 (by omega) (by omega)]
   rfl,by
   rw[ho,List.take_add_one,List.map_append,zg hi]
   rfl⟩) (fun o ho=>by
   unfold rv
   simp only[ah]
   rw[List.take_length] at ho
   subst ho
   rw[zn (by omega),amr (m:=240) (by simp; omega) (by simp) (by omega) (iZ h)]
   rfl) [] (by simp)
 rw[pm] at this
 exact this
theorem gG {v:Val} (h:bP v=true):(dE v).length≤1000:=by
 rcases dc h with ⟨n,rfl,g1,g2⟩ | ⟨s,l,rfl,g1,g2⟩ | rfl | rfl
 · have:=gT (n:=n) (by omega) (by omega)
   show (Lib.itoa n).length≤1000
   omega
 · have:=oM s
   show ([34]++aO s++[34]).length≤1000
   simp only[List.length_append,zl,List.length_nil]; omega
 · decide
 · decide
theorem cF {n:Int} (h:inR n):(Lib.itoa n).length≤21:=gT h.1 h.2
theorem rO {s:List UInt8} (n:Nat) {i:Int} (hi:i=(n:Int)) (h:n≤s.length):subI s i (s.length:Int)=some (s.drop n):=by subst hi; exact eh h
def one (c:Int) (a:List Int):Prop:=c = -2∨∃ x,a=[x]∧(c = -1∨c=x)
def Mt:List Int→List Int→Prop
 | [],t=>t=[]
 | c::o,t=>∃ a b,t=a++b∧one c a∧Mt o b
structure Inv (o t:List Int) (k:Nat) (star:Int) (mark i:Nat):Prop where
 k_le:k≤o.length
 i_le:i≤t.length
 no:star<0→(Mt o t↔Mt (o.drop k) (t.drop i))
 is:∀ st:Nat,star=(st:Int)→st<k∧mark≤i∧(Mt o t↔Mt (-2::o.drop (st+1)) (t.drop mark))∧(Mt (o.drop k) (t.drop i)→Mt (o.drop (st+1)) (t.drop mark))∧(∀ u,Mt (o.drop (st+1)) u→Mt (o.drop k) (u.drop (i-mark)))
 le : -1≤star
abbrev Dot1:=Int×Int×Unit
abbrev Ref1:=Dot1×Int×Unit
abbrev Op1:=Int×Path×Val×Int×List Ref1×Unit
abbrev Txn1:=Dot1×Int×Int×Bool×List Op1×Unit
abbrev amR:=Ref1×Op1×Int×Unit
abbrev amc:Ty:=.agg (.cons (.agg (.cons (.int .i64) (.cons (.int .i64) .unit))) (.cons (.int .i64) .unit))
theorem agz {K L:Type}{c:K→K→Int} (h:Cmp c) (f:L→K) (hf:∀ a b,f a=f b→a=b):Cmp fun a b=>c (f a) (f b) where
 one a b:=h.one _ _
 neg a b:=h.neg _ _
 zero a b:=⟨fun e=>hf _ _ ((h.zero _ _).1 e),fun e=>(h.zero _ _).2 (by rw[e])⟩
 trans a b d:=h.trans _ _ _
theorem abK:Cmp cmpD:=by
 have:cmpD=fun a b=>cmpB cmpI cmpI ((fun x:Dot1=>(x.1,x.2.1)) a) ((fun x:Dot1=>(x.1,x.2.1)) b):=rfl
 rw[this]
 exact agz (ze.pair ze) _ fun a b h=>by
   obtain ⟨a1,a2,⟨⟩⟩:=a; obtain ⟨b1,b2,⟨⟩⟩:=b
   simp only[Prod.mk.injEq] at h
   rw[h.1,h.2]
def cmpR (a b:Ref1):Int:=orI (cmpD a.1 b.1) (cmpI a.2.1 b.2.1)
theorem yw (a b:Int):zb4 a b=some (cmpI a b):=by
 unfold zb4 cmpI
 simp only[ah]
 by_cases h1:a<b
 · rw[zp h1,zp h1]
 · by_cases h2:a>b
   · rw[zn h1,zp h2,zn h1,zp h2]
   · rw[zn h1,zn h2,zn h1,zn h2]
theorem pK (a b:Int):cmpI a b=0↔a=b:=ze.zero a b
theorem aam (a b:Dot1):za1 a b=some (cmpD a b):=by
 unfold za1 cmpD orI
 simp only[yw,zb,aH]
 by_cases h:a.1=b.1
 · rw[zp h,zp ((pK _ _).2 h)]
 · rw[zn h,zn (fun e=>h ((pK _ _).1 e))]
theorem aak (a b:Ref1):zcd a b=some (cmpR a b):=by
 unfold zcd cmpR orI
 simp only[aam,yw,zb,aH]
 by_cases h:cmpD a.1 b.1=0
 · rw[zp h,zp h]
 · rw[zn h,zn h]
theorem amB (a b:Dot1):zbr a b=some (cmpD a b):=by
 unfold zbr
 simp only[pH,or_t,zb]
 rfl
theorem lT (d:Dot1):zbw d=some (bZ d):=by
 unfold zbw bZ
 simp only[ah]
 by_cases h1:d.1≥0<;>by_cases h2:d.1≤15<;>by_cases h3:d.2.1≥1<;>by_cases h4:d.2.1≤1048576<;>simp[h1,h2,h3,h4]<;>omega
theorem aoC (a b:Ref1):eqV amc a b=decide (a=b):=by
 obtain ⟨⟨a1,a2,⟨⟩⟩,a3,⟨⟩⟩:=a
 obtain ⟨⟨b1,b2,⟨⟩⟩,b3,⟨⟩⟩:=b
 simp only[eqV,Prod.mk.injEq,and_true]
 by_cases h1:a1=b1<;>by_cases h2:a2=b2<;>by_cases h3:a3=b3<;>simp[h1,h2,h3]
theorem agf (a b:Dot1):eqV (.agg (.cons (.int .i64) (.cons (.int .i64) .unit))) a b=decide (a=b):=by
 obtain ⟨a1,a2,⟨⟩⟩:=a
 obtain ⟨b1,b2,⟨⟩⟩:=b
 simp only[eqV,Prod.mk.injEq,and_true]
 by_cases h1:a1=b1<;>by_cases h2:a2=b2<;>simp[h1,h2]
def ami (x:Ref1):Bool:=bZ x.1&&decide (0≤x.2.1∧x.2.1≤15)
def xr (l:List Ref1) (i:Nat):Bool :=
 match l[i]? with
 | some x=>ami x&&(decide (i=0)||match l[i-1]? with
   | some y=>decide (cmpR y x = -1)
   | none=>false)
 | none=>false
open Classical in
noncomputable def ni (l:List Ref1):Bool:=if (∀ i,i<l.length→xr l i=true) then true else false
theorem xw {l:List Ref1} (hl:l.length<1000000):zb3 l=some (ni l):=by
 have:=yd (f:=rE l) l.length (fun i=>((i:Int),())) (xr l) true false (fun i h=>by
   unfold rE xr ami
   rw[zg h]
   simp only[ah]
   rw[zp (by omega),bf h]
   simp only[zb,lT]
   by_cases h0:bZ l[i].1=true
   · simp only[h0,Bool.not_true,cond_false,Bool.true_and]
     by_cases h1:l[i].2.1<0
     · rw[zp h1,zf (by omega)]; rfl
     rw[zn h1]
     by_cases h2:l[i].2.1>15
     · rw[zp h2,zf (by omega)]; rfl
     rw[zn h2,zt (by omega),Bool.true_and]
     by_cases h3:i=0
     · subst h3
       rw[zn (by omega),wrap64 (by omega) (by omega)]; rfl
     · rw[zp (by omega),wrap64 (by omega) (by omega),show (i:Int)-1=((i-1:Nat):Int) by omega,bf (by omega),zg (show i-1<l.length by omega)]
       simp only[zb,aak,aH]
       by_cases h4:cmpR l[i-1] l[i] = -1
       · rw[zp h4,wrap64 (by omega) (by omega)]; simp[h3,h4]
       · rw[zn h4]; simp[h3,h4]
   · have h0:bZ l[i].1=false:=by simpa using h0
     simp only[h0,Bool.not_false,cond_true,Bool.false_and]; rfl) (by
   unfold rE
   simp only[ah]
   rw[zn (by omega)])
 unfold zb3 ni
 rw[show ((0:Int),())=(((0:Nat):Int),()) from rfl,this]
def zeroV:Val:=(0,0,[],())
noncomputable def opM (o:Op1):Int :=
 if o.1<1∨5<o.1 then 18 else if ci o.2.1≠0 then ci o.2.1
 else if (o.1=3∨o.1=5)∧o.2.2.1≠zeroV then 2
 else if ¬ (o.1=3∨o.1=5)∧bP o.2.2.1=false then 2
 else if o.1≠3∧o.2.2.2.1≠0 then 2
 else if o.1=3∧(o.2.2.2.1=0∨o.2.2.2.1>2147483647∨o.2.2.2.1 < -2147483647) then 2
 else if (o.1=2∨o.1=3)∧0<o.2.2.2.2.1.length then 2
 else if 256<o.2.2.2.2.1.length then 7
 else if ni o.2.2.2.2.1=true then 0 else 2
def cD (o:Op1):Prop:=o.2.1.length≤12∧(∀ x∈o.2.1,x.length≤120)∧o.2.2.1.2.2.1.length≤200∧o.2.2.2.2.1.length≤300
theorem afJ {o:Op1} (h:cD o):zbg o=some (opM o):=by
 obtain ⟨s1,s2,s3,s4⟩:=h
 obtain ⟨k,p,v,n,sn,⟨⟩⟩:=o
 simp only at s1 s2 s3 s4
 unfold zbg opM
 simp only[ah,aH,yN,tQ (p:=p) (fun x hx=>by have:=s2 x hx; omega),qo (v:=v) (by omega),xw (l:=sn) (by omega),zb]
 have ez:((0,0,[],()):Val)=zeroV:=rfl
 simp only[ez]
 by_cases a1:k<1
 · rw[zp a1,zp (.inl a1)]
 rw[zn a1]
 by_cases a2:k>5
 · rw[zp a2,zp (.inr a2)]
 rw[zn a2]
 rw[zn (show ¬ (k<1∨5<k) by omega)]
 by_cases a3:¬ ci p=0
 · rw[zn a3,zp (show ci p≠0 from a3)]
 have a3:ci p=0:=Classical.not_not.1 a3
 rw[zp a3,zn (show ¬ ci p≠0 from fun e=>e a3)]
 have hlen:((sn.length:Int)>0)↔0<sn.length:=by omega
 have hlen2:((sn.length:Int)>256)↔256<sn.length:=by omega
 simp only[hlen,hlen2]
 have last:(cond (!ni sn) (some (2:Int)) (some 0))=some (if ni sn=true then 0 else 2):=by cases ni sn<;>rfl
 by_cases k3:k=3
 · subst k3
   by_cases hz:v=zeroV
   · by_cases n0:n=0
     · simp[hz,n0]
     · by_cases n1:n>2147483647
       · simp[hz,n0,n1]
       · by_cases n2:n < -2147483647
         · simp[hz,n0,n1,n2]
         · by_cases l0:0<sn.length
           · simp[hz,n0,n1,n2,l0]
           · by_cases l2:256<sn.length
             · omega
             · simp[hz,n0,n1,n2,l0,l2,last]
   · simp[hz]
 · by_cases k5:k=5
   · subst k5
     by_cases hz:v=zeroV
     · by_cases n0:n=0
       · by_cases l2:256<sn.length
         · simp[hz,n0,l2]
         · simp[hz,n0,l2,last]
       · simp[hz,n0]
     · simp[hz]
   · cases hr:bP v with
     | false=>simp[k3,k5,hr]
     | true =>
       by_cases n0:n=0
       · by_cases k2:k=2
         · subst k2
           by_cases l0:0<sn.length
           · simp[n0,l0]
           · by_cases l2:256<sn.length
             · omega
             · simp[n0,l0,l2,last]
         · by_cases l2:256<sn.length
           · simp[k2,k3,k5,n0,l2]
           · simp[k2,k3,k5,n0,l2,last]
       · simp[k3,k5,n0]
def jn (o:Op1):Bool:=decide (o.1=0∧o.2.1=[]∧o.2.2.1=zeroV∧o.2.2.2.1=0∧o.2.2.2.2.1=[])
theorem amx (o:Op1):zcb o=some (jn o):=by
 obtain ⟨k,p,v,n,sn,⟨⟩⟩:=o
 unfold zcb jn
 simp only[ah,yN]
 have ez:((0,0,[],()):Val)=zeroV:=rfl
 simp only[ez]
 have e1:((p.length:Int)=0)↔p=[]:=by rw[show ((p.length:Int)=0)↔p.length=0 by omega,List.length_eq_zero_iff]
 have e2:((sn.length:Int)=0)↔sn=[]:=by rw[show ((sn.length:Int)=0)↔sn.length=0 by omega,List.length_eq_zero_iff]
 simp only[e1,e2]
 by_cases h1:k=0<;>by_cases h2:p=[]<;>by_cases h3:v=zeroV<;>by_cases h4:n=0<;>by_cases h5:sn=[]<;>simp[h1,h2,h3,h4,h5]
def oC (o:Op1):Bool:=decide (o.2.1.length≤12)&&(o.2.1.all fun x=>decide (x.length≤120))&&decide (o.2.2.1.2.2.1.length≤200)&&decide (o.2.2.2.2.1.length≤300)
theorem xg (o:Op1):zbh o=some (oC o):=by
 unfold zbh oC
 simp only[aaf,zb,ah]
 cases (decide (o.2.1.length≤12)&&o.2.1.all fun x=>decide (x.length≤120)) with
 | false=>rfl
 | true =>
   rw[cond_true,Bool.true_and]
   by_cases h3:((o.2.2.1.2.2.1.length:Int)≤200)
   · rw[zp h3,zt (show o.2.2.1.2.2.1.length≤200 by omega),Bool.true_and]
     congr 1
     by_cases h4:((o.2.2.2.2.1.length:Int)≤300)
     · rw[zt h4,zt (by omega)]
     · rw[zf h4,zf (by omega)]
   · rw[zn h3,zf (show ¬ o.2.2.1.2.2.1.length≤200 by omega)]; rfl
noncomputable def amf (t:Txn1):Bool:=decide (t.2.2.2.2.1.length≤20)&&t.2.2.2.2.1.all oC
open Classical in
def oneM (x:Ref1):Bool:=bZ x.1&&decide (1≤x.2.1∧x.2.1≤64)
open Classical in
abbrev xq (u:List Ref1):Prop:=agw cmpD (·.1) u
structure CountsOk (u:List Ref1):Prop where
 len:u.length≤100
 rise:xq u
 one:∀ x∈u,oneM x=true
structure TxnOk (t:Txn1):Prop where
 len:t.2.2.2.2.1.length≤16
 pos:0<t.2.2.2.2.1.length
 ops:∀ o∈t.2.2.2.2.1,cD o∧(opM o=0∨t.2.2.2.1=true∧jn o=true)
 dot:bZ t.1=true
 user:0≤t.2.1∧t.2.1≤7
 time:1≤t.2.2.1∧t.2.2.1≤1099511627776
abbrev aow (l:List Txn1):Prop:=agw cmpD (·.1) l
structure TxnsOk (l:List Txn1) (n:Nat):Prop where
 len:l.length≤n
 rise:aow l
 all:∀ t∈l,TxnOk t
open Classical in
def getM (u:List Ref1) (d:Dot1):Int:=match u with
 | []=>0
 | x::u=>if x.1=d then x.2.1 else getM u d
def aov (u:List Ref1) (d:Dot1):Bool:=match remT (getM u d) 2 with
 | some x=>decide (x=0)
 | none=>false
structure Low (l:List Txn1):Prop where
 len:l.length≤1000
 ops:∀ t∈l,t.2.2.2.2.1.length≤1000
 seen:∀ t∈l,∀ o∈t.2.2.2.2.1,o.2.2.2.2.1.length<1000000
structure LowU (u:List Ref1):Prop where
 len:u.length<1000000
 rise:xq u
def afN (k:Int):Bool:=decide (1≤k∧k≤3)
structure LowI (l:List amR):Prop where
 len:l.length<1000000
 path:∀ x∈l,x.2.1.2.1.length<1000000∧∀ s∈x.2.1.2.1,s.length<1000000
structure Mid (l w:List Val) (i0 k i:Nat):Prop where
 len:w.length=l.length
 head:w.take i=sqz (l.take (i0+k))
 rest:∀ j,i0+k-1≤j→w[j]? = l[j]?
 low:i≤i0+k-1
structure LowP (l:List Txn1):Prop where
 low:Low l
 ops:∀ t∈l,∀ o∈t.2.2.2.2.1,(o.2.1.length<1000000∧∀ s∈o.2.1,s.length<1000000)∧o.2.2.1.2.2.1.length<1000000
abbrev aoG:=Path×Int×Unit
structure MidS (l w:List (List UInt8)) (i0 k i:Nat):Prop where
 len:w.length=l.length
 head:w.take i=sqz (l.take (i0+k))
 rest:∀ j,i0+k-1≤j→w[j]? = l[j]?
 low:i≤i0+k-1
structure MidL (l w:List aoG) (i0 k i:Nat):Prop where
 len:w.length=l.length
 head:w.take i=sqz (l.take (i0+k))
 rest:∀ j,i0+k-1≤j→w[j]? = l[j]?
 low:i≤i0+k-1
structure OpOk (o:Op1):Prop where
 kind:1≤o.1∧o.1≤5
 path:ci o.2.1=0
 val:o.1≠3→o.1≠5→bP o.2.2.1=true
 noval:o.1=3∨o.1=5→o.2.2.1=zeroV
 num:o.1=3→o.2.2.2.1≠0∧o.2.2.2.1≤2147483647 ∧ -2147483647≤o.2.2.2.1
 nonum:o.1≠3→o.2.2.2.1=0
 noseen:o.1=2∨o.1=3→o.2.2.2.2.1=[]
 seen:o.2.2.2.2.1.length≤256∧ni o.2.2.2.2.1=true
structure ItemsOk (l:List amR):Prop where
 len:l.length≤320
 op:∀ x∈l,OpOk x.2.1∧cD x.2.1∧afN x.2.1.1=true
theorem jw {A B:Type}{g:A→B}:∀ {l:List A},(l.flatMap fun x=>[g x])=l.map g
 | []=>rfl
 | x::l=>by rw[List.flatMap_cons,List.map_cons,jw]; rfl
def NS (G:Prop) {A:Type} (o:Option A) (b:A):Prop:=o=some b∨¬ G∧o=none
theorem NS.bind {G:Prop}{A B:Type}{o:Option A}{a:A}{f:A→Option B}{b:B} (h:NS G o a) (hf:NS G (f a) b):NS G (o.bind f) b:=by
 rcases h with h | ⟨h1,h2⟩
 · rw[h,zb]; exact hf
 · exact .inr ⟨h1,by rw[h2]; rfl⟩
abbrev aox:List Ent→Prop:=agw cmpK keyE
def seen (q:List Ent) (k:Path×Int):Bool:=match q with
 | x::_=>decide (cmpK (keyE x) k=0)
 | []=>false
structure VOk (v:List Ent):Prop where
 len:v.length≤320
 easy:∀ e∈v,aoD e
 rise:aox v
theorem VOk.low {v:List Ent} (h:VOk v):∀ e∈v,lowE e:=fun e he=>(h.easy e he).1
theorem oL:ni []=true:=by
 unfold ni
 rw[zp (by intro i h; simp at h)]
theorem amg {a:UInt8} (h:a.toNat<128):bN [a]=some [(a.toNat:Int)]:=by
 have hc:aC [a]=((a.toNat:Int),1):=by simp only[aC]; rw[zp h]
 rw[dG (by simp) (by rw[hc]; simp),hc]
 show (bN []).map _=_
 rw[dz]; rfl
theorem amn {a:UInt8} (h:a.toNat<128) (hm:mayM (a.toNat:Int)=true):fc [a]=true:=by
 unfold fc
 rw[amg h]
 simp[hm]
theorem aa2:ci [[97],[107]]=0:=by
 unfold ci
 simp[amn (a:=97) (by decide) (by decide),amn (a:=107) (by decide) (by decide)]
abbrev agy:=List Int×List Dot1×Unit
abbrev St1:=List Txn1×List Ref1×agy×agy×List (List Dot1)×Unit
theorem iP (d:Dot1):zcr d=some (bZ d):=by
 unfold zcr bZ
 simp only[ah]
 by_cases h1:d.1≥0<;>by_cases h2:d.1<16<;>by_cases h3:d.2.1≥1<;>by_cases h4:d.2.1≤1048576<;>simp[h1,h2,h3,h4]<;>omega
structure DOk (s:agy) (n:Nat):Prop where
 vec:s.1.length=16
 len:s.2.1.length≤n
 right:∀ d∈s.2.1,bZ d=true
structure Wide (s:St1):Prop where
 known:s.2.2.1.1.length=16
 fast:s.2.2.2.1.1.length=16
 redo:s.2.2.2.2.1.length=8
structure ShortS (s:St1):Prop where
 txns:s.1.length≤20
 undos:s.2.1.length≤100
 known:s.2.2.1.2.1.length≤100
 fast:s.2.2.2.1.2.1.length≤100
 all:∀ t∈s.1,amf t=true
 redo:∀ l∈s.2.2.2.2.1,l.length≤40
structure GoodS (s:St1):Prop where
 txns:TxnsOk s.1 20
 undos:CountsOk s.2.1
 known:DOk s.2.2.1 100
 fast:DOk s.2.2.2.1 100
 rlen:s.2.2.2.2.1.length=8
 redo:∀ l∈s.2.2.2.2.1,l.length≤40
def ku:List Ref1→Ref1→List Ref1
 | [],x=>[x]
 | y::l,x=>if cmpD y.1 x.1<0 then y::ku l x else if 0<cmpD y.1 x.1 then x::y::l else (y.1,max y.2.1 x.2.1,())::l
theorem pa {x:Ref1}:∀ (l:List Ref1),(ku l x).length≤l.length+1
 | []=>by simp[ku]
 | y::l=>by
   have:=pa (x:=x) l
   unfold ku
   split
   · simp; omega
   · split<;>simp
theorem o9 {x z:Ref1}:∀ {l:List Ref1},z∈ku l x→z.1=x.1∨∃ y∈l,z.1=y.1
 | [],h=>by
   rw[List.mem_singleton.1 h]; exact .inl rfl
 | y::l,h=>by
   unfold ku at h
   split at h
   · rcases List.mem_cons.1 h with e | h
     · exact .inr ⟨y,List.mem_cons_self ..,by rw[e]⟩
     · rcases o9 h with e | ⟨w,w1,w2⟩
       · exact .inl e
       · exact .inr ⟨w,List.mem_cons_of_mem _ w1,w2⟩
   · split at h
     · rcases List.mem_cons.1 h with e | h
       · exact .inl (by rw[e])
       · exact .inr ⟨z,h,rfl⟩
     · rcases List.mem_cons.1 h with e | h
       · exact .inr ⟨y,List.mem_cons_self ..,by rw[e]⟩
       · exact .inr ⟨z,List.mem_cons_of_mem _ h,rfl⟩
theorem o8 {x:Ref1} (hx:oneM x=true):∀ {l:List Ref1},(∀ y∈l,oneM y=true)→∀ z∈ku l x,oneM z=true
 | [],_,z,h=>by rw[List.mem_singleton.1 h]; exact hx
 | y::l,hl,z,h=>by
   unfold ku at h
   split at h
   · rcases List.mem_cons.1 h with e | h
     · rw[e]; exact hl y (List.mem_cons_self ..)
     · exact o8 hx (fun w hw=>hl w (List.mem_cons_of_mem _ hw)) z h
   · split at h
     · rcases List.mem_cons.1 h with e | h
       · rw[e]; exact hx
       · exact hl z h
     · rcases List.mem_cons.1 h with e | h
       · have hy:=hl y (List.mem_cons_self ..)
         rw[e]
         unfold oneM at hx hy ⊢
         simp only[Bool.and_eq_true,decide_eq_true_eq] at hx hy ⊢
         exact ⟨hy.1,by omega,by omega⟩
       · exact hl z (List.mem_cons_of_mem _ h)
theorem me {x:Ref1}:∀ {l:List Ref1},xq l→xq (ku l x)
 | [],_=>List.pairwise_singleton ..
 | y::l,h=>by
   have h1:=List.pairwise_cons.1 h
   unfold ku
   split
   · rename_i c
     refine List.pairwise_cons.2 ⟨fun z hz => ?_,me h1.2⟩
     show cmpD y.1 z.1<0
     rcases o9 hz with e | ⟨w,w1,w2⟩
     · rw[e]; exact c
     · rw[w2]; exact h1.1 w w1
   · rename_i c
     split
     · rename_i d
       have d':cmpD x.1 y.1<0:=by have:=abK.neg x.1 y.1; omega
       refine List.pairwise_cons.2 ⟨fun z hz => ?_,h⟩
       rcases List.mem_cons.1 hz with e | hz
       · rw[e]; exact d'
       · exact abK.trans _ _ _ d' (h1.1 z hz)
     · exact List.pairwise_cons.2 ⟨h1.1,h1.2⟩
structure UOk (u:List Ref1) (n:Nat):Prop where
 len:u.length≤n
 rise:xq u
 one:∀ x∈u,oneM x=true
theorem UOk.low {u:List Ref1}{n:Nat} (h:UOk u n) (hn:n<100000):LowU u:=⟨by have:=h.len; omega,h.rise⟩
theorem UOk.join {u:List Ref1}{n:Nat}{x:Ref1} (h:UOk u n) (hx:oneM x=true):UOk (ku u x) (n+1):=⟨by have:=pa (x:=x) u; have:=h.len; omega,me h.rise,o8 hx h.one⟩
structure StOk (s:St1) (n:Nat):Prop where
 txns:s.1.length≤1000
 undos:UOk s.2.1 n
 vec:s.2.2.2.1.1.length=16
 more:s.2.2.2.1.2.1.length≤100000
 rlen:s.2.2.2.2.1.length=8
theorem GoodS.st {s:St1} (h:GoodS s):StOk s 100:=⟨by have:=h.txns.len; omega,⟨h.undos.len,h.undos.rise,h.undos.one⟩,h.fast.vec,by have:=h.fast.len; omega,h.rlen⟩
def keyT (t:Txn1):Int×Dot1:=(t.2.2.1,t.1)
def aoE:Int×Dot1→Int×Dot1→Int:=cmpB cmpI cmpD
def cmpT (a b:Txn1):Int:=aoE (keyT a) (keyT b)
def Cand (s:St1) (user:Int) (t:Txn1):Prop:=t∈s.1∧t.2.1=user∧aov s.2.1 t.1=true
structure Best (s:St1) (user:Int) (t:Txn1):Prop where
 cand:Cand s user t
 top:∀ x,Cand s user x→cmpT x t≤0
structure Undone (s u:St1) (t:Txn1) (k:Nat) (l:List Dot1):Prop where
 txns:u.1=s.1
 get:∀ d,getM u.2.1 d=if d=t.1 then getM s.2.1 t.1+1 else getM s.2.1 d
 st:StOk u 101
 fast:u.2.2.2.1=s.2.2.2.1
 redo:u.2.2.2.2.1[k]? = some (l++[t.1])
theorem kE (rec:(Int×Unit)→Option (List UInt8)) {a:Int} (h : -9223372036854775808≤a) (h2:a≤9223372036854775807):dZ rec a =
   if a<0 then (if a > -10 then (rec (((a.natAbs:Nat):Int),())).bind fun r=>catT [45] r
     else (rec (((a.natAbs/10:Nat):Int),())).bind fun r=>(catT [45] r).bind fun s=>(rec (((a.natAbs%10:Nat):Int),())).bind fun t=>catT s t)
   else if a<10 then some [UInt8.ofNat (48+a.toNat)] else (rec (((a.toNat/10:Nat):Int),())).bind fun r=>catT r [UInt8.ofNat (48+a.toNat%10)]:=by
 unfold dZ
 by_cases h0:a<0
 · rw[ah,zp h0,zp h0]
   by_cases h1:a > -10
   · rw[ah,zp h1,zp h1,wrap64 (by omega) (by omega),show (0-a)=((a.natAbs:Nat):Int) by omega]
     cases rec (((a.natAbs:Nat):Int),()) with
     | none=>rfl
     | some r=>simp only[zb]; cases catT [45] r<;>rfl
   · rw[ah,zn h1,zn h1,amk h h0,amh h0]
     simp only[zb]
     rw[wrap64 (n:=0 - -((a.natAbs/10:Nat):Int)) (by omega) (by omega),wrap64 (n:=0 - -((a.natAbs%10:Nat):Int)) (by omega) (by omega),show (0 - -((a.natAbs/10:Nat):Int))=((a.natAbs/10:Nat):Int) by omega,show (0 - -((a.natAbs%10:Nat):Int))=((a.natAbs%10:Nat):Int) by omega]
     cases rec (((a.natAbs/10:Nat):Int),()) with
     | none=>rfl
     | some r =>
       simp only[zb]
       cases catT [45] r with
       | none=>rfl
       | some s =>
         simp only[zb]
         cases rec (((a.natAbs%10:Nat):Int),()) with
         | none=>rfl
         | some t=>simp only[zb]; cases catT s t<;>rfl
 · rw[ah,zn h0,zn h0]
   obtain ⟨n,rfl⟩:∃ n:Nat,a=(n:Int):=⟨a.toNat,by omega⟩
   rw[Int.toNat_natCast]
   by_cases h1:(n:Int)<10
   · rw[ah,zp h1,zp h1,yV (by omega)]; rfl
   · rw[ah,zn h1,zn h1,show (10:Int)=((10:Nat):Int) from rfl,aoz (by omega) (by omega),aoy (by omega)]
     simp only[zb]
     cases rec (((n/10:Nat):Int),()) with
     | none=>rfl
     | some r =>
       simp only[zb]
       rw[yV (by omega)]
       simp only[zb]
       cases catT r [UInt8.ofNat (48+n%10)]<;>rfl
noncomputable abbrev digS:((Int×Unit)→Option (List UInt8))→(Int×Unit)→Option (List UInt8):=fun rec v=>dZ rec v.1
theorem dB:∀ (m n:Nat),n<9223372036854775809→n≤9223372036854775807 →
   (itT digS m ((n:Int),())=none∨itT digS m ((n:Int),())=some (Lib.decDigits n))∧∀ k,m=k+1→n<10 ^ (k+1)→itT digS m ((n:Int),())=some (Lib.decDigits n)
 | 0,n,_,h=>⟨.inl rfl,fun k e=>by omega⟩
 | m+1,n,hn,h=>by
   have e0:itT digS (m+1) ((n:Int),())=dZ (itT digS m) (n:Int):=rfl
   rw[e0,kE (itT digS m) (by omega) (by omega),zn (by omega),Int.toNat_natCast]
   by_cases ha:n<10
   · rw[zp (by omega),cJ ha]
     exact ⟨.inr rfl,fun _ _ _=>rfl⟩
   · rw[zn (by omega)]
     obtain ⟨ih1,ih2⟩:=dB m (n/10) (by omega) (by omega)
     have fin:(some (Lib.decDigits (n/10))).bind (fun r=>catT r [UInt8.ofNat (48+n%10)])=some (Lib.decDigits n):=by
       rw[zb,gB (u:=n) ha]
       have:=gA 19 (n/10) (by simp only[Nat.reducePow]; omega)
       rw[az (by simp only[zl,List.length_nil]; omega)]
     constructor
     · rcases ih1 with e | e
       · left; rw[e]; rfl
       · right; rw[e]; exact fin
     · intro k hk hlt
       have hk':k=m:=by omega
       subst hk'
       cases k with
       | zero=>simp at hlt; omega
       | succ k =>
         rw[ih2 k rfl (qN (by omega) hlt)]; exact fin
theorem mA (m:Nat) {a:Int} (h : -9223372036854775808≤a) (h0:a<0) :
   (itT digS (m+1) (a,())=none∨itT digS (m+1) (a,())=some (Lib.itoa a))∧∀ k,m=k+1→a.natAbs<10 ^ (k+1)→itT digS (m+1) (a,())=some (Lib.itoa a):=by
 have e0:itT digS (m+1) (a,())=dZ (itT digS m) a:=rfl
 rw[e0,kE (itT digS m) h (by omega),zp h0,itoa_neg h0]
 by_cases h1:a > -10
 · rw[zp h1]
   obtain ⟨ih1,ih2⟩:=dB m a.natAbs (by omega) (by omega)
   have fin:(some (Lib.decDigits a.natAbs)).bind (fun r=>catT [45] r)=some (45::Lib.decDigits a.natAbs):=by
     have:=gA 19 a.natAbs (by simp only[Nat.reducePow]; omega)
     rw[zb,az (by simp only[zl,List.length_nil]; omega)]; rfl
   constructor
   · rcases ih1 with e | e
     · left; rw[e]; rfl
     · right; rw[e]; exact fin
   · intro k hk hlt
     rw[ih2 k hk hlt]; exact fin
 · rw[zn h1]
   obtain ⟨ih1,ih2⟩:=dB m (a.natAbs/10) (by omega) (by omega)
   obtain ⟨jh1,jh2⟩:=dB m (a.natAbs%10) (by omega) (by omega)
   have fin:(some (Lib.decDigits (a.natAbs/10))).bind (fun r=>(catT [45] r).bind fun s=>(some (Lib.decDigits (a.natAbs%10))).bind fun t=>catT s t)=some (45::Lib.decDigits a.natAbs):=by
     have l1:=gA 19 (a.natAbs/10) (by simp only[Nat.reducePow]; omega)
     have l2:=gA 19 (a.natAbs%10) (by simp only[Nat.reducePow]; omega)
     simp only[zb]
     rw[az (by simp only[zl,List.length_nil]; omega)]
     simp only[zb]
     rw[az (by rw[List.length_append]; simp only[zl,List.length_nil]; omega),gB (u:=a.natAbs) (by omega),cJ (u:=a.natAbs%10) (by omega)]
     simp
   constructor
   · rcases ih1 with e | e
     · left; rw[e]; rfl
     · rcases jh1 with f | f
       · left; rw[e,f]
         simp only[zb,Option.bind_none]
         cases catT [45] (Lib.decDigits (a.natAbs/10))<;>rfl
       · right; rw[e,f]; exact fin
   · intro k hk hlt
     rw[ih2 k hk (by omega),jh2 k hk (by have:10 ^ 1≤10 ^ (k+1):=Nat.pow_le_pow_right (by omega) (by omega); omega)]
     exact fin
theorem hI {n:Int} (h : -9223372036854775808≤n) (h2:n≤9223372036854775807):za6 n=some (Lib.itoa n):=by
 unfold za6 e7
 by_cases h0:n<0
 · refine abH (fun m => ?_) ⟨20,(mA 19 h h0).2 18 rfl ?_⟩
   · cases m with
     | zero=>exact .inl rfl
     | succ m=>exact (mA m h h0).1
   · simp only[Nat.reducePow,Nat.reduceAdd]; omega
 · obtain ⟨m,rfl⟩:∃ m:Nat,n=(m:Int):=⟨n.toNat,by omega⟩
   rw[fU]
   refine abH (fun k=>(dB k m (by omega) (by omega)).1) ⟨19,(dB 19 m (by omega) (by omega)).2 18 rfl ?_⟩
   simp only[Nat.reducePow,Nat.reduceAdd]; omega
theorem kf:∀ (l:List UInt8) (acc v:Nat),valM acc l=some v→v<1000000000000000000→Lib.parseUint10 acc l = .ok v∧acc≤v
 | [],acc,v,h,hv=>by simp only[valM] at h; cases h; exact ⟨rfl,Nat.le_refl _⟩
 | c::r,acc,v,h,hv=>by
   simp only[valM] at h
   split at h
   · rename_i hc
     obtain ⟨h1,h2⟩:=kf r _ v h hv
     refine ⟨?_,by omega⟩
     simp only[Lib.parseUint10]
     rw[zp hc,zn (by omega),zn (by omega)]
     exact h1
   · cases h
theorem sJ {u:Nat} (hu:u<1000000000000000000):Lib.atoiAll (Lib.decDigits u) = .ok (u:Int):=by
 have hp:=kG u
 have hd:=ew u
 have hv:=wY u
 obtain ⟨h1,_⟩:=kf _ 0 u hv hu
 cases hl:Lib.decDigits u with
 | nil=>rw[hl] at hp; simp at hp
 | cons c r =>
   rw[hl] at hd h1
   have hc:=hd c (List.mem_cons_self ..)
   rw[Lib.atoiAll_plain c r (by have:=hc.1; omega) (by have:=hc.1; omega)]
   unfold Lib.parseMag
   rw[zn (by simp),h1]
   show (if 9223372036854775808≤u then Lib.NumEnd.range else Lib.NumEnd.ok (u:Int))=_
   rw[zn (by omega)]
theorem sK (s:List UInt8) (h:s.length≤281474976710656):∃ v e,za2 s=some (v,e,()):=by
 unfold za2 atoi
 rw[zp h]
 exact ⟨_,_,rfl⟩
theorem sI {u:Nat} (h:u<1000000000000000000):za2 (Lib.decDigits u)=some ((u:Int),false,()):=by
 have:=jz 17 u (by simpa using h)
 unfold za2 atoi
 rw[zp (by omega),sJ h]
theorem amE {s:List UInt8} (h:s≠[]):zag s=some (((decN s).1:Int),((decN s).2:Int),()):=by
 have hl:0<s.length:=by cases s with | nil=>exact absurd rfl h | cons _ _=>simp
 have hz:¬ (⟨s.toArray⟩:ByteArray).size=0:=by show ¬ s.toArray.size=0; simp; exact h
 unfold zag qO Lib.decodeGo
 rw[zn hz,decode_N hl,List.drop_zero]
theorem qx {s:List UInt8} (hs:s.length<1000000):∀ (k i:Nat) (l:List Int),s.length-i≤k→i≤s.length→l.length≤i→aP (lE s) (i,l,())=some (cj (s.drop i) l):=by
 intro k
 have fin:∀ (i:Nat) (l:List Int),¬ i<s.length→aP (lE s) (i,l,())=some (cj (s.drop i) l):=by
   intro i l hi
   rw[List.drop_eq_nil_of_le (by omega),aB (x:=(l,true,())) (by simp only[lE,ah]; rw[zn (by omega)])]
   simp[cj,dz]
 induction k with
 | zero=>intro i l hk hi hl; exact fin i l (by omega)
 | succ k ih =>
   intro i l hk hi hl
   by_cases hlt:i<s.length
   · have hne:s.drop i≠[]:=fun e=>by have:=congrArg List.length e; simp at this; omega
     have hle:=nR (s.drop i)
     simp only[List.length_drop] at hle
     have hci:=fB (s.drop i)
     by_cases h0:(aC (s.drop i)).2=0
     · rw[aB (x:=([],false,()))]
       · simp only[cj,eD hne h0]
       · unfold lE
         rw[ah,zp (by simp only[]; exact hlt)]
         simp only[decode_N hlt,decN,zp h0]
         rw[zt (by omega)]
         simp only[cond_true]
         rw[eh (by omega)]
         simp only[zb,amE hne,decN,zp h0,ah]
         rw[zp (by omega)]
         rfl
     · rw[aF (b:=(i+(aC (s.drop i)).2,l++[(aC (s.drop i)).1],()))]
       · rw[ih _ _ (by omega) (by omega) (by simp; omega)]
         simp only[cj,dG hne h0,List.drop_drop]
         cases bN (s.drop (i+(aC (s.drop i)).2))<;>simp
       · unfold lE
         rw[ah,zp (by simp only[]; exact hlt)]
         simp only[decode_N hlt,decN,zn h0]
         have hnat:(((aC (s.drop i)).1.toNat:Nat):Int)=(aC (s.drop i)).1:=by omega
         simp only[hnat]
         have h1:=zh (s:=s.drop i)
         by_cases hc:(aC (s.drop i)).1=65533
         · rw[zt hc]
           simp only[cond_true]
           rw[eh (by omega)]
           simp only[zb,amE hne,decN,zn h0,ah]
           rw[zn (by omega),aK]
           simp only[]
           rw[d5 (by simp; omega)]
           rfl
         · rw[zf hc]
           simp only[cond_false]
           rw[aK]
           simp only[]
           rw[d5 (by simp; omega)]
           rfl
   · exact fin i l hlt
theorem sb {s:List UInt8} (hs:s.length<1000000):zb5 s=some (cj s []):=by
 have:=qx hs s.length 0 [] (by omega) (by omega) (by simp)
 simpa [zb5] using this
theorem iX {v:Val} (hv:v.2.2.1.length<1000000):zbt v=some (bP v):=by
 unfold zbt bP
 simp only[sb hv,zb,oE,ah]
 by_cases h1:v.1=1
 · rw[zp h1]
   by_cases h2:v.2.2.1=[]
   · by_cases h3:v.2.1 ≥ -2147483647
     · simp only[h1,h2,h3]; simp<;>omega
     · simp only[h1,h2]; simp[h3]<;>omega
   · simp[h1,h2]
 rw[zn h1]
 by_cases h2:v.1=2
 · rw[zp h2]
   cases hr:(bN v.2.2.1).isSome with
   | true =>
     by_cases h3:v.2.1=0
     · simp only[h2,h3]; simp<;>omega
     · simp[h2,h3]
   | false=>simp[h2]
 rw[zn h2]
 by_cases h3:v.1=3
 · rw[zp h3]
   by_cases h4:v.2.2.1=[]
   · by_cases h5:v.2.1=0
     · simp[h3,h4,h5]
     · simp only[h3,h4,zn h5,if_true,Option.some.injEq,decide_eq_decide,true_and,false_and,and_true,false_or,or_false,decide_true,cond_true]
       omega
   · simp[h3,h4]
 rw[zn h3]
 simp[h1,h2,h3]
theorem nj {v:Val} (hs:v.2.2.1.length<1000000):∀ (k i:Nat) (out:List UInt8),v.2.2.1.length-i≤k→i≤v.2.2.1.length→out.length≤2*i+1→aP (oc v) (out,(i:Int),())=some (out++aO (v.2.2.1.drop i)++[34]):=by
 obtain ⟨vk,vn,s,⟨⟩⟩:=v
 simp only at hs ⊢
 intro k
 have fin:∀ (i:Nat) (out:List UInt8),¬ i<s.length→out.length≤3000000→aP (oc (vk,vn,s,())) (out,(i:Int),())=some (out++aO (s.drop i)++[34]):=by
   intro i out hi ho
   rw[List.drop_eq_nil_of_le (by omega)]
   refine aB ?_
   unfold oc
   rw[ah,zn (by simp only[]; omega),az (by simp; omega)]
   simp[aO]
 induction k with
 | zero=>intro i out hk hi ho; exact fin i out (by omega) (by omega)
 | succ k ih =>
   intro i out hk hi ho
   by_cases hlt:i<s.length
   · have hd:s.drop i=s[i]::s.drop (i+1):=fW hlt
     have w1:IntKind.wrap .i64 ((i:Int)+1)=((i+1:Nat):Int):=by rw[wrap64 (by omega) (by omega)]; rfl
     have hsub:subI s (i:Int) ((i+1:Nat):Int)=some [s[i]]:=by
       rw[cZ (by omega) (by omega),List.drop_take,hd]
       have e:i+1-i=1:=by omega
       rw[e]; rfl
     have hbl:(if gq s[i] then ([92,s[i]]:List UInt8) else [s[i]]).length≤2:=by split<;>simp
     rw[aF (b:=(out++(if gq s[i] then [92,s[i]] else [s[i]]),((i+1:Nat):Int),())),ih _ _ (by omega) (by omega) (by rw[List.length_append]; omega),hd,dA]
     · simp only[List.append_assoc]
     unfold oc
     have hc1:catT out [92]=some (out++[92]):=az (by simp; omega)
     have hc2:∀ (o:List UInt8),o.length≤2*i+2→catT o [s[i]]=some (o++[s[i]]):=fun o h=>az (by simp; omega)
     simp only[ah,zp (show (i:Int)<(s.length:Int) by omega),iR,zg hlt,zb,w1,hsub,hc1]
     have e1:((s[i].toNat:Int)=34)↔s[i].toNat=34:=by omega
     have e3:((s[i].toNat:Int)=92)↔s[i].toNat=92:=by omega
     simp only[e1,e3,gq]
     have hl1:(out++[92]:List UInt8).length≤2*i+2:=by simp; omega
     by_cases h1:s[i].toNat=34
     · simp[h1,hc2 _ hl1]
     · by_cases h3:s[i].toNat=92
       · simp[h1,h3,hc2 _ hl1]
       · simp[h1,h3,hc2 out (by omega)]
   · exact fin i out hlt (by omega)
theorem tP {v:Val} (h:bP v=true):zcc v=some (dE v):=by
 rcases dc h with ⟨n,rfl,h1,h2⟩ | ⟨s,l,rfl,h1,h2⟩ | rfl | rfl
 · unfold zcc dE
   simp only[hI (show (-9223372036854775808:Int)≤n by omega) (by omega)]
   rfl
 · unfold zcc dE
   have:=nj (v:=(2,0,s,())) (by simp only[]; omega) s.length 0 [34] (by simp) (by omega) (by simp)
   simp only[List.drop_zero] at this
   simpa using this
 · rfl
 · rfl
theorem zr {n:Int} (h : -1000000000000<n) (h2:n<1000000000000):Lib.atoiAll (Lib.itoa n) = .ok n:=by
 by_cases h0:n<0
 · rw[itoa_neg h0,Lib.atoiAll_minus]
   have hp:=kG n.natAbs
   obtain ⟨h1,_⟩:=kf _ 0 n.natAbs (wY n.natAbs) (by omega)
   unfold Lib.parseMag
   rw[zn (by intro e; simp[e] at hp),h1]
   show (if 9223372036854775808<n.natAbs then Lib.NumEnd.range else Lib.NumEnd.ok (-(n.natAbs:Int)))=_
   rw[zn (by omega)]
   congr 1; omega
 · obtain ⟨m,rfl⟩:=Int.eq_ofNat_of_zero_le (show 0≤n by omega)
   rw[fU]
   exact sJ (by omega)
theorem jS {n:Int} (h : -1000000000000<n) (h2:n<1000000000000):za2 (Lib.itoa n)=some (n,false,()):=by
 have:=gT (n:=n) (by omega) (by omega)
 unfold za2 atoi
 rw[zp (by omega),zr h h2]
theorem kv {n:Int}:∃ c r,Lib.itoa n=c::r∧(c.toNat=45∨digB c):=by
 by_cases h0:n<0
 · exact ⟨45,_,itoa_neg h0,.inl rfl⟩
 · obtain ⟨m,rfl⟩:=Int.eq_ofNat_of_zero_le (show 0≤n by omega)
   rw[fU]
   have hp:=kG m
   have hd:=ew m
   cases hl:Lib.decDigits m with
   | nil=>rw[hl] at hp; simp at hp
   | cons c r=>exact ⟨c,r,rfl,.inr (hd c (by rw[hl]; exact List.mem_cons_self ..))⟩
def unqM:Bool→List UInt8→List UInt8×Bool
 | e,[]=>([],e)
 | e,b::r=>if e=false∧b.toNat=92 then unqM true r else (b::(unqM false r).1,(unqM false r).2)
theorem mX:∀ (e:Bool) (l:List UInt8),(unqM e l).1.length≤l.length
 | e,[]=>by simp[unqM]
 | e,b::r=>by
   have h1:=mX true r
   have h2:=mX false r
   simp only[unqM]
   split<;>simp<;>omega
theorem ox:∀ t:List UInt8,unqM false (aO t)=(t,false)
 | []=>rfl
 | b::t=>by
   have ih:=ox t
   rw[dA]
   cases hb:gq b with
   | true =>
     simp only[if_true,List.cons_append,List.nil_append]
     simp[unqM,ih]
   | false =>
     have h2:¬ b.toNat=92:=by
       simp only[gq,Bool.or_eq_false_iff,decide_eq_false_iff_not] at hb; exact hb.2
     simp only[Bool.false_eq_true,if_false,List.cons_append,List.nil_append]
     simp[unqM,ih,h2]
theorem agq (b:UInt8):bI [b]=[(b.toNat:Int)]:=rfl
theorem aab {s:List UInt8} (hs:s.length<1000000):∀ (k i:Nat) (out:List UInt8) (e b:Bool),s.length-1-i≤k→1≤i→i≤s.length-1→out.length≤i →
   ∃ b',aP (iW s) (e,(i:Int),bI out,(b,(),()),())=some (.inl ((unqM e ((s.take (s.length-1)).drop i)).2,bI (out++(unqM e ((s.take (s.length-1)).drop i)).1),(b',(),()),())):=by
 intro k
 have fin:∀ (i:Nat) (out:List UInt8) (e b:Bool),1≤s.length→¬ i<s.length-1→∃ b',aP (iW s) (e,(i:Int),bI out,(b,(),()),())=some (.inl ((unqM e ((s.take (s.length-1)).drop i)).2,bI (out++(unqM e ((s.take (s.length-1)).drop i)).1),(b',(),()),())):=by
   intro i out e b h1 hi
   refine ⟨b,aB ?_⟩
   have:(s.take (s.length-1)).drop i=[]:=List.drop_eq_nil_of_le (by rw[List.length_take]; omega)
   rw[this]
   unfold iW
   rw[ah,wrap64 (by omega) (by omega),zn (by simp only[]; omega)]
   simp[unqM]
 induction k with
 | zero=>intro i out e b hk h1 hi ho; exact fin i out e b (by omega) (by omega)
 | succ k ih =>
   intro i out e b hk h1 hi ho
   by_cases hlt:i<s.length-1
   · have hls:i<s.length:=by omega
     have hd:(s.take (s.length-1)).drop i=s[i]::(s.take (s.length-1)).drop (i+1):=by
       rw[List.drop_eq_getElem_cons (by rw[List.length_take]; omega)]
       congr 1
       simp
     rw[hd]
     simp only[unqM]
     have w1:IntKind.wrap .i64 ((i:Int)+1)=((i+1:Nat):Int):=by rw[wrap64 (by omega) (by omega)]; rfl
     have hw:IntKind.wrap .i64 ((s.length:Int)-1)=(s.length:Int)-1:=wrap64 (by omega) (by omega)
     by_cases hc:e=false∧s[i].toNat=92
     · rw[zp hc]
       obtain ⟨rfl,h92⟩:=hc
       rw[aF (b:=(true,((i+1:Nat):Int),bI out,(b,(),()),()))]
       · exact ih (i+1) out true b (by omega) (by omega) (by omega) (by omega)
       · unfold iW
         rw[ah,hw,zp (by simp only[]; omega)]
         simp only[iR,zg hls,zb,ah,Bool.not_false,cond_true]
         rw[zp (by omega),bT,w1]
     · rw[zn hc]
       have turn:iW s (e,(i:Int),bI out,(b,(),()),())=some (.inl (false,((i+1:Nat):Int),bI (out++[s[i]]),(true,(),()),())):=by
         unfold iW
         rw[ah,hw,zp (by simp only[]; omega)]
         simp only[iR,zg hls,zb,ah]
         have e1:(if (s[i].toNat:Int)=92 then (some (.inr (.inl (true,IntKind.wrap .i64 ((i:Int)+1),bI out,(b,(),()),()))):Option ((List Int×(Bool×Unit×Unit)×Unit)⊕((Bool×Int×List Int×(Bool×Unit×Unit)×Unit)⊕((Bool×List Int×(Bool×Unit×Unit)×Unit)⊕(List UInt8×Bool×Unit))))) else some (.inl (bI out,(b,(),()),())))=if s[i].toNat=92 then some (.inr (.inl (true,IntKind.wrap .i64 ((i:Int)+1),bI out,(b,(),()),()))) else some (.inl (bI out,(b,(),()),())):=by
           by_cases h:s[i].toNat=92
           · rw[zp (by omega),zp h]
           · rw[zn (by omega),zn h]
         have e2:(cond (!e) (if (s[i].toNat:Int)=92 then (some (.inr (.inl (true,IntKind.wrap .i64 ((i:Int)+1),bI out,(b,(),()),()))):Option ((List Int×(Bool×Unit×Unit)×Unit)⊕((Bool×Int×List Int×(Bool×Unit×Unit)×Unit)⊕((Bool×List Int×(Bool×Unit×Unit)×Unit)⊕(List UInt8×Bool×Unit))))) else some (.inl (bI out,(b,(),()),()))) (some (.inl (bI out,(b,(),()),()))))=some (.inl (bI out,(b,(),()),())):=by
           cases e with
           | true=>rfl
           | false =>
             have h92:¬ s[i].toNat=92:=fun h=>hc ⟨rfl,h⟩
             simp only[Bool.not_false,cond_true]
             rw[zn (by omega)]
         rw[e2,aK]
         simp only[]
         rw[ct (by rw[ji]; omega)]
         simp only[zb]
         rw[← agq,← ib,w1]
       obtain ⟨b',h'⟩:=ih (i+1) (out++[s[i]]) false true (by omega) (by omega) (by omega) (by rw[List.length_append]; simp; omega)
       refine ⟨b',?_⟩
       rw[aF turn,h']
       simp only[List.append_assoc,List.cons_append,List.nil_append]
   · exact fin i out e b (by omega) hlt
theorem qe {s:List UInt8} (hs:s.length<1000000):∃ t b,zay s=some (t,b,())∧t.length≤s.length∧(∀ m,s=34::(aO m++[34])→t=m):=by
 by_cases h2:s.length<2
 · refine ⟨[],false,?_,by simp,?_⟩
   · unfold zay
     rw[ah,zp (by omega)]
   · intro m e
     exfalso
     rw[e] at h2; simp at h2; omega
 have h0:0<s.length:=by omega
 have hz:s.length-1<s.length:=by omega
 have w1:IntKind.wrap .i64 ((s.length:Int)-1)=((s.length-1:Nat):Int):=by rw[wrap64 (by omega) (by omega)]; omega
 have form : zay s = cond (!decide (((s[0]).toNat : Int) = 34)) (some ([], false, ())) (cond (!decide (((s[s.length - 1]).toNat : Int) = 34)) (some ([], false, ())) ((aP (iW s) (false, 1, [], (false, (), ()), ()) : Option ((Bool × List Int × (Bool × Unit × Unit) × Unit) ⊕ (List UInt8 × Bool × Unit))).bind (aE fun v7 =>
     (zai (v7.2.2.1.1,(),()) v7.2.1).bind fun q8=>some (q8.1,(!v7.1),())))):=by
   unfold zay
   rw[ah,zn (by omega),show (0:Int)=((0:Nat):Int) from rfl,bf h0,w1,bf hz]
   rfl
 by_cases ha:s[0].toNat=34
 · by_cases hb:s[s.length-1].toNat=34
   · obtain ⟨b',hl⟩:=aab hs (s.length-1-1) 1 [] false false (by omega) (by omega) (by omega) (by simp)
     refine ⟨(unqM false ((s.take (s.length-1)).drop 1)).1,!(unqM false ((s.take (s.length-1)).drop 1)).2,?_,?_,?_⟩
     · rw[form,zt (by omega),zt (by omega)]
       simp only[Bool.not_true,cond_false]
       rw[show ((1:Int))=((1:Nat):Int) from rfl,show ([]:List Int)=bI [] from rfl,hl,aK]
       simp only[List.nil_append]
       have:=mX false ((s.take (s.length-1)).drop 1)
       rw[List.length_drop,List.length_take] at this
       rw[mZ (by omega)]
       rfl
     · have:=mX false ((s.take (s.length-1)).drop 1)
       rw[List.length_drop,List.length_take] at this
       omega
     · intro m e
       have:(s.take (s.length-1)).drop 1=aO m:=by
         rw[e]
         simp
       rw[this,ox]
   · refine ⟨[],false,?_,by simp,?_⟩
     · rw[form,zt (by omega),zf (by omega)]; rfl
     · intro m e
       exfalso
       apply hb
       subst e
       simp[List.getElem_append]
 · refine ⟨[],false,?_,by simp,?_⟩
   · rw[form,zf (by omega)]; rfl
   · intro m e
     exfalso
     apply ha
     subst e
     rfl
theorem aas {s:List UInt8} (hs:s.length<1000000):zar s [34]=some (decide (s.head? = some 34)):=by
 unfold zar zal
 cases s with
 | nil=>simp
 | cons c r =>
   rw[ah,zp (by simp; omega),show (0:Int)=((0:Nat):Int) from rfl,show (([34]:List UInt8).length:Int)=((1:Nat):Int) from rfl,cZ (by omega) (by simp)]
   simp
theorem amH {s:List UInt8} (hs:s.length<1000000):∃ v:Val,v.2.2.1.length≤s.length∧(zbq s=if bP v=true∧dE v=s then some (v,0,()) else some ((0,0,[],()),19,()))∧∀ u,bP u=true→dE u=s→v=u:=by
 have fin : ∀ v : Val, v.2.2.1.length ≤ s.length → ((zbt v).bind fun r5 =>
     cond (!r5) (some ((0,0,[],()),19,())) ((zb7 v).bind fun r6 =>
     cond (!decide (r6=s)) (some ((0,0,[],()),19,())) (some (v,(0:Int),()))))=(if bP v=true∧dE v=s then some (v,0,()) else some ((0,0,[],()),19,()):Option (Val×Int×Unit)):=by
   intro v hv
   rw[iX (by omega)]
   simp only[zb]
   cases hr:bP v with
   | false=>simp
   | true =>
     simp only[Bool.not_true,cond_false]
     rw[jN hr]
     simp only[zb]
     by_cases ht:dE v=s
     · simp[ht]
     · simp[ht]
 have heads:∀ u:Val,bP u=true→dE u=s→(∃ n,u=(1,n,[],()) ∧ -2147483647≤n∧n≤2147483647∧Lib.itoa n=s)∨(∃ m,u=(2,0,m,())∧s=34::(aO m++[34]))∨(u=(3,0,[],())∧s=[102,97,108,115,101])∨(u=(3,1,[],())∧s=[116,114,117,101]):=by
   intro u hu ht
   rcases dc hu with ⟨n,rfl,h1,h2⟩ | ⟨m,l,rfl,h1,h2⟩ | rfl | rfl
   · exact .inl ⟨n,rfl,h1,h2,ht⟩
   · refine .inr (.inl ⟨m,rfl,?_⟩)
     rw[← ht]; rfl
   · exact .inr (.inr (.inl ⟨rfl,ht.symm⟩))
   · exact .inr (.inr (.inr ⟨rfl,ht.symm⟩))
 unfold zbq
 rw[aas hs]
 simp only[zb]
 have hd:∀ {m:List UInt8},s=34::m→s.head? = some 34:=fun e=>by rw[e]; rfl
 by_cases hp:s.head? = some 34
 · obtain ⟨t,b,h1,h2,h3⟩:=qe hs
   rw[zt hp,h1]
   simp only[cond_true,zb,aK]
   refine ⟨(2,0,t,()),h2,fin (2,0,t,()) h2,?_⟩
   intro u hu ht
   have hr:s.head? = some 34:=hp
   rcases heads u hu ht with ⟨n,rfl,g1,g2,g3⟩ | ⟨m,rfl,g⟩ | ⟨rfl,g⟩ | ⟨rfl,g⟩
   · obtain ⟨c,r',e,hc⟩:=kv (n:=n)
     rw[← g3,e] at hr
     cases hr
     rcases hc with hc | hc
     · cases hc
     · have:=hc.1; simp at this
   · rw[h3 m g]
   · rw[g] at hr; cases hr
   · rw[g] at hr; cases hr
 · rw[zf hp]
   simp only[cond_false,ah]
   by_cases ht:s=[116,114,117,101]
   · rw[zp ht,aK]
     refine ⟨(3,1,[],()),by simp,fin (3,1,[],()) (by simp),?_⟩
     intro u hu hut
     rcases heads u hu hut with ⟨n,rfl,g1,g2,g3⟩ | ⟨m,rfl,g⟩ | ⟨rfl,g⟩ | ⟨rfl,g⟩
     · obtain ⟨c,r',e,hc⟩:=kv (n:=n)
       rw[ht,e] at g3
       cases g3
       rcases hc with hc | hc
       · cases hc
       · have:=hc.2; simp at this
     · exact absurd (hd g) hp
     · rw[ht] at g; cases g
     · rfl
   rw[zn ht]
   by_cases hf:s=[102,97,108,115,101]
   · rw[zp hf,aK]
     refine ⟨(3,0,[],()),by simp,fin (3,0,[],()) (by simp),?_⟩
     intro u hu hut
     rcases heads u hu hut with ⟨n,rfl,g1,g2,g3⟩ | ⟨m,rfl,g⟩ | ⟨rfl,g⟩ | ⟨rfl,g⟩
     · obtain ⟨c,r',e,hc⟩:=kv (n:=n)
       rw[hf,e] at g3
       cases g3
       rcases hc with hc | hc
       · cases hc
       · have:=hc.2; simp at this
     · exact absurd (hd g) hp
     · rfl
     · rw[hf] at g; cases g
   rw[zn hf]
   obtain ⟨n,e,ha⟩:=sK s (by omega)
   rw[ha]
   simp only[zb,aK]
   refine ⟨(1,n,[],()),by simp,fin (1,n,[],()) (by simp),?_⟩
   intro u hu hut
   rcases heads u hu hut with ⟨m,rfl,g1,g2,g3⟩ | ⟨m,rfl,g⟩ | ⟨rfl,g⟩ | ⟨rfl,g⟩
   · have:=jS (n:=m) (by omega) (by omega)
     rw[g3,ha] at this
     cases this
     rfl
   · exact absurd (hd g) hp
   · exact absurd g hf
   · exact absurd g ht
theorem aau {s:List UInt8} (hs:s.length<1000000) {v:Val} (h:bP v=true) (ht:dE v=s):zbq s=some (v,0,()):=by
 obtain ⟨u,h1,h2,h3⟩:=amH hs
 have:=h3 v h ht
 subst this
 rw[h2,zp ⟨h,ht⟩]
theorem aoB (c:Int):zct c=some (mayM c):=by
 unfold zct mayM
 simp only[ah]
 by_cases h1:c<32
 · rw[zp h1,zp h1,zf (by omega)]
 rw[zn h1]
 by_cases h2:c≥127
 · rw[zp h2]
   by_cases h3:c<160
   · rw[zp h3,zf (by omega)]
   · rw[zn h3]
     by_cases h4:c=65533
     · rw[zt h4,zf (by omega)]; rfl
     · rw[zf h4,zt (by omega)]; rfl
 · rw[zn h2]
   rw[zf (by omega:¬ c=65533),zt (by omega)]; rfl
theorem qA {s:List UInt8} (hs:s.length<1000000):zb2 s=some (fc s):=by
 unfold zb2 fc
 rw[sb hs]
 simp only[zb]
 cases hr:bN s with
 | none=>simp[cj,hr]
 | some l =>
   have e:cj s []=(l,true,()):=by unfold cj; rw[hr]; rfl
   rw[e]
   simp only[Bool.not_true,cond_false,ah]
   by_cases h0:(l.length:Int)=0
   · rw[zp h0,zf (by omega)]; rfl
   rw[zn h0]
   by_cases h1:(l.length:Int)>24
   · rw[zp h1,zf (by omega)]; rfl
   rw[zn h1,zt (by omega),Bool.true_and]
   have:=fS (f:=rF (l,true,())) (l:=l) (fun i=>((i:Int),())) mayM true false (fun i h=>by
     unfold rF
     simp only[ah]
     rw[zp (by omega),bf h]
     simp only[zb,aoB]
     cases mayM l[i] with
     | true=>simp only[Bool.not_true,cond_false,if_true]; rw[wrap64 (by omega) (by omega)]; rfl
     | false=>rfl) (by
     unfold rF
     simp only[ah]
     rw[zn (by omega)])
   rw[show ((0:Int),())=(((0:Nat):Int),()) from rfl,this]
   cases l.all mayM<;>rfl
theorem qV {p:Path} (hs:∀ x∈p,x.length<1000000):zb1 p=some (ci p):=by
 unfold zb1 ci
 simp only[ah]
 by_cases h1:(p.length:Int)=0
 · rw[zp h1,zp (show p.length=0 by omega)]
 rw[zn h1,zn (show ¬ p.length=0 by omega)]
 by_cases h2:(p.length:Int)>8
 · rw[zp h2,zp (show p.length>8 by omega)]
 rw[zn h2,zn (show ¬ p.length>8 by omega)]
 unfold zaa zab
 have gen:=fu (f:=oh p) (l:=p) (S:=Unit) (fun i _=>((i:Int),())) (fun i x _=>if fc x=true then .inl () else .inr (i:Int)) (fun _ => -1) (fun _ _=>True) (fun i h s _=>by
   have turn:oh p ((i:Int),())=if fc p[i]=true then some (.inl (((i+1:Nat):Int),())) else some (.inr (i:Int)):=by
     unfold oh zbb
     simp only[ah]
     rw[zp (by omega),bf h]
     simp only[zb,qA (hs _ (List.getElem_mem h))]
     cases fc p[i] with
     | true=>simp only[Bool.not_true,cond_false,if_true]; rw[wrap64 (by omega) (by omega)]; rfl
     | false=>rfl
   by_cases hn:fc p[i]=true
   · rw[zp hn] at turn ⊢
     exact .inl ⟨(),rfl,turn,trivial⟩
   · rw[zn hn] at turn ⊢
     exact .inr ⟨_,rfl,turn⟩) (fun s _=>by
   unfold oh
   simp only[ah]
   rw[zn (by omega)]) () trivial
 have val:∀ (l:Path) (i:Nat),(fe (S:=Unit) (fun i x _=>if fc x=true then .inl () else .inr (i:Int)) (fun _=>(-1:Int)) i l ()≥0)↔¬ l.all fc=true:=by
   intro l
   induction l with
   | nil=>intro i; simp[fe]
   | cons x l ih =>
     intro i
     by_cases hn:fc x=true
     · simp only[fe,hn,if_true,List.all_cons,Bool.true_and]
       exact ih (i+1)
     · simp[fe,hn]
 rw[show ((0:Int),())=(((0:Nat):Int),()) from rfl,gen]
 simp only[zb]
 by_cases ha:p.all fc=true
 · rw[zf (fun h=>(val p 0).1 h ha),zp ha]; rfl
 · rw[zt ((val p 0).2 ha),zn ha]; rfl
theorem yS (a b:Ref1):zcw a b=some (cmpR a b):=by
 unfold zcw
 simp only[amB,pH,or_t,zb]
 rfl
theorem rI {o:Op1} (hv:o.2.2.1.2.2.1.length<1000000):zcq o=some (if o.1=3∨o.1=5 then decide (o.2.2.1=zeroV) else bP o.2.2.1):=by
 unfold zcq
 simp only[ah,yN,iX hv,zb]
 have ez:((0,0,[],()):Val)=zeroV:=rfl
 simp only[ez]
 by_cases h3:o.1=3
 · rw[zp h3,zp (.inl h3)]
 · by_cases h5:o.1=5
   · rw[zn h3,zp h5,zp (.inr h5)]
   · rw[zn h3,zn h5,zn (by omega)]
theorem sO (o:Op1):zco o=some (if o.1=3 then decide (o.2.2.2.1≠0 ∧ -2147483647≤o.2.2.2.1∧o.2.2.2.1≤2147483647) else decide (o.2.2.2.1=0)):=by
 unfold zco
 simp only[ah,aH]
 by_cases h3:o.1=3
 · rw[zp h3,zp h3]
   by_cases h0:o.2.2.2.1=0
   · rw[zp h0,zf (by omega)]
   · rw[zn h0]
     by_cases h1:o.2.2.2.1 ≥ -2147483647
     · rw[zp h1]
       congr 1
       rw[decide_eq_decide]; omega
     · rw[zn h1,zf (by omega)]
 · rw[zn h3,zn h3]
theorem t7:zcx []=some true:=by
 unfold zcx
 exact aB (by unfold iU; simp only[ah]; rw[zn (by simp)])
theorem xV {o:Op1} (h:cD o) (hs:o.2.2.2.2.1=[]):zcv o=some (opM o):=by
 obtain ⟨s1,s2,s3,s4⟩:=h
 have hv:=rI (o:=o) (by omega)
 have ha:=sO o
 obtain ⟨k,p,v,n,sn,⟨⟩⟩:=o
 simp only at s1 s2 s3 s4 hs hv ha
 subst hs
 unfold zcv opM
 simp only[ah,aH,qV (p:=p) (fun x hx=>by have:=s2 x hx; omega),hv,ha,t7,oL,zb]
 by_cases a1:k<1
 · rw[zp a1,zp (.inl a1)]
 rw[zn a1]
 by_cases a2:k>5
 · rw[zp a2,zp (.inr a2)]
 rw[zn a2]
 rw[zn (show ¬ (k<1∨5<k) by omega)]
 by_cases a3:¬ ci p=0
 · rw[zn a3,zp (show ci p≠0 from a3)]
 have a3:ci p=0:=Classical.not_not.1 a3
 rw[zp a3,zn (show ¬ ci p≠0 from fun e=>e a3)]
 have fl:∀ b:Bool,((cond (!b) (some (decide ((([]:List Ref1).length:Int)>0),())) (some (false,()))):Option (Bool×Unit))=some (false,()):=by intro b; cases b<;>rfl
 have ff:∀ f:Bool×Unit→Option Int,((if k=1 then some (true,()) else some (decide (k=4),()):Option (Bool×Unit)).bind fun v2=>(cond v2.1 (some (true,())) (some (decide (k=5),())):Option (Bool×Unit)).bind f)=f (decide (k=1)||decide (k=4)||decide (k=5),()):=by
   intro f
   by_cases h1:k=1
   · rw[zp h1,zt h1]; rfl
   · rw[zn h1,zf h1]
     cases h4:decide (k=4)<;>rfl
 rw[ff]
 simp only[fl,zb]
 by_cases k3:k=3
 · subst k3
   by_cases hz:v=zeroV
   · by_cases hn:n≠0 ∧ -2147483647≤n∧n≤2147483647
     · have h2:¬ (n=0∨n>2147483647∨n < -2147483647):=by omega
       simp[hz,hn,h2]
     · have h2:n=0∨n>2147483647∨n < -2147483647:=by omega
       simp[hz,hn,h2]
   · simp[hz]
 · by_cases k5:k=5
   · subst k5
     by_cases hz:v=zeroV
     · by_cases n0:n=0
       · simp[hz,n0]
       · simp[hz,n0]
     · simp[hz]
   · cases hr:bP v with
     | false=>simp[k3,k5,hr]
     | true =>
       by_cases n0:n=0
       · simp[k3,k5,hr,n0]
       · simp[k3,k5,hr,n0]
theorem qp {s:List UInt8} (hs:s.length<1000000):zbi s=some (bj s):=by
 have:=aaA (f:=rB s) (l:=s) (fun i o=>(o,(i:Int),())) (fun b=>if b.toNat=47∨b.toNat=92 then [92,b] else [b]) (fun o=>o) 2 (fun b _=>by split<;>simp) (fun i h o ho=>by
   unfold rB
   simp only[ah]
   have w1:IntKind.wrap .i64 ((i:Int)+1)=((i+1:Nat):Int):=by rw[wrap64 (by omega) (by omega)]; rfl
   have hsub:subI s (i:Int) ((i+1:Nat):Int)=some [s[i]]:=by
     rw[cZ (by omega) (by omega),List.take_add_one,List.drop_append_of_le_length (by simp; omega)]
     simp[h]
   rw[zp (by omega),bf h,w1]
   simp only[zb,hsub]
   by_cases h1:s[i].toNat=47
   · rw[zp (by omega),az (by simp; omega)]
     simp only[zb,aE]
     rw[az (by simp; omega),zp (.inl h1),List.append_assoc]
     rfl
   · rw[zn (by omega)]
     by_cases h2:s[i].toNat=92
     · rw[zp (by omega),az (by simp; omega)]
       simp only[zb,aE]
       rw[az (by simp; omega),zp (.inr h2),List.append_assoc]
       rfl
     · rw[zn (by omega)]
       simp only[zb,aE]
       rw[az (by simp; omega),zn (by omega)]
       rfl) (fun o ho=>by
   unfold rB
   simp only[ah]
   rw[zn (by omega)])
 exact this
theorem eE {p:Path} (h1:p.length≤12) (h:∀ x∈p,x.length≤120):zb9 p=some (eb p):=by
 have:=fu (f:=rD p) (l:=p) (S:=List UInt8) (fun i o=>(o,(i:Int),())) (fun i x o=>.inl ((if i>0 then o++[47] else o)++bj x)) (fun o=>o) (fun i o=>o.length≤1000*i) (fun i hi o ho=>.inl ⟨_,rfl,by
   unfold rD
   simp only[ah]
   have hq:=h _ (List.getElem_mem hi)
   have hsl:=jT (s:=p[i])
   have w1:IntKind.wrap .i64 ((i:Int)+1)=((i+1:Nat):Int):=by rw[wrap64 (by omega) (by omega)]; rfl
   rw[zp (by omega),bf hi]
   simp only[zb,qp (show p[i].length<1000000 by omega),w1]
   by_cases h0:i>0
   · rw[zp (by omega),az (by simp; omega),zp h0]
     simp only[zb,aE]
     rw[az (by simp; omega)]
     rfl
   · rw[zn (by omega),zn h0]
     simp only[zb,aE]
     rw[az (by omega)]
     rfl,by
   have hq:=h _ (List.getElem_mem hi)
   have hsl:=jT (s:=p[i])
   rw[List.length_append]
   have:(if i>0 then o++[47] else o).length≤o.length+1:=by split<;>simp
   omega⟩) (fun o ho=>by
   unfold rD
   simp only[ah]
   rw[zn (by omega)]) [] (by simp)
 rw[mr,uu] at this
 exact this
theorem xj {o:Op1} (hp:o.2.1.length<1000000) (hs:o.2.2.2.2.1.length<1000000):zcf o o=some true:=by
 have loop:=fS (f:=rx o o) (l:=o.2.2.2.2.1) (fun i=>((i:Int),())) (fun _=>true) true false (fun i h=>by
   unfold rx
   simp only[ah]
   rw[zp (by omega),bf h]
   simp only[zb]
   rw[show (eqV (.agg (.cons (.agg (.cons (.int .i64) (.cons (.int .i64) .unit))) (.cons (.int .i64) .unit))) o.2.2.2.2.1[i] o.2.2.2.2.1[i])=eqV amc o.2.2.2.2.1[i] o.2.2.2.2.1[i] from rfl,aoC,zt rfl]
   simp only[Bool.not_true,cond_false]
   rw[wrap64 (by omega) (by omega),zp trivial]; rfl) (by
   unfold rx
   simp only[ah]
   rw[zn (by omega)])
 rw[zp (by simp)] at loop
 unfold zcf
 simp only[decide_true,Bool.not_true,cond_false,yN,zb]
 rw[qn hp]
 simp only[decide_true,Bool.not_true,cond_false,zb]
 exact loop
theorem pD {d:Int×Int×Unit} (h1:inR d.1) (h2:inR d.2.1):zcu d=some (jQ d):=by
 unfold zcu
 rw[fh h1,fh h2]
 have:=rL h1 h2
 simp only[zb]
 unfold jQ
 rw[← this]
 cases catT (Lib.itoa d.1) [46] with
 | none=>rfl
 | some s=>simp only[zb]; cases catT s (Lib.itoa d.2.1)<;>rfl
theorem xu {d:Int×Int×Unit} (h1:inR d.1) (h2:inR d.2.1):zch d=some (jQ d):=by
 unfold zch
 rw[hI h1.1 h1.2,hI h2.1 h2.2]
 have:=rL h1 h2
 simp only[zb]
 unfold jQ
 rw[← this]
 cases catT (Lib.itoa d.1) [46] with
 | none=>rfl
 | some s=>simp only[zb]; cases catT s (Lib.itoa d.2.1)<;>rfl
theorem af9 (s:List UInt8) (h:s≠[46]):zap s [46]=some (bc 46 s 0):=by
 unfold zap zam indexByte
 simp only[ah,zl,List.length_nil]
 rw[zn (by decide),zn (fun e=>h e.symm),zp (by decide)]
 rfl
theorem amF {s:List UInt8}{k:Nat} (hi:zap s [46]=some (k:Int)) (hk:k<s.length) (hs:s.length<1000000):zbu s [46]=some (s.take k,s.drop (k+1),true,()):=by
 unfold zbu zaw
 rw[hi]
 simp only[zb,ah]
 rw[zp (by omega),show (0:Int)=((0:Nat):Int) from rfl,cZ (by omega) (by omega)]
 simp only[zb,zl,List.length_nil]
 rw[wrap64 (by omega) (by omega),show (k:Int)+(0+1:Nat)=((k+1:Nat):Int) by omega,eh (by omega)]
 simp
end Go.Proofs.YtmklghkhfimfgaaGreatDoor.Q
